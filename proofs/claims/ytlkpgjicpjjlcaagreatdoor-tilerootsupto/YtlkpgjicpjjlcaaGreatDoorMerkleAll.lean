import Derived.Test.YtlkpgjicpjjlcaaGreatDoorShaAll
import Derived.Test.YtlkpgjicpjjlcaaGreatDoorVc10
/- Merkle trees, without a program. -/
set_option linter.unusedSimpArgs false
namespace Go.Mk
open Go.Sha
set_option linter.unusedVariables false
abbrev B := ByteArray

/-- The greatest power of two below n. -/
def sp (n : Nat) : Nat := 2 ^ Nat.log2 (n - 1)
theorem sp_pos (n : Nat) : 1 ≤ sp n := Nat.pow_pos (by decide)
theorem sp_lt {n : Nat} (h : 2 ≤ n) : sp n < n := by
  have : sp n ≤ n - 1 := Nat.log2_self_le (by omega)
  omega
theorem sp_ge {n : Nat} (h : 2 ≤ n) : n ≤ 2 * sp n := by
  have : n - 1 < 2 ^ (Nat.log2 (n - 1) + 1) := Nat.lt_log2_self
  rw [Nat.pow_succ] at this
  unfold sp
  omega
theorem sp_of {n e : Nat} (h1 : 2 ^ e < n) (h2 : n ≤ 2 * 2 ^ e) : sp n = 2 ^ e := by
  unfold sp
  congr 1
  have hp : 0 < 2 ^ e := Nat.pow_pos (by decide)
  have h3 : (n - 1) ≠ 0 := by omega
  refine (Nat.log2_eq_iff h3).2 ⟨by omega, by rw [Nat.pow_succ]; omega⟩

variable (nd : B → B → B) (em : B)

/-- A tree's root. -/
def rt (l : List B) : B :=
  if h : l.length < 2 then l.headD em else nd (rt (l.take (sp l.length))) (rt (l.drop (sp l.length)))
termination_by l.length
decreasing_by
  · have := sp_lt (n := l.length) (by omega); rw [List.length_take]; omega
  · have := sp_lt (n := l.length) (by omega); have := sp_pos l.length; rw [List.length_drop]; omega
theorem rt_nil : rt nd em [] = em := by rw [rt]; simp
theorem rt_one (x : B) : rt nd em [x] = x := by rw [rt]; simp
theorem rt_two {l : List B} (h : 2 ≤ l.length) : rt nd em l = nd (rt nd em (l.take (sp l.length))) (rt nd em (l.drop (sp l.length))) := by
  rw [rt, dif_neg (by omega)]
theorem rt_app {a b : List B} {e : Nat} (ha : a.length = 2 ^ e) (hb : 1 ≤ b.length) (hb2 : b.length ≤ 2 ^ e) : rt nd em (a ++ b) = nd (rt nd em a) (rt nd em b) := by
  have hp : 0 < 2 ^ e := Nat.pow_pos (by decide)
  have hs : sp (a ++ b).length = a.length := by rw [List.length_append, ha]; exact sp_of (by omega) (by omega)
  rw [rt_two nd em (by rw [List.length_append]; omega), hs, List.take_left, List.drop_left]

/-- A tree's path to an entry, from below. -/
def inc (l : List B) (i : Nat) : List B :=
  if h : l.length < 2 then [] else
    if i < sp l.length then inc (l.take (sp l.length)) i ++ [rt nd em (l.drop (sp l.length))]
    else inc (l.drop (sp l.length)) (i - sp l.length) ++ [rt nd em (l.take (sp l.length))]
termination_by l.length
decreasing_by
  · have := sp_lt (n := l.length) (by omega); rw [List.length_take]; omega
  · have := sp_lt (n := l.length) (by omega); have := sp_pos l.length; rw [List.length_drop]; omega
theorem inc_lt {l : List B} {i : Nat} (h : 2 ≤ l.length) (hi : i < sp l.length) : inc nd em l i = inc nd em (l.take (sp l.length)) i ++ [rt nd em (l.drop (sp l.length))] := by
  rw [inc, dif_neg (by omega), if_pos hi]
theorem inc_ge {l : List B} {i : Nat} (h : 2 ≤ l.length) (hi : ¬ i < sp l.length) : inc nd em l i = inc nd em (l.drop (sp l.length)) (i - sp l.length) ++ [rt nd em (l.take (sp l.length))] := by
  rw [inc, dif_neg (by omega), if_neg hi]
theorem inc_one {l : List B} {i : Nat} (h : l.length < 2) : inc nd em l i = [] := by
  rw [inc, dif_pos h]
/-- The proof that a tree has grown, from below. -/
def con (l : List B) (m : Nat) (w : Bool) : List B :=
  if h : l.length ≤ m then (if w then [] else [rt nd em l]) else
    if hl : l.length < 2 then [] else
    if m ≤ sp l.length then con (l.take (sp l.length)) m w ++ [rt nd em (l.drop (sp l.length))]
    else con (l.drop (sp l.length)) (m - sp l.length) false ++ [rt nd em (l.take (sp l.length))]
termination_by l.length
decreasing_by
  · have := sp_lt (n := l.length) (by omega); rw [List.length_take]; omega
  · have := sp_lt (n := l.length) (by omega); have := sp_pos l.length; rw [List.length_drop]; omega
theorem con_ge {l : List B} {m : Nat} {w : Bool} (h : l.length ≤ m) : con nd em l m w = if w then [] else [rt nd em l] := by
  rw [con, dif_pos h]
theorem con_lo {l : List B} {m : Nat} {w : Bool} (h : m < l.length) (h2 : 2 ≤ l.length) (hk : m ≤ sp l.length) : con nd em l m w = con nd em (l.take (sp l.length)) m w ++ [rt nd em (l.drop (sp l.length))] := by
  rw [con, dif_neg (by omega), dif_neg (by omega), if_pos hk]
theorem con_hi {l : List B} {m : Nat} {w : Bool} (h : m < l.length) (h2 : 2 ≤ l.length) (hk : ¬ m ≤ sp l.length) : con nd em l m w = con nd em (l.drop (sp l.length)) (m - sp l.length) false ++ [rt nd em (l.take (sp l.length))] := by
  rw [con, dif_neg (by omega), dif_neg (by omega), if_neg hk]
/-- The way to an entry, from above: is it the right one? -/
def way (n i : Nat) : List Bool :=
  if h : n < 2 then [] else
    if i < sp n then false :: way (sp n) i else true :: way (n - sp n) (i - sp n)
termination_by n
decreasing_by
  · exact sp_lt (by omega)
  · have := sp_pos n; omega
theorem way_lt {n i : Nat} (h : 2 ≤ n) (hi : i < sp n) : way n i = false :: way (sp n) i := by
  rw [way, dif_neg (by omega), if_pos hi]
theorem way_ge {n i : Nat} (h : 2 ≤ n) (hi : ¬ i < sp n) : way n i = true :: way (n - sp n) (i - sp n) := by
  rw [way, dif_neg (by omega), if_neg hi]
theorem way_one {n i : Nat} (h : n < 2) : way n i = [] := by
  rw [way, dif_pos h]
/-- Up from a hash. -/
def up : List Bool → List B → B → B
  | t :: ts, p :: ps, x => up ts ps (if t then nd p x else nd x p)
  | _, _, x => x
def many (n m : Nat) (w : Bool) : Nat :=
  if h : n ≤ m then (if w then 0 else 1) else
    if hn : n < 2 then 0 else
    if m ≤ sp n then 1 + many (sp n) m w else 1 + many (n - sp n) (m - sp n) false
termination_by n
decreasing_by
  · exact sp_lt (by omega)
  · have := sp_pos n; omega
/-- Both roots that a proof makes (of the right length). -/
def both (old : B) (n m : Nat) (w : Bool) (p : List B) : B × B :=
  if h : n ≤ m then (if w then (old, old) else (p.headD em, p.headD em)) else
    if hn : n < 2 then (old, old) else
    if m ≤ sp n then ((both old (sp n) m w p.dropLast).1, nd (both old (sp n) m w p.dropLast).2 (p.getLastD em))
    else (nd (p.getLastD em) (both old (n - sp n) (m - sp n) false p.dropLast).1, nd (p.getLastD em) (both old (n - sp n) (m - sp n) false p.dropLast).2)
termination_by n
decreasing_by
  all_goals first | exact sp_lt (by omega) | (have := sp_pos n; omega)

theorem up_app (ts us : List Bool) : ∀ (ps qs : List B) (x : B), ts.length = ps.length → up nd (ts ++ us) (ps ++ qs) x = up nd us qs (up nd ts ps x) := by
  induction ts with
  | nil => intro ps qs x h; cases ps with
    | nil => rfl
    | cons p ps => simp at h
  | cons t ts ih => intro ps qs x h; cases ps with
    | nil => simp at h
    | cons p ps => simp only [List.cons_append, up]; exact ih _ _ _ (by simpa using h)

theorem up_drop {ts : List Bool} {ps : List B} {k : Nat} {t : Bool} {p x : B} (ht : ts[k]? = some t) (hp : ps[k]? = some p) : up nd (ts.drop k) (ps.drop k) x = up nd (ts.drop (k + 1)) (ps.drop (k + 1)) (if t then nd p x else nd x p) := by
  obtain ⟨h1, rfl⟩ := List.getElem?_eq_some_iff.1 ht
  obtain ⟨h2, rfl⟩ := List.getElem?_eq_some_iff.1 hp
  rw [List.drop_eq_getElem_cons h1, List.drop_eq_getElem_cons h2]
  rfl
theorem inc_way_length : ∀ (n : Nat) (l : List B) (i : Nat), l.length = n → (inc nd em l i).length = (way n i).length := by
  intro n
  induction n using Nat.strongRecOn with
  | ind n ih =>
    intro l i hl
    rw [inc, way]
    by_cases h : n < 2
    · rw [dif_pos (by omega), dif_pos h]; rfl
    · rw [dif_neg (by omega), dif_neg h, hl]
      have h1 := sp_lt (n := n) (by omega)
      have h2 := sp_pos n
      split
      · rw [List.length_append, ih (sp n) h1 _ _ (by rw [List.length_take]; omega)]; simp
      · rw [List.length_append, ih (n - sp n) (by omega) _ _ (by rw [List.length_drop]; omega)]; simp

theorem up_inc : ∀ (n : Nat) (l : List B) (i : Nat) (hl : l.length = n) (hi : i < l.length), up nd (way n i).reverse (inc nd em l i) l[i] = rt nd em l := by
  intro n
  induction n using Nat.strongRecOn with
  | ind n ih =>
    intro l i hl hi
    by_cases h : n < 2
    · rw [inc, dif_pos (by omega), way, dif_pos h]
      match l, hi, hl with
      | [x], hi, hl =>
        have : i = 0 := by simp at hi; omega
        subst this
        rw [rt_one]; rfl
      | [], hi, hl => simp at hi
      | a :: b :: r, hi, hl => simp at hl; omega
    · rw [inc, dif_neg (by omega), way, dif_neg h, hl]
      have h1 := sp_lt (n := n) (by omega)
      have h2 := sp_pos n
      rw [rt_two nd em (l := l) (by omega), hl]
      split
      · rw [List.reverse_cons]
        have hk : (l.take (sp n)).length = sp n := by rw [List.length_take]; omega
        rw [up_app _ _ _ _ _ _ (by rw [List.length_reverse, inc_way_length nd em _ _ _ hk])]
        have := ih (sp n) h1 (l.take (sp n)) i hk (by omega)
        rw [List.getElem_take] at this
        rw [this]; rfl
      · rw [List.reverse_cons]
        have hk : (l.drop (sp n)).length = n - sp n := by rw [List.length_drop]; omega
        rw [up_app _ _ _ _ _ _ (by rw [List.length_reverse, inc_way_length nd em _ _ _ hk])]
        have := ih (n - sp n) (by omega) (l.drop (sp n)) (i - sp n) hk (by omega)
        rw [List.getElem_drop] at this
        simp only [show sp n + (i - sp n) = i from by omega] at this
        rw [this]; rfl

theorem way_le : ∀ (d n i : Nat), n ≤ 2 ^ d → (way n i).length ≤ d := by
  intro d
  induction d with
  | zero => intro n i h; rw [way, dif_pos (by omega)]; simp
  | succ d ih =>
    intro n i h
    rw [way]
    by_cases h2 : n < 2
    · rw [dif_pos h2]; simp
    · rw [dif_neg h2]
      have h1 := sp_lt (n := n) (by omega)
      have h3 := sp_ge (n := n) (by omega)
      have h4 : sp n ≤ 2 ^ d := by
        have hlt : sp n < 2 ^ (d + 1) := by omega
        unfold sp at hlt ⊢
        have := (Nat.pow_lt_pow_iff_right (a := 2) (by decide)).1 hlt
        exact Nat.pow_le_pow_right (by decide) (by omega)
      split
      · have := ih (sp n) i h4; simp; omega
      · have := ih (n - sp n) (i - sp n) (by omega); simp; omega

theorem con_many : ∀ (n : Nat) (l : List B) (m : Nat) (w : Bool), l.length = n → (con nd em l m w).length = many n m w := by
  intro n
  induction n using Nat.strongRecOn with
  | ind n ih =>
    intro l m w hl
    rw [con, many]
    by_cases h : n ≤ m
    · rw [dif_pos (by omega), dif_pos h]; cases w <;> rfl
    · rw [dif_neg (by omega), dif_neg h, hl]
      by_cases h0 : n < 2
      · rw [dif_pos h0, dif_pos h0]; rfl
      · rw [dif_neg h0, dif_neg h0]
        have h1 := sp_lt (n := n) (by omega)
        have h2 := sp_pos n
        split
        · rw [List.length_append, ih (sp n) h1 _ _ _ (by rw [List.length_take]; omega)]; simp; omega
        · rw [List.length_append, ih (n - sp n) (by omega) _ _ _ (by rw [List.length_drop]; omega)]; simp; omega

theorem both_con : ∀ (n : Nat) (l : List B) (m : Nat) (w : Bool) (old : B), l.length = n → 1 ≤ m → m ≤ n → (w = true → old = rt nd em (l.take m)) →
    both nd em old n m w (con nd em l m w) = (rt nd em (l.take m), rt nd em l) := by
  intro n
  induction n using Nat.strongRecOn with
  | ind n ih =>
    intro l m w old hl hm hmn hw
    by_cases h : n ≤ m
    · rw [con, dif_pos (by omega), both, dif_pos h]
      have e : l.take m = l := List.take_of_length_le (by omega)
      rw [e] at hw ⊢
      cases w with
      | true => rw [hw rfl]; rfl
      | false => rfl
    · rw [con, dif_neg (by omega), both, dif_neg h, hl]
      rw [dif_neg (by omega), dif_neg (by omega)]
      have h1 := sp_lt (n := n) (by omega)
      have h2 := sp_pos n
      have h3 := sp_ge (n := n) (by omega)
      rw [rt_two nd em (l := l) (by omega), hl]
      split
      · rename_i hk
        have e : l.take m = (l.take (sp n)).take m := by rw [List.take_take]; congr 1; omega
        rw [List.dropLast_concat, List.getLastD_concat, ih (sp n) h1 (l.take (sp n)) m w old (by rw [List.length_take]; omega) hm hk (fun q => by rw [← e]; exact hw q), e]
      · rename_i hk
        rw [List.dropLast_concat, List.getLastD_concat, ih (n - sp n) (by omega) (l.drop (sp n)) (m - sp n) false old (by rw [List.length_drop]; omega) (by omega) (by omega) (fun q => by cases q)]
        have hsm : sp m = sp n := by
          show _ = 2 ^ _
          exact sp_of (by show sp n < m; omega) (by show m ≤ 2 * sp n; omega)
        have hlm : (l.take m).length = m := by rw [List.length_take]; omega
        rw [rt_two nd em (l := l.take m) (by omega), hlm, hsm, List.take_take, List.drop_take, Nat.min_eq_left (by omega)]

/-! The proof's use: from its head. -/
structure CS where
  before : B
  now : B
  rest : List B
  fits : Bool
def takeS (s : CS) : B × CS := match s.fits, s.rest with
  | true, p :: r => (p, { s with rest := r })
  | _, _ => (ByteArray.empty, { s with fits := false })
def climb (n m : Nat) (w : Bool) (s : CS) : CS :=
  if h : n ≤ m then (if w then s else { (takeS s).2 with before := (takeS s).1, now := (takeS s).1 }) else
    if hn : n < 2 then s else
    if m ≤ sp n then { (takeS (climb (sp n) m w s)).2 with now := nd (climb (sp n) m w s).now (takeS (climb (sp n) m w s)).1 }
    else { (takeS (climb (n - sp n) (m - sp n) false s)).2 with
      before := nd (takeS (climb (n - sp n) (m - sp n) false s)).1 (climb (n - sp n) (m - sp n) false s).before
      now := nd (takeS (climb (n - sp n) (m - sp n) false s)).1 (climb (n - sp n) (m - sp n) false s).now }
termination_by n
decreasing_by
  all_goals first | exact sp_lt (by omega) | (have := sp_pos n; omega)
theorem climb_ge {n m : Nat} {w : Bool} {s : CS} (h : n ≤ m) : climb nd n m w s = if w then s else { (takeS s).2 with before := (takeS s).1, now := (takeS s).1 } := by
  rw [climb, dif_pos h]
theorem climb_lo {n m : Nat} {w : Bool} {s : CS} (h : m < n) (h2 : 2 ≤ n) (hk : m ≤ sp n) : climb nd n m w s = { (takeS (climb nd (sp n) m w s)).2 with now := nd (climb nd (sp n) m w s).now (takeS (climb nd (sp n) m w s)).1 } := by
  rw [climb, dif_neg (by omega), dif_neg (by omega), if_pos hk]
theorem climb_hi {n m : Nat} {w : Bool} {s : CS} (h : m < n) (h2 : 2 ≤ n) (hk : ¬ m ≤ sp n) : climb nd n m w s = { (takeS (climb nd (n - sp n) (m - sp n) false s)).2 with
      before := nd (takeS (climb nd (n - sp n) (m - sp n) false s)).1 (climb nd (n - sp n) (m - sp n) false s).before
      now := nd (takeS (climb nd (n - sp n) (m - sp n) false s)).1 (climb nd (n - sp n) (m - sp n) false s).now } := by
  rw [climb, dif_neg (by omega), dif_neg (by omega), if_neg hk]
theorem takeS_before (s : CS) : (takeS s).2.before = s.before := by unfold takeS; split <;> rfl
theorem takeS_now (s : CS) : (takeS s).2.now = s.now := by unfold takeS; split <;> rfl
theorem takeS_size {s : CS} {M : Nat} (h : ∀ x ∈ s.rest, x.size ≤ M) : (takeS s).1.size ≤ M := by
  unfold takeS
  split
  · rename_i p r hp hr
    exact h p (by rw [hr]; simp)
  · exact Nat.zero_le _
theorem takeS_ok {s : CS} {p : B} {r : List B} (hf : s.fits = true) (hr : s.rest = p :: r) : takeS s = (p, { s with rest := r }) := by
  unfold takeS; rw [hf, hr]
theorem takeS_no {s : CS} (h : s.fits = false ∨ s.rest = []) : (takeS s).2.fits = false := by
  obtain ⟨b, n, r, f⟩ := s
  cases f <;> cases r <;> simp [takeS] at h ⊢
theorem climb_ok (old : B) : ∀ (n m : Nat) (w : Bool) (s : CS) (p r : List B), 1 ≤ m → m ≤ n → s.fits = true → s.rest = p ++ r → p.length = many n m w → s.before = old → s.now = old →
    climb nd n m w s = ⟨(both nd em old n m w p).1, (both nd em old n m w p).2, r, true⟩ := by
  intro n
  induction n using Nat.strongRecOn with
  | ind n ih =>
    intro m w s p r hm hmn hf hr hp hb hn
    rw [climb, both]
    rw [many] at hp
    by_cases h : n ≤ m
    · rw [dif_pos h] at hp
      rw [dif_pos h, dif_pos h]
      cases w with
      | true =>
        simp only [if_true] at hp ⊢
        have : p = [] := List.length_eq_zero_iff.1 hp
        subst this
        obtain ⟨b, nn, rr, ff⟩ := s
        simp only at hf hr hb hn
        simp [hf, hr, hb, hn]
      | false =>
        simp only [Bool.false_eq_true, if_false] at hp ⊢
        match p, hp with
        | [x], _ =>
          rw [takeS_ok hf hr]
          simp [hf]
    · rw [dif_neg h, dif_neg (by omega)] at hp
      rw [dif_neg h, dif_neg h, dif_neg (by omega), dif_neg (by omega)]
      have h1 := sp_lt (n := n) (by omega)
      have h2 := sp_pos n
      have hne : p ≠ [] := by intro e; subst e; split at hp <;> simp at hp <;> omega
      obtain ⟨p', x, rfl⟩ : ∃ p' x, p = p' ++ [x] := ⟨p.dropLast, p.getLast hne, (List.dropLast_concat_getLast hne).symm⟩
      rw [List.dropLast_concat, List.getLastD_concat]
      rw [List.append_assoc] at hr
      split
      · rename_i hk
        rw [if_pos hk] at hp
        rw [ih (sp n) h1 m w s p' ([x] ++ r) hm hk hf hr (by simp at hp; omega) hb hn]
        rfl
      · rename_i hk
        rw [if_neg hk] at hp
        rw [ih (n - sp n) (by omega) (m - sp n) false s p' ([x] ++ r) (by omega) (by omega) hf hr (by simp at hp; omega) hb hn]
        rfl
theorem climb_false : ∀ (n m : Nat) (w : Bool) (s : CS), s.fits = false → (climb nd n m w s).fits = false := by
  intro n
  induction n using Nat.strongRecOn with
  | ind n ih =>
    intro m w s hf
    rw [climb]
    split
    · split
      · exact hf
      · exact takeS_no (.inl hf)
    · split
      · exact hf
      · have h1 := sp_lt (n := n) (by omega)
        have h2 := sp_pos n
        split
        · exact takeS_no (.inl (ih (sp n) h1 m w s hf))
        · exact takeS_no (.inl (ih (n - sp n) (by omega) (m - sp n) false s hf))
theorem climb_short : ∀ (n m : Nat) (w : Bool) (s : CS), 1 ≤ m → m ≤ n → s.fits = true → s.before = s.now → s.rest.length < many n m w → (climb nd n m w s).fits = false := by
  intro n
  induction n using Nat.strongRecOn with
  | ind n ih =>
    intro m w s hm hmn hf hbn hr
    rw [climb]
    rw [many] at hr
    by_cases h : n ≤ m
    · rw [dif_pos h] at hr
      rw [dif_pos h]
      cases w with
      | true => simp at hr
      | false =>
        have : s.rest = [] := List.length_eq_zero_iff.1 (by simp at hr; simp [hr])
        exact takeS_no (.inr this)
    · rw [dif_neg h, dif_neg (by omega)] at hr
      rw [dif_neg h, dif_neg (by omega)]
      have h1 := sp_lt (n := n) (by omega)
      have h2 := sp_pos n
      split
      · rename_i hk
        rw [if_pos hk] at hr
        by_cases hl : s.rest.length < many (sp n) m w
        · exact takeS_no (.inl (ih (sp n) h1 m w s hm hk hf hbn hl))
        · have := climb_ok nd ByteArray.empty s.before (sp n) m w s s.rest [] hm hk hf (by simp) (by omega) rfl hbn.symm
          exact takeS_no (.inr (by rw [this]))
      · rename_i hk
        rw [if_neg hk] at hr
        by_cases hl : s.rest.length < many (n - sp n) (m - sp n) false
        · exact takeS_no (.inl (ih (n - sp n) (by omega) (m - sp n) false s (by omega) (by omega) hf hbn hl))
        · have := climb_ok nd ByteArray.empty s.before (n - sp n) (m - sp n) false s s.rest [] (by omega) (by omega) hf (by simp) (by omega) rfl hbn.symm
          exact takeS_no (.inr (by rw [this]))

/-! The stack of whole trees. -/
def fs (s : List B) : Nat × B := (s.length, rt nd em s)
def SC : Nat → List (List B) → Prop
  | _, [] => True
  | lo, s :: rs => (∃ e, s.length = 2 ^ e) ∧ lo ≤ s.length ∧ SC (s.length + 1) rs
def DR : Nat → List (List B) → Prop
  | _, [] => True
  | t, s :: rs => (∃ e, s.length = 2 ^ e) ∧ t ≤ s.length ∧ DR (t + s.length) rs
theorem SC_mono {a b : Nat} (h : a ≤ b) : ∀ {rs : List (List B)}, SC b rs → SC a rs
  | [], _ => trivial
  | _ :: _, ⟨h1, h2, h3⟩ => ⟨h1, Nat.le_trans h h2, h3⟩
theorem SC_jump {e : Nat} : ∀ {rs : List (List B)}, SC (2 ^ e + 1) rs → SC (2 ^ (e + 1)) rs
  | [], _ => trivial
  | s :: rs, ⟨⟨f, hf⟩, h2, h3⟩ => by
    refine ⟨⟨f, hf⟩, ?_, h3⟩
    rw [hf] at h2 ⊢
    have : e < f := (Nat.pow_lt_pow_iff_right (a := 2) (by decide)).1 (by omega)
    exact Nat.pow_le_pow_right (by decide) (by omega)
theorem SC_DR : ∀ {rs : List (List B)} {t : Nat}, SC (t + 1) rs → DR t rs
  | [], _, _ => trivial
  | s :: rs, t, ⟨⟨f, hf⟩, h2, h3⟩ => by
    refine ⟨⟨f, hf⟩, by omega, SC_DR ?_⟩
    rw [hf] at h3 h2 ⊢
    exact SC_mono (by rw [Nat.pow_succ]; omega) (SC_jump h3)
/-- Between two hashes: all sizes differ. -/
def StS (w : List (Nat × B)) (l : List B) : Prop := ∃ rs, w = (rs.map (fs nd em)).reverse ∧ l = rs.reverse.flatten ∧ SC 1 rs
/-- While one is carried. -/
def StC (w : List (Nat × B)) (l : List B) : Prop := ∃ s rs, w = ((s :: rs).map (fs nd em)).reverse ∧ l = (s :: rs).reverse.flatten ∧ (∃ e, s.length = 2 ^ e) ∧ SC s.length rs
/-- At the end. -/
def StD (w : List (Nat × B)) (l : List B) : Prop := ∃ s rs, w = ((s :: rs).map (fs nd em)).reverse ∧ l = (s :: rs).reverse.flatten ∧ 1 ≤ s.length ∧ DR s.length rs
theorem StS.nil : StS nd em [] [] := ⟨[], rfl, rfl, trivial⟩
theorem StS.push {w : List (Nat × B)} {l : List B} (h : StS nd em w l) (x : B) : StC nd em (w ++ [(1, x)]) (l ++ [x]) := by
  obtain ⟨rs, rfl, rfl, hs⟩ := h
  exact ⟨[x], rs, by simp [fs, rt_one], by simp, ⟨0, rfl⟩, hs⟩
theorem two_last {w : List (Nat × B)} {p q : Nat × B} {s : List B} {rs : List (List B)} (h : w ++ [p, q] = ((s :: rs).map (fs nd em)).reverse) :
    ∃ s1 r, rs = s1 :: r ∧ p = fs nd em s1 ∧ q = fs nd em s ∧ w = (r.map (fs nd em)).reverse := by
  have h2 := congrArg List.reverse h
  rw [List.reverse_reverse, List.reverse_append] at h2
  cases rs with
  | nil => simp at h2
  | cons s1 r =>
    simp only [List.reverse_cons, List.reverse_nil, List.nil_append, List.cons_append, List.map_cons, List.cons.injEq] at h2
    exact ⟨s1, r, rfl, h2.2.1, h2.1, by rw [← h2.2.2, List.reverse_reverse]⟩
theorem StC.join {w : List (Nat × B)} {a : Nat} {x y : B} {l : List B} (h : StC nd em (w ++ [(a, x), (a, y)]) l) : StC nd em (w ++ [(a + a, nd x y)]) l := by
  obtain ⟨s, rs, hw, rfl, ⟨e, he⟩, hs⟩ := h
  obtain ⟨s1, r, rfl, hp, hq, rfl⟩ := two_last nd em hw
  cases hq
  have h1 : s.length = s1.length := congrArg Prod.fst hp
  have h2 : x = rt nd em s1 := congrArg Prod.snd hp
  subst h2
  refine ⟨s1 ++ s, r, ?_, by simp, ⟨e + 1, by rw [List.length_append, Nat.pow_succ]; omega⟩, ?_⟩
  · have := rt_app nd em (a := s1) (b := s) (e := e) (by omega) (by have := Nat.pow_pos (n := e) (show 0 < 2 by decide); omega) (by omega)
    simp [fs, this, h1]
  · have h3 := hs.2.2
    rw [← h1, he] at h3
    have := SC_jump h3
    rw [List.length_append, ← h1, he, ← Nat.two_mul, ← Nat.pow_succ']
    exact this
theorem StC.done {w : List (Nat × B)} {l : List B} (h : StC nd em w l) (hd : ∀ v p q, w = v ++ [p, q] → p.1 ≠ q.1) : StS nd em w l := by
  obtain ⟨s, rs, rfl, rfl, ⟨e, he⟩, hs⟩ := h
  refine ⟨s :: rs, rfl, rfl, ⟨e, he⟩, by rw [he]; exact Nat.pow_pos (by decide), ?_⟩
  cases rs with
  | nil => trivial
  | cons s1 r =>
    have := hd (r.map (fs nd em)).reverse (fs nd em s1) (fs nd em s) (by simp)
    have h1 : s1.length ≠ s.length := this
    exact ⟨hs.1, by have := hs.2.1; omega, hs.2.2⟩
theorem StS.fin {w : List (Nat × B)} {l : List B} (h : StS nd em w l) (hl : l ≠ []) : StD nd em w l := by
  obtain ⟨rs, rfl, rfl, hs⟩ := h
  cases rs with
  | nil => exact absurd rfl hl
  | cons s r => exact ⟨s, r, rfl, rfl, hs.2.1, SC_DR hs.2.2⟩
theorem StD.join {w : List (Nat × B)} {a b : Nat} {x y : B} {l : List B} (h : StD nd em (w ++ [(a, x), (b, y)]) l) : StD nd em (w ++ [(a + b, nd x y)]) l := by
  obtain ⟨s, rs, hw, rfl, h0, hs⟩ := h
  obtain ⟨s1, r, rfl, hp, hq, rfl⟩ := two_last nd em hw
  cases hq; cases hp
  obtain ⟨⟨e, he⟩, h2, h3⟩ := hs
  refine ⟨s1 ++ s, r, ?_, by simp, by rw [List.length_append]; omega, by rw [List.length_append, Nat.add_comm]; exact h3⟩
  have := rt_app nd em (a := s1) (b := s) (e := e) he h0 (by omega)
  simp [fs, this]
theorem StD.one {p : Nat × B} {l : List B} (h : StD nd em [p] l) : p.2 = rt nd em l := by
  obtain ⟨s, rs, hw, rfl, h0, hs⟩ := h
  have h2 := congrArg List.reverse hw
  rw [List.reverse_reverse] at h2
  cases rs with
  | nil => simp at h2; subst h2; simp [fs]
  | cons a r => simp at h2
theorem flatten_len {rs : List (List B)} {s : List B} (h : s ∈ rs) : s.length ≤ rs.flatten.length := by
  induction rs with
  | nil => cases h
  | cons a r ih =>
    rw [List.flatten_cons, List.length_append]
    rcases List.mem_cons.1 h with rfl | h
    · omega
    · have := ih h; omega
theorem rt_size {M : Nat} (hn : ∀ a b, (nd a b).size ≤ M) (he : em.size ≤ M) : ∀ (n : Nat) (l : List B), l.length = n → (∀ x ∈ l, x.size ≤ M) → (rt nd em l).size ≤ M := by
  intro n
  intro l hl hx
  by_cases h : 2 ≤ l.length
  · rw [rt_two nd em h]; exact hn _ _
  · match l, h with
    | [], _ => rw [rt_nil]; exact he
    | [x], _ => rw [rt_one]; exact hx x (by simp)
    | _ :: _ :: _, h => simp at h
theorem seg_bd {rs : List (List B)} {p : Nat × B} {M : Nat} (hp : p ∈ (rs.map (fs nd em)).reverse) (hn : ∀ a b, (nd a b).size ≤ M) (he : em.size ≤ M) (hM : ∀ x ∈ rs.reverse.flatten, x.size ≤ M) : p.1 ≤ rs.reverse.flatten.length ∧ p.2.size ≤ M := by
  rw [List.mem_reverse, List.mem_map] at hp
  obtain ⟨s, hs, rfl⟩ := hp
  have hs2 : s ∈ rs.reverse := List.mem_reverse.2 hs
  exact ⟨flatten_len hs2, rt_size nd em hn he _ s rfl (fun x hx => hM x (List.mem_flatten.2 ⟨s, hs2, hx⟩))⟩
theorem StC.bd {w : List (Nat × B)} {l : List B} {p : Nat × B} {M : Nat} (h : StC nd em w l) (hp : p ∈ w) (hn : ∀ a b, (nd a b).size ≤ M) (he : em.size ≤ M) (hM : ∀ x ∈ l, x.size ≤ M) : p.1 ≤ l.length ∧ p.2.size ≤ M := by
  obtain ⟨s, rs, rfl, rfl, _⟩ := h
  exact seg_bd nd em hp hn he hM
theorem StD.bd {w : List (Nat × B)} {l : List B} {p : Nat × B} {M : Nat} (h : StD nd em w l) (hp : p ∈ w) (hn : ∀ a b, (nd a b).size ≤ M) (he : em.size ≤ M) (hM : ∀ x ∈ l, x.size ≤ M) : p.1 ≤ l.length ∧ p.2.size ≤ M := by
  obtain ⟨s, rs, rfl, rfl, _⟩ := h
  exact seg_bd nd em hp hn he hM
theorem StD.ne {w : List (Nat × B)} {l : List B} (h : StD nd em w l) : 1 ≤ w.length := by
  obtain ⟨s, rs, rfl, _⟩ := h
  simp
theorem two_of {α : Type} {w : List α} {k : Nat} (h : w.length = k + 2) : ∃ v p q, w = v ++ [p, q] ∧ v.length = k := by
  refine ⟨w.take k, w[k], w[k + 1], ?_, by rw [List.length_take]; omega⟩
  conv => lhs; rw [← List.take_append_drop k w]
  congr 1
  rw [List.drop_eq_getElem_cons (by omega), List.drop_eq_getElem_cons (by omega), List.drop_eq_nil_of_le (by omega)]
end Go.Mk

/- split, Leaf, Node. -/
set_option linter.unusedSimpArgs false
namespace Go.Proofs.YtlkpgjicpjjlcaaGreatDoor
open Go Go.Vc Go.Sha Go.Mk
set_option maxRecDepth 10000
set_option linter.unusedVariables false

theorem lenN_le {x k : Nat} (h : x < 2 ^ k) : lenN x ≤ k := by
  unfold lenN
  split
  · omega
  · rename_i h0
    have := (Nat.log2_lt h0).2 h
    omega
theorem lenN_div {x : Nat} (h : 256 ≤ x) : lenN x = 8 + lenN (x / 256) := by
  unfold lenN
  rw [if_neg (by omega), if_neg (by omega)]
  have h1 : x ≠ 0 := by omega
  have h2 : x / 256 ≠ 0 := by omega
  have h3 : Nat.log2 x = Nat.log2 (x / 256) + 8 := by
    refine (Nat.log2_eq_iff h1).2 ⟨?_, ?_⟩
    · have := Nat.log2_self_le h2
      rw [Nat.pow_add]
      omega
    · have : x / 256 < 2 ^ (Nat.log2 (x / 256) + 1) := Nat.lt_log2_self
      rw [show Nat.log2 (x / 256) + 8 + 1 = Nat.log2 (x / 256) + 1 + 8 from by omega, Nat.pow_add]
      omega
  omega
theorem len64_spec (x : Nat) (hx : x < 65536) (h : Heap) (t : Nat) : CallSpec Tryz.prog 94 #[.int .u64 (x : Nat)] h t (fun v h' t' => v = .int .i64 ((lenN x : Nat) : Int) ∧ h = h' ∧ t = t') := by
  refine Go.Vc.spec_of_vc (fn := Tryz.f94) Tryz.func94 rfl (by kernel_rfl) (by kernel_rfl) (Nat.le_of_ble_eq_true rfl) ?_
  intro hd
  conv => whnf
  repeat (first | (refine Go.Vc.br_f ?_ ?_; (focus omega); conv => whnf))
  refine br (fun hb1 => ?_) (fun hb1 => ?_)
  · conv => whnf
    repeat (first | ((with_reducible apply Go.Vc.wr_i64); (focus exact And.intro (by omega) (by omega)); conv => whnf) | ((with_reducible apply Go.Vc.shr_u64); (focus exact And.intro (by omega) (by omega)); intro zS hzS hzS0 hzS1; conv => whnf) | ((with_reducible apply Go.Vc.and_leI); (focus omega); conv => whnf))
    have hz : zS = (x : Int) / 256 := hzS
    conv => whnf
    repeat (first | ((with_reducible apply Go.Vc.wr_u8); (focus exact And.intro (by omega) (by omega)); conv => whnf))
    generalize hT : ByteArray.mk _ = T
    have hk : tabOk T = true := by rw [← hT]; decide +kernel
    have hsz := tab_size hk
    refine ⟨⟨by omega, by omega⟩, ?_⟩
    intro hy1 hy2
    have hzn : zS.toNat = x / 256 := by omega
    rw [tab_ix (v := zS.toNat) hk (by omega), hzn]
    have hle := lenN_le (x := x / 256) (k := 8) (by omega)
    conv => whnf
    repeat (first | ((with_reducible apply Go.Vc.wr_i64); (focus exact And.intro (by omega) (by omega)); conv => whnf))
    exact ⟨by rw [lenN_div (x := x) (by omega)]; rfl, rfl, rfl⟩
  · conv => whnf
    repeat (first | ((with_reducible apply Go.Vc.wr_u8); (focus exact And.intro (by omega) (by omega)); conv => whnf))
    generalize hT : ByteArray.mk _ = T
    have hk : tabOk T = true := by rw [← hT]; decide +kernel
    have hsz := tab_size hk
    refine ⟨⟨by omega, by omega⟩, ?_⟩
    intro hy1 hy2
    rw [tab_ix (v := (x : Int).toNat) hk (by omega), Int.toNat_natCast]
    have hle := lenN_le (x := x) (k := 8) (by omega)
    conv => whnf
    repeat (first | ((with_reducible apply Go.Vc.wr_i64); (focus exact And.intro (by omega) (by omega)); conv => whnf))
    exact ⟨by rw [Int.zero_add], rfl, rfl⟩
theorem len_spec (x : Nat) (hx : x < 65536) (h : Heap) (t : Nat) : CallSpec Tryz.prog 75 #[.int .u64 (x : Nat)] h t (fun v h' t' => v = .int .i64 ((lenN x : Nat) : Int) ∧ h = h' ∧ t = t') := by
  refine Go.Vc.spec_of_vc (fn := Tryz.f75) Tryz.func75 rfl (by kernel_rfl) (by kernel_rfl) (Nat.le_of_ble_eq_true rfl) ?_
  intro hd
  conv => whnf
  refine (len64_spec x hx _ _).mono ?_
  rintro _ _ _ _ _ ⟨rfl, rfl, rfl⟩
  conv => whnf
  exact ⟨rfl, rfl, rfl⟩
theorem split_spec (n : Nat) (hn : 2 ≤ n) (hn2 : n ≤ 65536) (h : Heap) (t : Nat) : CallSpec Tryz.prog 56 #[.int .i64 (n : Nat)] h t (fun v h' t' => v = .int .i64 ((sp n : Nat) : Int) ∧ h = h' ∧ t = t') := by
  refine Go.Vc.spec_of_vc (fn := Tryz.f56) Tryz.func56 rfl (by kernel_rfl) (by kernel_rfl) (Nat.le_of_ble_eq_true rfl) ?_
  intro hd
  conv => whnf
  repeat (first | ((with_reducible apply Go.Vc.wr_i64); (focus exact And.intro (by omega) (by omega)); conv => whnf) | ((with_reducible apply Go.Vc.wr_u64); (focus exact And.intro (by omega) (by omega)); conv => whnf))
  have e : ((n : Int) - 1) = ((n - 1 : Nat) : Int) := by omega
  rw [e]
  refine (len_spec (n - 1) (by omega) _ _).mono ?_
  rintro _ _ _ _ _ ⟨rfl, rfl, rfl⟩
  have hl : lenN (n - 1) = Nat.log2 (n - 1) + 1 := by unfold lenN; rw [if_neg (by omega)]
  have hle := lenN_le (x := n - 1) (k := 16) (by omega)
  conv => whnf
  repeat (first | ((with_reducible apply Go.Vc.wr_i64); (focus exact And.intro (by omega) (by omega)); conv => whnf) | ((with_reducible apply Go.Vc.one_shl); (focus exact And.intro (by omega) (by omega)); intro zP hzP hzP0 hzP1; conv => whnf) | ((with_reducible apply Go.Vc.and_leI); (focus omega); conv => whnf))
  trace_state
  exact ⟨by rw [hzP, hl]; simp [sp], rfl, rfl⟩
theorem refsplit_spec (n : Nat) (hn : 2 ≤ n) (hn2 : n ≤ 65536) (h : Heap) (t : Nat) : CallSpec Tryz.prog 73 #[.int .i64 (n : Nat)] h t (fun v h' t' => v = .int .i64 ((sp n : Nat) : Int) ∧ h = h' ∧ t = t') := by
  refine Go.Vc.spec_of_vc (fn := Tryz.f73) Tryz.func73 rfl (by kernel_rfl) (by kernel_rfl) (Nat.le_of_ble_eq_true rfl) ?_
  intro hd
  conv => whnf
  refine loop_intro (fun (e : Nat) => [(0, .int .i64 (n : Nat)), (3, .int .i64 ((2 ^ e : Nat) : Int))]) (fun e h' t' => 2 ^ e < n ∧ h' = h ∧ t' = t) (fun e => n - 2 ^ e) 0 ⟨rfl, rfl, trivial⟩ ⟨by omega, rfl, rfl⟩ ?_
  rintro e g h1 t1 hd1 ⟨he, rfl, rfl⟩
  have hp : 1 ≤ 2 ^ e := Nat.pow_pos (by decide)
  conv => whnf
  repeat (first | ((with_reducible apply Go.Vc.wr_i64); (focus exact And.intro (by omega) (by omega)); conv => whnf))
  refine br (fun hb1 => ?_) (fun hb1 => ?_)
  · conv => whnf
    repeat (first | ((with_reducible apply Go.Vc.wr_i64); (focus exact And.intro (by omega) (by omega)); conv => whnf))
    refine round_end (e + 1) (by rw [Nat.pow_succ]; omega) ⟨rfl, ?_, trivial⟩ ⟨by rw [Nat.pow_succ]; omega, rfl, rfl⟩
    show Value.int .i64 _ = Value.int .i64 _
    congr 1
    rw [Nat.pow_succ]; omega
  · conv => whnf
    exact ⟨by rw [sp_of he (by omega)], rfl, rfl⟩
end Go.Proofs.YtlkpgjicpjjlcaaGreatDoor

/- Leaf, Node, Root. -/
set_option linter.unusedSimpArgs false
namespace Go.Proofs.YtlkpgjicpjjlcaaGreatDoor
open Go Go.Vc Go.Sha Go.Mk
set_option maxRecDepth 10000
set_option linter.unusedVariables false

def ndB (a b : ByteArray) : ByteArray := shaB (⟨#[1]⟩ ++ a ++ b)
def lfB (s : ByteArray) : ByteArray := shaB (⟨#[0]⟩ ++ s)
def emB : ByteArray := shaB ByteArray.empty
theorem ndB_size (a b : ByteArray) : (ndB a b).size = 32 := shaB_size _
theorem lfB_size (a : ByteArray) : (lfB a).size = 32 := shaB_size _
theorem emB_size : emB.size = 32 := shaB_size _
theorem one_size (x : UInt8) : (⟨#[x]⟩ : ByteArray).size = 1 := rfl
theorem node_spec (a b : ByteArray) (ha : a.size ≤ 274877906944) (hb : b.size ≤ 274877906944) (h : Heap) (t : Nat) : CallSpec Tryz.prog 53 #[.string a, .string b] h t (fun v h' t' => v = .string (ndB a b) ∧ Sub h h') := by
  refine Go.Vc.spec_of_vc (fn := Tryz.f53) Tryz.func53 rfl (by kernel_rfl) (by kernel_rfl) (Nat.le_of_ble_eq_true rfl) ?_
  intro hd
  have h1 := one_size 1
  conv => whnf
  repeat (first | ((with_reducible apply Go.Vc.and_leN); (focus (first | omega | (simp only [ByteArray.size, List.size_toArray, List.length_cons, List.length_nil] at *; omega))); conv => whnf))
  refine ⟨by rw [ByteArray.size_append]; omega, ?_⟩
  conv => whnf
  refine (one_spec (⟨#[1]⟩ ++ a ++ b) (by rw [ByteArray.size_append, ByteArray.size_append]; omega) _ _).mono ?_
  rintro _ h2 t2 hd2 ht2 ⟨rfl, hs2⟩
  conv => whnf
  exact ⟨rfl, hs2⟩
theorem refnode_spec (a b : ByteArray) (ha : a.size ≤ 274877906944) (hb : b.size ≤ 274877906944) (h : Heap) (t : Nat) : CallSpec Tryz.prog 74 #[.string a, .string b] h t (fun v h' t' => v = .string (ndB a b) ∧ Sub h h') := by
  refine Go.Vc.spec_of_vc (fn := Tryz.f74) Tryz.func74 rfl (by kernel_rfl) (by kernel_rfl) (Nat.le_of_ble_eq_true rfl) ?_
  intro hd
  have h1 := one_size 1
  conv => whnf
  repeat (first | ((with_reducible apply Go.Vc.and_leN); (focus (first | omega | (simp only [ByteArray.size, List.size_toArray, List.length_cons, List.length_nil] at *; omega))); conv => whnf))
  refine ⟨by rw [ByteArray.size_append]; omega, ?_⟩
  conv => whnf
  refine (refOne_spec (⟨#[1]⟩ ++ a ++ b) (by rw [ByteArray.size_append, ByteArray.size_append]; omega) _ _).mono ?_
  rintro _ h2 t2 hd2 ht2 ⟨rfl, hs2⟩
  conv => whnf
  exact ⟨rfl, hs2⟩
def trF (p : Nat × ByteArray) : Value := .int .i64 (p.1 : Nat)
def trG (p : Nat × ByteArray) : Value := .string p.2
abbrev tr : Nat × ByteArray → List Value := two trF trG

theorem app_tree {h : Heap} {t : Nat} {a xa : Option Addr} {n c xc : Nat} {w : List (Nat × ByteArray)} {p : Nat × ByteArray} {ty : TypeId} (ho : Own h 102 a (n * 2) (c * 2) id (w.flatMap tr)) (hx : Sl h xa (1 * 2) id [Value.int .i64 (p.1 : Nat), .string p.2]) (hb : n ≤ 1000000) (hd : Dom h t) {K : Value → Heap → Nat → Prop}
    (hK : ∀ a' c' h' t', Own h' 102 a' ((n + 1) * 2) (c' * 2) id ((w ++ [p]).flatMap tr) → t ≤ t' → Dom h' t' → (∀ k, k < t → owner a ≠ some k → h' k = h k) → (owner a' = owner a ∨ ∃ r, owner a' = some r ∧ t ≤ r) → K (.slice a' (n + 1) c') h' t') :
    AppVC Tryz.prog #[100, 100] ty (.slice a n c) (.slice xa 1 xc) K h t := by
  refine app_vcW (W := 2) Tryz.underlying100 Tryz.underlying100 rfl (inf := Tryz.types[102]) (z := .agg #[.int .i64 0, .string ByteArray.empty]) (by kernel_rfl) (by kernel_rfl) (by decide) (by kernel_rfl) rfl ho hx rfl (by show (n + 1) * 24 ≤ _; omega) (by omega) (by show 24 ≤ 1000; omega) hd ?_
  intro a' c' h' t' ho'
  refine hK a' c' h' t' ?_
  rw [List.flatMap_append]
  exact ho'
theorem join_spec {h : Heap} {t r k : Nat} {a : Option Addr} {c : Nat} {w : List (Nat × ByteArray)} {p q : Nat × ByteArray} (hr : h r = some (.cells #[.slice a (k + 2) c] 100 (0, 0)))
    (ho : Own h 102 a ((k + 2) * 2) (c * 2) id ((w ++ [p, q]).flatMap tr)) (hk : w.length = k) (hne : owner a ≠ some r) (hk2 : k ≤ 1000000) (hp : p.1 + q.1 ≤ 1000000) (hps : p.2.size ≤ 274877906944) (hqs : q.2.size ≤ 274877906944) :
    CallSpec Tryz.prog 52 #[.pointer (some ⟨r, 0, none⟩)] h t (fun v h' t' => v = .tuple #[] ∧ ∃ a' c', h' r = some (.cells #[.slice a' (k + 1) c'] 100 (0, 0)) ∧
      Own h' 102 a' ((k + 1) * 2) (c' * 2) id ((w ++ [(p.1 + q.1, ndB p.2 q.2)]).flatMap tr) ∧ (owner a' = owner a ∨ ∃ b, owner a' = some b ∧ t ≤ b) ∧ ∀ b o, b ≠ r → owner a ≠ some b → h b = some o → h' b = some o) := by
  refine Go.Vc.spec_of_vc (fn := Tryz.f52) Tryz.func52 rfl (by kernel_rfl) (by kernel_rfl) (Nat.le_of_ble_eq_true rfl) ?_
  intro hd
  have hcap := ho.cap
  have hsl : Sl h a ((k + 2) * 2) id ((w ++ [p, q]).flatMap (two trF trG)) := ho.sl
  have g0 : ∀ y, (w ++ [p, q])[(((k + 2 : Nat) : Int) - 2).toNat]? = some y → p = y := by
    intro y hy
    rw [show (((k + 2 : Nat) : Int) - 2).toNat = w.length by omega] at hy
    simpa using hy
  have g1 : ∀ y, (w ++ [p, q])[(((k + 2 : Nat) : Int) - 2 + 1).toNat]? = some y → q = y := by
    intro y hy
    rw [show (((k + 2 : Nat) : Int) - 2 + 1).toNat = w.length + 1 by omega] at hy
    simpa using hy
  conv => whnf
  repeat (first | ((with_reducible apply Go.Vc.ld_i); (focus ((repeat (first | with_reducible assumption | with_reducible exact Go.Vc.hset_same _ _ _ | with_reducible refine (Go.Vc.hset_ne _ _ (by omega)).trans ?_)); done)); (focus exact rfl); conv => whnf) | ((with_reducible apply Go.Vc.wr_i64); (focus exact And.intro (by omega) (by omega)); conv => whnf))
  refine Go.Vc.draw_intro [⟨0, false, true, false, 0⟩, ⟨1, false, true, false, 0⟩, ⟨2, false, true, false, 3⟩, ⟨3, false, true, false, 0⟩, ⟨4, false, true, false, 0⟩, ⟨5, false, true, false, 24⟩, ⟨6, false, true, false, 56⟩, ⟨7, false, true, false, 120⟩, ⟨8, false, true, false, 0⟩, ⟨9, false, true, false, 0⟩, ⟨10, false, true, false, 512⟩, ⟨11, false, true, false, 1792⟩, ⟨12, false, true, false, 3840⟩, ⟨13, false, true, false, 7936⟩, ⟨14, false, true, false, 16376⟩, ⟨15, false, false, false, 0⟩, ⟨16, false, false, false, 0⟩, ⟨17, false, false, false, 98304⟩, ⟨18, false, false, false, 229376⟩, ⟨19, false, false, false, 491520⟩, ⟨20, false, false, false, 0⟩, ⟨21, false, false, false, 0⟩, ⟨22, false, false, false, 2097152⟩, ⟨23, false, false, false, 7340032⟩, ⟨24, false, false, false, 15728640⟩, ⟨25, false, false, false, 32505856⟩, ⟨26, true, false, true, 67076096⟩, ⟨27, false, false, false, 134217720⟩, ⟨28, true, false, true, 268435448⟩, ⟨29, true, false, false, 536870911⟩, ⟨30, true, false, false, 1073741823⟩] (hs := h) (hsub := (Sub.refl _)) (hm := by kernel_rfl) (hpl := by kernel_rfl) ?_
  conv => whnf
  conv => whnf
  repeat (first | ((with_reducible apply Go.Vc.sl2_ix); (focus with_reducible assumption); (focus exact And.intro (by omega) (by omega)); intro xI bI offI hxI hcI hcJ; conv => whnf) | ((with_reducible refine And.intro (And.intro ?_ ?_) ?_); (focus omega); (focus omega); conv => whnf) | ((with_reducible apply Go.Vc.ld_i); (focus ((repeat (first | with_reducible assumption | with_reducible exact Go.Vc.hset_same _ _ _ | with_reducible refine (Go.Vc.hset_ne _ _ (by omega)).trans ?_)); done)); (focus exact rfl); conv => whnf) | ((with_reducible apply Go.Vc.cell_i); (focus assumption); conv => whnf) | ((with_reducible apply Go.Vc.wr_i64); (focus exact And.intro (by omega) (by omega)); conv => whnf))
  have e := g1 _ hxI
  clear hxI
  subst e
  have e := g0 _ hxI
  clear hxI
  subst e
  conv => whnf
  repeat (first | ((with_reducible apply Go.Vc.sl2_ix); (focus with_reducible assumption); (focus exact And.intro (by omega) (by omega)); intro xI bI offI hxI hcI hcJ; conv => whnf) | ((with_reducible apply Go.Vc.ld_i); (focus ((repeat (first | with_reducible assumption | with_reducible exact Go.Vc.hset_same _ _ _ | with_reducible refine (Go.Vc.hset_ne _ _ (by omega)).trans ?_)); done)); (focus exact rfl); conv => whnf) | ((with_reducible apply Go.Vc.cell_i); (focus assumption); conv => whnf) | ((with_reducible apply Go.Vc.wr_i64); (focus exact And.intro (by omega) (by omega)); conv => whnf))
  have e := g1 _ hxI
  clear hxI
  subst e
  have e := g0 _ hxI
  clear hxI
  subst e
  conv => whnf
  refine (node_spec p.2 q.2 hps hqs _ _).mono ?_
  rintro _ h1 t1 hd1 ht1 ⟨rfl, hs1⟩
  conv => whnf
  refine ⟨hs1, ?_⟩
  conv => whnf
  repeat (first | (intro _ _; conv => whnf))
  rename_i r2 hr2
  have hs2 := hd1.sub_new hr2 (.cells #[.int .i64 ((p.1 : Int) + (q.1 : Int)), .string (ndB p.2 q.2)] 102)
  refine ⟨hs1.trans hs2, ?_⟩
  conv => whnf
  have ek : (((k + 2 : Nat) : Int) - 2).toNat = k := by omega
  rw [ek]
  have ho2 : Own h 102 a (k * 2) (c * 2) id (w.flatMap tr) := by
    have := ho.take (m := k * 2) (by omega)
    rw [List.flatMap_append, List.take_left' (by rw [two_len, hk])] at this
    exact this
  have hd2 := hd1.set r2 (.cells #[.int .i64 ((p.1 : Int) + (q.1 : Int)), .string (ndB p.2 q.2)] 102) (r2 + 1) (by omega) (by omega)
  refine app_tree (w := w) (p := (p.1 + q.1, ndB p.2 q.2)) (ho2.fr (fun b o _ ho => (hs1.trans hs2) b o ho)) (vl_sl (L := [Value.int .i64 (((p.1 + q.1 : Nat)) : Int), .string (ndB p.2 q.2)]) (hset_same _ _ _) rfl) hk2 hd2 ?_
  intro a3 c3 h3 t3 ho3 ht3 hd3 hk3 how3
  have hrt := hd r _ hr
  have hr3 : h3 r = some (.cells #[.slice a (k + 2) c] 100 (0, 0)) := by
    rw [hk3 r (by omega) hne, hset_ne _ _ (by omega)]
    exact hs1 r _ hr
  have hne3 : owner a3 ≠ some r := by
    rcases how3 with e | ⟨b, e, hb⟩
    · rw [e]; exact hne
    · rw [e]; intro e2; cases e2; omega
  conv => whnf
  repeat (first | ((with_reducible apply Go.Vc.st_i); (focus ((repeat (first | with_reducible assumption | with_reducible exact Go.Vc.hset_same _ _ _ | with_reducible refine (Go.Vc.hset_ne _ _ (by omega)).trans ?_)); done)); (focus exact rfl); (focus exact rfl); (focus exact rfl); (conv => whnf); intro cA hcA; (first | (simp only [List.setIfInBounds_toArray, List.set_cons_succ, List.set_cons_zero] at hcA; subst hcA) | subst hcA); conv => whnf))
  refine ⟨rfl, a3, c3, hset_same _ _ _, ?_, ?_, ?_⟩
  · refine ho3.fr (fun b o hb ho => ?_)
    rw [hset_ne _ _ (fun e => hne3 (by rw [hb, e]))]
    exact ho
  · rcases how3 with e | ⟨b, e, hb⟩
    · exact .inl e
    · exact .inr ⟨b, e, by omega⟩
  · intro b o hb ha hbo
    have hbt := hd b o hbo
    rw [hset_ne _ _ hb, hk3 b (by omega) ha, hset_ne _ _ (by omega)]
    exact hs1 b o hbo
theorem nd_le (M : Nat) (hM : 32 ≤ M) (a b : ByteArray) : (ndB a b).size ≤ M := by rw [ndB_size]; exact hM
/-- The stack in the heap. -/
def Stack (h : Heap) (r k : Nat) (a : Option Addr) (c : Nat) (w : List (Nat × ByteArray)) : Prop :=
  h r = some (.cells #[.slice a k c] 100 (0, 0)) ∧ Own h 102 a (k * 2) (c * 2) id (w.flatMap tr) ∧ w.length = k ∧ (∀ b, owner a = some b → r < b)
theorem Stack.fr {h h' : Heap} {r k : Nat} {a : Option Addr} {c : Nat} {w : List (Nat × ByteArray)} (s : Stack h r k a c w) (hs : Sub h h') : Stack h' r k a c w :=
  ⟨hs _ _ s.1, s.2.1.fr (fun b o _ ho => hs b o ho), s.2.2.1, s.2.2.2⟩

theorem root_spec {h : Heap} {t : Nat} {a : Option Addr} {n c : Nat} {l : List ByteArray} (s : Sl h a n Value.string l) (hn : n ≤ 65536) (hx : ∀ x ∈ l, x.size ≤ 274877906944) :
    CallSpec Tryz.prog 20 #[.slice a n c] h t (fun v h' t' => v = .string (rt ndB emB l) ∧ Sub h h') := by
  have hM := nd_le 274877906944 (by decide)
  have hE : emB.size ≤ 274877906944 := by rw [emB_size]; decide
  have hll := s.1
  refine Go.Vc.spec_of_vc (fn := Tryz.f20) Tryz.func20 rfl (by kernel_rfl) (by kernel_rfl) (Nat.le_of_ble_eq_true rfl) ?_
  intro hd
  conv => whnf
  refine br (fun hb1 => ?_) (fun hb1 => ?_)
  · have : l = [] := List.length_eq_zero_iff.1 (by omega)
    subst this
    conv => whnf
    refine (one_spec ByteArray.empty (by decide) _ _).mono ?_
    rintro _ h2 t2 hd2 ht2 ⟨rfl, hs2⟩
    conv => whnf
    exact ⟨by rw [rt_nil]; rfl, hs2⟩
  · conv => whnf
    repeat (first | (intro _ _; conv => whnf))
    rename_i r hr
    have hd1 := hd.set r (.cells #[.slice none 0 0] 100) (r + 1) (by omega) (by omega)
    have hs1 := hd.sub_new hr (.cells #[.slice none 0 0] 100)
    refine loop_intro5 (fun (i k : Nat) (a1 : Option Addr) (c1 : Nat) (w : List (Nat × ByteArray)) => [(3, .pointer (some ⟨r, 0, none⟩)), (4, .func (.func 52) #[] #[.pointer (some ⟨r, 0, none⟩)]), (13, .slice a n c), (14, .int .i64 (n : Nat)), (15, .int .i64 (i : Nat))])
      (fun i k a1 c1 w h' t' => r + 1 ≤ t' ∧ i ≤ n ∧ k ≤ i ∧ Stack h' r k a1 c1 w ∧ StS ndB emB w (l.take i) ∧ Sub h h') (fun i _ _ _ _ => n - i) 0 0 none 0 [] ⟨rfl, rfl, rfl, rfl, rfl, trivial⟩
      ⟨by omega, by omega, by omega, ⟨hset_same _ _ _, Own.nil _ _ _, rfl, fun b hb => by cases hb⟩, StS.nil ndB emB, hs1⟩ ?_
    rintro i k a1 c1 w g h2 t2 hd2 ⟨ht2, hi, hki, ⟨hr2, ho2, hk2, hne2⟩, hS2, hs2⟩
    have s2 := s.sub hs2
    conv => whnf
    refine br (fun hb2 => ?_) (fun hb2 => ?_)
    · have hi2 : i < n := by omega
      conv => whnf
      repeat (first | ((with_reducible apply Go.Vc.sl_ix); (focus with_reducible assumption); (focus exact And.intro (by omega) (by omega)); intro xI bI offI hxI hcI; conv => whnf) | ((with_reducible apply Go.Vc.ld_i); (focus ((repeat (first | with_reducible assumption | with_reducible exact Go.Vc.hset_same _ _ _ | with_reducible refine (Go.Vc.hset_ne _ _ (by omega)).trans ?_)); done)); (focus exact rfl); conv => whnf) | ((with_reducible apply Go.Vc.cell_i); (focus assumption); conv => whnf) | (intro _ _; conv => whnf))
      rename_i r2 hr3
      have hs3 := hd2.sub_new hr3 (.cells #[.int .i64 1, .string xI] 102)
      have hd3 := hd2.set r2 (.cells #[.int .i64 1, .string xI] 102) (r2 + 1) (by omega) (by omega)
      refine app_tree (w := w) (p := (1, xI)) (ho2.fr (fun b o _ ho => hs3 b o ho)) (vl_sl (L := [Value.int .i64 ((1 : Nat) : Int), .string xI]) (hset_same _ _ _) rfl) (by omega) hd3 ?_
      intro a4 c4 h4 t4 ho4 ht4 hd4 hk4 how4
      have hrt := hd2 r _ hr2
      have hne3 : owner a1 ≠ some r := fun e => by have := hne2 r e; omega
      have hr4 : h4 r = some (.cells #[.slice a1 k c1] 100 (0, 0)) := by
        rw [hk4 r (by omega) hne3]
        exact hs3 r _ hr2
      have hne4 : ∀ b, owner a4 = some b → r < b := by
        intro b hb
        rcases how4 with e | ⟨b', e, hb'⟩
        · exact hne2 b (by rw [← e]; exact hb)
        · rw [e] at hb; cases hb; omega
      have hs4 : ∀ o, Sub h (hset h4 r o) := by
        intro o b x hb
        have hbt := hd b x hb
        rw [hset_ne _ _ (by omega), hk4 b (by have := hd2 b x (hs2 b x hb); omega) (fun e => by have := hne2 b e; omega)]
        exact hs3 b x (hs2 b x hb)
      have hT : l.take (i + 1) = l.take i ++ [xI] := by
        rw [Int.toNat_natCast] at hxI
        rw [List.take_add_one, hxI]; rfl
      have hC := hS2.push ndB emB xI
      rw [← hT] at hC
      conv => whnf
      repeat (first | ((with_reducible apply Go.Vc.ld_i); (focus ((repeat (first | with_reducible assumption | with_reducible exact Go.Vc.hset_same _ _ _ | with_reducible refine (Go.Vc.hset_ne _ _ (by omega)).trans ?_)); done)); (focus exact rfl); conv => whnf) | ((with_reducible apply Go.Vc.st_i); (focus ((repeat (first | with_reducible assumption | with_reducible exact Go.Vc.hset_same _ _ _ | with_reducible refine (Go.Vc.hset_ne _ _ (by omega)).trans ?_)); done)); (focus exact rfl); (focus exact rfl); (focus exact rfl); (conv => whnf); intro cA hcA; (first | (simp only [List.setIfInBounds_toArray, List.set_cons_succ, List.set_cons_zero] at hcA; subst hcA) | subst hcA); conv => whnf))
      refine loop_intro4 (fun (k : Nat) (a5 : Option Addr) (c5 : Nat) (w5 : List (Nat × ByteArray)) => [(3, .pointer (some ⟨r, 0, none⟩)), (4, .func (.func 52) #[] #[.pointer (some ⟨r, 0, none⟩)]), (13, .slice a n c), (14, .int .i64 (n : Nat)), (15, .int .i64 (i : Nat)), (7, .int .i64 (k : Nat))])
        (fun k a5 c5 w5 h' t' => r + 1 ≤ t' ∧ k ≤ i + 1 ∧ Stack h' r k a5 c5 w5 ∧ StC ndB emB w5 (l.take (i + 1)) ∧ Sub h h') (fun k _ _ _ => k) (k + 1) a4 c4 (w ++ [(1, xI)]) ⟨rfl, rfl, rfl, rfl, rfl, rfl, trivial⟩
        ⟨by omega, by omega, ⟨hset_same _ _ _, ho4.fr (fun b o hb ho => by rw [hset_ne _ _ (by have := hne4 b hb; omega)]; exact ho), by simp [hk2], hne4⟩, hC, hs4 _⟩ ?_
      rintro k5 a5 c5 w5 g5 h5 t5 hd5 ⟨ht5, hk5, ⟨hr5, ho5, hkw5, hne5⟩, hC5, hs5⟩
      have hsl5 : Sl h5 a5 (k5 * 2) id (w5.flatMap (two trF trG)) := ho5.sl
      refine Go.Vc.draw_intro [⟨0, false, false, false, 0⟩, ⟨1, false, false, false, 1⟩, ⟨2, false, false, false, 3⟩, ⟨3, false, false, false, 7⟩, ⟨4, false, false, false, 7⟩, ⟨5, false, false, false, 23⟩, ⟨6, false, false, false, 63⟩, ⟨7, false, false, false, 127⟩, ⟨8, false, false, false, 255⟩, ⟨9, false, false, false, 7⟩, ⟨10, false, false, false, 7⟩, ⟨11, false, false, false, 1031⟩, ⟨12, false, false, false, 3591⟩, ⟨13, false, false, false, 7687⟩, ⟨14, false, false, false, 15879⟩, ⟨15, false, false, false, 32767⟩, ⟨16, false, false, false, 65535⟩] (hs := h5) (hsub := (Sub.refl _)) (hm := by kernel_rfl) (hpl := by kernel_rfl) ?_
      conv => whnf
      conv => whnf
      refine br (fun hb3 => ?_) (fun hb3 => ?_)
      · obtain ⟨k0, rfl⟩ : ∃ k0, k5 = k0 + 2 := ⟨k5 - 2, by omega⟩
        obtain ⟨v, p, q, rfl, hv⟩ := two_of hkw5
        have g0 : ∀ y, (v ++ [p, q])[(((k0 + 2 : Nat) : Int) - 2).toNat]? = some y → p = y := by
          intro y hy
          rw [show (((k0 + 2 : Nat) : Int) - 2).toNat = v.length by omega] at hy
          simpa using hy
        have g1 : ∀ y, (v ++ [p, q])[(((k0 + 2 : Nat) : Int) - 1).toNat]? = some y → q = y := by
          intro y hy
          rw [show (((k0 + 2 : Nat) : Int) - 1).toNat = v.length + 1 by omega] at hy
          simpa using hy
        conv => whnf
        repeat (first | ((with_reducible apply Go.Vc.sl2_ix); (focus with_reducible assumption); (focus exact And.intro (by omega) (by omega)); intro xI bI offI hxI hcI hcJ; conv => whnf) | ((with_reducible apply Go.Vc.ld_i); (focus ((repeat (first | with_reducible assumption | with_reducible exact Go.Vc.hset_same _ _ _ | with_reducible refine (Go.Vc.hset_ne _ _ (by omega)).trans ?_)); done)); (focus exact rfl); conv => whnf) | ((with_reducible apply Go.Vc.cell_i); (focus assumption); conv => whnf) | ((with_reducible apply Go.Vc.wr_i64); (focus exact And.intro (by omega) (by omega)); conv => whnf))
        have e := g0 _ hxI
        clear hxI
        subst e
        have e := g1 _ hxI
        clear hxI
        subst e
        conv => whnf
        obtain ⟨pa, px⟩ := p
        obtain ⟨qa, qx⟩ := q
        have hln : (l.take (i + 1)).length ≤ n := by rw [List.length_take]; omega
        have hbp := hC5.bd ndB emB (p := (pa, px)) (by simp) hM hE (fun x hx' => hx x (List.mem_of_mem_take hx'))
        have hbq := hC5.bd ndB emB (p := (qa, qx)) (by simp) hM hE (fun x hx' => hx x (List.mem_of_mem_take hx'))
        have hbp1 : pa ≤ (l.take (i + 1)).length := hbp.1
        have hbq1 : qa ≤ (l.take (i + 1)).length := hbq.1
        refine br (fun hb4 => ?_) (fun hb4 => ?_)
        · have hb5 : qa = pa := Int.ofNat.inj hb4
          subst hb5
          conv => whnf
          refine (join_spec hr5 ho5 hv (fun e => by have := hne5 r e; omega) (by omega) (by show qa + qa ≤ 1000000; omega) hbp.2 hbq.2).mono ?_
          rintro _ h6 t6 hd6 ht6 ⟨rfl, a6, c6, hr6, ho6, how6, hk6⟩
          conv => whnf
          repeat (first | ((with_reducible apply Go.Vc.ld_i); (focus ((repeat (first | with_reducible assumption | with_reducible exact Go.Vc.hset_same _ _ _ | with_reducible refine (Go.Vc.hset_ne _ _ (by omega)).trans ?_)); done)); (focus exact rfl); conv => whnf))
          refine round_end4 (k0 + 1) a6 c6 (v ++ [(qa + qa, ndB px qx)]) (by omega) ⟨rfl, rfl, rfl, rfl, rfl, rfl, trivial⟩ ⟨by omega, by omega, ⟨hr6, ho6, by simp [hv], ?_⟩, hC5.join ndB emB, ?_⟩
          · intro b hb
            rcases how6 with e | ⟨b', e, hb'⟩
            · exact hne5 b (by rw [← e]; exact hb)
            · rw [e] at hb; cases hb; omega
          · intro b o hb
            have hbt := hd b o hb
            exact hk6 b o (by omega) (fun e => by have := hne5 b e; omega) (hs5 b o hb)
        · conv => whnf
          repeat (first | ((with_reducible apply Go.Vc.wr_i64); (focus exact And.intro (by omega) (by omega)); conv => whnf))
          refine round_end5 (i + 1) (k0 + 2) a5 c5 (v ++ [(pa, px), (qa, qx)]) (by omega) ⟨rfl, rfl, rfl, rfl, rfl, trivial⟩ ⟨by omega, by omega, by omega, ⟨hr5, ho5, hkw5, hne5⟩, hC5.done ndB emB ?_, hs5⟩
          intro v' p' q' e
          have := List.append_inj_right' e rfl
          cases this
          intro e2
          exact hb4 (by rw [show pa = qa from e2])
      · conv => whnf
        repeat (first | ((with_reducible apply Go.Vc.wr_i64); (focus exact And.intro (by omega) (by omega)); conv => whnf))
        refine round_end5 (i + 1) k5 a5 c5 w5 (by omega) ⟨rfl, rfl, rfl, rfl, rfl, trivial⟩ ⟨by omega, by omega, by omega, ⟨hr5, ho5, hkw5, hne5⟩, hC5.done ndB emB ?_, hs5⟩
        intro v' p' q' e
        have := congrArg List.length e
        simp at this
        omega
    · have hi2 : i = n := by omega
      conv => whnf
      have hD := hS2.fin ndB emB (by rw [hi2, List.take_of_length_le (by omega)]; intro e; subst e; simp at hll; omega)
      rw [hi2, List.take_of_length_le (by omega)] at hD
      refine loop_intro4 (fun (k : Nat) (a5 : Option Addr) (c5 : Nat) (w5 : List (Nat × ByteArray)) => [(3, .pointer (some ⟨r, 0, none⟩)), (4, .func (.func 52) #[] #[.pointer (some ⟨r, 0, none⟩)])])
        (fun k a5 c5 w5 h' t' => r + 1 ≤ t' ∧ k ≤ n ∧ Stack h' r k a5 c5 w5 ∧ StD ndB emB w5 l ∧ Sub h h') (fun k _ _ _ => k) k a1 c1 w ⟨rfl, rfl, trivial⟩
        ⟨by omega, by omega, ⟨hr2, ho2, hk2, hne2⟩, hD, hs2⟩ ?_
      rintro k5 a5 c5 w5 g5 h5 t5 hd5 ⟨ht5, hk5, ⟨hr5, ho5, hkw5, hne5⟩, hC5, hs5⟩
      have hsl5 : Sl h5 a5 (k5 * 2) id (w5.flatMap (two trF trG)) := ho5.sl
      conv => whnf
      repeat (first | ((with_reducible apply Go.Vc.ld_i); (focus ((repeat (first | with_reducible assumption | with_reducible exact Go.Vc.hset_same _ _ _ | with_reducible refine (Go.Vc.hset_ne _ _ (by omega)).trans ?_)); done)); (focus exact rfl); conv => whnf))
      refine br (fun hb3 => ?_) (fun hb3 => ?_)
      · obtain ⟨k0, rfl⟩ : ∃ k0, k5 = k0 + 2 := ⟨k5 - 2, by omega⟩
        obtain ⟨v, p, q, rfl, hv⟩ := two_of hkw5
        obtain ⟨pa, px⟩ := p
        obtain ⟨qa, qx⟩ := q
        have hbp := hC5.bd ndB emB (p := (pa, px)) (by simp) hM hE hx
        have hbq := hC5.bd ndB emB (p := (qa, qx)) (by simp) hM hE hx
        have hbp1 : pa ≤ l.length := hbp.1
        have hbq1 : qa ≤ l.length := hbq.1
        conv => whnf
        refine (join_spec hr5 ho5 hv (fun e => by have := hne5 r e; omega) (by omega) (by show pa + qa ≤ 1000000; omega) hbp.2 hbq.2).mono ?_
        rintro _ h6 t6 hd6 ht6 ⟨rfl, a6, c6, hr6, ho6, how6, hk6⟩
        conv => whnf
        refine round_end4 (k0 + 1) a6 c6 (v ++ [(pa + qa, ndB px qx)]) (by omega) ⟨rfl, rfl, trivial⟩ ⟨by omega, by omega, ⟨hr6, ho6, by simp [hv], ?_⟩, hC5.join ndB emB, ?_⟩
        · intro b hb
          rcases how6 with e | ⟨b', e, hb'⟩
          · exact hne5 b (by rw [← e]; exact hb)
          · rw [e] at hb; cases hb; omega
        · intro b o hb
          have hbt := hd b o hb
          exact hk6 b o (by omega) (fun e => by have := hne5 b e; omega) (hs5 b o hb)
      · have h1 := hC5.ne
        have hk1 : k5 = 1 := by omega
        subst hk1
        obtain ⟨p, rfl⟩ := List.length_eq_one_iff.1 hkw5
        conv => whnf
        repeat (first | ((with_reducible apply Go.Vc.sl2_ix); (focus with_reducible assumption); (focus exact And.intro (by omega) (by omega)); intro xI bI offI hxI hcI hcJ; conv => whnf) | ((with_reducible apply Go.Vc.ld_i); (focus ((repeat (first | with_reducible assumption | with_reducible exact Go.Vc.hset_same _ _ _ | with_reducible refine (Go.Vc.hset_ne _ _ (by omega)).trans ?_)); done)); (focus exact rfl); conv => whnf) | ((with_reducible apply Go.Vc.cell_i); (focus assumption); conv => whnf))
        have e : p = xI := by simpa using hxI
        subst e
        exact ⟨by rw [← hC5.one ndB emB], hs5⟩
end Go.Proofs.YtlkpgjicpjjlcaaGreatDoor
