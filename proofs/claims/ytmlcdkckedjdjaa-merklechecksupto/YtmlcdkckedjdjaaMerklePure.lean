/- Merkle trees, without a program. -/
import Derived.Test.YtmlcdkckedjdjaaShaPure
namespace Go.Mk
open Go.Sha
set_option linter.unusedVariables false
abbrev B := ByteArray

/-- The greatest power of two below n. -/
def sp (n : Nat) : Nat := 2 ^ Nat.log2 (n - 1)
theorem sp_pos (n : Nat) : 1 ≤ sp n := Nat.pow_pos (by decide)
theorem sp_lt {n : Nat} (h : 2 ≤ n) : sp n < n := by
  have : sp n ≤ n - 1 := Nat.log2_self_le (by omega)
  omega
theorem sp_ge {n : Nat} (h : 2 ≤ n) : n ≤ 2 * sp n := by
  have : n - 1 < 2 ^ (Nat.log2 (n - 1) + 1) := Nat.lt_log2_self
  rw [Nat.pow_succ] at this
  unfold sp
  omega
theorem sp_of {n e : Nat} (h1 : 2 ^ e < n) (h2 : n ≤ 2 * 2 ^ e) : sp n = 2 ^ e := by
  unfold sp
  congr 1
  have hp : 0 < 2 ^ e := Nat.pow_pos (by decide)
  have h3 : (n - 1) ≠ 0 := by omega
  refine (Nat.log2_eq_iff h3).2 ⟨by omega, by rw [Nat.pow_succ]; omega⟩

variable (nd : B → B → B) (em : B)

/-- A tree's root. -/
def rt (l : List B) : B :=
  if h : l.length < 2 then l.headD em else nd (rt (l.take (sp l.length))) (rt (l.drop (sp l.length)))
termination_by l.length
decreasing_by
  · have := sp_lt (n := l.length) (by omega); rw [List.length_take]; omega
  · have := sp_lt (n := l.length) (by omega); have := sp_pos l.length; rw [List.length_drop]; omega
theorem rt_nil : rt nd em [] = em := by rw [rt]; simp
theorem rt_one (x : B) : rt nd em [x] = x := by rw [rt]; simp
theorem rt_two {l : List B} (h : 2 ≤ l.length) : rt nd em l = nd (rt nd em (l.take (sp l.length))) (rt nd em (l.drop (sp l.length))) := by
  rw [rt, dif_neg (by omega)]
theorem rt_app {a b : List B} {e : Nat} (ha : a.length = 2 ^ e) (hb : 1 ≤ b.length) (hb2 : b.length ≤ 2 ^ e) : rt nd em (a ++ b) = nd (rt nd em a) (rt nd em b) := by
  have hp : 0 < 2 ^ e := Nat.pow_pos (by decide)
  have hs : sp (a ++ b).length = a.length := by rw [List.length_append, ha]; exact sp_of (by omega) (by omega)
  rw [rt_two nd em (by rw [List.length_append]; omega), hs, List.take_left, List.drop_left]

/-- A tree's path to an entry, from below. -/
def inc (l : List B) (i : Nat) : List B :=
  if h : l.length < 2 then [] else
    if i < sp l.length then inc (l.take (sp l.length)) i ++ [rt nd em (l.drop (sp l.length))]
    else inc (l.drop (sp l.length)) (i - sp l.length) ++ [rt nd em (l.take (sp l.length))]
termination_by l.length
decreasing_by
  · have := sp_lt (n := l.length) (by omega); rw [List.length_take]; omega
  · have := sp_lt (n := l.length) (by omega); have := sp_pos l.length; rw [List.length_drop]; omega
theorem inc_lt {l : List B} {i : Nat} (h : 2 ≤ l.length) (hi : i < sp l.length) : inc nd em l i = inc nd em (l.take (sp l.length)) i ++ [rt nd em (l.drop (sp l.length))] := by
  rw [inc, dif_neg (by omega), if_pos hi]
theorem inc_ge {l : List B} {i : Nat} (h : 2 ≤ l.length) (hi : ¬ i < sp l.length) : inc nd em l i = inc nd em (l.drop (sp l.length)) (i - sp l.length) ++ [rt nd em (l.take (sp l.length))] := by
  rw [inc, dif_neg (by omega), if_neg hi]
theorem inc_one {l : List B} {i : Nat} (h : l.length < 2) : inc nd em l i = [] := by
  rw [inc, dif_pos h]
/-- The proof that a tree has grown, from below. -/
def con (l : List B) (m : Nat) (w : Bool) : List B :=
  if h : l.length ≤ m then (if w then [] else [rt nd em l]) else
    if hl : l.length < 2 then [] else
    if m ≤ sp l.length then con (l.take (sp l.length)) m w ++ [rt nd em (l.drop (sp l.length))]
    else con (l.drop (sp l.length)) (m - sp l.length) false ++ [rt nd em (l.take (sp l.length))]
termination_by l.length
decreasing_by
  · have := sp_lt (n := l.length) (by omega); rw [List.length_take]; omega
  · have := sp_lt (n := l.length) (by omega); have := sp_pos l.length; rw [List.length_drop]; omega
theorem con_ge {l : List B} {m : Nat} {w : Bool} (h : l.length ≤ m) : con nd em l m w = if w then [] else [rt nd em l] := by
  rw [con, dif_pos h]
theorem con_lo {l : List B} {m : Nat} {w : Bool} (h : m < l.length) (h2 : 2 ≤ l.length) (hk : m ≤ sp l.length) : con nd em l m w = con nd em (l.take (sp l.length)) m w ++ [rt nd em (l.drop (sp l.length))] := by
  rw [con, dif_neg (by omega), dif_neg (by omega), if_pos hk]
theorem con_hi {l : List B} {m : Nat} {w : Bool} (h : m < l.length) (h2 : 2 ≤ l.length) (hk : ¬ m ≤ sp l.length) : con nd em l m w = con nd em (l.drop (sp l.length)) (m - sp l.length) false ++ [rt nd em (l.take (sp l.length))] := by
  rw [con, dif_neg (by omega), dif_neg (by omega), if_neg hk]
/-- The way to an entry, from above: is it the right one? -/
def way (n i : Nat) : List Bool :=
  if h : n < 2 then [] else
    if i < sp n then false :: way (sp n) i else true :: way (n - sp n) (i - sp n)
termination_by n
decreasing_by
  · exact sp_lt (by omega)
  · have := sp_pos n; omega
theorem way_lt {n i : Nat} (h : 2 ≤ n) (hi : i < sp n) : way n i = false :: way (sp n) i := by
  rw [way, dif_neg (by omega), if_pos hi]
theorem way_ge {n i : Nat} (h : 2 ≤ n) (hi : ¬ i < sp n) : way n i = true :: way (n - sp n) (i - sp n) := by
  rw [way, dif_neg (by omega), if_neg hi]
theorem way_one {n i : Nat} (h : n < 2) : way n i = [] := by
  rw [way, dif_pos h]
/-- Up from a hash. -/
def up : List Bool → List B → B → B
  | t :: ts, p :: ps, x => up ts ps (if t then nd p x else nd x p)
  | _, _, x => x
def many (n m : Nat) (w : Bool) : Nat :=
  if h : n ≤ m then (if w then 0 else 1) else
    if hn : n < 2 then 0 else
    if m ≤ sp n then 1 + many (sp n) m w else 1 + many (n - sp n) (m - sp n) false
termination_by n
decreasing_by
  · exact sp_lt (by omega)
  · have := sp_pos n; omega
/-- Both roots that a proof makes (of the right length). -/
def both (old : B) (n m : Nat) (w : Bool) (p : List B) : B × B :=
  if h : n ≤ m then (if w then (old, old) else (p.headD em, p.headD em)) else
    if hn : n < 2 then (old, old) else
    if m ≤ sp n then ((both old (sp n) m w p.dropLast).1, nd (both old (sp n) m w p.dropLast).2 (p.getLastD em))
    else (nd (p.getLastD em) (both old (n - sp n) (m - sp n) false p.dropLast).1, nd (p.getLastD em) (both old (n - sp n) (m - sp n) false p.dropLast).2)
termination_by n
decreasing_by
  all_goals first | exact sp_lt (by omega) | (have := sp_pos n; omega)

theorem up_app (ts us : List Bool) : ∀ (ps qs : List B) (x : B), ts.length = ps.length → up nd (ts ++ us) (ps ++ qs) x = up nd us qs (up nd ts ps x) := by
  induction ts with
  | nil => intro ps qs x h; cases ps with
    | nil => rfl
    | cons p ps => simp at h
  | cons t ts ih => intro ps qs x h; cases ps with
    | nil => simp at h
    | cons p ps => simp only [List.cons_append, up]; exact ih _ _ _ (by simpa using h)

theorem up_drop {ts : List Bool} {ps : List B} {k : Nat} {t : Bool} {p x : B} (ht : ts[k]? = some t) (hp : ps[k]? = some p) : up nd (ts.drop k) (ps.drop k) x = up nd (ts.drop (k + 1)) (ps.drop (k + 1)) (if t then nd p x else nd x p) := by
  obtain ⟨h1, rfl⟩ := List.getElem?_eq_some_iff.1 ht
  obtain ⟨h2, rfl⟩ := List.getElem?_eq_some_iff.1 hp
  rw [List.drop_eq_getElem_cons h1, List.drop_eq_getElem_cons h2]
  rfl
theorem inc_way_length : ∀ (n : Nat) (l : List B) (i : Nat), l.length = n → (inc nd em l i).length = (way n i).length := by
  intro n
  induction n using Nat.strongRecOn with
  | ind n ih =>
    intro l i hl
    rw [inc, way]
    by_cases h : n < 2
    · rw [dif_pos (by omega), dif_pos h]; rfl
    · rw [dif_neg (by omega), dif_neg h, hl]
      have h1 := sp_lt (n := n) (by omega)
      have h2 := sp_pos n
      split
      · rw [List.length_append, ih (sp n) h1 _ _ (by rw [List.length_take]; omega)]; simp
      · rw [List.length_append, ih (n - sp n) (by omega) _ _ (by rw [List.length_drop]; omega)]; simp

theorem up_inc : ∀ (n : Nat) (l : List B) (i : Nat) (hl : l.length = n) (hi : i < l.length), up nd (way n i).reverse (inc nd em l i) l[i] = rt nd em l := by
  intro n
  induction n using Nat.strongRecOn with
  | ind n ih =>
    intro l i hl hi
    by_cases h : n < 2
    · rw [inc, dif_pos (by omega), way, dif_pos h]
      match l, hi, hl with
      | [x], hi, hl =>
        have : i = 0 := by simp at hi; omega
        subst this
        rw [rt_one]; rfl
      | [], hi, hl => simp at hi
      | a :: b :: r, hi, hl => simp at hl; omega
    · rw [inc, dif_neg (by omega), way, dif_neg h, hl]
      have h1 := sp_lt (n := n) (by omega)
      have h2 := sp_pos n
      rw [rt_two nd em (l := l) (by omega), hl]
      split
      · rw [List.reverse_cons]
        have hk : (l.take (sp n)).length = sp n := by rw [List.length_take]; omega
        rw [up_app _ _ _ _ _ _ (by rw [List.length_reverse, inc_way_length nd em _ _ _ hk])]
        have := ih (sp n) h1 (l.take (sp n)) i hk (by omega)
        rw [List.getElem_take] at this
        rw [this]; rfl
      · rw [List.reverse_cons]
        have hk : (l.drop (sp n)).length = n - sp n := by rw [List.length_drop]; omega
        rw [up_app _ _ _ _ _ _ (by rw [List.length_reverse, inc_way_length nd em _ _ _ hk])]
        have := ih (n - sp n) (by omega) (l.drop (sp n)) (i - sp n) hk (by omega)
        rw [List.getElem_drop] at this
        simp only [show sp n + (i - sp n) = i from by omega] at this
        rw [this]; rfl

theorem way_le : ∀ (d n i : Nat), n ≤ 2 ^ d → (way n i).length ≤ d := by
  intro d
  induction d with
  | zero => intro n i h; rw [way, dif_pos (by omega)]; simp
  | succ d ih =>
    intro n i h
    rw [way]
    by_cases h2 : n < 2
    · rw [dif_pos h2]; simp
    · rw [dif_neg h2]
      have h1 := sp_lt (n := n) (by omega)
      have h3 := sp_ge (n := n) (by omega)
      have h4 : sp n ≤ 2 ^ d := by
        have hlt : sp n < 2 ^ (d + 1) := by omega
        unfold sp at hlt ⊢
        have := (Nat.pow_lt_pow_iff_right (a := 2) (by decide)).1 hlt
        exact Nat.pow_le_pow_right (by decide) (by omega)
      split
      · have := ih (sp n) i h4; simp; omega
      · have := ih (n - sp n) (i - sp n) (by omega); simp; omega

theorem con_many : ∀ (n : Nat) (l : List B) (m : Nat) (w : Bool), l.length = n → (con nd em l m w).length = many n m w := by
  intro n
  induction n using Nat.strongRecOn with
  | ind n ih =>
    intro l m w hl
    rw [con, many]
    by_cases h : n ≤ m
    · rw [dif_pos (by omega), dif_pos h]; cases w <;> rfl
    · rw [dif_neg (by omega), dif_neg h, hl]
      by_cases h0 : n < 2
      · rw [dif_pos h0, dif_pos h0]; rfl
      · rw [dif_neg h0, dif_neg h0]
        have h1 := sp_lt (n := n) (by omega)
        have h2 := sp_pos n
        split
        · rw [List.length_append, ih (sp n) h1 _ _ _ (by rw [List.length_take]; omega)]; simp; omega
        · rw [List.length_append, ih (n - sp n) (by omega) _ _ _ (by rw [List.length_drop]; omega)]; simp; omega

theorem both_con : ∀ (n : Nat) (l : List B) (m : Nat) (w : Bool) (old : B), l.length = n → 1 ≤ m → m ≤ n → (w = true → old = rt nd em (l.take m)) →
    both nd em old n m w (con nd em l m w) = (rt nd em (l.take m), rt nd em l) := by
  intro n
  induction n using Nat.strongRecOn with
  | ind n ih =>
    intro l m w old hl hm hmn hw
    by_cases h : n ≤ m
    · rw [con, dif_pos (by omega), both, dif_pos h]
      have e : l.take m = l := List.take_of_length_le (by omega)
      rw [e] at hw ⊢
      cases w with
      | true => rw [hw rfl]; rfl
      | false => rfl
    · rw [con, dif_neg (by omega), both, dif_neg h, hl]
      rw [dif_neg (by omega), dif_neg (by omega)]
      have h1 := sp_lt (n := n) (by omega)
      have h2 := sp_pos n
      have h3 := sp_ge (n := n) (by omega)
      rw [rt_two nd em (l := l) (by omega), hl]
      split
      · rename_i hk
        have e : l.take m = (l.take (sp n)).take m := by rw [List.take_take]; congr 1; omega
        rw [List.dropLast_concat, List.getLastD_concat, ih (sp n) h1 (l.take (sp n)) m w old (by rw [List.length_take]; omega) hm hk (fun q => by rw [← e]; exact hw q), e]
      · rename_i hk
        rw [List.dropLast_concat, List.getLastD_concat, ih (n - sp n) (by omega) (l.drop (sp n)) (m - sp n) false old (by rw [List.length_drop]; omega) (by omega) (by omega) (fun q => by cases q)]
        have hsm : sp m = sp n := by
          show _ = 2 ^ _
          exact sp_of (by show sp n < m; omega) (by show m ≤ 2 * sp n; omega)
        have hlm : (l.take m).length = m := by rw [List.length_take]; omega
        rw [rt_two nd em (l := l.take m) (by omega), hlm, hsm, List.take_take, List.drop_take, Nat.min_eq_left (by omega)]

/-! The proof's use: from its head. -/
structure CS where
  before : B
  now : B
  rest : List B
  fits : Bool
def takeS (s : CS) : B × CS := match s.fits, s.rest with
  | true, p :: r => (p, { s with rest := r })
  | _, _ => (ByteArray.empty, { s with fits := false })
def climb (n m : Nat) (w : Bool) (s : CS) : CS :=
  if h : n ≤ m then (if w then s else { (takeS s).2 with before := (takeS s).1, now := (takeS s).1 }) else
    if hn : n < 2 then s else
    if m ≤ sp n then { (takeS (climb (sp n) m w s)).2 with now := nd (climb (sp n) m w s).now (takeS (climb (sp n) m w s)).1 }
    else { (takeS (climb (n - sp n) (m - sp n) false s)).2 with
      before := nd (takeS (climb (n - sp n) (m - sp n) false s)).1 (climb (n - sp n) (m - sp n) false s).before
      now := nd (takeS (climb (n - sp n) (m - sp n) false s)).1 (climb (n - sp n) (m - sp n) false s).now }
termination_by n
decreasing_by
  all_goals first | exact sp_lt (by omega) | (have := sp_pos n; omega)
theorem climb_ge {n m : Nat} {w : Bool} {s : CS} (h : n ≤ m) : climb nd n m w s = if w then s else { (takeS s).2 with before := (takeS s).1, now := (takeS s).1 } := by
  rw [climb, dif_pos h]
theorem climb_lo {n m : Nat} {w : Bool} {s : CS} (h : m < n) (h2 : 2 ≤ n) (hk : m ≤ sp n) : climb nd n m w s = { (takeS (climb nd (sp n) m w s)).2 with now := nd (climb nd (sp n) m w s).now (takeS (climb nd (sp n) m w s)).1 } := by
  rw [climb, dif_neg (by omega), dif_neg (by omega), if_pos hk]
theorem climb_hi {n m : Nat} {w : Bool} {s : CS} (h : m < n) (h2 : 2 ≤ n) (hk : ¬ m ≤ sp n) : climb nd n m w s = { (takeS (climb nd (n - sp n) (m - sp n) false s)).2 with
      before := nd (takeS (climb nd (n - sp n) (m - sp n) false s)).1 (climb nd (n - sp n) (m - sp n) false s).before
      now := nd (takeS (climb nd (n - sp n) (m - sp n) false s)).1 (climb nd (n - sp n) (m - sp n) false s).now } := by
  rw [climb, dif_neg (by omega), dif_neg (by omega), if_neg hk]
theorem takeS_before (s : CS) : (takeS s).2.before = s.before := by unfold takeS; split <;> rfl
theorem takeS_now (s : CS) : (takeS s).2.now = s.now := by unfold takeS; split <;> rfl
theorem takeS_size {s : CS} {M : Nat} (h : ∀ x ∈ s.rest, x.size ≤ M) : (takeS s).1.size ≤ M := by
  unfold takeS
  split
  · rename_i p r hp hr
    exact h p (by rw [hr]; simp)
  · exact Nat.zero_le _
theorem takeS_ok {s : CS} {p : B} {r : List B} (hf : s.fits = true) (hr : s.rest = p :: r) : takeS s = (p, { s with rest := r }) := by
  unfold takeS; rw [hf, hr]
theorem takeS_no {s : CS} (h : s.fits = false ∨ s.rest = []) : (takeS s).2.fits = false := by
  obtain ⟨b, n, r, f⟩ := s
  cases f <;> cases r <;> simp [takeS] at h ⊢
theorem climb_ok (old : B) : ∀ (n m : Nat) (w : Bool) (s : CS) (p r : List B), 1 ≤ m → m ≤ n → s.fits = true → s.rest = p ++ r → p.length = many n m w → s.before = old → s.now = old →
    climb nd n m w s = ⟨(both nd em old n m w p).1, (both nd em old n m w p).2, r, true⟩ := by
  intro n
  induction n using Nat.strongRecOn with
  | ind n ih =>
    intro m w s p r hm hmn hf hr hp hb hn
    rw [climb, both]
    rw [many] at hp
    by_cases h : n ≤ m
    · rw [dif_pos h] at hp
      rw [dif_pos h, dif_pos h]
      cases w with
      | true =>
        simp only [if_true] at hp ⊢
        have : p = [] := List.length_eq_zero_iff.1 hp
        subst this
        obtain ⟨b, nn, rr, ff⟩ := s
        simp only at hf hr hb hn
        simp [hf, hr, hb, hn]
      | false =>
        simp only [Bool.false_eq_true, if_false] at hp ⊢
        match p, hp with
        | [x], _ =>
          rw [takeS_ok hf hr]
          simp [hf]
    · rw [dif_neg h, dif_neg (by omega)] at hp
      rw [dif_neg h, dif_neg h, dif_neg (by omega), dif_neg (by omega)]
      have h1 := sp_lt (n := n) (by omega)
      have h2 := sp_pos n
      have hne : p ≠ [] := by intro e; subst e; split at hp <;> simp at hp <;> omega
      obtain ⟨p', x, rfl⟩ : ∃ p' x, p = p' ++ [x] := ⟨p.dropLast, p.getLast hne, (List.dropLast_concat_getLast hne).symm⟩
      rw [List.dropLast_concat, List.getLastD_concat]
      rw [List.append_assoc] at hr
      split
      · rename_i hk
        rw [if_pos hk] at hp
        rw [ih (sp n) h1 m w s p' ([x] ++ r) hm hk hf hr (by simp at hp; omega) hb hn]
        rfl
      · rename_i hk
        rw [if_neg hk] at hp
        rw [ih (n - sp n) (by omega) (m - sp n) false s p' ([x] ++ r) (by omega) (by omega) hf hr (by simp at hp; omega) hb hn]
        rfl
theorem climb_false : ∀ (n m : Nat) (w : Bool) (s : CS), s.fits = false → (climb nd n m w s).fits = false := by
  intro n
  induction n using Nat.strongRecOn with
  | ind n ih =>
    intro m w s hf
    rw [climb]
    split
    · split
      · exact hf
      · exact takeS_no (.inl hf)
    · split
      · exact hf
      · have h1 := sp_lt (n := n) (by omega)
        have h2 := sp_pos n
        split
        · exact takeS_no (.inl (ih (sp n) h1 m w s hf))
        · exact takeS_no (.inl (ih (n - sp n) (by omega) (m - sp n) false s hf))
theorem climb_short : ∀ (n m : Nat) (w : Bool) (s : CS), 1 ≤ m → m ≤ n → s.fits = true → s.before = s.now → s.rest.length < many n m w → (climb nd n m w s).fits = false := by
  intro n
  induction n using Nat.strongRecOn with
  | ind n ih =>
    intro m w s hm hmn hf hbn hr
    rw [climb]
    rw [many] at hr
    by_cases h : n ≤ m
    · rw [dif_pos h] at hr
      rw [dif_pos h]
      cases w with
      | true => simp at hr
      | false =>
        have : s.rest = [] := List.length_eq_zero_iff.1 (by simp at hr; simp [hr])
        exact takeS_no (.inr this)
    · rw [dif_neg h, dif_neg (by omega)] at hr
      rw [dif_neg h, dif_neg (by omega)]
      have h1 := sp_lt (n := n) (by omega)
      have h2 := sp_pos n
      split
      · rename_i hk
        rw [if_pos hk] at hr
        by_cases hl : s.rest.length < many (sp n) m w
        · exact takeS_no (.inl (ih (sp n) h1 m w s hm hk hf hbn hl))
        · have := climb_ok nd ByteArray.empty s.before (sp n) m w s s.rest [] hm hk hf (by simp) (by omega) rfl hbn.symm
          exact takeS_no (.inr (by rw [this]))
      · rename_i hk
        rw [if_neg hk] at hr
        by_cases hl : s.rest.length < many (n - sp n) (m - sp n) false
        · exact takeS_no (.inl (ih (n - sp n) (by omega) (m - sp n) false s (by omega) (by omega) hf hbn hl))
        · have := climb_ok nd ByteArray.empty s.before (n - sp n) (m - sp n) false s s.rest [] (by omega) (by omega) hf (by simp) (by omega) rfl hbn.symm
          exact takeS_no (.inr (by rw [this]))

/-! The stack of whole trees. -/
def fs (s : List B) : Nat × B := (s.length, rt nd em s)
def SC : Nat → List (List B) → Prop
  | _, [] => True
  | lo, s :: rs => (∃ e, s.length = 2 ^ e) ∧ lo ≤ s.length ∧ SC (s.length + 1) rs
def DR : Nat → List (List B) → Prop
  | _, [] => True
  | t, s :: rs => (∃ e, s.length = 2 ^ e) ∧ t ≤ s.length ∧ DR (t + s.length) rs
theorem SC_mono {a b : Nat} (h : a ≤ b) : ∀ {rs : List (List B)}, SC b rs → SC a rs
  | [], _ => trivial
  | _ :: _, ⟨h1, h2, h3⟩ => ⟨h1, Nat.le_trans h h2, h3⟩
theorem SC_jump {e : Nat} : ∀ {rs : List (List B)}, SC (2 ^ e + 1) rs → SC (2 ^ (e + 1)) rs
  | [], _ => trivial
  | s :: rs, ⟨⟨f, hf⟩, h2, h3⟩ => by
    refine ⟨⟨f, hf⟩, ?_, h3⟩
    rw [hf] at h2 ⊢
    have : e < f := (Nat.pow_lt_pow_iff_right (a := 2) (by decide)).1 (by omega)
    exact Nat.pow_le_pow_right (by decide) (by omega)
theorem SC_DR : ∀ {rs : List (List B)} {t : Nat}, SC (t + 1) rs → DR t rs
  | [], _, _ => trivial
  | s :: rs, t, ⟨⟨f, hf⟩, h2, h3⟩ => by
    refine ⟨⟨f, hf⟩, by omega, SC_DR ?_⟩
    rw [hf] at h3 h2 ⊢
    exact SC_mono (by rw [Nat.pow_succ]; omega) (SC_jump h3)
/-- Between two hashes: all sizes differ. -/
def StS (w : List (Nat × B)) (l : List B) : Prop := ∃ rs, w = (rs.map (fs nd em)).reverse ∧ l = rs.reverse.flatten ∧ SC 1 rs
/-- While one is carried. -/
def StC (w : List (Nat × B)) (l : List B) : Prop := ∃ s rs, w = ((s :: rs).map (fs nd em)).reverse ∧ l = (s :: rs).reverse.flatten ∧ (∃ e, s.length = 2 ^ e) ∧ SC s.length rs
/-- At the end. -/
def StD (w : List (Nat × B)) (l : List B) : Prop := ∃ s rs, w = ((s :: rs).map (fs nd em)).reverse ∧ l = (s :: rs).reverse.flatten ∧ 1 ≤ s.length ∧ DR s.length rs
theorem StS.nil : StS nd em [] [] := ⟨[], rfl, rfl, trivial⟩
theorem StS.push {w : List (Nat × B)} {l : List B} (h : StS nd em w l) (x : B) : StC nd em (w ++ [(1, x)]) (l ++ [x]) := by
  obtain ⟨rs, rfl, rfl, hs⟩ := h
  exact ⟨[x], rs, by simp [fs, rt_one], by simp, ⟨0, rfl⟩, hs⟩
theorem two_last {w : List (Nat × B)} {p q : Nat × B} {s : List B} {rs : List (List B)} (h : w ++ [p, q] = ((s :: rs).map (fs nd em)).reverse) :
    ∃ s1 r, rs = s1 :: r ∧ p = fs nd em s1 ∧ q = fs nd em s ∧ w = (r.map (fs nd em)).reverse := by
  have h2 := congrArg List.reverse h
  rw [List.reverse_reverse, List.reverse_append] at h2
  cases rs with
  | nil => simp at h2
  | cons s1 r =>
    simp only [List.reverse_cons, List.reverse_nil, List.nil_append, List.cons_append, List.map_cons, List.cons.injEq] at h2
    exact ⟨s1, r, rfl, h2.2.1, h2.1, by rw [← h2.2.2, List.reverse_reverse]⟩
theorem StC.join {w : List (Nat × B)} {a : Nat} {x y : B} {l : List B} (h : StC nd em (w ++ [(a, x), (a, y)]) l) : StC nd em (w ++ [(a + a, nd x y)]) l := by
  obtain ⟨s, rs, hw, rfl, ⟨e, he⟩, hs⟩ := h
  obtain ⟨s1, r, rfl, hp, hq, rfl⟩ := two_last nd em hw
  cases hq
  have h1 : s.length = s1.length := congrArg Prod.fst hp
  have h2 : x = rt nd em s1 := congrArg Prod.snd hp
  subst h2
  refine ⟨s1 ++ s, r, ?_, by simp, ⟨e + 1, by rw [List.length_append, Nat.pow_succ]; omega⟩, ?_⟩
  · have := rt_app nd em (a := s1) (b := s) (e := e) (by omega) (by have := Nat.pow_pos (n := e) (show 0 < 2 by decide); omega) (by omega)
    simp [fs, this, h1]
  · have h3 := hs.2.2
    rw [← h1, he] at h3
    have := SC_jump h3
    rw [List.length_append, ← h1, he, ← Nat.two_mul, ← Nat.pow_succ']
    exact this
theorem StC.done {w : List (Nat × B)} {l : List B} (h : StC nd em w l) (hd : ∀ v p q, w = v ++ [p, q] → p.1 ≠ q.1) : StS nd em w l := by
  obtain ⟨s, rs, rfl, rfl, ⟨e, he⟩, hs⟩ := h
  refine ⟨s :: rs, rfl, rfl, ⟨e, he⟩, by rw [he]; exact Nat.pow_pos (by decide), ?_⟩
  cases rs with
  | nil => trivial
  | cons s1 r =>
    have := hd (r.map (fs nd em)).reverse (fs nd em s1) (fs nd em s) (by simp)
    have h1 : s1.length ≠ s.length := this
    exact ⟨hs.1, by have := hs.2.1; omega, hs.2.2⟩
theorem StS.fin {w : List (Nat × B)} {l : List B} (h : StS nd em w l) (hl : l ≠ []) : StD nd em w l := by
  obtain ⟨rs, rfl, rfl, hs⟩ := h
  cases rs with
  | nil => exact absurd rfl hl
  | cons s r => exact ⟨s, r, rfl, rfl, hs.2.1, SC_DR hs.2.2⟩
theorem StD.join {w : List (Nat × B)} {a b : Nat} {x y : B} {l : List B} (h : StD nd em (w ++ [(a, x), (b, y)]) l) : StD nd em (w ++ [(a + b, nd x y)]) l := by
  obtain ⟨s, rs, hw, rfl, h0, hs⟩ := h
  obtain ⟨s1, r, rfl, hp, hq, rfl⟩ := two_last nd em hw
  cases hq; cases hp
  obtain ⟨⟨e, he⟩, h2, h3⟩ := hs
  refine ⟨s1 ++ s, r, ?_, by simp, by rw [List.length_append]; omega, by rw [List.length_append, Nat.add_comm]; exact h3⟩
  have := rt_app nd em (a := s1) (b := s) (e := e) he h0 (by omega)
  simp [fs, this]
theorem StD.one {p : Nat × B} {l : List B} (h : StD nd em [p] l) : p.2 = rt nd em l := by
  obtain ⟨s, rs, hw, rfl, h0, hs⟩ := h
  have h2 := congrArg List.reverse hw
  rw [List.reverse_reverse] at h2
  cases rs with
  | nil => simp at h2; subst h2; simp [fs]
  | cons a r => simp at h2
theorem flatten_len {rs : List (List B)} {s : List B} (h : s ∈ rs) : s.length ≤ rs.flatten.length := by
  induction rs with
  | nil => cases h
  | cons a r ih =>
    rw [List.flatten_cons, List.length_append]
    rcases List.mem_cons.1 h with rfl | h
    · omega
    · have := ih h; omega
theorem rt_size {M : Nat} (hn : ∀ a b, (nd a b).size ≤ M) (he : em.size ≤ M) : ∀ (n : Nat) (l : List B), l.length = n → (∀ x ∈ l, x.size ≤ M) → (rt nd em l).size ≤ M := by
  intro n
  intro l hl hx
  by_cases h : 2 ≤ l.length
  · rw [rt_two nd em h]; exact hn _ _
  · match l, h with
    | [], _ => rw [rt_nil]; exact he
    | [x], _ => rw [rt_one]; exact hx x (by simp)
    | _ :: _ :: _, h => simp at h
theorem seg_bd {rs : List (List B)} {p : Nat × B} {M : Nat} (hp : p ∈ (rs.map (fs nd em)).reverse) (hn : ∀ a b, (nd a b).size ≤ M) (he : em.size ≤ M) (hM : ∀ x ∈ rs.reverse.flatten, x.size ≤ M) : p.1 ≤ rs.reverse.flatten.length ∧ p.2.size ≤ M := by
  rw [List.mem_reverse, List.mem_map] at hp
  obtain ⟨s, hs, rfl⟩ := hp
  have hs2 : s ∈ rs.reverse := List.mem_reverse.2 hs
  exact ⟨flatten_len hs2, rt_size nd em hn he _ s rfl (fun x hx => hM x (List.mem_flatten.2 ⟨s, hs2, hx⟩))⟩
theorem StC.bd {w : List (Nat × B)} {l : List B} {p : Nat × B} {M : Nat} (h : StC nd em w l) (hp : p ∈ w) (hn : ∀ a b, (nd a b).size ≤ M) (he : em.size ≤ M) (hM : ∀ x ∈ l, x.size ≤ M) : p.1 ≤ l.length ∧ p.2.size ≤ M := by
  obtain ⟨s, rs, rfl, rfl, _⟩ := h
  exact seg_bd nd em hp hn he hM
theorem StD.bd {w : List (Nat × B)} {l : List B} {p : Nat × B} {M : Nat} (h : StD nd em w l) (hp : p ∈ w) (hn : ∀ a b, (nd a b).size ≤ M) (he : em.size ≤ M) (hM : ∀ x ∈ l, x.size ≤ M) : p.1 ≤ l.length ∧ p.2.size ≤ M := by
  obtain ⟨s, rs, rfl, rfl, _⟩ := h
  exact seg_bd nd em hp hn he hM
theorem StD.ne {w : List (Nat × B)} {l : List B} (h : StD nd em w l) : 1 ≤ w.length := by
  obtain ⟨s, rs, rfl, _⟩ := h
  simp
theorem two_of {α : Type} {w : List α} {k : Nat} (h : w.length = k + 2) : ∃ v p q, w = v ++ [p, q] ∧ v.length = k := by
  refine ⟨w.take k, w[k], w[k + 1], ?_, by rw [List.length_take]; omega⟩
  conv => lhs; rw [← List.take_append_drop k w]
  congr 1
  rw [List.drop_eq_getElem_cons (by omega), List.drop_eq_getElem_cons (by omega), List.drop_eq_nil_of_le (by omega)]
end Go.Mk
