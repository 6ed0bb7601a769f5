import Derived.KernelRfl
set_option linter.unusedVariables false
set_option linter.unusedSimpArgs false
namespace Go.Huf
def good (k : Int) : Bool := decide (0 ≤ k) && decide (k ≤ 15)
def w (k : Int) : Int := if 0 < k then 2 ^ (15 - k).toNat else 0
def wsum (l : List Int) : Int := (l.map w).sum
def cnt (l : List Int) (s : Nat) : Int := ((l.countP (fun k : Int => decide (k = (s : Int))) : Nat) : Int)
def nx (l : List Int) : Nat → Int
  | 0 => 0
  | 1 => 0
  | s + 2 => (nx l (s + 1) + cnt l (s + 1)) * 2
def codeAt (l : List Int) (i : Nat) : Int := let k := l.getD i 0; if 0 < k then nx l k.toNat + cnt (l.take i) k.toNat else 0
def codes (l : List Int) : List Int := (List.range l.length).map (codeAt l)
def err (l : List Int) : Int := if l.length > 300 then 1 else if l.all good = false then 1 else if wsum l > 32768 then 2 else 0
def errN (l : List Int) : Int := if err l ≠ 0 then err l else if wsum l ≠ 0 ∧ wsum l ≠ 32768 ∧ l.sum ≠ 1 then 2 else 0
theorem all_take {l : List Int} (p : Int → Bool) {i : Nat} {x : Int} (hx : l[i]? = some x) : (l.take (i + 1)).all p = ((l.take i).all p && p x) := by
  rw [List.take_add_one, hx]; simp
theorem wsum_take {l : List Int} {i : Nat} {x : Int} (hx : l[i]? = some x) : wsum (l.take (i + 1)) = wsum (l.take i) + w x := by
  rw [List.take_add_one, hx]; simp [wsum]
theorem cnt_take {l : List Int} {i : Nat} {x : Int} (hx : l[i]? = some x) (s : Nat) : cnt (l.take (i + 1)) s = cnt (l.take i) s + if x = s then 1 else 0 := by
  rw [List.take_add_one, hx]
  simp only [cnt, List.countP_append, Option.toList_some, List.countP_cons, List.countP_nil, decide_eq_true_eq]
  split <;> simp
theorem w_range {k : Int} (h : good k = true) : 0 ≤ w k ∧ w k ≤ 16384 := by
  simp only [good, Bool.and_eq_true, decide_eq_true_eq] at h
  have : k = 0 ∨ k = 1 ∨ k = 2 ∨ k = 3 ∨ k = 4 ∨ k = 5 ∨ k = 6 ∨ k = 7 ∨ k = 8 ∨ k = 9 ∨ k = 10 ∨ k = 11 ∨ k = 12 ∨ k = 13 ∨ k = 14 ∨ k = 15 := by omega
  rcases this with rfl|rfl|rfl|rfl|rfl|rfl|rfl|rfl|rfl|rfl|rfl|rfl|rfl|rfl|rfl|rfl <;> decide
theorem wsum_range (l : List Int) : l.all good = true → 0 ≤ wsum l ∧ wsum l ≤ 16384 * l.length := by
  induction l with
  | nil => intro _; simp [wsum]
  | cons x l ih =>
    intro h
    simp only [List.all_cons, Bool.and_eq_true] at h
    have h1 := ih h.2
    have h2 := w_range h.1
    simp only [wsum, List.map_cons, List.sum_cons, List.length_cons] at *
    omega
theorem cnt_range (l : List Int) (s : Nat) : 0 ≤ cnt l s ∧ cnt l s ≤ l.length := by
  unfold cnt
  have := List.countP_le_length (p := fun k : Int => decide (k = (s : Int))) (l := l)
  omega
theorem nx_range (l : List Int) (s : Nat) : 0 ≤ nx l s ∧ nx l s + 2 * l.length ≤ 2 * l.length * 2 ^ s := by
  induction s with
  | zero => simp [nx]
  | succ s ih =>
    cases s with
    | zero => simp only [nx]; omega
    | succ s =>
      have h := cnt_range l (s + 1)
      rw [nx, Int.pow_succ]
      generalize (2 : Int) ^ (s + 1) = z at *
      generalize (l.length : Int) = n at *
      have : 2 * n * (z * 2) = (2 * n * z) * 2 := by rw [← Int.mul_assoc]
      rw [this]
      omega
theorem nx_le (l : List Int) (hl : l.length ≤ 300) {s : Nat} (hs : s ≤ 16) : 0 ≤ nx l s ∧ nx l s ≤ 39321600 := by
  have h := nx_range l s
  have h2 : (2 : Int) ^ s ≤ 2 ^ 16 := by
    have := Nat.pow_le_pow_right (n := 2) (by omega) hs
    exact_mod_cast this
  have h3 : 2 * (l.length : Int) * 2 ^ s ≤ 600 * 2 ^ 16 := Int.mul_le_mul (by omega) h2 (Int.pow_nonneg (by omega)) (by omega)
  omega
theorem codes_length (l : List Int) : (codes l).length = l.length := by simp [codes]
theorem codes_get {l : List Int} {i : Nat} (h : i < l.length) : (codes l)[i]? = some (codeAt l i) := by simp [codes, h]
theorem good_iff {k : Int} : good k = true ↔ 0 ≤ k ∧ k ≤ 15 := by simp [good]
end Go.Huf
set_option linter.unusedSimpArgs false
namespace Go.Huf
set_option linter.unusedVariables false
abbrev Nd := Int × Nat
def ahead (a b : Nd) : Prop := a.1 < b.1 ∨ (a.1 = b.1 ∧ a.2 < b.2)
instance (a b : Nd) : Decidable (ahead a b) := by unfold ahead; infer_instance
theorem ahead_trans {a b c : Nd} (h : ahead a b) (h' : ahead b c) : ahead a c := by unfold ahead at *; omega
theorem ahead_irr {a : Nd} : ¬ ahead a a := by unfold ahead; omega
theorem ahead_total {a b : Nd} (h : a.2 ≠ b.2) : ahead a b ∨ ahead b a := by unfold ahead; omega
def ins (x : Nd) : List Nd → List Nd
  | [] => [x]
  | y :: r => if ahead y x then y :: ins x r else x :: y :: r
theorem ins_len (x : Nd) (l : List Nd) : (ins x l).length = l.length + 1 := by
  induction l with
  | nil => rfl
  | cons y r ih => unfold ins; split <;> simp [ih]
theorem ins_perm (x : Nd) (l : List Nd) : (ins x l).Perm (x :: l) := by
  induction l with
  | nil => exact .refl _
  | cons y r ih =>
    unfold ins; split
    · exact (List.Perm.cons y ih).trans (List.Perm.swap x y r)
    · exact .refl _
theorem ins_mem {x y : Nd} {l : List Nd} : y ∈ ins x l ↔ y = x ∨ y ∈ l := by rw [(ins_perm x l).mem_iff]; simp
def Srt (l : List Nd) : Prop := l.Pairwise ahead
theorem ins_srt {x : Nd} {l : List Nd} (h : Srt l) (hx : ∀ y ∈ l, y.2 ≠ x.2) : Srt (ins x l) := by
  induction l with
  | nil => simp [ins, Srt]
  | cons y r ih =>
    unfold Srt at h
    rw [List.pairwise_cons] at h
    unfold ins; split
    · rename_i hy
      refine List.pairwise_cons.2 ⟨fun z hz => ?_, ih h.2 (fun z hz => hx z (by simp [hz]))⟩
      rcases ins_mem.1 hz with rfl | hz
      · exact hy
      · exact h.1 z hz
    · rename_i hy
      have hxy : ahead x y := (ahead_total (hx y (by simp))).resolve_left hy
      refine List.pairwise_cons.2 ⟨fun z hz => ?_, List.pairwise_cons.2 h⟩
      rcases List.mem_cons.1 hz with rfl | hz
      · exact hxy
      · exact ahead_trans hxy (h.1 z hz)
theorem srt_unique {l l' : List Nd} (h : Srt l) (h' : Srt l') (hp : l.Perm l') : l = l' :=
  List.Perm.eq_of_pairwise (le := ahead) (fun a b _ _ h1 h2 => absurd (ahead_trans h1 h2) ahead_irr) h h' hp
def dep : Nat → List Nd → Nat → Nat → Nat
  | k + 1, a :: b :: r, nx => fun v => if v = a.2 ∨ v = b.2 then dep k (ins (a.1 + b.1, nx) r) (nx + 1) nx + 1 else dep k (ins (a.1 + b.1, nx) r) (nx + 1) v
  | _, _, _ => fun _ => 0
theorem dep_step (k : Nat) (a b : Nd) (r : List Nd) (nx v : Nat) : dep (k + 1) (a :: b :: r) nx v = if v = a.2 ∨ v = b.2 then dep k (ins (a.1 + b.1, nx) r) (nx + 1) nx + 1 else dep k (ins (a.1 + b.1, nx) r) (nx + 1) v := rfl
structure Ok (W : List Nd) (nx : Nat) : Prop where
  srt : Srt W
  lt : ∀ x ∈ W, x.2 < nx
  pos : ∀ x ∈ W, 0 < x.1
theorem Srt.ne {W : List Nd} (h : Srt W) : W.Pairwise (fun a b => a.1 ≤ b.1) := h.imp (fun {a b} h => by unfold ahead at h; omega)
theorem Ok.step {a b : Nd} {r : List Nd} {nx : Nat} (h : Ok (a :: b :: r) nx) : Ok (ins (a.1 + b.1, nx) r) (nx + 1) := by
  have h1 := List.pairwise_cons.1 h.srt
  have h2 := List.pairwise_cons.1 h1.2
  refine ⟨ins_srt h2.2 (fun y hy => by have := h.lt y (by simp [hy]); simp; omega), fun x hx => ?_, fun x hx => ?_⟩
  · rcases ins_mem.1 hx with rfl | hx
    · simp
    · have := h.lt x (by simp [hx]); omega
  · rcases ins_mem.1 hx with rfl | hx
    · have := h.pos a (by simp); have := h.pos b (by simp); simp; omega
    · exact h.pos x (by simp [hx])
theorem Ok.two {a b : Nd} {r : List Nd} {nx : Nat} (h : Ok (a :: b :: r) nx) : ahead a b ∧ (∀ x ∈ r, ahead a x) ∧ (∀ x ∈ r, ahead b x) ∧ Srt r := by
  have h1 := List.pairwise_cons.1 h.srt
  have h2 := List.pairwise_cons.1 h1.2
  exact ⟨h1.1 b (by simp), fun x hx => h1.1 x (by simp [hx]), h2.1, h2.2⟩
def Nums (W : List Nd) : Prop := (W.map (·.2)).Nodup
theorem Nums.step {a b : Nd} {r : List Nd} {nx : Nat} (h : Nums (a :: b :: r)) (hl : ∀ x ∈ a :: b :: r, x.2 < nx) : Nums (ins (a.1 + b.1, nx) r) := by
  unfold Nums at *
  have hp := (ins_perm (a.1 + b.1, nx) r).map (·.2)
  rw [hp.nodup_iff]
  simp only [List.map_cons, List.nodup_cons] at h ⊢
  refine ⟨fun hm => ?_, h.2.2⟩
  obtain ⟨x, hx, hxe⟩ := List.mem_map.1 hm
  have := hl x (by simp [hx])
  omega
theorem dep_le : ∀ (k : Nat) (W : List Nd) (nx v : Nat), dep k W nx v ≤ k := by
  intro k
  induction k with
  | zero => intro W nx v; exact Nat.le_refl _
  | succ k ih =>
    intro W nx v
    match W with
    | [] => simp [dep]
    | [_] => simp [dep]
    | a :: b :: r =>
      rw [dep_step]
      have h1 := ih (ins (a.1 + b.1, nx) r) (nx + 1) nx
      have h2 := ih (ins (a.1 + b.1, nx) r) (nx + 1) v
      split <;> omega
def kraft (top : Nat) (f : Nat → Nat) (W : List Nd) : Nat := (W.map fun x => 2 ^ (top - f x.2)).sum
theorem kraft_perm {top : Nat} {f : Nat → Nat} {W W' : List Nd} (h : W.Perm W') : kraft top f W = kraft top f W' := (h.map _).sum_nat
theorem kraft_congr {top : Nat} {f g : Nat → Nat} {W : List Nd} (h : ∀ x ∈ W, f x.2 = g x.2) : kraft top f W = kraft top g W := by
  unfold kraft; congr 1
  exact List.map_congr_left (fun x hx => by rw [h x hx])
theorem kraft_dep : ∀ (k : Nat) (W : List Nd) (nx top : Nat), W.length = k + 1 → Nums W → (∀ x ∈ W, x.2 < nx) → (∀ x ∈ W, dep k W nx x.2 ≤ top) → kraft top (dep k W nx) W = 2 ^ top := by
  intro k
  induction k with
  | zero =>
    intro W nx top hl _ _ _
    match W, hl with
    | [x], _ => simp [kraft, dep]
  | succ k ih =>
    intro W nx top hl hn hlt hd
    match W, hl with
    | a :: b :: r, hl =>
      have hl' : (ins (a.1 + b.1, nx) r).length = k + 1 := by rw [ins_len]; simp at hl; omega
      have hn' := hn.step hlt
      have hlt' : ∀ x ∈ ins (a.1 + b.1, nx) r, x.2 < nx + 1 := by
        intro x hx
        rcases ins_mem.1 hx with rfl | hx
        · simp
        · have := hlt x (by simp [hx]); omega
      have hnum := hn
      unfold Nums at hnum
      simp only [List.map_cons, List.nodup_cons, List.mem_cons, not_or] at hnum
      have hr : ∀ x ∈ r, dep (k + 1) (a :: b :: r) nx x.2 = dep k (ins (a.1 + b.1, nx) r) (nx + 1) x.2 := by
        intro x hx
        rw [dep_step, if_neg]
        rintro (h | h)
        · exact hnum.1.2 (List.mem_map.2 ⟨x, hx, h⟩)
        · exact hnum.2.1 (List.mem_map.2 ⟨x, hx, h⟩)
      have ha : dep (k + 1) (a :: b :: r) nx a.2 = dep k (ins (a.1 + b.1, nx) r) (nx + 1) nx + 1 := by rw [dep_step, if_pos (.inl rfl)]
      have hb : dep (k + 1) (a :: b :: r) nx b.2 = dep k (ins (a.1 + b.1, nx) r) (nx + 1) nx + 1 := by rw [dep_step, if_pos (.inr rfl)]
      have hda := hd a (by simp)
      rw [ha] at hda
      have hd' : ∀ x ∈ ins (a.1 + b.1, nx) r, dep k (ins (a.1 + b.1, nx) r) (nx + 1) x.2 ≤ top := by
        intro x hx
        rcases ins_mem.1 hx with rfl | hx
        · show dep k _ (nx + 1) nx ≤ top; omega
        · rw [← hr x hx]; exact hd x (by simp [hx])
      have key := ih _ (nx + 1) top hl' hn' hlt' hd'
      rw [kraft_perm (ins_perm _ _)] at key
      have e1 : kraft top (dep (k + 1) (a :: b :: r) nx) r = kraft top (dep k (ins (a.1 + b.1, nx) r) (nx + 1)) r := kraft_congr hr
      have e2 : 2 ^ (top - dep k (ins (a.1 + b.1, nx) r) (nx + 1) nx) = 2 ^ (top - (dep k (ins (a.1 + b.1, nx) r) (nx + 1) nx + 1)) + 2 ^ (top - (dep k (ins (a.1 + b.1, nx) r) (nx + 1) nx + 1)) := by
        rw [show top - dep k (ins (a.1 + b.1, nx) r) (nx + 1) nx = top - (dep k (ins (a.1 + b.1, nx) r) (nx + 1) nx + 1) + 1 by omega, Nat.pow_succ]; omega
      unfold kraft at *
      simp only [List.map_cons, List.sum_cons] at key ⊢
      rw [ha, hb, e1]
      omega
def Two : List Nd → Nd → Prop
  | a :: b :: _, x => x.1 ≤ a.1 + b.1
  | _, _ => True
theorem two_of_low {W : List Nd} {lo : Int} {x : Nd} (h : ∀ y ∈ W, lo ≤ y.1) (hx : x.1 ≤ lo + lo) : Two W x := by
  match W with
  | [] => trivial
  | [_] => trivial
  | a :: b :: r =>
    have := h a (by simp)
    have := h b (by simp)
    show x.1 ≤ a.1 + b.1
    omega
theorem step_facts {a b : Nd} {r : List Nd} {nx : Nat} (h : Ok (a :: b :: r) nx) : a.1 ≤ b.1 ∧ (∀ y ∈ ins (a.1 + b.1, nx) r, b.1 ≤ y.1) := by
  obtain ⟨h1, h2, h3, h4⟩ := h.two
  have ha := h.pos a (by simp)
  refine ⟨by unfold ahead at h1; omega, fun y hy => ?_⟩
  rcases ins_mem.1 hy with rfl | hy
  · show b.1 ≤ a.1 + b.1; omega
  · have := h3 y hy; unfold ahead at this; omega
theorem dep_rest {k : Nat} {a b : Nd} {r : List Nd} {nx : Nat} (hn : Nums (a :: b :: r)) {x : Nd} (hx : x ∈ r) : dep (k + 1) (a :: b :: r) nx x.2 = dep k (ins (a.1 + b.1, nx) r) (nx + 1) x.2 := by
  unfold Nums at hn
  simp only [List.map_cons, List.nodup_cons, List.mem_cons, not_or] at hn
  rw [dep_step, if_neg]
  rintro (h | h)
  · exact hn.1.2 (List.mem_map.2 ⟨x, hx, h⟩)
  · exact hn.2.1 (List.mem_map.2 ⟨x, hx, h⟩)
def Bal (W : List Nd) : Prop := ∀ x ∈ W, Two W x
theorem ins_end {x : Nd} {l : List Nd} (h : ∀ y ∈ l, ahead y x) : ins x l = l ++ [x] := by
  induction l with
  | nil => rfl
  | cons y r ih =>
    unfold ins
    rw [if_pos (h y (by simp)), ih (fun z hz => h z (by simp [hz]))]; rfl
theorem Bal.step {a b : Nd} {r : List Nd} {nx : Nat} (hb : Bal (a :: b :: r)) (hok : Ok (a :: b :: r) nx) : ins (a.1 + b.1, nx) r = r ++ [(a.1 + b.1, nx)] ∧ Bal (ins (a.1 + b.1, nx) r) := by
  obtain ⟨hab, hlow⟩ := step_facts hok
  refine ⟨ins_end (fun y hy => ?_), fun x hx => ?_⟩
  · have h1 : y.1 ≤ a.1 + b.1 := hb y (by simp [hy])
    have h2 := hok.lt y (by simp [hy])
    unfold ahead
    show y.1 < a.1 + b.1 ∨ (y.1 = a.1 + b.1 ∧ y.2 < nx)
    omega
  · refine two_of_low hlow ?_
    rcases ins_mem.1 hx with rfl | hx
    · show a.1 + b.1 ≤ _; omega
    · have h1 : x.1 ≤ a.1 + b.1 := hb x (by simp [hx])
      omega
theorem bal_dep : ∀ (m : Nat) (W : List Nd) (nx e : Nat), W.length = m + 1 → Ok W nx → Nums W → Bal W → 2 ^ e ≤ m + 1 → m + 1 < 2 ^ (e + 1) → ∀ (i : Nat) (x : Nd), W[i]? = some x → dep m W nx x.2 = if i < 2 * (m + 1 - 2 ^ e) then e + 1 else e := by
  intro m
  induction m with
  | zero =>
    intro W nx e hl _ _ _ h1 h2 i x hx
    have he : e = 0 := by
      rcases Nat.eq_zero_or_pos e with h | h
      · exact h
      · have := Nat.pow_le_pow_right (n := 2) (by omega) h
        omega
    subst he
    simp [dep]
  | succ m ih =>
    intro W nx e hl hok hn hb h1 h2 i x hx
    match W, hl with
    | a :: b :: r, hl =>
      have hl' : (ins (a.1 + b.1, nx) r).length = m + 1 := by rw [ins_len]; simp at hl; omega
      obtain ⟨hend, hb'⟩ := hb.step hok
      have hrl : r.length = m := by simp at hl; omega
      have hplast : (ins (a.1 + b.1, nx) r)[m]? = some (a.1 + b.1, nx) := by rw [hend, ← hrl]; simp
      have ha : dep (m + 1) (a :: b :: r) nx a.2 = dep m (ins (a.1 + b.1, nx) r) (nx + 1) nx + 1 := by rw [dep_step, if_pos (.inl rfl)]
      have hbd : dep (m + 1) (a :: b :: r) nx b.2 = dep m (ins (a.1 + b.1, nx) r) (nx + 1) nx + 1 := by rw [dep_step, if_pos (.inr rfl)]
      have hp1 : 2 ^ (e + 1) = 2 * 2 ^ e := by rw [Nat.pow_succ]; omega
      have hpos : 1 ≤ 2 ^ e := Nat.pow_pos (by omega)
      have hrest : ∀ j, i = j + 2 → (ins (a.1 + b.1, nx) r)[j]? = some x ∧ dep (m + 1) (a :: b :: r) nx x.2 = dep m (ins (a.1 + b.1, nx) r) (nx + 1) x.2 := by
        rintro j rfl
        have hxr : r[j]? = some x := by simpa using hx
        have hj : j < r.length := (List.getElem?_eq_some_iff.1 hxr).1
        refine ⟨by rw [hend, List.getElem?_append_left hj]; exact hxr, dep_rest hn (List.mem_of_getElem? hxr)⟩
      have hi : i < m + 2 := by have := (List.getElem?_eq_some_iff.1 hx).1; simp at this; omega
      have hfirst : i < 2 → dep (m + 1) (a :: b :: r) nx x.2 = dep m (ins (a.1 + b.1, nx) r) (nx + 1) nx + 1 := by
        intro hi2
        have : i = 0 ∨ i = 1 := by omega
        rcases this with rfl | rfl
        · have : a = x := by simpa using hx
          rw [← this]; exact ha
        · have : b = x := by simpa using hx
          rw [← this]; exact hbd
      by_cases hc : 2 ^ e ≤ m + 1
      · have key := ih _ (nx + 1) e hl' hok.step (hn.step hok.lt) hb' hc (by omega)
        have kp := key m _ hplast
        rw [if_neg (by omega)] at kp
        by_cases hi2 : i < 2
        · rw [hfirst hi2]
          have kp' : dep m (ins (a.1 + b.1, nx) r) (nx + 1) nx = e := kp
          rw [kp', if_pos (by omega)]
        · obtain ⟨g1, g2⟩ := hrest (i - 2) (by omega)
          rw [g2, key _ _ g1]
          by_cases hh : i - 2 < 2 * (m + 1 - 2 ^ e)
          · rw [if_pos hh, if_pos (by omega)]
          · rw [if_neg hh, if_neg (by omega)]
      · have he : e ≠ 0 := by rintro rfl; simp at hc
        obtain ⟨e', rfl⟩ : ∃ e', e = e' + 1 := ⟨e - 1, by omega⟩
        have hp2 : 2 ^ (e' + 1) = 2 * 2 ^ e' := by rw [Nat.pow_succ]; omega
        have key := ih _ (nx + 1) e' hl' hok.step (hn.step hok.lt) hb' (by omega) (by omega)
        have kp := key m _ hplast
        rw [if_neg (by omega)] at kp
        rw [if_neg (by omega)]
        by_cases hi2 : i < 2
        · rw [hfirst hi2]
          have kp' : dep m (ins (a.1 + b.1, nx) r) (nx + 1) nx = e' := kp
          rw [kp']
        · obtain ⟨g1, g2⟩ := hrest (i - 2) (by omega)
          rw [g2, key _ _ g1, if_pos (by omega)]
end Go.Huf
set_option linter.unusedSimpArgs false
namespace Go.Huf
set_option linter.unusedVariables false
def base (l : List Int) : List Nd := (List.range l.length).filterMap fun i => if 0 < l.getD i 0 then some (l.getD i 0, i) else none
def srt0 (l : List Int) : List Nd := (base l).foldr ins []
def depOf (l : List Int) (i : Nat) : Nat := dep ((srt0 l).length - 1) (srt0 l) l.length i
def lens (l : List Int) : List Int := if (base l).length = 1 then (List.range l.length).map (fun i => if 0 < l.getD i 0 then 1 else 0) else (List.range l.length).map fun i => ((depOf l i : Nat) : Int)
def half (l : List Int) : List Int := l.map fun x => (x + 1) / 2
def lenF : Nat → List Int → Int → List Int
  | 0, l, _ => lens l
  | k + 1, l, m => if ∀ x ∈ lens l, x ≤ m then lens l else lenF k (half l) m
theorem lens_len (l : List Int) : (lens l).length = l.length := by unfold lens; split <;> simp
theorem half_len (l : List Int) : (half l).length = l.length := by unfold half; simp
theorem base_mem {l : List Int} {x : Nd} : x ∈ base l ↔ x.2 < l.length ∧ 0 < l.getD x.2 0 ∧ x.1 = l.getD x.2 0 := by
  unfold base
  simp only [List.mem_filterMap, List.mem_range]
  constructor
  · rintro ⟨i, hi, h⟩
    split at h
    · rename_i h0
      cases h; exact ⟨hi, h0, rfl⟩
    · cases h
  · rintro ⟨h1, h2, h3⟩
    refine ⟨x.2, h1, ?_⟩
    rw [if_pos h2, ← h3]
theorem foldr_perm (L : List Nd) : (L.foldr ins []).Perm L := by
  induction L with
  | nil => exact .refl _
  | cons x r ih => exact (ins_perm x _).trans (List.Perm.cons x ih)
theorem srt0_perm (l : List Int) : (srt0 l).Perm (base l) := foldr_perm _
theorem base_nums (l : List Int) : Nums (base l) := by
  unfold Nums base
  rw [List.map_filterMap]
  have : (fun i => Option.map (fun x : Nd => x.2) (if 0 < l.getD i 0 then some (l.getD i 0, i) else none)) = fun i => if 0 < l.getD i 0 then some i else none := by
    funext i; split <;> rfl
  rw [this]
  have hn := List.nodup_range (n := l.length)
  generalize List.range l.length = R at *
  induction R with
  | nil => simp
  | cons i R ih =>
    rw [List.nodup_cons] at hn
    rw [List.filterMap_cons]
    split
    · exact ih hn.2
    · rename_i b hb
      split at hb
      · cases hb
        refine List.nodup_cons.2 ⟨fun hm => ?_, ih hn.2⟩
        obtain ⟨j, hj, hjb⟩ := List.mem_filterMap.1 hm
        split at hjb
        · cases hjb; exact hn.1 hj
        · cases hjb
      · cases hb
theorem srt0_nums (l : List Int) : Nums (srt0 l) := by
  unfold Nums
  rw [((srt0_perm l).map (·.2)).nodup_iff]; exact base_nums l
theorem foldr_srt {L : List Nd} (h : Nums L) : Srt (L.foldr ins []) := by
  induction L with
  | nil => exact List.Pairwise.nil
  | cons x r ih =>
    unfold Nums at h
    rw [List.map_cons, List.nodup_cons] at h
    refine ins_srt (ih h.2) (fun y hy => ?_)
    intro e
    have hm : y ∈ r := (foldr_perm r).mem_iff.1 hy
    exact h.1 (List.mem_map.2 ⟨y, hm, e⟩)
theorem srt0_ok (l : List Int) : Ok (srt0 l) l.length := by
  refine ⟨foldr_srt (base_nums l), fun x hx => ?_, fun x hx => ?_⟩
  · exact (base_mem.1 ((srt0_perm l).mem_iff.1 hx)).1
  · have := base_mem.1 ((srt0_perm l).mem_iff.1 hx)
    rw [this.2.2]; exact this.2.1
theorem srt0_mem {l : List Int} {i : Nat} (hi : i < l.length) (h : 0 < l.getD i 0) : (l.getD i 0, i) ∈ srt0 l := (srt0_perm l).mem_iff.2 (base_mem.2 ⟨hi, h, rfl⟩)
theorem dep_out : ∀ (k : Nat) (W : List Nd) (nx v : Nat), (∀ x ∈ W, x.2 ≠ v) → v < nx → dep k W nx v = 0 := by
  intro k
  induction k with
  | zero => intro W nx v _ _; rfl
  | succ k ih =>
    intro W nx v hW hv
    match W with
    | [] => rfl
    | [_] => rfl
    | a :: b :: r =>
      rw [dep_step, if_neg]
      · refine ih _ _ _ (fun x hx => ?_) (by omega)
        rcases ins_mem.1 hx with rfl | hx
        · show nx ≠ v; omega
        · exact hW x (by simp [hx])
      · rintro (h | h)
        · exact hW a (by simp) h.symm
        · exact hW b (by simp) h.symm
theorem dep_pos : ∀ (k : Nat) (W : List Nd) (nx : Nat), W.length = k + 2 → Nums W → (∀ x ∈ W, x.2 < nx) → ∀ x ∈ W, 1 ≤ dep (k + 1) W nx x.2 := by
  intro k
  induction k with
  | zero =>
    intro W nx hl hn hlt x hx
    match W, hl with
    | [a, b], _ =>
      rw [dep_step, if_pos]
      · omega
      · simp at hx; rcases hx with rfl | rfl <;> simp
  | succ k ih =>
    intro W nx hl hn hlt x hx
    match W, hl with
    | a :: b :: r, hl =>
      by_cases hab : x.2 = a.2 ∨ x.2 = b.2
      · rw [dep_step, if_pos hab]; omega
      · rw [dep_step, if_neg hab]
        have hxr : x ∈ r := by
          rcases List.mem_cons.1 hx with rfl | hx
          · exact absurd (.inl rfl) hab
          · rcases List.mem_cons.1 hx with rfl | hx
            · exact absurd (.inr rfl) hab
            · exact hx
        refine ih _ (nx + 1) (by rw [ins_len]; simp at hl ⊢; omega) (hn.step hlt) (fun y hy => ?_) x (ins_mem.2 (.inr hxr))
        rcases ins_mem.1 hy with rfl | hy
        · simp
        · have := hlt y (by simp [hy]); omega
theorem depOf_zero {l : List Int} {i : Nat} (hi : i < l.length) (h : ¬ 0 < l.getD i 0) : depOf l i = 0 := by
  refine dep_out _ _ _ _ (fun x hx e => ?_) hi
  have := base_mem.1 ((srt0_perm l).mem_iff.1 hx)
  rw [e] at this; exact h this.2.1
theorem depOf_pos {l : List Int} {i : Nat} (hi : i < l.length) (h : 0 < l.getD i 0) (h2 : 2 ≤ (base l).length) : 1 ≤ depOf l i := by
  have hl := (srt0_perm l).length_eq
  obtain ⟨k, hk⟩ : ∃ k, (srt0 l).length = k + 2 := ⟨(srt0 l).length - 2, by omega⟩
  have := dep_pos k (srt0 l) l.length hk (srt0_nums l) (srt0_ok l).lt _ (srt0_mem hi h)
  unfold depOf
  rw [hk]; exact this
theorem base_pos {l : List Int} {i : Nat} (hi : i < l.length) (h : 0 < l.getD i 0) : 1 ≤ (base l).length := List.length_pos_of_mem (base_mem.2 ⟨hi, h, rfl⟩ : (l.getD i 0, i) ∈ base l)
theorem lens_get {l : List Int} {i : Nat} (hi : i < l.length) : (lens l)[i]? = some (if (base l).length = 1 then (if 0 < l.getD i 0 then 1 else 0) else ((depOf l i : Nat) : Int)) := by
  unfold lens; split <;> simp [hi]
theorem lens_getD {l : List Int} {i : Nat} (hi : i < l.length) : (lens l).getD i 0 = if (base l).length = 1 then (if 0 < l.getD i 0 then 1 else 0) else ((depOf l i : Nat) : Int) := by
  rw [List.getD_eq_getElem?_getD, lens_get hi]; rfl
theorem lens_iff {l : List Int} {i : Nat} (hi : i < l.length) : 0 < (lens l).getD i 0 ↔ 0 < l.getD i 0 := by
  rw [lens_getD hi]
  split
  · split <;> simp_all
  · rename_i h1
    by_cases h : 0 < l.getD i 0
    · have h2 := base_pos hi h
      have := depOf_pos hi h (by omega)
      simp only [h, iff_true]; omega
    · rw [depOf_zero hi h]; exact ⟨fun hh => by simp at hh, fun hh => absurd hh h⟩
theorem lens_nonneg {l : List Int} : ∀ x ∈ lens l, 0 ≤ x := by
  intro x hx
  unfold lens at hx
  split at hx
  · obtain ⟨i, _, rfl⟩ := List.mem_map.1 hx; split <;> omega
  · obtain ⟨i, _, rfl⟩ := List.mem_map.1 hx; omega
theorem lens_le_many {l : List Int} : ∀ x ∈ lens l, x ≤ (base l).length := by
  intro x hx
  unfold lens at hx
  have hl := (srt0_perm l).length_eq
  split at hx
  · obtain ⟨i, _, rfl⟩ := List.mem_map.1 hx; split <;> omega
  · obtain ⟨i, _, rfl⟩ := List.mem_map.1 hx
    have := dep_le ((srt0 l).length - 1) (srt0 l) l.length i
    show ((depOf l i : Nat) : Int) ≤ _
    unfold depOf; omega
theorem base_le (l : List Int) : (base l).length ≤ l.length := by
  unfold base
  have := List.length_filterMap_le (fun i => if 0 < l.getD i 0 then some (l.getD i 0, i) else none) (List.range l.length)
  simpa using this
theorem exists_pow {m : Nat} (h : 1 ≤ m) : ∃ e, 2 ^ e ≤ m ∧ m < 2 ^ (e + 1) := ⟨Nat.log2 m, Nat.log2_self_le (by omega), Nat.lt_log2_self⟩
theorem bal_all {W : List Nd} {nx e m : Nat} (hl : W.length = m + 1) (hok : Ok W nx) (hn : Nums W) (hb : Bal W) (h1 : 2 ^ e ≤ m + 1) (h2 : m + 1 < 2 ^ (e + 1)) {x : Nd} (hx : x ∈ W) :
    (dep m W nx x.2 = e ∨ dep m W nx x.2 = e + 1) ∧ (m + 1 = 2 ^ e → dep m W nx x.2 = e) := by
  obtain ⟨i, hi, rfl⟩ := List.mem_iff_getElem.1 hx
  have := bal_dep m W nx e hl hok hn hb h1 h2 i _ (List.getElem?_eq_getElem hi)
  rw [this]
  refine ⟨by split <;> simp, fun h => ?_⟩
  rw [if_neg (by omega)]
theorem bal_low {W : List Nd} {lo : Int} (h : ∀ x ∈ W, lo ≤ x.1 ∧ x.1 ≤ lo + lo) : Bal W := fun x hx => two_of_low (fun y hy => (h y hy).1) (h x hx).2
theorem lens_level {l : List Int} {c : Int} (h1 : ∀ i, i < l.length → 0 < l.getD i 0 → c ≤ l.getD i 0 ∧ l.getD i 0 ≤ c + c) {e : Nat} (h2 : 2 ≤ (base l).length) (he : 2 ^ e ≤ (base l).length) (he2 : (base l).length < 2 ^ (e + 1)) {i : Nat} (hi : i < l.length) (h0 : 0 < l.getD i 0) :
    (depOf l i = e ∨ depOf l i = e + 1) ∧ ((base l).length = 2 ^ e → depOf l i = e) := by
  have hl := (srt0_perm l).length_eq
  obtain ⟨m, hm⟩ : ∃ m, (srt0 l).length = m + 1 := ⟨(srt0 l).length - 1, by omega⟩
  have hb : Bal (srt0 l) := bal_low (lo := c) (fun x hx => by
    have := base_mem.1 ((srt0_perm l).mem_iff.1 hx)
    rw [this.2.2]; exact h1 x.2 this.1 this.2.1)
  have := bal_all hm (srt0_ok l) (srt0_nums l) hb (e := e) (by omega) (by omega) (srt0_mem hi h0)
  unfold depOf
  rw [hm, Nat.add_sub_cancel]
  exact ⟨this.1, fun h => this.2 (by omega)⟩
theorem lens_ones {l : List Int} (h1 : ∀ x ∈ l, x ≤ 1) {e : Nat} (hl : l.length ≤ 2 ^ e) (he : 1 ≤ e) : ∀ x ∈ lens l, x ≤ e := by
  intro x hx
  by_cases hb : 2 ≤ (base l).length
  · obtain ⟨i, hi, rfl⟩ := List.mem_iff_getElem.1 hx
    have hil : i < l.length := by rw [← lens_len l]; exact hi
    have hg := lens_get hil
    rw [List.getElem?_eq_getElem hi, if_neg (by omega)] at hg
    have hg := Option.some.inj hg
    rw [hg]
    by_cases h0 : 0 < l.getD i 0
    · obtain ⟨e', h3, h4⟩ := exists_pow (m := (base l).length) (by omega)
      have hle := base_le l
      have hlev := lens_level (c := 1) (fun j hj hj0 => ⟨by omega, by
        have : l.getD j 0 ∈ l := by rw [List.getD_eq_getElem?_getD, List.getElem?_eq_getElem hj]; exact List.getElem_mem hj
        have := h1 _ this; omega⟩) hb h3 h4 hil h0
      have hee : e' ≤ e := by
        apply Classical.byContradiction
        intro hc
        have := Nat.pow_le_pow_right (n := 2) (by omega) (show e + 1 ≤ e' by omega)
        have hp : 2 ^ (e + 1) = 2 * 2 ^ e := by rw [Nat.pow_succ]; omega
        have : 1 ≤ 2 ^ e := Nat.pow_pos (by omega)
        omega
      by_cases heq : e' = e
      · subst heq
        have := hlev.2 (by omega)
        omega
      · have := hlev.1; omega
    · rw [depOf_zero hil h0]; omega
  · have := lens_le_many (l := l) x hx
    omega
theorem half_mem {l : List Int} {x : Int} (h : x ∈ half l) : ∃ y ∈ l, x = (y + 1) / 2 := by
  unfold half at h
  obtain ⟨y, hy, rfl⟩ := List.mem_map.1 h
  exact ⟨y, hy, rfl⟩
theorem half_getD (l : List Int) (i : Nat) : (half l).getD i 0 = (l.getD i 0 + 1) / 2 := by
  unfold half
  rw [List.getD_eq_getElem?_getD, List.getD_eq_getElem?_getD, List.getElem?_map]
  cases l[i]? <;> rfl
theorem lenF_le : ∀ (k : Nat) (l : List Int) (m : Int) (e : Nat), 1 ≤ e → l.length ≤ 2 ^ e → (e : Int) ≤ m → (∀ x ∈ l, 0 ≤ x ∧ x ≤ 2 ^ k) → ∀ x ∈ lenF k l m, x ≤ m := by
  intro k
  induction k with
  | zero =>
    intro l m e he hl hm h x hx
    have := lens_ones (l := l) (fun y hy => by have := h y hy; simpa using this.2) hl he x hx
    omega
  | succ k ih =>
    intro l m e he hl hm h x hx
    unfold lenF at hx
    split at hx
    · rename_i hall; exact hall x hx
    · refine ih (half l) m e he (by rw [half_len]; exact hl) hm (fun y hy => ?_) x hx
      obtain ⟨z, hz, rfl⟩ := half_mem hy
      have := h z hz
      have hp : (2 : Int) ^ (k + 1) = 2 * 2 ^ k := by rw [Int.pow_succ]; omega
      omega
theorem lenF_is : ∀ (k : Nat) (l : List Int) (m : Int), (∀ x ∈ l, 0 ≤ x) → ∃ l', lenF k l m = lens l' ∧ l'.length = l.length ∧ (∀ x ∈ l', 0 ≤ x) ∧ ∀ i, 0 < l'.getD i 0 ↔ 0 < l.getD i 0 := by
  intro k
  induction k with
  | zero => intro l m h; exact ⟨l, rfl, rfl, h, fun i => Iff.rfl⟩
  | succ k ih =>
    intro l m h
    unfold lenF
    split
    · exact ⟨l, rfl, rfl, h, fun i => Iff.rfl⟩
    · obtain ⟨l', h1, h2, h3, h4⟩ := ih (half l) m (fun x hx => by obtain ⟨y, hy, rfl⟩ := half_mem hx; have := h y hy; omega)
      refine ⟨l', h1, by rw [h2, half_len], h3, fun i => ?_⟩
      rw [h4, half_getD]; omega
theorem lenF_len (k : Nat) (l : List Int) (m : Int) : (lenF k l m).length = l.length := by
  induction k generalizing l with
  | zero => exact lens_len l
  | succ k ih => unfold lenF; split; exact lens_len l; rw [ih, half_len]
theorem lenF_first {k : Nat} {l : List Int} {m : Int} (h : ∀ x ∈ lens l, x ≤ m) : lenF k l m = lens l := by
  cases k with
  | zero => rfl
  | succ k => unfold lenF; rw [if_pos h]
theorem wsum_range_map (l : List Int) : wsum l = ((List.range l.length).map fun i => w (l.getD i 0)).sum := by
  unfold wsum
  congr 1
  apply List.ext_getElem
  · simp
  · intro i h1 h2
    have hi : i < l.length := by simpa using h1
    simp [List.getD_eq_getElem?_getD, hi]
theorem kraft_base (l : List Int) (f : Nat → Nat) (h : ∀ i, i < l.length → 0 < l.getD i 0 → 1 ≤ f i ∧ f i ≤ 15) (h0 : ∀ i, i < l.length → ¬ 0 < l.getD i 0 → f i = 0) : ((List.range l.length).map fun i => w ((f i : Nat) : Int)).sum = ((kraft 15 f (base l) : Nat) : Int) := by
  unfold kraft base
  have hm : ∀ i ∈ List.range l.length, i < l.length := fun i hi => List.mem_range.1 hi
  generalize List.range l.length = R at *
  induction R with
  | nil => rfl
  | cons i R ih =>
    have ih' := ih (fun j hj => hm j (by simp [hj]))
    rw [List.map_cons, List.sum_cons, List.filterMap_cons, ih']
    have hi := hm i (by simp)
    by_cases hp : 0 < l.getD i 0
    · rw [if_pos hp]
      have hf := h i hi hp
      simp only [List.map_cons, List.sum_cons]
      have hw : w ((f i : Nat) : Int) = ((2 ^ (15 - f i) : Nat) : Int) := by
        unfold w
        rw [if_pos (by omega), show (15 - ((f i : Nat) : Int)).toNat = 15 - f i by omega]
        simp
      rw [hw]; omega
    · rw [if_neg hp, h0 i hi hp]
      have : w ((0 : Nat) : Int) = 0 := rfl
      rw [this]
      dsimp only
      omega
theorem wsum_lens {l : List Int} (h2 : 2 ≤ (base l).length) (hd : ∀ x ∈ lens l, x ≤ 15) : wsum (lens l) = 32768 := by
  rw [wsum_range_map, lens_len]
  have e1 : (List.range l.length).map (fun i => w ((lens l).getD i 0)) = (List.range l.length).map fun i => w ((depOf l i : Nat) : Int) := by
    refine List.map_congr_left (fun i hi => ?_)
    rw [lens_getD (List.mem_range.1 hi), if_neg (by omega)]
  have hle : ∀ i, i < l.length → depOf l i ≤ 15 := by
    intro i hi
    have := hd _ (List.mem_of_getElem? (lens_get hi))
    rw [if_neg (by omega)] at this; omega
  rw [e1, kraft_base l (depOf l) (fun i hi h0 => ⟨depOf_pos hi h0 h2, hle i hi⟩) (fun i hi h0 => depOf_zero hi h0)]
  have hl := (srt0_perm l).length_eq
  obtain ⟨k, hk⟩ : ∃ k, (srt0 l).length = k + 1 := ⟨(srt0 l).length - 1, by omega⟩
  rw [← kraft_perm (srt0_perm l)]
  have hfun : depOf l = dep k (srt0 l) l.length := by funext i; unfold depOf; rw [hk, Nat.add_sub_cancel]
  rw [hfun, kraft_dep k (srt0 l) l.length 15 hk (srt0_nums l) (srt0_ok l).lt (fun x hx => ?_)]
  · rfl
  · rw [← hfun]
    exact hle _ ((srt0_ok l).lt x hx)
end Go.Huf
set_option linter.unusedSimpArgs false
namespace Go.Huf
set_option linter.unusedVariables false
def merge : Nat → List Nd → Nat → List (Nat × Nat)
  | k + 1, a :: b :: r, nx => (a.2, b.2) :: merge k (ins (a.1 + b.1, nx) r) (nx + 1)
  | _, _, _ => []
def deepF : Nat → List (Nat × Nat) → Nat → Nat
  | nx, p :: ps, v => if v = p.1 ∨ v = p.2 then deepF (nx + 1) ps nx + 1 else deepF (nx + 1) ps v
  | _, [], _ => 0
theorem merge_dep : ∀ (k : Nat) (W : List Nd) (nx v : Nat), W.length = k + 1 → deepF nx (merge k W nx) v = dep k W nx v
  | 0, W, nx, v, h => by cases W <;> simp [merge, deepF, dep]
  | k + 1, a :: b :: r, nx, v, h => by
    have h2 : (ins (a.1 + b.1, nx) r).length = k + 1 := by rw [ins_len]; simp at h; omega
    rw [merge, deepF, dep_step, merge_dep k _ _ _ h2, merge_dep k _ _ _ h2]
  | k + 1, [a], nx, v, h => by simp at h
  | k + 1, [], nx, v, h => by simp at h
structure WI (W : List Nd) (nx : Nat) : Prop where
  ok : Ok W nx
  nums : Nums W
  sum : (W.map (·.1)).sum ≤ 2 ^ 50
theorem sum_nonneg {l : List Int} (h : ∀ x ∈ l, 0 ≤ x) : 0 ≤ l.sum := by
  induction l with
  | nil => simp
  | cons x l ih => have h1 := h x (by simp); have h2 := ih (fun y hy => h y (by simp [hy])); simp only [List.sum_cons]; omega
theorem le_sum {l : List Int} (h : ∀ x ∈ l, 0 ≤ x) : ∀ x ∈ l, x ≤ l.sum := by
  induction l with
  | nil => simp
  | cons y l ih =>
    intro x hx
    have h1 := h y (by simp); have h2 := sum_nonneg (fun y hy => h y (by simp [hy]) : ∀ x ∈ l, 0 ≤ x)
    simp only [List.sum_cons]
    rcases List.mem_cons.1 hx with rfl | hx
    · omega
    · have := ih (fun y hy => h y (by simp [hy])) x hx; omega
theorem sum_perm {l l' : List Int} (h : l.Perm l') : l.sum = l'.sum := by
  induction h with
  | nil => rfl
  | cons x _ ih => simp only [List.sum_cons, ih]
  | swap x y l => simp only [List.sum_cons]; omega
  | trans _ _ i1 i2 => exact i1.trans i2
theorem WI.step {a b : Nd} {r : List Nd} {nx : Nat} (h : WI (a :: b :: r) nx) : WI (ins (a.1 + b.1, nx) r) (nx + 1) := by
  refine ⟨h.ok.step, h.nums.step h.ok.lt, ?_⟩
  have h1 := sum_perm ((ins_perm (a.1 + b.1, nx) r).map (·.1))
  rw [h1]
  have := h.sum
  simp only [List.map_cons, List.sum_cons] at *
  omega
theorem WI.le {W : List Nd} {nx : Nat} (h : WI W nx) : ∀ x ∈ W, 0 < x.1 ∧ x.1 ≤ 2 ^ 50 ∧ x.2 < nx := by
  intro x hx
  have h1 := le_sum (l := W.map (·.1)) (fun y hy => by obtain ⟨z, hz, rfl⟩ := List.mem_map.1 hy; have := h.ok.pos z hz; omega) x.1 (List.mem_map.2 ⟨x, hx, rfl⟩)
  have := h.sum
  exact ⟨h.ok.pos x hx, by omega, h.ok.lt x hx⟩
theorem merge_lt : ∀ (k : Nat) (W : List Nd) (nx : Nat), (∀ x ∈ W, x.2 < nx) → ∀ j p, (merge k W nx)[j]? = some p → p.1 < nx + j ∧ p.2 < nx + j
  | 0, W, nx, h, j, p, hp => by cases W <;> simp [merge] at hp
  | k + 1, a :: b :: r, nx, h, j, p, hp => by
    rw [merge] at hp
    cases j with
    | zero => simp at hp; subst hp; exact ⟨h a (by simp), h b (by simp)⟩
    | succ j =>
      have := merge_lt k (ins (a.1 + b.1, nx) r) (nx + 1) (fun x hx => by
        rcases ins_mem.1 hx with rfl | hx
        · simp
        · have := h x (by simp [hx]); omega) j p (by simpa using hp)
      omega
  | k + 1, [a], nx, h, j, p, hp => by simp [merge] at hp
  | k + 1, [], nx, h, j, p, hp => by simp [merge] at hp
theorem deepF_le : ∀ (ps : List (Nat × Nat)) (nx v : Nat), deepF nx ps v ≤ ps.length
  | [], _, _ => by simp [deepF]
  | p :: ps, nx, v => by
    have h1 := deepF_le ps (nx + 1) nx
    have h2 := deepF_le ps (nx + 1) v
    rw [deepF, List.length_cons]
    split <;> omega
def deepL (n tot : Nat) (ps : List (Nat × Nat)) (j : Nat) : List Int := (List.range tot).map fun v => ((deepF (n + j) (ps.drop j) v : Nat) : Int)
theorem deepL_len (n tot : Nat) (ps : List (Nat × Nat)) (j : Nat) : (deepL n tot ps j).length = tot := by simp [deepL]
theorem deepL_get {n tot : Nat} {ps : List (Nat × Nat)} {j v : Nat} (hv : v < tot) : (deepL n tot ps j)[v]? = some ((deepF (n + j) (ps.drop j) v : Nat) : Int) := by simp [deepL, hv]
theorem deepL_end (n tot : Nat) (ps : List (Nat × Nat)) : deepL n tot ps ps.length = List.replicate tot 0 := by
  unfold deepL
  apply List.ext_getElem
  · simp
  · intro i h1 h2; simp [deepF]
theorem deepL_step {n tot j : Nat} {ps : List (Nat × Nat)} {p : Nat × Nat} {x : Int} (hp : ps[j]? = some p) (ht : n + j < tot) (hx : (deepL n tot ps (j + 1))[n + j]? = some x) :
    ((deepL n tot ps (j + 1)).set p.1 (x + 1)).set p.2 (x + 1) = deepL n tot ps j := by
  rw [deepL_get ht] at hx
  cases hx
  obtain ⟨hj, rfl⟩ := List.getElem?_eq_some_iff.1 hp
  apply List.ext_getElem?
  intro v
  by_cases hv : v < tot
  · rw [deepL_get hv, List.drop_eq_getElem_cons hj, deepF]
    rw [List.getElem?_set, List.getElem?_set]
    simp only [List.length_set, deepL_len]
    by_cases e2 : ps[j].2 = v
    · rw [if_pos e2, if_pos (by omega), if_pos (by omega)]; rfl
    · rw [if_neg e2]
      by_cases e1 : ps[j].1 = v
      · rw [if_pos e1, if_pos (by omega), if_pos (by omega)]; rfl
      · rw [if_neg e1, if_neg (by omega), deepL_get hv, Nat.add_assoc]
  · rw [List.getElem?_eq_none (by simp [deepL_len]; omega), List.getElem?_eq_none (by rw [deepL_len]; omega)]
theorem deepL_range {n tot j v : Nat} {ps : List (Nat × Nat)} {x : Int} (h : (deepL n tot ps j)[v]? = some x) : 0 ≤ x ∧ x ≤ ps.length := by
  have hv : v < tot := by have := (List.getElem?_eq_some_iff.1 h).1; rwa [deepL_len] at this
  rw [deepL_get hv] at h
  cases h
  have := deepF_le (ps.drop j) (n + j) v
  rw [List.length_drop] at this
  omega
def baseK (l : List Int) (i : Nat) : List Nd := (List.range i).filterMap fun i => if 0 < l.getD i 0 then some (l.getD i 0, i) else none
theorem baseK_succ (l : List Int) (i : Nat) : baseK l (i + 1) = baseK l i ++ if 0 < l.getD i 0 then [(l.getD i 0, i)] else [] := by
  unfold baseK
  rw [List.range_succ, List.filterMap_append]
  congr 1
  by_cases h : 0 < l.getD i 0
  · rw [if_pos h]; simp only [List.filterMap_cons, List.filterMap_nil, if_pos h]
  · rw [if_neg h]; simp only [List.filterMap_cons, List.filterMap_nil, if_neg h]
theorem baseK_len (l : List Int) (i : Nat) : (baseK l i).length ≤ i := by
  unfold baseK
  exact Nat.le_trans (List.length_filterMap_le _ _) (by simp)
theorem baseK_all (l : List Int) : baseK l l.length = base l := rfl
theorem srt0_wi {l : List Int} (h : ∀ x ∈ l, x ≤ 2 ^ 40) (hl : l.length ≤ 300) : WI (srt0 l) l.length := by
  refine ⟨srt0_ok l, srt0_nums l, ?_⟩
  rw [sum_perm ((srt0_perm l).map (·.1))]
  have : ∀ i, i ≤ l.length → ((baseK l i).map (·.1)).sum ≤ i * 2 ^ 40 := by
    intro i
    induction i with
    | zero => intro _; simp [baseK]
    | succ i ih =>
      intro hi
      have h1 := ih (by omega)
      rw [baseK_succ, List.map_append, List.sum_append]
      have h2 : l.getD i 0 ≤ 2 ^ 40 := by
        rw [List.getD_eq_getElem?_getD, List.getElem?_eq_getElem (by omega)]
        exact h _ (List.getElem_mem _)
      by_cases h3 : 0 < l.getD i 0
      · rw [if_pos h3]; simp only [List.map_cons, List.map_nil, List.sum_cons, List.sum_nil]; omega
      · rw [if_neg h3]; simp; omega
  have := this l.length (Nat.le_refl _)
  rw [baseK_all] at this
  omega
theorem lens_one {l : List Int} {x : Nd} (h : base l = [x]) : lens l = (List.replicate l.length 0).set x.2 1 := by
  unfold lens
  rw [if_pos (by rw [h]; rfl)]
  have hx : x ∈ base l := by rw [h]; simp
  have hx := base_mem.1 hx
  apply List.ext_getElem
  · simp
  · intro i h1 h2
    simp only [List.length_map, List.length_range] at h1
    rw [List.getElem_set]
    simp only [List.getElem_map, List.getElem_range, List.getElem_replicate]
    by_cases e : x.2 = i
    · subst e; rw [if_pos hx.2.1, if_pos rfl]
    · rw [if_neg e, if_neg]
      intro h3
      have : (l.getD i 0, i) ∈ base l := base_mem.2 ⟨h1, h3, rfl⟩
      rw [h] at this
      have := List.mem_singleton.1 this
      exact e (by rw [← this])
theorem lens_none {l : List Int} (h : base l = []) : lens l = List.replicate l.length 0 := by
  unfold lens
  rw [if_neg (by rw [h]; simp)]
  apply List.ext_getElem
  · simp
  · intro i h1 h2
    have h1 : i < l.length := by simpa using h1
    simp only [List.getElem_map, List.getElem_range, List.getElem_replicate]
    have h3 : srt0 l = [] := by unfold srt0; rw [h]; rfl
    unfold depOf
    rw [h3]
    rfl
theorem lens_many {l : List Int} (h : 2 ≤ (base l).length) : lens l = (deepL l.length (l.length + ((base l).length - 1)) (merge ((base l).length - 1) (srt0 l) l.length) 0).take l.length := by
  have hsl : (srt0 l).length = (base l).length - 1 + 1 := by rw [(srt0_perm l).length_eq]; omega
  unfold lens
  rw [if_neg (by omega)]
  apply List.ext_getElem
  · simp [deepL_len]
  · intro i h1 h2
    have h1 : i < l.length := by simpa using h1
    rw [List.getElem_take]
    simp only [List.getElem_map, List.getElem_range, deepL, List.drop_zero, Nat.add_zero]
    rw [merge_dep _ _ _ _ hsl]
    unfold depOf
    rw [hsl]
    simp
end Go.Huf
set_option linter.unusedSimpArgs false
namespace Go.Huf
set_option linter.unusedVariables false
def incr (D : List Int) (vs : List Nat) : List Int := vs.foldl (fun D v => D.set v (D.getD v 0 + 1)) D
theorem incr_len (D : List Int) (vs : List Nat) : (incr D vs).length = D.length := by
  unfold incr
  induction vs generalizing D with
  | nil => rfl
  | cons v vs ih => rw [List.foldl_cons, ih]; simp
theorem getD_set {D : List Int} {v w : Nat} {x : Int} (hv : v < D.length) : (D.set v x).getD w 0 = if v = w then x else D.getD w 0 := by
  rw [List.getD_eq_getElem?_getD, List.getD_eq_getElem?_getD, List.getElem?_set]
  by_cases e : v = w
  · subst e; rw [if_pos rfl, if_pos hv, if_pos rfl]; rfl
  · rw [if_neg e, if_neg e]
theorem incr_get {D : List Int} {vs : List Nat} (hn : vs.Nodup) (hl : ∀ v ∈ vs, v < D.length) (w : Nat) : (incr D vs).getD w 0 = D.getD w 0 + if w ∈ vs then 1 else 0 := by
  induction vs generalizing D with
  | nil => simp [incr]
  | cons v vs ih =>
    have h1 := List.nodup_cons.1 hn
    have h2 : incr D (v :: vs) = incr (D.set v (D.getD v 0 + 1)) vs := rfl
    rw [h2, ih h1.2 (fun u hu => by rw [List.length_set]; exact hl u (by simp [hu])), getD_set (hl v (by simp))]
    by_cases e : v = w
    · subst e
      rw [if_pos rfl, if_neg h1.1, if_pos (by simp)]; omega
    · rw [if_neg e]
      by_cases e2 : w ∈ vs
      · rw [if_pos e2, if_pos (by simp [e2])]
      · rw [if_neg e2, if_neg (by simp [e2, Ne.symm e])]
def Mx (D : List Int) (m : Int) : Prop := (∀ x ∈ D, x ≤ m) ∧ 0 ≤ m ∧ (m = 0 ∨ m ∈ D)
theorem Mx.step {D : List Int} {m x : Int} {v : Nat} (h : Mx D m) (hx : D[v]? = some x) (h0 : 0 ≤ x) : Mx (D.set v (x + 1)) (max m (x + 1)) := by
  obtain ⟨hv, rfl⟩ := List.getElem?_eq_some_iff.1 hx
  refine ⟨fun y hy => ?_, by omega, .inr ?_⟩
  · rcases List.mem_or_eq_of_mem_set hy with hy | rfl
    · have := h.1 y hy; omega
    · omega
  · by_cases e : D[v] + 1 ≤ m
    · rw [show max m (D[v] + 1) = m from by omega]
      rcases h.2.2 with h2 | h2
      · omega
      · obtain ⟨i, hi, hie⟩ := List.getElem_of_mem h2
        refine List.mem_iff_getElem.2 ⟨i, by rw [List.length_set]; exact hi, ?_⟩
        rw [List.getElem_set_ne]
        · exact hie
        · intro e2; subst e2; rw [hie] at e; omega
    · rw [show max m (D[v] + 1) = D[v] + 1 from by omega]
      exact List.mem_iff_getElem.2 ⟨v, by rw [List.length_set]; exact hv, by rw [List.getElem_set_self]⟩
structure RInv (l : List Int) (M : List (Nd × List Nat)) (W : List Nd) (nx k : Nat) (D : List Int) : Prop where
  perm : (M.map (·.1)).Perm W
  wi : WI W nx
  len : W.length = k + 1
  dlen : D.length = l.length
  pos : ∀ x ∈ D, 0 ≤ x
  syms : ∀ m ∈ M, ∀ v ∈ m.2, v < l.length ∧ D.getD v 0 + ((dep k W nx m.1.2 : Nat) : Int) = ((depOf l v : Nat) : Int)
  rest : ∀ v, v < l.length → (∀ m ∈ M, v ∉ m.2) → D.getD v 0 = ((depOf l v : Nat) : Int)
  nodup : (M.flatMap (·.2)).Nodup
theorem head_of {W : List Nd} {x : Nd} {L : List Nd} (hs : Srt W) (hp : (x :: L).Perm W) (hmin : ∀ y ∈ L, ahead x y) : ∃ W', W = x :: W' ∧ L.Perm W' := by
  cases W with
  | nil => have := hp.length_eq; simp at this
  | cons w W' =>
    have hw : w ∈ x :: L := hp.mem_iff.2 (by simp)
    have hx : x ∈ w :: W' := hp.mem_iff.1 (by simp)
    have e : x = w := by
      rcases List.mem_cons.1 hw with e | hw
      · exact e.symm
      · rcases List.mem_cons.1 hx with e | hx
        · exact e
        · exact absurd (ahead_trans (hmin w hw) ((List.pairwise_cons.1 hs).1 x hx)) ahead_irr
    subst e
    exact ⟨W', rfl, (List.perm_cons x).1 hp⟩
theorem cut_perm {α : Type} {M : List α} {i : Nat} {a : α} (ha : M[i]? = some a) : M.Perm (a :: (M.take i ++ M.drop (i + 1))) := by
  obtain ⟨hi, rfl⟩ := List.getElem?_eq_some_iff.1 ha
  have : M = M.take i ++ M[i] :: M.drop (i + 1) := by rw [← List.drop_eq_getElem_cons hi, List.take_append_drop]
  conv => lhs; rw [this]
  exact List.perm_middle
theorem cut_mem {α : Type} {M : List α} {i : Nat} {m : α} (h : m ∈ M.take i ++ M.drop (i + 1)) : ∃ j, j ≠ i ∧ M[j]? = some m := by
  rcases List.mem_append.1 h with h | h
  · obtain ⟨j, hj, e⟩ := List.getElem_of_mem h
    rw [List.length_take] at hj
    exact ⟨j, by omega, by rw [← e, List.getElem_take, List.getElem?_eq_getElem (by omega)]⟩
  · obtain ⟨j, hj, e⟩ := List.getElem_of_mem h
    rw [List.length_drop] at hj
    exact ⟨i + 1 + j, by omega, by rw [← e, List.getElem_drop, List.getElem?_eq_getElem (by omega)]⟩
theorem incr_pos {D : List Int} {vs : List Nat} (h : ∀ x ∈ D, 0 ≤ x) : ∀ x ∈ incr D vs, 0 ≤ x := by
  unfold incr
  induction vs generalizing D with
  | nil => exact h
  | cons v vs ih =>
    rw [List.foldl_cons]
    refine ih fun x hx => ?_
    rcases List.mem_or_eq_of_mem_set hx with hx | rfl
    · exact h x hx
    · have : 0 ≤ D.getD v 0 := by
        rw [List.getD_eq_getElem?_getD]
        cases e : D[v]? with
        | none => simp
        | some y => exact h y (List.mem_of_getElem? e)
      omega
theorem RInv.step {l : List Int} {M : List (Nd × List Nat)} {W : List Nd} {nx k : Nat} {D : List Int} (h : RInv l M W nx (k + 1) D) {i j : Nat} {a b : Nd × List Nat} (ha : M[i]? = some a) (hmin : ∀ q m, M[q]? = some m → q ≠ i → ahead a.1 m.1)
    {M1 : List (Nd × List Nat)} (hM1 : M1 = M.take i ++ M.drop (i + 1)) (hb : M1[j]? = some b) (hmin2 : ∀ q m, M1[q]? = some m → q ≠ j → ahead b.1 m.1) :
    ∃ W2, RInv l (M1.take j ++ M1.drop (j + 1) ++ [((a.1.1 + b.1.1, nx), a.2 ++ b.2)]) W2 (nx + 1) k (incr D (a.2 ++ b.2)) := by
  have p1 : M.Perm (a :: M1) := by rw [hM1]; exact cut_perm ha
  have p2 : M1.Perm (b :: (M1.take j ++ M1.drop (j + 1))) := cut_perm hb
  have hM2mem : ∀ m ∈ M1.take j ++ M1.drop (j + 1), ahead b.1 m.1 := fun m hm => by
    obtain ⟨q, hq, e⟩ := cut_mem hm
    exact hmin2 q m e hq
  have hM1mem : ∀ m ∈ M1, ahead a.1 m.1 := fun m hm => by
    rw [hM1] at hm
    obtain ⟨q, hq, e⟩ := cut_mem hm
    exact hmin q m e hq
  generalize M1.take j ++ M1.drop (j + 1) = M2 at *
  obtain ⟨W1, hW1, q1⟩ := head_of (x := a.1) (L := M1.map (fun m : Nd × List Nat => m.1)) h.wi.ok.srt ((p1.map (fun m : Nd × List Nat => m.1)).symm.trans h.perm) (fun y hy => by
    obtain ⟨m, hm, rfl⟩ := List.mem_map.1 hy
    exact hM1mem m hm)
  have hs1 : Srt W1 := by
    have := h.wi.ok.srt
    rw [hW1] at this
    exact (List.pairwise_cons.1 this).2
  obtain ⟨r, hr, q2⟩ := head_of (x := b.1) (L := M2.map (fun m : Nd × List Nat => m.1)) hs1 ((p2.map (fun m : Nd × List Nat => m.1)).symm.trans q1) (fun y hy => by
    obtain ⟨m, hm, rfl⟩ := List.mem_map.1 hy
    exact hM2mem m hm)
  subst hr
  subst hW1
  have pM : M.Perm (a :: b :: M2) := p1.trans (p2.cons a)
  have hmem : ∀ m, m ∈ M ↔ m = a ∨ m = b ∨ m ∈ M2 := fun m => by rw [pM.mem_iff]; simp
  have hnd : (a.2 ++ (b.2 ++ M2.flatMap (·.2))).Nodup := by
    have := (pM.flatMap_right (·.2)).nodup_iff.1 h.nodup
    simpa using this
  have hab : (a.2 ++ b.2).Nodup := by
    rw [← List.append_assoc] at hnd
    exact (List.nodup_append.1 hnd).1
  have hdis : ∀ v, v ∈ a.2 ++ b.2 → ∀ m ∈ M2, v ∉ m.2 := fun v hv m hm hvm => by
    rw [← List.append_assoc] at hnd
    exact (List.nodup_append.1 hnd).2.2 v hv v (List.mem_flatMap.2 ⟨m, hm, hvm⟩) rfl
  have hlt : ∀ v ∈ a.2 ++ b.2, v < D.length := fun v hv => by
    rw [h.dlen]
    rcases List.mem_append.1 hv with hv | hv
    · exact (h.syms a ((hmem a).2 (.inl rfl)) v hv).1
    · exact (h.syms b ((hmem b).2 (.inr (.inl rfl))) v hv).1
  refine ⟨ins (a.1.1 + b.1.1, nx) r, ?_, h.wi.step, ?_, ?_, incr_pos h.pos, ?_, ?_, ?_⟩
  · rw [List.map_append]
    refine List.perm_append_comm.trans ?_
    exact (q2.cons _).trans (ins_perm _ _).symm
  · have := h.len
    rw [ins_len]; simp only [List.length_cons] at this; omega
  · rw [incr_len]; exact h.dlen
  · intro m hm v hv
    rcases List.mem_append.1 hm with hm | hm
    · have hmM := (hmem m).2 (.inr (.inr hm))
      have h1 := h.syms m hmM v hv
      refine ⟨h1.1, ?_⟩
      rw [incr_get hab hlt, if_neg (fun e => hdis v e m hm hv)]
      rw [← h1.2]
      have hx : m.1 ∈ r := q2.mem_iff.1 (List.mem_map.2 ⟨m, hm, rfl⟩)
      rw [dep_rest h.wi.nums hx]
      omega
    · have hm := List.mem_singleton.1 hm
      subst hm
      have hv : v ∈ a.2 ++ b.2 := hv
      rw [incr_get hab hlt, if_pos hv]
      rcases List.mem_append.1 hv with hv1 | hv1
      · have h1 := h.syms a ((hmem a).2 (.inl rfl)) v hv1
        refine ⟨h1.1, ?_⟩
        rw [← h1.2, dep_step, if_pos (.inl rfl)]
        simp only
        omega
      · have h1 := h.syms b ((hmem b).2 (.inr (.inl rfl))) v hv1
        refine ⟨h1.1, ?_⟩
        rw [← h1.2, dep_step, if_pos (.inr rfl)]
        simp only
        omega
  · intro v hv hno
    have hnab : v ∉ a.2 ++ b.2 := hno _ (List.mem_append.2 (.inr (List.mem_singleton.2 rfl)))
    rw [incr_get hab hlt, if_neg hnab, Int.add_zero]
    refine h.rest v hv fun m hm hvm => ?_
    rcases (hmem m).1 hm with rfl | rfl | hm
    · exact hnab (List.mem_append.2 (.inl hvm))
    · exact hnab (List.mem_append.2 (.inr hvm))
    · exact hno m (List.mem_append.2 (.inl hm)) hvm
  · rw [List.flatMap_append]
    rw [← List.append_assoc] at hnd
    have := List.perm_append_comm.nodup_iff.1 hnd
    simpa using this
end Go.Huf
set_option linter.unusedSimpArgs false
namespace Go.Huf
set_option linter.unusedVariables false
theorem lenF_iff {l : List Int} (h : ∀ x ∈ l, 0 ≤ x) (k : Nat) (m : Int) {i : Nat} (hi : i < l.length) : 0 < (lenF k l m).getD i 0 ↔ 0 < l.getD i 0 := by
  obtain ⟨l', e, hl, hp, hg⟩ := lenF_is k l m h
  rw [e, lens_iff (by omega)]
  exact hg i
theorem lenF_nonneg {l : List Int} (h : ∀ x ∈ l, 0 ≤ x) (k : Nat) (m : Int) : ∀ x ∈ lenF k l m, 0 ≤ x := by
  obtain ⟨l', e, hl, hp, hg⟩ := lenF_is k l m h
  rw [e]
  exact lens_nonneg
theorem sum_zeros (n : Nat) : (List.replicate n (0 : Int)).sum = 0 := by induction n with | zero => rfl | succ n ih => rw [List.replicate_succ, List.sum_cons, ih]; rfl
theorem wsum_zeros (n : Nat) : wsum (List.replicate n (0 : Int)) = 0 := by
  induction n with
  | zero => rfl
  | succ n ih =>
    have : wsum (List.replicate (n + 1) (0 : Int)) = w 0 + wsum (List.replicate n 0) := rfl
    rw [this, ih]; rfl
theorem sum_one : ∀ (n i : Nat), i < n → ((List.replicate n (0 : Int)).set i 1).sum = 1
  | n + 1, 0, _ => by rw [List.replicate_succ, List.set_cons_zero, List.sum_cons, sum_zeros]; rfl
  | n + 1, i + 1, h => by rw [List.replicate_succ, List.set_cons_succ, List.sum_cons, sum_one n i (by omega)]; rfl
theorem wsum_one : ∀ (n i : Nat), i < n → wsum ((List.replicate n (0 : Int)).set i 1) = 16384
  | n + 1, 0, _ => by
    have : wsum ((List.replicate (n + 1) (0 : Int)).set 0 1) = w 1 + wsum (List.replicate n 0) := rfl
    rw [this, wsum_zeros]; rfl
  | n + 1, i + 1, h => by
    have : wsum ((List.replicate (n + 1) (0 : Int)).set (i + 1) 1) = w 0 + wsum ((List.replicate n 0).set i 1) := rfl
    rw [this, wsum_one n i (by omega)]; rfl
theorem errN_lenF {l : List Int} {m : Int} (h : ∀ x ∈ l, 0 ≤ x) (hl : l.length ≤ 300) (hm : m ≤ 15) (hle : ∀ x ∈ lenF 40 l m, x ≤ m) : errN (lenF 40 l m) = 0 ∧ err (lenF 40 l m) = 0 := by
  have hlen := lenF_len 40 l m
  have hn := lenF_nonneg h 40 m
  obtain ⟨l', e, hl', hp, hg⟩ := lenF_is 40 l m h
  rw [e] at hlen hn hle ⊢
  have hgood : (lens l').all good = true := by
    rw [List.all_eq_true]
    intro x hx
    have := hn x hx
    have := hle x hx
    exact good_iff.2 ⟨by omega, by omega⟩
  have key : wsum (lens l') ≤ 32768 ∧ (wsum (lens l') = 0 ∨ wsum (lens l') = 32768 ∨ (lens l').sum = 1) := by
    rcases Nat.lt_or_ge (base l').length 2 with hb | hb
    · rcases Nat.lt_or_ge (base l').length 1 with hb1 | hb1
      · rw [lens_none (List.length_eq_zero_iff.1 (by omega)), wsum_zeros]
        exact ⟨by decide, .inl rfl⟩
      · obtain ⟨x, hx⟩ := List.length_eq_one_iff.1 (show (base l').length = 1 by omega)
        have hx2 := base_mem.1 (show x ∈ base l' by rw [hx]; simp)
        rw [lens_one hx, wsum_one _ _ hx2.1, sum_one _ _ hx2.1]
        exact ⟨by decide, .inr (.inr rfl)⟩
    · rw [wsum_lens hb (fun x hx => by have := hle x hx; omega)]
      exact ⟨by decide, .inr (.inl rfl)⟩
  have herr : err (lens l') = 0 := by
    unfold err
    rw [if_neg (by omega), if_neg (by rw [hgood]; decide), if_neg (by omega)]
  refine ⟨?_, herr⟩
  unfold errN
  rw [if_neg (by rw [herr]; decide), if_neg (by rcases key.2 with e | e | e <;> simp [e])]
theorem cnt_lt {l : List Int} {i : Nat} (hi : i < l.length) {s : Nat} (hs : l.getD i 0 = (s : Int)) : cnt (l.take i) s + 1 ≤ cnt l s := by
  have h1 : l[i]? = some (s : Int) := by
    rw [List.getD_eq_getElem?_getD, List.getElem?_eq_getElem hi] at hs
    rw [List.getElem?_eq_getElem hi, ← hs]; rfl
  have h2 := cnt_take h1 s
  rw [if_pos rfl] at h2
  have h3 : cnt (l.take (i + 1)) s ≤ cnt l s := by
    unfold cnt
    have := (List.take_sublist (i + 1) l).countP_le (p := fun k : Int => decide (k = (s : Int)))
    omega
  omega
theorem cnt_lt2 {l : List Int} {i k : Nat} (hik : i < k) (hk : k ≤ l.length) {s : Nat} (hs : l.getD i 0 = (s : Int)) : cnt (l.take i) s < cnt (l.take k) s := by
  have hi : i < (l.take k).length := by rw [List.length_take]; omega
  have h1 := cnt_lt (l := l.take k) hi (s := s) (by rw [← hs, List.getD_eq_getElem?_getD, List.getD_eq_getElem?_getD, List.getElem?_take, if_pos hik])
  rw [List.take_take, Nat.min_eq_left (by omega)] at h1
  omega
theorem code_eq {l : List Int} {i : Nat} {s : Nat} (hs : l.getD i 0 = (s : Int)) (h0 : 0 < s) : codeAt l i = nx l s + cnt (l.take i) s := by
  unfold codeAt
  simp only [hs]
  rw [if_pos (by omega), Int.toNat_natCast]
theorem nx_step (l : List Int) {s : Nat} (h : 1 ≤ s) : nx l (s + 1) = (nx l s + cnt l s) * 2 := by
  obtain ⟨r, rfl⟩ : ∃ r, s = r + 1 := ⟨s - 1, by omega⟩
  rfl
theorem nx_far (l : List Int) {s : Nat} (h : 1 ≤ s) : ∀ d : Nat, (nx l s + cnt l s) * 2 ^ (d + 1) ≤ nx l (s + 1 + d)
  | 0 => by rw [Nat.add_zero, nx_step l h]; omega
  | d + 1 => by
    have h1 := nx_far l h d
    rw [show s + 1 + (d + 1) = (s + 1 + d) + 1 from by omega, nx_step l (by omega)]
    have h2 := (cnt_range l (s + 1 + d)).1
    have h3 : (nx l s + cnt l s) * 2 ^ (d + 1 + 1) = (nx l s + cnt l s) * 2 ^ (d + 1) * 2 := by rw [Int.pow_succ 2 (d + 1), Int.mul_assoc]
    omega
theorem prefix_free {l : List Int} {i k : Nat} (hi : i < l.length) (hk : k < l.length) (hne : i ≠ k) {s d : Nat} (hs : l.getD i 0 = (s : Int)) (hd : l.getD k 0 = ((s + d : Nat) : Int)) (h0 : 0 < s) : codeAt l k / 2 ^ d ≠ codeAt l i := by
  rw [code_eq hs h0, code_eq hd (by omega)]
  cases d with
  | zero =>
    simp only [Nat.add_zero] at hd ⊢
    rw [Int.pow_zero, Int.ediv_one]
    rcases Nat.lt_or_gt_of_ne hne with h | h
    · have := cnt_lt2 h (Nat.le_of_lt hk) hs; omega
    · have := cnt_lt2 h (Nat.le_of_lt hi) hd; omega
  | succ d =>
    have h1 := nx_far l h0 d
    have h2 := (cnt_range (l.take k) (s + (d + 1))).1
    have h3 := cnt_lt hi hs
    rw [show s + 1 + d = s + (d + 1) from by omega] at h1
    have h4 : nx l s + cnt l s ≤ (nx l (s + (d + 1)) + cnt (l.take k) (s + (d + 1))) / 2 ^ (d + 1) := by
      rw [Int.le_ediv_iff_mul_le (Int.pow_pos (by decide))]
      omega
    omega
def wTo (s : Nat) (l : List Int) : Int := (l.map fun k => if k ≤ (s : Int) then w k else 0).sum
theorem wTo_succ (s : Nat) (l : List Int) : wTo (s + 1) l = wTo s l + cnt l (s + 1) * w ((s + 1 : Nat) : Int) := by
  induction l with
  | nil => simp [wTo, cnt]
  | cons x l ih =>
    have e1 : ∀ s, wTo s (x :: l) = (if x ≤ (s : Int) then w x else 0) + wTo s l := fun s => rfl
    have e2 : cnt (x :: l) (s + 1) = cnt l (s + 1) + if x = ((s + 1 : Nat) : Int) then 1 else 0 := by
      unfold cnt
      rw [List.countP_cons]
      by_cases h : x = ((s + 1 : Nat) : Int)
      · subst h; simp
      · have h2 : decide (x = ((s + 1 : Nat) : Int)) = false := decide_eq_false h
        rw [if_neg h]
        simp only [h2]
        simp
    rw [e1, e1, e2, ih]
    by_cases h : x = ((s + 1 : Nat) : Int)
    · subst h
      rw [if_pos (by omega), if_neg (by omega), if_pos rfl, Int.add_mul]
      omega
    · rw [if_neg h, Int.add_zero]
      by_cases h2 : x ≤ (s : Int)
      · rw [if_pos h2, if_pos (by omega)]; omega
      · rw [if_neg h2, if_neg (by omega)]; omega
theorem wTo_le {l : List Int} (h : l.all good = true) (s : Nat) : wTo s l ≤ wsum l := by
  induction l with
  | nil => simp [wTo, wsum]
  | cons x l ih =>
    simp only [List.all_cons, Bool.and_eq_true] at h
    have e1 : wTo s (x :: l) = (if x ≤ (s : Int) then w x else 0) + wTo s l := rfl
    have e2 : wsum (x :: l) = w x + wsum l := rfl
    have := ih h.2
    have := (w_range h.1).1
    rw [e1, e2]
    split <;> omega
theorem nx_fits {l : List Int} (h : l.all good = true) : ∀ (s : Nat), 1 ≤ s → s ≤ 15 → (nx l s + cnt l s) * 2 ^ (15 - s) ≤ wTo s l
  | 0, h0, _ => by omega
  | 1, _, _ => by
    have e0 : 0 ≤ wTo 0 l := by
      have : ∀ l : List Int, l.all good = true → 0 ≤ wTo 0 l := by
        intro l
        induction l with
        | nil => intro _; simp [wTo]
        | cons x l ih =>
          intro h
          simp only [List.all_cons, Bool.and_eq_true] at h
          have e1 : wTo 0 (x :: l) = (if x ≤ ((0 : Nat) : Int) then w x else 0) + wTo 0 l := rfl
          have := ih h.2
          have := (w_range h.1).1
          rw [e1]; split <;> omega
      exact this l h
    have e1 := wTo_succ 0 l
    have e2 : w ((0 + 1 : Nat) : Int) = 2 ^ 14 := rfl
    rw [e2] at e1
    have e3 : nx l 1 = 0 := rfl
    rw [e3, e1]
    simp only [Nat.zero_add]
    omega
  | s + 2, _, h15 => by
    have ih := nx_fits h (s + 1) (by omega) (by omega)
    have e1 := wTo_succ (s + 1) l
    have e2 : w ((s + 1 + 1 : Nat) : Int) = 2 ^ (15 - (s + 2)) := by
      unfold w
      rw [if_pos (by omega)]
      congr 1
      omega
    have e3 : nx l (s + 2) = (nx l (s + 1) + cnt l (s + 1)) * 2 := rfl
    have e4 : (2 : Int) ^ (15 - (s + 1)) = 2 * 2 ^ (15 - (s + 2)) := by
      rw [show 15 - (s + 1) = (15 - (s + 2)) + 1 from by omega, Int.pow_succ, Int.mul_comm]
    rw [e4, ← Int.mul_assoc] at ih
    rw [e3, Int.add_mul, e1, e2]
    exact Int.add_le_add ih (Int.le_refl _)
theorem code_fits {l : List Int} (h : l.all good = true) (hw : wsum l ≤ 32768) {i : Nat} (hi : i < l.length) {s : Nat} (hs : l.getD i 0 = (s : Int)) (h0 : 0 < s) : 0 ≤ codeAt l i ∧ codeAt l i < 2 ^ s := by
  have hg : good (s : Int) = true := by
    rw [← hs, List.getD_eq_getElem?_getD, List.getElem?_eq_getElem hi]
    exact List.all_eq_true.1 h _ (List.getElem_mem hi)
  have h15 := (good_iff.1 hg).2
  have h1 := nx_fits h s h0 (by omega)
  have h2 := wTo_le h s
  have h3 := cnt_lt hi hs
  have h4 := (nx_range l s).1
  have h5 := (cnt_range (l.take i) s).1
  rw [code_eq hs h0]
  refine ⟨by omega, ?_⟩
  have h6 : (nx l s + cnt l s) * 2 ^ (15 - s) ≤ 2 ^ s * 2 ^ (15 - s) := by
    rw [← Int.pow_add, show s + (15 - s) = 15 from by omega]
    show _ ≤ (32768 : Int)
    omega
  have h7 : nx l s + cnt l s ≤ 2 ^ s := Int.le_of_mul_le_mul_right h6 (Int.pow_pos (by decide))
  omega
theorem err_zero {l : List Int} (h : err l = 0) : l.length ≤ 300 ∧ l.all good = true ∧ wsum l ≤ 32768 := by
  unfold err at h
  by_cases h1 : l.length > 300
  · rw [if_pos h1] at h; cases h
  · rw [if_neg h1] at h
    by_cases h2 : l.all good = false
    · rw [if_pos h2] at h; cases h
    · rw [if_neg h2] at h
      by_cases h3 : wsum l > 32768
      · rw [if_pos h3] at h; cases h
      · exact ⟨by omega, by simpa using h2, by omega⟩
theorem code_range {l : List Int} (h : err l = 0) {i : Nat} (hi : i < l.length) : 0 ≤ codeAt l i ∧ codeAt l i ≤ 32768 := by
  obtain ⟨_, hg, hw⟩ := err_zero h
  by_cases h0 : 0 < l.getD i 0
  · have h1 := code_fits hg hw hi (s := (l.getD i 0).toNat) (by omega) (by omega)
    have h2 : good (l.getD i 0) = true := by
      rw [List.getD_eq_getElem?_getD, List.getElem?_eq_getElem hi]
      exact List.all_eq_true.1 hg _ (List.getElem_mem hi)
    have h3 := good_iff.1 h2
    have h4 : (2 : Int) ^ (l.getD i 0).toNat ≤ 2 ^ 15 := by
      have : (2 : Nat) ^ (l.getD i 0).toNat ≤ 2 ^ 15 := Nat.pow_le_pow_right (by decide) (by omega)
      exact_mod_cast this
    omega
  · unfold codeAt
    simp only
    rw [if_neg h0]
    decide
end Go.Huf
