/- The merging as a list of pairs; the depths out of it from the top. -/
import Derived.Test.YtikpfffhcjlcjaaHuffTree2
set_option linter.unusedSimpArgs false
namespace Go.Huf
set_option linter.unusedVariables false

def merge : Nat → List Nd → Nat → List (Nat × Nat)
  | k + 1, a :: b :: r, nx => (a.2, b.2) :: merge k (ins (a.1 + b.1, nx) r) (nx + 1)
  | _, _, _ => []
def deepF : Nat → List (Nat × Nat) → Nat → Nat
  | nx, p :: ps, v => if v = p.1 ∨ v = p.2 then deepF (nx + 1) ps nx + 1 else deepF (nx + 1) ps v
  | _, [], _ => 0
theorem merge_dep : ∀ (k : Nat) (W : List Nd) (nx v : Nat), W.length = k + 1 → deepF nx (merge k W nx) v = dep k W nx v
  | 0, W, nx, v, h => by cases W <;> simp [merge, deepF, dep]
  | k + 1, a :: b :: r, nx, v, h => by
    have h2 : (ins (a.1 + b.1, nx) r).length = k + 1 := by rw [ins_len]; simp at h; omega
    rw [merge, deepF, dep_step, merge_dep k _ _ _ h2, merge_dep k _ _ _ h2]
  | k + 1, [a], nx, v, h => by simp at h
  | k + 1, [], nx, v, h => by simp at h
/-- What the merging keeps. -/
structure WI (W : List Nd) (nx : Nat) : Prop where
  ok : Ok W nx
  nums : Nums W
  sum : (W.map (·.1)).sum ≤ 2 ^ 50
theorem sum_nonneg {l : List Int} (h : ∀ x ∈ l, 0 ≤ x) : 0 ≤ l.sum := by
  induction l with
  | nil => simp
  | cons x l ih => have h1 := h x (by simp); have h2 := ih (fun y hy => h y (by simp [hy])); simp only [List.sum_cons]; omega
theorem le_sum {l : List Int} (h : ∀ x ∈ l, 0 ≤ x) : ∀ x ∈ l, x ≤ l.sum := by
  induction l with
  | nil => simp
  | cons y l ih =>
    intro x hx
    have h1 := h y (by simp); have h2 := sum_nonneg (fun y hy => h y (by simp [hy]) : ∀ x ∈ l, 0 ≤ x)
    simp only [List.sum_cons]
    rcases List.mem_cons.1 hx with rfl | hx
    · omega
    · have := ih (fun y hy => h y (by simp [hy])) x hx; omega
theorem sum_perm {l l' : List Int} (h : l.Perm l') : l.sum = l'.sum := by
  induction h with
  | nil => rfl
  | cons x _ ih => simp only [List.sum_cons, ih]
  | swap x y l => simp only [List.sum_cons]; omega
  | trans _ _ i1 i2 => exact i1.trans i2
theorem WI.step {a b : Nd} {r : List Nd} {nx : Nat} (h : WI (a :: b :: r) nx) : WI (ins (a.1 + b.1, nx) r) (nx + 1) := by
  refine ⟨h.ok.step, h.nums.step h.ok.lt, ?_⟩
  have h1 := sum_perm ((ins_perm (a.1 + b.1, nx) r).map (·.1))
  rw [h1]
  have := h.sum
  simp only [List.map_cons, List.sum_cons] at *
  omega
theorem WI.le {W : List Nd} {nx : Nat} (h : WI W nx) : ∀ x ∈ W, 0 < x.1 ∧ x.1 ≤ 2 ^ 50 ∧ x.2 < nx := by
  intro x hx
  have h1 := le_sum (l := W.map (·.1)) (fun y hy => by obtain ⟨z, hz, rfl⟩ := List.mem_map.1 hy; have := h.ok.pos z hz; omega) x.1 (List.mem_map.2 ⟨x, hx, rfl⟩)
  have := h.sum
  exact ⟨h.ok.pos x hx, by omega, h.ok.lt x hx⟩
theorem merge_len : ∀ (k : Nat) (W : List Nd) (nx : Nat), W.length = k + 1 → (merge k W nx).length = k
  | 0, W, nx, h => by cases W <;> simp [merge]
  | k + 1, a :: b :: r, nx, h => by
    have h2 : (ins (a.1 + b.1, nx) r).length = k + 1 := by rw [ins_len]; simp at h; omega
    rw [merge, List.length_cons, merge_len k _ _ h2]
  | k + 1, [a], nx, h => by simp at h
  | k + 1, [], nx, h => by simp at h
theorem merge_lt : ∀ (k : Nat) (W : List Nd) (nx : Nat), (∀ x ∈ W, x.2 < nx) → ∀ j p, (merge k W nx)[j]? = some p → p.1 < nx + j ∧ p.2 < nx + j
  | 0, W, nx, h, j, p, hp => by cases W <;> simp [merge] at hp
  | k + 1, a :: b :: r, nx, h, j, p, hp => by
    rw [merge] at hp
    cases j with
    | zero => simp at hp; subst hp; exact ⟨h a (by simp), h b (by simp)⟩
    | succ j =>
      have := merge_lt k (ins (a.1 + b.1, nx) r) (nx + 1) (fun x hx => by
        rcases ins_mem.1 hx with rfl | hx
        · simp
        · have := h x (by simp [hx]); omega) j p (by simpa using hp)
      omega
  | k + 1, [a], nx, h, j, p, hp => by simp [merge] at hp
  | k + 1, [], nx, h, j, p, hp => by simp [merge] at hp
theorem deepF_le : ∀ (ps : List (Nat × Nat)) (nx v : Nat), deepF nx ps v ≤ ps.length
  | [], _, _ => by simp [deepF]
  | p :: ps, nx, v => by
    have h1 := deepF_le ps (nx + 1) nx
    have h2 := deepF_le ps (nx + 1) v
    rw [deepF, List.length_cons]
    split <;> omega
def deepL (n tot : Nat) (ps : List (Nat × Nat)) (j : Nat) : List Int := (List.range tot).map fun v => ((deepF (n + j) (ps.drop j) v : Nat) : Int)
theorem deepL_len (n tot : Nat) (ps : List (Nat × Nat)) (j : Nat) : (deepL n tot ps j).length = tot := by simp [deepL]
theorem deepL_get {n tot : Nat} {ps : List (Nat × Nat)} {j v : Nat} (hv : v < tot) : (deepL n tot ps j)[v]? = some ((deepF (n + j) (ps.drop j) v : Nat) : Int) := by simp [deepL, hv]
theorem deepL_end (n tot : Nat) (ps : List (Nat × Nat)) : deepL n tot ps ps.length = List.replicate tot 0 := by
  unfold deepL
  apply List.ext_getElem
  · simp
  · intro i h1 h2; simp [deepF]
theorem deepL_step {n tot j : Nat} {ps : List (Nat × Nat)} {p : Nat × Nat} {x : Int} (hp : ps[j]? = some p) (ht : n + j < tot) (hx : (deepL n tot ps (j + 1))[n + j]? = some x) :
    ((deepL n tot ps (j + 1)).set p.1 (x + 1)).set p.2 (x + 1) = deepL n tot ps j := by
  rw [deepL_get ht] at hx
  cases hx
  obtain ⟨hj, rfl⟩ := List.getElem?_eq_some_iff.1 hp
  apply List.ext_getElem?
  intro v
  by_cases hv : v < tot
  · rw [deepL_get hv, List.drop_eq_getElem_cons hj, deepF]
    rw [List.getElem?_set, List.getElem?_set]
    simp only [List.length_set, deepL_len]
    by_cases e2 : ps[j].2 = v
    · rw [if_pos e2, if_pos (by omega), if_pos (by omega)]; rfl
    · rw [if_neg e2]
      by_cases e1 : ps[j].1 = v
      · rw [if_pos e1, if_pos (by omega), if_pos (by omega)]; rfl
      · rw [if_neg e1, if_neg (by omega), deepL_get hv, Nat.add_assoc]
  · rw [List.getElem?_eq_none (by simp [deepL_len]; omega), List.getElem?_eq_none (by rw [deepL_len]; omega)]
theorem deepL_range {n tot j v : Nat} {ps : List (Nat × Nat)} {x : Int} (h : (deepL n tot ps j)[v]? = some x) : 0 ≤ x ∧ x ≤ ps.length := by
  have hv : v < tot := by have := (List.getElem?_eq_some_iff.1 h).1; rwa [deepL_len] at this
  rw [deepL_get hv] at h
  cases h
  have := deepF_le (ps.drop j) (n + j) v
  rw [List.length_drop] at this
  omega
/-- The nodes of the counts ahead of i. -/
def baseK (l : List Int) (i : Nat) : List Nd := (List.range i).filterMap fun i => if 0 < l.getD i 0 then some (l.getD i 0, i) else none
theorem baseK_succ (l : List Int) (i : Nat) : baseK l (i + 1) = baseK l i ++ if 0 < l.getD i 0 then [(l.getD i 0, i)] else [] := by
  unfold baseK
  rw [List.range_succ, List.filterMap_append]
  congr 1
  by_cases h : 0 < l.getD i 0
  · rw [if_pos h]; simp only [List.filterMap_cons, List.filterMap_nil, if_pos h]
  · rw [if_neg h]; simp only [List.filterMap_cons, List.filterMap_nil, if_neg h]
theorem baseK_len (l : List Int) (i : Nat) : (baseK l i).length ≤ i := by
  unfold baseK
  exact Nat.le_trans (List.length_filterMap_le _ _) (by simp)
theorem baseK_all (l : List Int) : baseK l l.length = base l := rfl
theorem srt0_wi {l : List Int} (h : ∀ x ∈ l, x ≤ 2 ^ 40) (hl : l.length ≤ 300) : WI (srt0 l) l.length := by
  refine ⟨srt0_ok l, srt0_nums l, ?_⟩
  rw [sum_perm ((srt0_perm l).map (·.1))]
  have : ∀ i, i ≤ l.length → ((baseK l i).map (·.1)).sum ≤ i * 2 ^ 40 := by
    intro i
    induction i with
    | zero => intro _; simp [baseK]
    | succ i ih =>
      intro hi
      have h1 := ih (by omega)
      rw [baseK_succ, List.map_append, List.sum_append]
      have h2 : l.getD i 0 ≤ 2 ^ 40 := by
        rw [List.getD_eq_getElem?_getD, List.getElem?_eq_getElem (by omega)]
        exact h _ (List.getElem_mem _)
      by_cases h3 : 0 < l.getD i 0
      · rw [if_pos h3]; simp only [List.map_cons, List.map_nil, List.sum_cons, List.sum_nil]; omega
      · rw [if_neg h3]; simp; omega
  have := this l.length (Nat.le_refl _)
  rw [baseK_all] at this
  omega
/-- One symbol alone. -/
theorem lens_one {l : List Int} {x : Nd} (h : base l = [x]) : lens l = (List.replicate l.length 0).set x.2 1 := by
  unfold lens
  rw [if_pos (by rw [h]; rfl)]
  have hx : x ∈ base l := by rw [h]; simp
  have hx := base_mem.1 hx
  apply List.ext_getElem
  · simp
  · intro i h1 h2
    simp only [List.length_map, List.length_range] at h1
    rw [List.getElem_set]
    simp only [List.getElem_map, List.getElem_range, List.getElem_replicate]
    by_cases e : x.2 = i
    · subst e; rw [if_pos hx.2.1, if_pos rfl]
    · rw [if_neg e, if_neg]
      intro h3
      have : (l.getD i 0, i) ∈ base l := base_mem.2 ⟨h1, h3, rfl⟩
      rw [h] at this
      have := List.mem_singleton.1 this
      exact e (by rw [← this])
theorem lens_none {l : List Int} (h : base l = []) : lens l = List.replicate l.length 0 := by
  unfold lens
  rw [if_neg (by rw [h]; simp)]
  apply List.ext_getElem
  · simp
  · intro i h1 h2
    have h1 : i < l.length := by simpa using h1
    simp only [List.getElem_map, List.getElem_range, List.getElem_replicate]
    have h3 : srt0 l = [] := by unfold srt0; rw [h]; rfl
    unfold depOf
    rw [h3]
    rfl
theorem lens_many {l : List Int} (h : 2 ≤ (base l).length) : lens l = (deepL l.length (l.length + ((base l).length - 1)) (merge ((base l).length - 1) (srt0 l) l.length) 0).take l.length := by
  have hsl : (srt0 l).length = (base l).length - 1 + 1 := by rw [(srt0_perm l).length_eq]; omega
  unfold lens
  rw [if_neg (by omega)]
  apply List.ext_getElem
  · simp [deepL_len]
  · intro i h1 h2
    have h1 : i < l.length := by simpa using h1
    rw [List.getElem_take]
    simp only [List.getElem_map, List.getElem_range, deepL, List.drop_zero, Nat.add_zero]
    rw [merge_dep _ _ _ _ hsl]
    unfold depOf
    rw [hsl]
    simp
end Go.Huf
