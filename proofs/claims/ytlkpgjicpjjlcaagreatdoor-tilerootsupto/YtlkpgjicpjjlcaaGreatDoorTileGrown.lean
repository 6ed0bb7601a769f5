import Derived.Test.YtlkpgjicpjjlcaaGreatDoorTilePure
/- The new tiles, in plain words. -/
set_option linter.unusedVariables false
set_option linter.unusedSimpArgs false
namespace Go.Tile
open Go
abbrev Co := Int × Nat × Nat
def lvls : List (Int × Nat) := [(0, 1), (1, 256), (2, 65536), (3, 16777216), (-1, 1)]
def gCnt (was now : Nat) : Nat := if was = now then 0 else (now - 1) / 256 + 1 - was / 256
def gOne (lv : Int) (was now i : Nat) : Co := (lv, was / 256 + i, min 256 (now - (was / 256 + i) * 256))
def gAt (lv : Int) (was now : Nat) : List Co := (List.range (gCnt was now)).map (gOne lv was now)
def grownL (old n : Nat) : List Co := lvls.flatMap fun x => gAt x.1 (old / x.2) (n / x.2)
def sizeOf (lv : Int) : Nat := 256 ^ lv.toNat
theorem gOne_ok {lv : Int} {size a b i : Nat} (hs : 0 < size) (hab : a ≤ b) (hi : i < gCnt (a / size) (b / size)) :
    1 ≤ (gOne lv (a / size) (b / size) i).2.2 ∧ (gOne lv (a / size) (b / size) i).2.2 ≤ 256 ∧ a < ((gOne lv (a / size) (b / size) i).2.1 * 256 + (gOne lv (a / size) (b / size) i).2.2) * size ∧ ((gOne lv (a / size) (b / size) i).2.1 * 256 + (gOne lv (a / size) (b / size) i).2.2) * size ≤ b := by
  obtain ⟨w, hw⟩ : ∃ w, w = a / size := ⟨_, rfl⟩
  obtain ⟨m, hm⟩ : ∃ m, m = b / size := ⟨_, rfl⟩
  have hwm : w ≤ m := by rw [hw, hm]; exact Nat.div_le_div_right hab
  rw [← hw, ← hm] at hi ⊢
  unfold gCnt at hi
  split at hi
  · omega
  · unfold gOne
    dsimp only
    have h1 : a < (w + 1) * size := by
      have := Nat.lt_div_mul_add (a := a) hs
      rw [← hw] at this
      rw [Nat.add_mul]; omega
    have h2 : m * size ≤ b := by rw [hm]; exact Nat.div_mul_le_self _ _
    obtain ⟨e, he⟩ : ∃ e, e = (w / 256 + i) * 256 + min 256 (m - (w / 256 + i) * 256) := ⟨_, rfl⟩
    have h3 : w + 1 ≤ e := by omega
    have h4 : e ≤ m := by omega
    rw [← he]
    refine ⟨by omega, by omega, Nat.lt_of_lt_of_le h1 (Nat.mul_le_mul_right _ h3), Nat.le_trans (Nat.mul_le_mul_right _ h4) h2⟩
def Step1 (l : List Co) : Prop := ∀ (j i : Nat) (x y : Co), j < i → l[j]? = some x → l[i]? = some y → x.1 = y.1 → y.2.1 = x.2.1 + (i - j)
theorem step1_gAt (lv : Int) (w m : Nat) : Step1 (gAt lv w m) := by
  intro j i x y hji hx hy _
  unfold gAt at hx hy
  rw [List.getElem?_map] at hx hy
  obtain ⟨a, ha, rfl⟩ := Option.map_eq_some_iff.1 hx
  obtain ⟨b, hb, rfl⟩ := Option.map_eq_some_iff.1 hy
  rw [List.getElem?_eq_some_iff] at ha hb
  obtain ⟨h1, h2⟩ := ha
  obtain ⟨h3, h4⟩ := hb
  rw [List.getElem_range] at h2 h4
  subst h2 h4
  show w / 256 + i = w / 256 + j + (i - j)
  omega
theorem gAt_lv {lv : Int} {w m : Nat} {x : Co} (h : x ∈ gAt lv w m) : x.1 = lv := by
  unfold gAt at h
  obtain ⟨i, _, rfl⟩ := List.mem_map.1 h
  rfl
theorem step1_app {a b : List Co} (ha : Step1 a) (hb : Step1 b) (hd : ∀ x ∈ a, ∀ y ∈ b, x.1 ≠ y.1) : Step1 (a ++ b) := by
  intro j i x y hji hx hy he
  by_cases hi : i < a.length
  · rw [List.getElem?_append_left hi] at hy
    rw [List.getElem?_append_left (by omega)] at hx
    exact ha j i x y hji hx hy he
  · rw [List.getElem?_append_right (by omega)] at hy
    by_cases hj : j < a.length
    · rw [List.getElem?_append_left hj] at hx
      exact absurd he (hd x (List.mem_of_getElem? hx) y (List.mem_of_getElem? hy))
    · rw [List.getElem?_append_right (by omega)] at hx
      have := hb (j - a.length) (i - a.length) x y (by omega) hx hy he
      omega
theorem step1_flat {old n : Nat} : ∀ (l : List (Int × Nat)), (l.map (·.1)).Nodup → Step1 (l.flatMap fun x => gAt x.1 (old / x.2) (n / x.2))
  | [], _ => by intro j i x y _ hx; simp at hx
  | a :: l, h => by
    rw [List.map_cons, List.nodup_cons] at h
    rw [List.flatMap_cons]
    refine step1_app (step1_gAt _ _ _) (step1_flat l h.2) ?_
    intro x hx y hy he
    obtain ⟨c, hc, hy⟩ := List.mem_flatMap.1 hy
    exact h.1 (List.mem_map.2 ⟨c, hc, by rw [← gAt_lv hx, he, gAt_lv hy]⟩)
theorem grown_step (old n : Nat) : Step1 (grownL old n) := step1_flat lvls (by decide)
theorem grown_nodup {old n j i : Nat} {x : Co} (hji : j < i) (hj : (grownL old n)[j]? = some x) (hi : (grownL old n)[i]? = some x) : False := by
  have := grown_step old n j i x x hji hj hi rfl
  omega
theorem grown_mem {old n : Nat} {x : Co} (hab : old ≤ n) (h : x ∈ grownL old n) : -1 ≤ x.1 ∧ x.1 ≤ 3 ∧ 1 ≤ x.2.2 ∧ x.2.2 ≤ 256 ∧ old < (x.2.1 * 256 + x.2.2) * sizeOf x.1 ∧ (x.2.1 * 256 + x.2.2) * sizeOf x.1 ≤ n := by
  obtain ⟨c, hc, hx⟩ := List.mem_flatMap.1 h
  have hlv := gAt_lv hx
  have hcs : c.2 = sizeOf c.1 ∧ 0 < c.2 ∧ -1 ≤ c.1 ∧ c.1 ≤ 3 := by
    have : ∀ c ∈ lvls, c.2 = sizeOf c.1 ∧ 0 < c.2 ∧ -1 ≤ c.1 ∧ c.1 ≤ 3 := by decide
    exact this c hc
  unfold gAt at hx
  obtain ⟨i, hi, rfl⟩ := List.mem_map.1 hx
  rw [hlv, ← hcs.1]
  obtain ⟨h1, h2, h3, h4⟩ := gOne_ok (lv := c.1) hcs.2.1 hab (List.mem_range.1 hi)
  exact ⟨hcs.2.2.1, hcs.2.2.2, h1, h2, h3, h4⟩
theorem grown_nil (n : Nat) : grownL n n = [] := by
  unfold grownL
  rw [List.flatMap_eq_nil_iff]
  intro x _
  unfold gAt gCnt
  rw [if_pos rfl]
  rfl
theorem grown_last {old n : Nat} (h : old < n) : ∃ l x, grownL old n = l ++ [x] ∧ x.1 = -1 := by
  have hc : ∃ k, gCnt (old / 1) (n / 1) = k + 1 := by
    rw [Nat.div_one, Nat.div_one]
    unfold gCnt
    rw [if_neg (by omega)]
    exact ⟨(n - 1) / 256 - old / 256, by omega⟩
  obtain ⟨k, hk⟩ := hc
  refine ⟨([(0, 1), (1, 256), (2, 65536), (3, 16777216)] : List (Int × Nat)).flatMap (fun x => gAt x.1 (old / x.2) (n / x.2)) ++ (List.range k).map (gOne (-1) (old / 1) (n / 1)), gOne (-1) (old / 1) (n / 1) k, ?_, rfl⟩
  unfold grownL lvls
  rw [show ([(0, 1), (1, 256), (2, 65536), (3, 16777216), (-1, 1)] : List (Int × Nat)) = [(0, 1), (1, 256), (2, 65536), (3, 16777216)] ++ [(-1, 1)] from rfl, List.flatMap_append, List.append_assoc]
  congr 1
  show gAt (-1) (old / 1) (n / 1) ++ [] = _
  rw [List.append_nil]
  unfold gAt
  rw [hk, List.range_succ, List.map_append]
  rfl
end Go.Tile
