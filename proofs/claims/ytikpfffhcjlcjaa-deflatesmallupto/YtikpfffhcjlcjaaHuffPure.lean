/- Codes of bits in plain Lean. -/
import Derived.KernelRfl
set_option linter.unusedVariables false
set_option linter.unusedSimpArgs false
namespace Go.Huf
def good (k : Int) : Bool := decide (0 ≤ k) && decide (k ≤ 15)
def w (k : Int) : Int := if 0 < k then 2 ^ (15 - k).toNat else 0
def wsum (l : List Int) : Int := (l.map w).sum
def cnt (l : List Int) (s : Nat) : Int := ((l.countP (fun k : Int => decide (k = (s : Int))) : Nat) : Int)
def nx (l : List Int) : Nat → Int
  | 0 => 0
  | 1 => 0
  | s + 2 => (nx l (s + 1) + cnt l (s + 1)) * 2
def codeAt (l : List Int) (i : Nat) : Int := let k := l.getD i 0; if 0 < k then nx l k.toNat + cnt (l.take i) k.toNat else 0
def codes (l : List Int) : List Int := (List.range l.length).map (codeAt l)
def err (l : List Int) : Int := if l.length > 300 then 1 else if l.all good = false then 1 else if wsum l > 32768 then 2 else 0
def errN (l : List Int) : Int := if err l ≠ 0 then err l else if wsum l ≠ 0 ∧ wsum l ≠ 32768 ∧ l.sum ≠ 1 then 2 else 0

theorem all_take {l : List Int} (p : Int → Bool) {i : Nat} {x : Int} (hx : l[i]? = some x) : (l.take (i + 1)).all p = ((l.take i).all p && p x) := by
  rw [List.take_add_one, hx]; simp
theorem wsum_take {l : List Int} {i : Nat} {x : Int} (hx : l[i]? = some x) : wsum (l.take (i + 1)) = wsum (l.take i) + w x := by
  rw [List.take_add_one, hx]; simp [wsum]
theorem cnt_take {l : List Int} {i : Nat} {x : Int} (hx : l[i]? = some x) (s : Nat) : cnt (l.take (i + 1)) s = cnt (l.take i) s + if x = s then 1 else 0 := by
  rw [List.take_add_one, hx]
  simp only [cnt, List.countP_append, Option.toList_some, List.countP_cons, List.countP_nil, decide_eq_true_eq]
  split <;> simp
theorem w_range {k : Int} (h : good k = true) : 0 ≤ w k ∧ w k ≤ 16384 := by
  simp only [good, Bool.and_eq_true, decide_eq_true_eq] at h
  have : k = 0 ∨ k = 1 ∨ k = 2 ∨ k = 3 ∨ k = 4 ∨ k = 5 ∨ k = 6 ∨ k = 7 ∨ k = 8 ∨ k = 9 ∨ k = 10 ∨ k = 11 ∨ k = 12 ∨ k = 13 ∨ k = 14 ∨ k = 15 := by omega
  rcases this with rfl|rfl|rfl|rfl|rfl|rfl|rfl|rfl|rfl|rfl|rfl|rfl|rfl|rfl|rfl|rfl <;> decide
theorem wsum_range (l : List Int) : l.all good = true → 0 ≤ wsum l ∧ wsum l ≤ 16384 * l.length := by
  induction l with
  | nil => intro _; simp [wsum]
  | cons x l ih =>
    intro h
    simp only [List.all_cons, Bool.and_eq_true] at h
    have h1 := ih h.2
    have h2 := w_range h.1
    simp only [wsum, List.map_cons, List.sum_cons, List.length_cons] at *
    omega
theorem cnt_range (l : List Int) (s : Nat) : 0 ≤ cnt l s ∧ cnt l s ≤ l.length := by
  unfold cnt
  have := List.countP_le_length (p := fun k : Int => decide (k = (s : Int))) (l := l)
  omega
theorem nx_range (l : List Int) (s : Nat) : 0 ≤ nx l s ∧ nx l s + 2 * l.length ≤ 2 * l.length * 2 ^ s := by
  induction s with
  | zero => simp [nx]
  | succ s ih =>
    cases s with
    | zero => simp only [nx]; omega
    | succ s =>
      have h := cnt_range l (s + 1)
      rw [nx, Int.pow_succ]
      generalize (2 : Int) ^ (s + 1) = z at *
      generalize (l.length : Int) = n at *
      have : 2 * n * (z * 2) = (2 * n * z) * 2 := by rw [← Int.mul_assoc]
      rw [this]
      omega
theorem nx_le (l : List Int) (hl : l.length ≤ 300) {s : Nat} (hs : s ≤ 16) : 0 ≤ nx l s ∧ nx l s ≤ 39321600 := by
  have h := nx_range l s
  have h2 : (2 : Int) ^ s ≤ 2 ^ 16 := by
    have := Nat.pow_le_pow_right (n := 2) (by omega) hs
    exact_mod_cast this
  have h3 : 2 * (l.length : Int) * 2 ^ s ≤ 600 * 2 ^ 16 := Int.mul_le_mul (by omega) h2 (Int.pow_nonneg (by omega)) (by omega)
  omega
theorem codes_length (l : List Int) : (codes l).length = l.length := by simp [codes]
theorem codes_get {l : List Int} {i : Nat} (h : i < l.length) : (codes l)[i]? = some (codeAt l i) := by simp [codes, h]
theorem good_iff {k : Int} : good k = true ↔ 0 ≤ k ∧ k ≤ 15 := by simp [good]
end Go.Huf
