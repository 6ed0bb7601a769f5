import Derived.Test.YtikpfffhcjlcjaaDefA
set_option linter.unusedVariables false
set_option linter.unusedSimpArgs false
namespace Go.Dfl
open Go Go.Vc
def upTo (p : Nat → Bool) : Nat → Nat
  | 0 => 0
  | m + 1 => if p 0 then upTo (fun n => p (n + 1)) m + 1 else 0
theorem upTo_eq : ∀ {m n : Nat} {p : Nat → Bool}, (∀ j, j < n → p j = true) → n ≤ m → (n = m ∨ p n = false) → upTo p m = n
  | 0, n, p, _, h2, _ => by rw [upTo]; omega
  | m + 1, 0, p, _, _, h3 => by
    have : p 0 = false := by rcases h3 with h | h <;> first | omega | exact h
    rw [upTo, if_neg (by rw [this]; simp)]
  | m + 1, n + 1, p, h1, h2, h3 => by
    rw [upTo, if_pos (h1 0 (by omega)), upTo_eq (p := fun n => p (n + 1)) (n := n) (fun j hj => h1 (j + 1) (by omega)) (by omega) (by rcases h3 with h | h <;> first | exact .inl (by omega) | exact .inr h)]
theorem upTo_le (p : Nat → Bool) (m : Nat) : upTo p m ≤ m := by
  induction m generalizing p with
  | zero => simp [upTo]
  | succ m ih => rw [upTo]; split <;> have := ih (fun n => p (n + 1)) <;> omega
theorem upTo_get {p : Nat → Bool} {m j : Nat} (h : j < upTo p m) : p j = true := by
  induction m generalizing p j with
  | zero => simp [upTo] at h
  | succ m ih =>
    rw [upTo] at h
    split at h
    · rename_i h0
      cases j with
      | zero => exact h0
      | succ j => exact ih (p := fun n => p (n + 1)) (by omega)
    · omega
def sameP (s : ByteArray) (k i to : Nat) (n : Nat) : Bool := decide (i + n < to ∧ byteAt s (k + n) = byteAt s (i + n))
def same (s : ByteArray) (k i to : Nat) : Nat := upTo (sameP s k i to) 258
def pickT (s : ByteArray) (i to : Nat) : Nat → Nat × Nat → List Nat → Nat × Nat
  | _, best, [] => best
  | met, best, k :: ks => if 16 < met + 1 ∨ 32768 < i - k then best else pickT s i to (met + 1) (if best.1 < same s k i to then (same s k i to, i - k) else best) ks
def gram (s : ByteArray) (k : Nat) : ByteArray := s.extract k (k + 3)
def grams (s : ByteArray) (g : ByteArray) (i : Nat) : List Nat := (List.range i).filter fun k => decide (k + 3 ≤ s.size ∧ gram s k = g)
def bestT (s : ByteArray) (i to : Nat) : Nat × Nat := if i + 3 ≤ to then pickT s i to 0 (1, 0) (grams s (gram s i) i).reverse else (1, 0)
theorem pickT_ge (s : ByteArray) (i to : Nat) : ∀ (ks : List Nat) (met : Nat) (best : Nat × Nat), best.1 ≤ (pickT s i to met best ks).1
  | [], met, best => by rw [pickT]; exact Nat.le_refl _
  | k :: ks, met, best => by
    rw [pickT]
    split
    · exact Nat.le_refl _
    · refine Nat.le_trans ?_ (pickT_ge s i to ks _ _)
      split
      · show best.1 ≤ same s k i to; omega
      · exact Nat.le_refl _
theorem bestT_pos (s : ByteArray) (i to : Nat) : 1 ≤ (bestT s i to).1 := by
  unfold bestT
  split
  · exact pickT_ge s i to _ 0 (1, 0)
  · exact Nat.le_refl _
theorem same_le (s : ByteArray) {k i to : Nat} (hi : i ≤ to) : i + same s k i to ≤ to := by
  rcases Nat.eq_zero_or_pos (same s k i to) with h | h
  · omega
  · have h1 : sameP s k i to (same s k i to - 1) = true := upTo_get (m := 258) (by show _ < same s k i to; omega)
    have h2 := of_decide_eq_true h1
    omega
theorem pickT_le (s : ByteArray) {i to : Nat} (hi : i ≤ to) : ∀ (ks : List Nat) (met : Nat) (best : Nat × Nat), i + best.1 ≤ to → i + (pickT s i to met best ks).1 ≤ to
  | [], met, best, h => by rw [pickT]; exact h
  | k :: ks, met, best, h => by
    rw [pickT]
    split
    · exact h
    · refine pickT_le s hi ks _ _ ?_
      split
      · exact same_le s hi
      · exact h
theorem bestT_le (s : ByteArray) {i to : Nat} (hi : i < to) : i + (bestT s i to).1 ≤ to := by
  unfold bestT
  split
  · exact pickT_le s (by omega) _ 0 (1, 0) (by show i + 1 ≤ to; omega)
  · show i + 1 ≤ to; omega
def toks (s : ByteArray) (i to : Nat) : List (Nat × Nat) := if h : i < to then bestT s i to :: toks s (i + (bestT s i to).1) to else []
termination_by to - i
decreasing_by have := bestT_pos s i to; omega
theorem toks_step {s : ByteArray} {i to : Nat} (h : i < to) : toks s i to = bestT s i to :: toks s (i + (bestT s i to).1) to := by rw [toks, dif_pos h]
theorem toks_end {s : ByteArray} {i to : Nat} (h : ¬ i < to) : toks s i to = [] := by rw [toks, dif_neg h]
def tokensF (s : ByteArray) (from_ to : Int) : List (Nat × Nat) := if from_ < 0 ∨ to < from_ ∨ s.size < to then [] else toks s from_.toNat to.toNat
end Go.Dfl
