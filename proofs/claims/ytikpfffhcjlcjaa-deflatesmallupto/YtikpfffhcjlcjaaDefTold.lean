/- What a token says. -/
import Derived.Test.YtikpfffhcjlcjaaDefTok
set_option linter.unusedVariables false
set_option linter.unusedSimpArgs false
namespace Go.Dfl
open Go Go.Vc

structure TokOk (s : ByteArray) (i to : Nat) (b : Nat × Nat) : Prop where
  le : i + b.1 ≤ to
  cs : b = (1, 0) ∨ (3 ≤ b.1 ∧ b.1 ≤ 258 ∧ 1 ≤ b.2 ∧ b.2 ≤ i ∧ b.2 ≤ 32768 ∧ ∀ m, m < b.1 → byteAt s (i + m - b.2) = byteAt s (i + m))
theorem gram_byte {s : ByteArray} {k i m : Nat} (h : gram s k = gram s i) (hk : k + 3 ≤ s.size) (hi : i + 3 ≤ s.size) (hm : m < 3) : byteAt s (k + m) = byteAt s (i + m) := by
  have hg : ∀ j, j + 3 ≤ s.size → byteAt (gram s j) m = byteAt s (j + m) := fun j hj => by
    unfold gram byteAt
    rw [ByteArray.data_extract, Array.getD_eq_getD_getElem?, Array.getD_eq_getD_getElem?, Array.getElem?_extract, if_pos (by have : s.data.size = s.size := rfl; omega)]
  rw [← hg k hk, ← hg i hi, h]
theorem upTo_ge : ∀ {n m : Nat} {p : Nat → Bool}, (∀ j, j < n → p j = true) → n ≤ m → n ≤ upTo p m
  | 0, _, _, _, _ => Nat.zero_le _
  | n + 1, 0, _, _, h => by omega
  | n + 1, m + 1, p, h1, h2 => by
    rw [upTo, if_pos (h1 0 (by omega))]
    have := upTo_ge (n := n) (m := m) (p := fun k => p (k + 1)) (fun j hj => h1 (j + 1) (by omega)) (by omega)
    omega
theorem same_ge {s : ByteArray} {k i to : Nat} (h : gram s k = gram s i) (hk : k + 3 ≤ s.size) (hi : i + 3 ≤ to) (ht : to ≤ s.size) : 3 ≤ same s k i to := by
  have hp : ∀ m, m < 3 → sameP s k i to m = true := fun m hm => decide_eq_true ⟨by omega, gram_byte h hk (by omega) hm⟩
  exact upTo_ge hp (by decide)
theorem same_le258 (s : ByteArray) (k i to : Nat) : same s k i to ≤ 258 := upTo_le _ _
theorem same_get {s : ByteArray} {k i to m : Nat} (h : m < same s k i to) : byteAt s (k + m) = byteAt s (i + m) := (of_decide_eq_true (upTo_get (p := sameP s k i to) (m := 258) h)).2
theorem pick_ok {s : ByteArray} {i to : Nat} (hi : i + 3 ≤ to) (ht : to ≤ s.size) : ∀ (ks : List Nat) (met : Nat) (best : Nat × Nat), (∀ k ∈ ks, k < i ∧ k + 3 ≤ s.size ∧ gram s k = gram s i) → TokOk s i to best → TokOk s i to (pickT s i to met best ks)
  | [], met, best, _, h => by rw [pickT]; exact h
  | k :: ks, met, best, hk, h => by
    rw [pickT]
    obtain ⟨h1, h2, h3⟩ := hk k (List.mem_cons_self ..)
    split
    · exact h
    · rename_i hn
      refine pick_ok hi ht ks _ _ (fun x hx => hk x (List.mem_cons_of_mem _ hx)) ?_
      split
      · refine ⟨same_le s (by omega), .inr ⟨same_ge h3 h2 hi ht, same_le258 _ _ _ _, ?_, ?_, ?_, fun m hm => ?_⟩⟩
        · show 1 ≤ i - k; omega
        · show i - k ≤ i; omega
        · show i - k ≤ 32768; omega
        · show byteAt s (i + m - (i - k)) = _
          rw [show i + m - (i - k) = k + m by omega]
          exact same_get hm
      · exact h
theorem best_ok {s : ByteArray} {i to : Nat} (hi : i < to) (ht : to ≤ s.size) : TokOk s i to (bestT s i to) := by
  have h1 : TokOk s i to (1, 0) := ⟨by show i + 1 ≤ to; omega, .inl rfl⟩
  unfold bestT
  split
  · rename_i h3
    refine pick_ok h3 ht _ 0 (1, 0) (fun k hk => ?_) h1
    rw [List.mem_reverse] at hk
    have h2 := List.mem_filter.1 hk
    have h4 := of_decide_eq_true h2.2
    exact ⟨List.mem_range.1 h2.1, h4.1, h4.2⟩
  · exact h1
end Go.Dfl
