import Derived.Test.YtikpfffhcjlcjaaDefA
set_option linter.unusedVariables false
set_option linter.unusedSimpArgs false
namespace Go.Dfl
open Go Go.Vc
def byteBits (l : List UInt8) : List Bool := l.flatMap fun x => bitsL ((x.toNat : Nat) : Int) 8
def sBits (s : ByteArray) : List Bool := byteBits s.data.toList
theorem bitsL8_len (n : Int) (m : Nat) : (bitsL n m).length = m := by simp [bitsL]
theorem byteBits_len : ∀ (l : List UInt8), (byteBits l).length = 8 * l.length
  | [] => rfl
  | x :: l => by
    have := byteBits_len l
    unfold byteBits at *
    rw [List.flatMap_cons, List.length_append, bitsL8_len, this, List.length_cons]
    omega
theorem sBits_len (s : ByteArray) : (sBits s).length = 8 * s.size := byteBits_len _
theorem byteV_bits : ∀ n : Fin 256, byteV (bitsL (n.val : Int) 8) = (n.val : Int) := by decide +kernel
theorem byteV_u8 (x : UInt8) : byteV (bitsL ((x.toNat : Nat) : Int) 8) = ((x.toNat : Nat) : Int) := byteV_bits ⟨x.toNat, x.toNat_lt⟩
theorem packB_add {bs cs : List Bool} (h : bs.length % 8 = 0) : packB (bs ++ cs) = packB bs ++ packB cs := by
  have hl : bs.length = 8 * (bs.length / 8) := by omega
  apply List.ext_getElem?
  intro k
  rcases Nat.lt_or_ge k ((bs.length + 7) / 8) with h1 | h1
  · rw [List.getElem?_append_left (by rw [packB_len]; exact h1), packB_get (by rw [List.length_append]; omega), packB_get h1, List.drop_append_of_le_length (by omega), List.take_append_of_le_length (by rw [List.length_drop]; omega)]
  · rw [List.getElem?_append_right (by rw [packB_len]; exact h1), packB_len]
    rcases Nat.lt_or_ge (k - (bs.length + 7) / 8) ((cs.length + 7) / 8) with h2 | h2
    · rw [packB_get h2, packB_get (by rw [List.length_append]; omega), List.drop_append, List.drop_eq_nil_of_le (by omega), List.nil_append, show 8 * k - bs.length = 8 * (k - (bs.length + 7) / 8) by omega]
    · rw [List.getElem?_eq_none (by rw [packB_len, List.length_append]; omega), List.getElem?_eq_none (by rw [packB_len]; omega)]
theorem packB_bytes : ∀ (l : List UInt8), packB (byteBits l) = l.map fun x => ((x.toNat : Nat) : Int)
  | [] => rfl
  | x :: l => by
    have h1 : byteBits (x :: l) = bitsL ((x.toNat : Nat) : Int) 8 ++ byteBits l := by unfold byteBits; rw [List.flatMap_cons]
    have h2 : packB (bitsL ((x.toNat : Nat) : Int) 8) = [((x.toNat : Nat) : Int)] := by
      have h3 : packB (bitsL ((x.toNat : Nat) : Int) 8) = [byteV (((bitsL ((x.toNat : Nat) : Int) 8).drop 0).take 8)] := by
        unfold packB
        rw [bitsL8_len]
        rfl
      rw [h3, List.drop_zero, List.take_of_length_le (by rw [bitsL8_len]; omega), byteV_u8]
    rw [h1, packB_add (by rw [bitsL8_len]), h2, packB_bytes l]
    rfl
theorem packB_store {bs : List Bool} {s : ByteArray} (h : bs.length % 8 = 0) : packB (bs ++ sBits s) = packB bs ++ s.data.toList.map fun x => ((x.toNat : Nat) : Int) := by
  rw [packB_add h, sBits, packB_bytes]
theorem dbit_16 (n : Int) : bitsL (-n - 1) 16 = bitsL (65535 - n) 16 := by
  unfold bitsL
  apply List.map_congr_left
  intro i hi
  have hi' := List.mem_range.1 hi
  have key : (-n - 1) / 2 ^ i % 2 = (65535 - n) / 2 ^ i % 2 := by
    have : i = 0 ∨ i = 1 ∨ i = 2 ∨ i = 3 ∨ i = 4 ∨ i = 5 ∨ i = 6 ∨ i = 7 ∨ i = 8 ∨ i = 9 ∨ i = 10 ∨ i = 11 ∨ i = 12 ∨ i = 13 ∨ i = 14 ∨ i = 15 := by omega
    rcases this with h | h | h | h | h | h | h | h | h | h | h | h | h | h | h | h <;> (subst h; omega)
  unfold dbit
  rw [key]
theorem not_i64 {x : Int} (h : 0 ≤ x ∧ x ≤ 9223372036854775807) {Q : Int → Prop} (hk : Q (-x - 1)) :
    ∃ z, z = IntKind.i64.wrap ((BitVec.ofInt IntKind.i64.bits (if IntKind.i64.signed = true then -1 else IntKind.i64.max) ^^^ BitVec.ofInt IntKind.i64.bits x).toNat : Int) ∧ Q z := by
  refine ⟨-x - 1, ?_, hk⟩
  have e0 : (BitVec.ofInt 64 (-1) ^^^ BitVec.ofInt 64 x).toNat = 2 ^ 64 - 1 - x.toNat := by
    rw [show BitVec.ofInt 64 (-1) = BitVec.allOnes 64 from by decide, BitVec.allOnes_xor, BitVec.toNat_not, BitVec.toNat_ofInt, Int.emod_eq_of_lt (by omega) (by omega)]
  show -x - 1 = IntKind.i64.wrap ((BitVec.ofInt 64 (-1) ^^^ BitVec.ofInt 64 x).toNat : Int)
  rw [e0]
  simp [IntKind.wrap, IntKind.signed, IntKind.bits]
  omega
end Go.Dfl
