import Derived.Test.YtlkpgjicpjjlcaaGreatDoorVc8
/- Words of 32 and of 64 bits. -/
namespace Go.Vc
open Go

def u32v (x : BitVec 32) : Value := .int .u32 ((x.toNat : Nat) : Int)
def u64v (x : BitVec 64) : Value := .int .u64 ((x.toNat : Nat) : Int)
theorem wrap32 (x : Int) : IntKind.u32.wrap x = x % 4294967296 := by simp [IntKind.wrap, IntKind.signed, IntKind.bits]
theorem wrap64u (x : Int) : IntKind.u64.wrap x = x % 18446744073709551616 := by simp [IntKind.wrap, IntKind.signed, IntKind.bits]
theorem ofInt_toNat {w : Nat} (x : BitVec w) : BitVec.ofInt w (x.toNat : Int) = x := by simp
theorem wrapb32 (x : BitVec 32) : IntKind.u32.wrap (x.toNat : Int) = (x.toNat : Int) := by rw [wrap32]; have := x.isLt; omega
theorem wrapb64 (x : BitVec 64) : IntKind.u64.wrap (x.toNat : Int) = (x.toNat : Int) := by rw [wrap64u]; have := x.isLt; omega
theorem toNat_ofInt32 (x : Int) : ((BitVec.ofInt 32 x).toNat : Int) = x % 4294967296 := by
  rw [BitVec.toNat_ofInt]
  have : (0 : Int) ≤ x % ((2 ^ 32 : Nat) : Int) := Int.emod_nonneg _ (by decide)
  rw [Int.toNat_of_nonneg this]; rfl
theorem toNat_ofInt64 (x : Int) : ((BitVec.ofInt 64 x).toNat : Int) = x % 18446744073709551616 := by
  rw [BitVec.toNat_ofInt]
  have : (0 : Int) ≤ x % ((2 ^ 64 : Nat) : Int) := Int.emod_nonneg _ (by decide)
  rw [Int.toNat_of_nonneg this]; rfl
theorem wrap_ofInt32 (x : Int) : IntKind.u32.wrap x = ((BitVec.ofInt 32 x).toNat : Int) := by rw [wrap32, toNat_ofInt32]
theorem wrap_ofInt64 (x : Int) : IntKind.u64.wrap x = ((BitVec.ofInt 64 x).toNat : Int) := by rw [wrap64u, toNat_ofInt64]

section w32
variable {x y : BitVec 32} {n : Int} {Q : Int → Prop}
theorem add32 (hk : Q (((x + y).toNat : Nat) : Int)) : ∃ z, z = IntKind.u32.wrap ((x.toNat : Int) + (y.toNat : Int)) ∧ Q z :=
  ⟨_, rfl, by rw [wrap_ofInt32, BitVec.ofInt_add, ofInt_toNat, ofInt_toNat]; exact hk⟩
theorem and32 (hk : Q (((x &&& y).toNat : Nat) : Int)) : ∃ z, z = IntKind.u32.wrap ((BitVec.ofInt (IntKind.bits .u32) (x.toNat : Int) &&& BitVec.ofInt (IntKind.bits .u32) (y.toNat : Int)).toNat : Int) ∧ Q z :=
  ⟨_, rfl, by show Q (IntKind.u32.wrap ((BitVec.ofInt 32 (x.toNat : Int) &&& BitVec.ofInt 32 (y.toNat : Int)).toNat : Int)); rw [ofInt_toNat, ofInt_toNat, wrapb32]; exact hk⟩
theorem or32 (hk : Q (((x ||| y).toNat : Nat) : Int)) : ∃ z, z = IntKind.u32.wrap ((BitVec.ofInt (IntKind.bits .u32) (x.toNat : Int) ||| BitVec.ofInt (IntKind.bits .u32) (y.toNat : Int)).toNat : Int) ∧ Q z :=
  ⟨_, rfl, by show Q (IntKind.u32.wrap ((BitVec.ofInt 32 (x.toNat : Int) ||| BitVec.ofInt 32 (y.toNat : Int)).toNat : Int)); rw [ofInt_toNat, ofInt_toNat, wrapb32]; exact hk⟩
theorem xor32 (hk : Q (((x ^^^ y).toNat : Nat) : Int)) : ∃ z, z = IntKind.u32.wrap ((BitVec.ofInt (IntKind.bits .u32) (x.toNat : Int) ^^^ BitVec.ofInt (IntKind.bits .u32) (y.toNat : Int)).toNat : Int) ∧ Q z :=
  ⟨_, rfl, by show Q (IntKind.u32.wrap ((BitVec.ofInt 32 (x.toNat : Int) ^^^ BitVec.ofInt 32 (y.toNat : Int)).toNat : Int)); rw [ofInt_toNat, ofInt_toNat, wrapb32]; exact hk⟩
theorem not32 (hk : Q (((~~~x).toNat : Nat) : Int)) : ∃ z, z = IntKind.u32.wrap ((BitVec.ofInt (IntKind.bits .u32) (if IntKind.u32.signed then -1 else IntKind.u32.max) ^^^ BitVec.ofInt (IntKind.bits .u32) (x.toNat : Int)).toNat : Int) ∧ Q z := by
  refine ⟨_, rfl, ?_⟩
  show Q (IntKind.u32.wrap ((BitVec.ofInt 32 4294967295 ^^^ BitVec.ofInt 32 (x.toNat : Int)).toNat : Int))
  have e : BitVec.ofInt 32 4294967295 ^^^ x = ~~~x := by
    rw [show BitVec.ofInt 32 4294967295 = BitVec.allOnes 32 from by decide]
    apply BitVec.eq_of_getLsbD_eq
    intro i hi
    simp only [BitVec.getLsbD_xor, BitVec.getLsbD_allOnes, hi, decide_true, Bool.true_xor, BitVec.getLsbD_not, Bool.true_and]
  rw [ofInt_toNat, e, wrapb32]; exact hk
theorem shl32 (hk : Q (((x <<< n.toNat).toNat : Nat) : Int)) : ∃ z, z = shlV .u32 (x.toNat : Int) n ∧ Q z := by
  refine ⟨_, rfl, ?_⟩
  have e : shlV .u32 (x.toNat : Int) n = ((x <<< n.toNat).toNat : Int) := by
    show IntKind.u32.wrap ((x.toNat : Int) * 2 ^ (min n.toNat 32)) = _
    have : (x.toNat : Int) * 2 ^ (min n.toNat 32) = ((x.toNat * 2 ^ (min n.toNat 32) : Nat) : Int) := by simp
    rw [this, wrap32, BitVec.toNat_shiftLeft, Nat.shiftLeft_eq]
    rcases Nat.le_total n.toNat 32 with h | h
    · rw [Nat.min_eq_left h]; rfl
    · rw [Nat.min_eq_right h]
      obtain ⟨m, hm⟩ : ∃ m, n.toNat = 32 + m := ⟨n.toNat - 32, by omega⟩
      have e1 : x.toNat * 2 ^ n.toNat = (x.toNat * 2 ^ m) * 2 ^ 32 := by rw [hm, Nat.pow_add, Nat.mul_comm (2 ^ _) (2 ^ m), Nat.mul_assoc]
      have e2 : x.toNat * 2 ^ n.toNat % 2 ^ 32 = 0 := by rw [e1, Nat.mul_mod_left]
      have e3 : x.toNat * 2 ^ 32 % 4294967296 = 0 := Nat.mul_mod_left _ _
      rw [e2]; omega
  rw [e]; exact hk
theorem shr32 (hk : Q (((x >>> n.toNat).toNat : Nat) : Int)) : ∃ z, z = shrV .u32 (x.toNat : Int) n ∧ Q z := by
  refine shr_i ⟨by omega, by have := x.isLt; show (x.toNat : Int) < 4294967296; omega⟩ (fun z hz _ _ => ?_)
  have : z = (((x >>> n.toNat).toNat : Nat) : Int) := by
    rw [hz, BitVec.toNat_ushiftRight, Nat.shiftRight_eq_div_pow]; simp
  rw [this]; exact hk
theorem c8_32 {b : UInt8} (hk : Q (((BitVec.ofNat 32 b.toNat).toNat : Nat) : Int)) : ∃ z, z = IntKind.u32.wrap ((b.toNat : Nat) : Int) ∧ Q z := by
  refine ⟨_, rfl, ?_⟩
  have := b.toNat_lt
  have e : (BitVec.ofNat 32 b.toNat).toNat = b.toNat := by rw [BitVec.toNat_ofNat]; omega
  rw [wrap32]
  rw [e] at hk
  have : (b.toNat : Int) % 4294967296 = b.toNat := by omega
  rw [this]; exact hk
theorem cb_32 {s : ByteArray} {i : Nat} (hk : Q (((BitVec.ofNat 32 (s.data.getD i 0).toNat).toNat : Nat) : Int)) : ∃ z, z = IntKind.u32.wrap (byteAt s i) ∧ Q z := c8_32 hk
theorem c32_8 (hk : Q (((UInt8.ofNat x.toNat).toNat : Nat) : Int)) : ∃ z, z = IntKind.u8.wrap ((x.toNat : Nat) : Int) ∧ Q z := by
  refine ⟨_, rfl, ?_⟩
  have e : ((UInt8.ofNat x.toNat).toNat : Int) = (x.toNat : Int) % 256 := by simp
  rw [wu8, ← e]; exact hk
end w32
section w64
variable {x y : BitVec 64} {n : Int} {Q : Int → Prop}
theorem add64 (hk : Q (((x + y).toNat : Nat) : Int)) : ∃ z, z = IntKind.u64.wrap ((x.toNat : Int) + (y.toNat : Int)) ∧ Q z :=
  ⟨_, rfl, by rw [wrap_ofInt64, BitVec.ofInt_add, ofInt_toNat, ofInt_toNat]; exact hk⟩
theorem mul64 (hk : Q (((x * y).toNat : Nat) : Int)) : ∃ z, z = IntKind.u64.wrap ((x.toNat : Int) * (y.toNat : Int)) ∧ Q z :=
  ⟨_, rfl, by rw [wrap_ofInt64, BitVec.ofInt_mul, ofInt_toNat, ofInt_toNat]; exact hk⟩
theorem mul64n (hk : Q (((x * BitVec.ofInt 64 n).toNat : Nat) : Int)) : ∃ z, z = IntKind.u64.wrap ((x.toNat : Int) * n) ∧ Q z :=
  ⟨_, rfl, by rw [wrap_ofInt64, BitVec.ofInt_mul, ofInt_toNat]; exact hk⟩
theorem and64 (hk : Q (((x &&& BitVec.ofInt 64 n).toNat : Nat) : Int)) : ∃ z, z = IntKind.u64.wrap ((BitVec.ofInt (IntKind.bits .u64) (x.toNat : Int) &&& BitVec.ofInt (IntKind.bits .u64) n).toNat : Int) ∧ Q z :=
  ⟨_, rfl, by show Q (IntKind.u64.wrap ((BitVec.ofInt 64 (x.toNat : Int) &&& BitVec.ofInt 64 n).toNat : Int)); rw [ofInt_toNat, wrapb64]; exact hk⟩
theorem or64 (hk : Q (((x ||| y).toNat : Nat) : Int)) : ∃ z, z = IntKind.u64.wrap ((BitVec.ofInt (IntKind.bits .u64) (x.toNat : Int) ||| BitVec.ofInt (IntKind.bits .u64) (y.toNat : Int)).toNat : Int) ∧ Q z :=
  ⟨_, rfl, by show Q (IntKind.u64.wrap ((BitVec.ofInt 64 (x.toNat : Int) ||| BitVec.ofInt 64 (y.toNat : Int)).toNat : Int)); rw [ofInt_toNat, ofInt_toNat, wrapb64]; exact hk⟩
theorem shl64 (hk : Q (((x <<< n.toNat).toNat : Nat) : Int)) : ∃ z, z = shlV .u64 (x.toNat : Int) n ∧ Q z := by
  refine ⟨_, rfl, ?_⟩
  have e : shlV .u64 (x.toNat : Int) n = ((x <<< n.toNat).toNat : Int) := by
    show IntKind.u64.wrap ((x.toNat : Int) * 2 ^ (min n.toNat 64)) = _
    have : (x.toNat : Int) * 2 ^ (min n.toNat 64) = ((x.toNat * 2 ^ (min n.toNat 64) : Nat) : Int) := by simp
    rw [this, wrap64u, BitVec.toNat_shiftLeft, Nat.shiftLeft_eq]
    rcases Nat.le_total n.toNat 64 with h | h
    · rw [Nat.min_eq_left h]; rfl
    · rw [Nat.min_eq_right h]
      obtain ⟨m, hm⟩ : ∃ m, n.toNat = 64 + m := ⟨n.toNat - 64, by omega⟩
      have e1 : x.toNat * 2 ^ n.toNat = (x.toNat * 2 ^ m) * 2 ^ 64 := by rw [hm, Nat.pow_add, Nat.mul_comm (2 ^ _) (2 ^ m), Nat.mul_assoc]
      have e2 : x.toNat * 2 ^ n.toNat % 2 ^ 64 = 0 := by rw [e1, Nat.mul_mod_left]
      have e3 : x.toNat * 2 ^ 64 % 18446744073709551616 = 0 := Nat.mul_mod_left _ _
      rw [e2]; omega
  rw [e]; exact hk
theorem shr64 (hk : Q (((x >>> n.toNat).toNat : Nat) : Int)) : ∃ z, z = shrV .u64 (x.toNat : Int) n ∧ Q z := by
  refine shr_i ⟨by omega, by have := x.isLt; show (x.toNat : Int) < 18446744073709551616; omega⟩ (fun z hz _ _ => ?_)
  have : z = (((x >>> n.toNat).toNat : Nat) : Int) := by
    rw [hz, BitVec.toNat_ushiftRight, Nat.shiftRight_eq_div_pow]; simp
  rw [this]; exact hk
theorem c64_32 (hk : Q (((BitVec.ofNat 32 x.toNat).toNat : Nat) : Int)) : ∃ z, z = IntKind.u32.wrap ((x.toNat : Nat) : Int) ∧ Q z := by
  refine ⟨_, rfl, ?_⟩
  have e : ((BitVec.ofNat 32 x.toNat).toNat : Int) = (x.toNat : Int) % 4294967296 := by rw [BitVec.toNat_ofNat]; omega
  rw [wrap32, ← e]; exact hk
theorem c64_8 (hk : Q (((UInt8.ofNat x.toNat).toNat : Nat) : Int)) : ∃ z, z = IntKind.u8.wrap ((x.toNat : Nat) : Int) ∧ Q z := by
  refine ⟨_, rfl, ?_⟩
  have e : ((UInt8.ofNat x.toNat).toNat : Int) = (x.toNat : Int) % 256 := by simp
  rw [wu8, ← e]; exact hk
theorem ci64_u64 {m : Int} (hk : Q (((BitVec.ofInt 64 m).toNat : Nat) : Int)) : ∃ z, z = IntKind.u64.wrap m ∧ Q z := ⟨_, rfl, by rw [wrap_ofInt64]; exact hk⟩
end w64
end Go.Vc
