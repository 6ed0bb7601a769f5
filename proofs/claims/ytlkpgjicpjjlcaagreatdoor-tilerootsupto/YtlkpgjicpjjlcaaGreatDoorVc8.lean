import Derived.Test.YtlkpgjicpjjlcaaGreatDoorVc7
/- Bits of whole numbers: masks, shifts, and joining. -/
namespace Go.Vc
open Go

theorem ofInt_nat (w : Nat) (n : Nat) : BitVec.ofInt w (n : Int) = BitVec.ofNat w n := by simp
theorem wrap_nat {n : Nat} (h : n < 9223372036854775808) : IntKind.i64.wrap (n : Int) = (n : Int) := wi (by omega) (by omega)
theorem and_nat {m : Nat} {x : Nat} (hx : x < 9223372036854775808) (hm : m < 9223372036854775808) : IntKind.i64.wrap ((BitVec.ofInt (IntKind.bits .i64) (x : Int) &&& BitVec.ofInt (IntKind.bits .i64) (m : Int)).toNat : Int) = ((x &&& m : Nat) : Int) := by
  have e : (BitVec.ofInt (IntKind.bits .i64) (x : Int) &&& BitVec.ofInt (IntKind.bits .i64) (m : Int)).toNat = x &&& m := by
    rw [ofInt_nat, ofInt_nat]
    show (BitVec.ofNat 64 x &&& BitVec.ofNat 64 m).toNat = _
    rw [BitVec.toNat_and, BitVec.toNat_ofNat, BitVec.toNat_ofNat, Nat.mod_eq_of_lt (by omega), Nat.mod_eq_of_lt (by omega)]
  rw [e]
  have : x &&& m ≤ x := Nat.and_le_left
  exact wrap_nat (by omega)
theorem or_nat {m : Nat} {x : Nat} (hx : x < 9223372036854775808) (hm : m < 9223372036854775808) : IntKind.i64.wrap ((BitVec.ofInt (IntKind.bits .i64) (x : Int) ||| BitVec.ofInt (IntKind.bits .i64) (m : Int)).toNat : Int) = ((x ||| m : Nat) : Int) := by
  have e : (BitVec.ofInt (IntKind.bits .i64) (x : Int) ||| BitVec.ofInt (IntKind.bits .i64) (m : Int)).toNat = x ||| m := by
    rw [ofInt_nat, ofInt_nat]
    show (BitVec.ofNat 64 x ||| BitVec.ofNat 64 m).toNat = _
    rw [BitVec.toNat_or, BitVec.toNat_ofNat, BitVec.toNat_ofNat, Nat.mod_eq_of_lt (by omega), Nat.mod_eq_of_lt (by omega)]
  rw [e]
  have : x ||| m < 2 ^ 63 := Nat.or_lt_two_pow (by omega) (by omega)
  exact wrap_nat (by omega)
/-- x & (2^n - 1) -/
theorem mask_i64 (n : Nat) {x m : Int} {Q : Int → Prop} (hm : m = 2 ^ n - 1) (hn : n < 63) (h : 0 ≤ x ∧ x ≤ 9223372036854775807) (hk : Q (x % 2 ^ n)) :
    ∃ z, z = IntKind.i64.wrap ((BitVec.ofInt (IntKind.bits .i64) x &&& BitVec.ofInt (IntKind.bits .i64) m).toNat : Int) ∧ Q z := by
  obtain ⟨x, rfl⟩ := Int.eq_ofNat_of_zero_le h.1
  have h2 : 0 < 2 ^ n := Nat.pow_pos (by omega)
  have hp : (2 : Int) ^ n = ((2 ^ n : Nat) : Int) := by simp
  have hm2 : m = ((2 ^ n - 1 : Nat) : Int) := by rw [hm, hp]; omega
  subst hm2
  have h3 : 2 ^ n < 2 ^ 63 := Nat.pow_lt_pow_right (by omega) hn
  refine ⟨_, (and_nat (by omega) (by omega)).symm, ?_⟩
  rw [Nat.and_two_pow_sub_one_eq_mod]
  rw [hp] at hk
  simpa using hk
theorem and1_i64 {x : Int} {Q : Int → Prop} (h : 0 ≤ x ∧ x ≤ 9223372036854775807) (hk : Q (x % 2)) : ∃ z, z = IntKind.i64.wrap ((BitVec.ofInt (IntKind.bits .i64) x &&& BitVec.ofInt (IntKind.bits .i64) 1).toNat : Int) ∧ Q z :=
  mask_i64 1 rfl (by omega) h hk
/-- x * 2^n | y -/
theorem join_i64 (n : Nat) {x y : Int} {Q : Int → Prop} (h : 0 ≤ x ∧ x * 2 ^ n ≤ 9223372036854775807) (hy : 0 ≤ y ∧ y < 2 ^ n) (hn : n ≤ 62) (hk : Q (x * 2 ^ n + y)) :
    ∃ z, z = IntKind.i64.wrap ((BitVec.ofInt (IntKind.bits .i64) (x * 2 ^ n) ||| BitVec.ofInt (IntKind.bits .i64) y).toNat : Int) ∧ Q z := by
  obtain ⟨x, rfl⟩ := Int.eq_ofNat_of_zero_le h.1
  obtain ⟨y, rfl⟩ := Int.eq_ofNat_of_zero_le hy.1
  have hp : (2 : Int) ^ n = ((2 ^ n : Nat) : Int) := by simp
  rw [hp] at h hy hk ⊢
  have e : (x : Int) * ((2 ^ n : Nat) : Int) = ((x * 2 ^ n : Nat) : Int) := by simp
  rw [e] at h hk ⊢
  have h3 : 2 ^ n ≤ 2 ^ 62 := Nat.pow_le_pow_right (by omega) hn
  have h4 : y < 2 ^ n := by have := hy.2; omega
  refine ⟨_, (or_nat (by omega) (by omega)).symm, ?_⟩
  rw [Nat.mul_comm, ← Nat.two_pow_add_eq_or_of_lt h4, Nat.mul_comm]
  simpa using hk
theorem or1_i64 {x y : Int} {Q : Int → Prop} (h : 0 ≤ x ∧ x ≤ 4611686018427387903) (hy : 0 ≤ y ∧ y < 2) (hk : Q (x * 2 + y)) : ∃ z, z = IntKind.i64.wrap ((BitVec.ofInt (IntKind.bits .i64) (x * 2) ||| BitVec.ofInt (IntKind.bits .i64) y).toNat : Int) ∧ Q z :=
  join_i64 1 ⟨h.1, by omega⟩ hy (by omega) hk
theorem pow_bits {x : Int} {b n : Nat} (h : x < 2 ^ b) (h0 : 0 ≤ x) (hn : b ≤ n) : x / 2 ^ n = 0 := by
  apply Int.ediv_eq_zero_of_lt h0
  have : (2 : Int) ^ b ≤ 2 ^ n := by
    have := Nat.pow_le_pow_right (n := 2) (by omega) hn
    exact_mod_cast this
  omega
theorem shr_i {k : IntKind} {x y : Int} {Q : Int → Prop} (h : 0 ≤ x ∧ x < 2 ^ k.bits) (hk : ∀ z, z = x / 2 ^ y.toNat → 0 ≤ z → z ≤ x → Q z) : ∃ z, z = shrV k x y ∧ Q z := by
  have e : shrV k x y = x / 2 ^ y.toNat := by
    unfold shrV
    rw [Int.fdiv_eq_ediv_of_nonneg _ (Int.pow_nonneg (by omega))]
    rcases Nat.le_total y.toNat k.bits with h1 | h1
    · rw [Nat.min_eq_left h1]
    · rw [Nat.min_eq_right h1, pow_bits h.2 h.1 (Nat.le_refl _), pow_bits h.2 h.1 h1]
  refine ⟨_, rfl, hk _ e ?_ ?_⟩
  · rw [e]; exact Int.ediv_nonneg h.1 (Int.pow_nonneg (by omega))
  · rw [e]; exact Int.ediv_le_self _ h.1
theorem shr_u8 {x y : Int} {Q : Int → Prop} (h : 0 ≤ x ∧ x ≤ 255) (hk : ∀ z, z = x / 2 ^ y.toNat → 0 ≤ z → z ≤ x → Q z) : ∃ z, z = shrV .u8 x y ∧ Q z := shr_i ⟨h.1, by show x < 256; omega⟩ hk
theorem shr_i64 {x y : Int} {Q : Int → Prop} (h : 0 ≤ x ∧ x ≤ 9223372036854775807) (hk : ∀ z, z = x / 2 ^ y.toNat → 0 ≤ z → z ≤ x → Q z) : ∃ z, z = shrV .i64 x y ∧ Q z := shr_i ⟨h.1, by show x < 18446744073709551616; omega⟩ hk
theorem byteAt_range (s : ByteArray) (i : Nat) : 0 ≤ byteAt s i ∧ byteAt s i ≤ 255 := by
  unfold byteAt
  have := (s.data.getD i 0).toNat_lt
  omega
end Go.Vc
