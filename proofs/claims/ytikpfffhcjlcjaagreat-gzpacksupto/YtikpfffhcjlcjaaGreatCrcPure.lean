import Derived.Test.YtikpfffhcjlcjaaGreatGzCrc
set_option linter.unusedVariables false
set_option linter.unusedSimpArgs false
namespace Go.Gz
open Go Go.Vc
theorem half_eq (n : BitVec 32) : halfB n = (n >>> 1) ^^^ (if n.getLsbD 0 = true then polyB else 0#32) := by
  have h1 : ((n &&& 1#32).toNat) = n.toNat % 2 := by
    rw [BitVec.toNat_and]
    show n.toNat &&& 1 = _
    rw [Nat.and_one_is_mod]
  have h2 : n.getLsbD 0 = decide (n.toNat % 2 = 1) := by
    rw [BitVec.getLsbD, Nat.testBit_zero]
  unfold halfB
  rw [h1, h2]
  by_cases h : n.toNat % 2 = 1
  · rw [if_pos (by omega), if_pos (by simpa using h)]
  · rw [if_neg (by omega), if_neg (by simpa using h), BitVec.xor_zero]
theorem half_xor (x y : BitVec 32) : halfB (x ^^^ y) = halfB x ^^^ halfB y := by
  rw [half_eq, half_eq, half_eq, BitVec.getLsbD_xor, BitVec.ushiftRight_xor_distrib]
  cases x.getLsbD 0 <;> cases y.getLsbD 0 <;> simp <;> apply BitVec.eq_of_getLsbD_eq <;> intro i hi <;> simp only [BitVec.getLsbD_xor] <;> cases (x >>> 1).getLsbD i <;> cases (y >>> 1).getLsbD i <;> cases polyB.getLsbD i <;> rfl
theorem halfs_xor : ∀ (k : Nat) (x y : BitVec 32), halfs k (x ^^^ y) = halfs k x ^^^ halfs k y
  | 0, _, _ => rfl
  | k + 1, x, y => by rw [halfs, halfs, halfs, halfs_xor k, half_xor]
theorem halfs_high : ∀ (k : Nat) (z : BitVec 32), (∀ i, i < k → z.getLsbD i = false) → halfs k z = z >>> k
  | 0, z, _ => by rw [halfs]; simp
  | k + 1, z, h => by
    rw [halfs, halfs_high k z fun i hi => h i (by omega), half_eq]
    rw [if_neg (by rw [BitVec.getLsbD_ushiftRight, Nat.add_zero, h k (by omega)]; simp), BitVec.xor_zero]
    apply BitVec.eq_of_getLsbD_eq
    intro i hi
    rw [BitVec.getLsbD_ushiftRight, BitVec.getLsbD_ushiftRight, BitVec.getLsbD_ushiftRight, show k + (1 + i) = k + 1 + i by omega]
theorem step_eq (c : BitVec 32) (b : UInt8) : halfs 8 (c ^^^ BitVec.ofNat 32 b.toNat) = crcStep c b := by
  have hb := b.toNat_lt
  have hw : (c ^^^ BitVec.ofNat 32 b.toNat).toNat = c.toNat ^^^ b.toNat := by
    rw [BitVec.toNat_xor, BitVec.toNat_ofNat, Nat.mod_eq_of_lt (by omega)]
  have hm : (c.toNat ^^^ b.toNat) % 256 = (UInt8.ofNat c.toNat ^^^ b).toNat := by
    rw [UInt8.toNat_xor, UInt8.toNat_ofNat']
    have := Nat.xor_mod_two_pow (a := c.toNat) (b := b.toNat) (n := 8)
    rw [show (256 : Nat) = 2 ^ 8 from rfl, this, Nat.mod_eq_of_lt (show b.toNat < 2 ^ 8 by omega)]
  obtain ⟨w, hwe⟩ : ∃ w, c ^^^ BitVec.ofNat 32 b.toNat = w := ⟨_, rfl⟩
  obtain ⟨lo, hlo⟩ : ∃ lo, BitVec.ofNat 32 (w.toNat % 256) = lo := ⟨_, rfl⟩
  have hlb : ∀ i, lo.getLsbD i = (decide (i < 8) && w.getLsbD i) := fun i => by
    rw [← hlo, BitVec.getLsbD_ofNat, show (256 : Nat) = 2 ^ 8 from rfl, Nat.testBit_mod_two_pow, BitVec.getLsbD]
    by_cases h : i < 8
    · simp [h, show i < 32 by omega]
    · simp [h]
  have hz : ∀ i, i < 8 → (w ^^^ lo).getLsbD i = false := fun i hi => by
    rw [BitVec.getLsbD_xor, hlb]
    simp [hi]
  have hsp : w = (w ^^^ lo) ^^^ lo := by rw [BitVec.xor_assoc, BitVec.xor_self, BitVec.xor_zero]
  rw [hwe]
  conv => lhs; rw [hsp]
  rw [halfs_xor, halfs_high 8 _ hz]
  unfold crcStep tabF
  rw [← hm, ← hw, hwe, hlo]
  congr 1
  apply BitVec.eq_of_getLsbD_eq
  intro i hi
  rw [BitVec.getLsbD_ushiftRight, BitVec.getLsbD_ushiftRight, BitVec.getLsbD_xor, hlb, ← hwe, BitVec.getLsbD_xor, BitVec.getLsbD_ofNat]
  have h8 : b.toNat.testBit (8 + i) = false := Nat.testBit_lt_two_pow (Nat.lt_of_lt_of_le (show b.toNat < 2 ^ 8 by omega) (Nat.pow_le_pow_right (by decide) (by omega)))
  rw [h8]
  simp [show ¬ (8 + i < 8) by omega]
end Go.Gz
