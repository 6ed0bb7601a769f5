/- A code that is written is read back. -/
import Derived.Test.YtlnibgkdjmkekaaHuff10
namespace Go.Proofs.Ytlnibgkdjmkekaa
open Go Go.Vc Go.Huf
set_option maxRecDepth 10000
set_option linter.unusedVariables false

def bt (B : List UInt8) (p : Nat) : Bool := (B.getD (p / 8) 0).toNat.testBit (p % 8)
theorem bt_set {B : List UInt8} (hB : B.length = 8) {p q : Nat} (hp : p < 64) (hq : q < 64) : bt (B.set (p / 8) (B.getD (p / 8) 0 ||| UInt8.ofNat (2 ^ (p % 8)))) q = (bt B q || decide (q = p)) := by
  unfold bt
  rw [List.getD_eq_getElem?_getD, List.getElem?_set]
  have h8 : 2 ^ (p % 8) < 256 := by
    have : 2 ^ (p % 8) ≤ 2 ^ 7 := Nat.pow_le_pow_right (by decide) (by omega)
    omega
  by_cases e : p / 8 = q / 8
  · rw [if_pos e, if_pos (by omega)]
    show ((B.getD (p / 8) 0 ||| UInt8.ofNat (2 ^ (p % 8))).toNat.testBit (q % 8)) = _
    rw [UInt8.toNat_or, Nat.testBit_or, UInt8.toNat_ofNat', Nat.mod_eq_of_lt h8, Nat.testBit_two_pow, e]
    congr 1
    by_cases e2 : q = p
    · rw [e2]; simp
    · have : p % 8 ≠ q % 8 := by omega
      simp [this, e2]
  · rw [if_neg e]
    have : q ≠ p := fun h => e (by rw [h])
    simp [this, List.getD_eq_getElem?_getD]

theorem half_code {C : Int} {d : Nat} : C / 2 ^ (d + 1) * 2 + C / 2 ^ d % 2 = C / 2 ^ d := by
  have h1 : C / 2 ^ (d + 1) = C / 2 ^ d / 2 := by rw [Int.pow_succ, Int.ediv_ediv_of_nonneg (Int.le_of_lt (Int.pow_pos (by decide)))]
  rw [h1]
  omega
theorem go_from {l : List Int} {s : ByteArray} {k sz : Nat} {C at_ : Int} (hk : k < l.length) (hs : l.getD k 0 = (sz : Int)) (h15 : sz ≤ 15) (hC : codeAt l k = C)
    (hb : ∀ j : Nat, j < sz → bit s (at_ + j) = C / 2 ^ (sz - 1 - j) % 2) (hz : ∀ j : Nat, j < sz → (at_ + j) / 8 < (s.size : Int)) :
    ∀ (d j : Nat), j + (d + 1) = sz → go l s (15 - j) (j : Int) (C / 2 ^ (d + 1)) (at_ + j) = ((k : Int), at_ + sz, 0)
  | 0, j, hj => by
    have h1 := hb j (by omega)
    have h2 := hz j (by omega)
    rw [show sz - 1 - j = 0 from by omega] at h1
    rw [show 15 - j = (15 - (j + 1)) + 1 from by omega, go, if_neg (by omega), h1, half_code, Int.pow_zero, Int.ediv_one]
    have hl : look l (List.range l.length) ((j : Int) + 1) C = some k := by
      unfold look
      cases e : (List.range l.length).find? fun i => decide (l.getD i 0 = (j : Int) + 1 ∧ codeAt l i = C) with
      | none =>
        have := List.find?_eq_none.1 e k (List.mem_range.2 hk)
        simp only [decide_eq_true_eq, not_and] at this
        exact absurd hC (this (by rw [hs]; omega))
      | some i =>
        have h3 := List.find?_some e
        simp only [decide_eq_true_eq] at h3
        have h4 := List.mem_range.1 (List.mem_of_find?_eq_some e)
        by_cases hik : i = k
        · rw [hik]
        · have := prefix_free (s := sz) (d := 0) h4 hk hik (by rw [h3.1]; omega) (by rw [hs]; rfl) (by omega)
          rw [Int.pow_zero, Int.ediv_one, hC, h3.2] at this
          exact absurd rfl this
    rw [hl]
    show ((k : Int), at_ + j + 1, (0 : Int)) = _
    rw [show at_ + (j : Int) + 1 = at_ + sz from by omega]
  | d + 1, j, hj => by
    have h1 := hb j (by omega)
    have h2 := hz j (by omega)
    rw [show sz - 1 - j = d + 1 from by omega] at h1
    rw [show 15 - j = (15 - (j + 1)) + 1 from by omega, go, if_neg (by omega), h1, half_code]
    have hl : look l (List.range l.length) ((j : Int) + 1) (C / 2 ^ (d + 1)) = none := by
      unfold look
      rw [List.find?_eq_none]
      intro i hi
      simp only [decide_eq_true_eq, not_and]
      intro h3 h4
      have hil := List.mem_range.1 hi
      by_cases hik : i = k
      · subst hik; rw [hs] at h3; omega
      · have := prefix_free (s := j + 1) (d := d + 1) hil hk hik (by rw [h3]; omega) (by rw [hs]; congr 1; omega) (by omega)
        rw [hC] at this
        exact this h4.symm
    rw [hl]
    have := go_from hk hs h15 hC hb hz d (j + 1) (by omega)
    rw [show at_ + (j : Int) + 1 = at_ + ((j + 1 : Nat) : Int) from by omega]
    exact this
theorem next_back {l : List Int} {s : ByteArray} {k sz : Nat} {C at_ : Int} (hk : k < l.length) (hs : l.getD k 0 = (sz : Int)) (h1 : 1 ≤ sz) (h15 : sz ≤ 15) (hC : codeAt l k = C) (hCr : 0 ≤ C ∧ C < 2 ^ sz) (h0 : 0 ≤ at_)
    (hb : ∀ j : Nat, j < sz → bit s (at_ + j) = C / 2 ^ (sz - 1 - j) % 2) (hz : ∀ j : Nat, j < sz → (at_ + j) / 8 < (s.size : Int)) : nextF l s at_ = ((k : Int), at_ + sz, 0) := by
  unfold nextF
  rw [if_neg (by omega)]
  obtain ⟨d, rfl⟩ : ∃ d, sz = d + 1 := ⟨sz - 1, by omega⟩
  have := go_from hk hs h15 hC hb hz d 0 (by omega)
  have e : C / 2 ^ (d + 1) = 0 := Int.ediv_eq_zero_of_lt hCr.1 hCr.2
  rw [e] at this
  simpa using this
/-- A bit of bytes that lie in front. -/
theorem bit_front {B : List UInt8} {s : ByteArray} (hB : B.length = 8) {p : Nat} (hp : p < 64) : bit (⟨B.toArray⟩ ++ s) (p : Int) = if bt B p then 1 else 0 := by
  unfold bit byteAt bt
  have e1 : ((p : Int) / 8).toNat = p / 8 := by omega
  have e2 : ((p : Int) % 8).toNat = p % 8 := by omega
  rw [e1, e2]
  have e3 : ((⟨B.toArray⟩ ++ s : ByteArray).data.getD (p / 8) 0) = B.getD (p / 8) 0 := by
    have : (⟨B.toArray⟩ ++ s : ByteArray).data = B.toArray ++ s.data := by simp
    rw [this, Array.getD_eq_getD_getElem?, Array.getElem?_append_left (by simp; omega), List.getD_eq_getElem?_getD]
    simp
  rw [e3]
  generalize (B.getD (p / 8) 0).toNat = x
  rw [Nat.testBit_eq_decide_div_mod_eq]
  have e4 : (x : Int) / 2 ^ (p % 8) % 2 = ((x / 2 ^ (p % 8) % 2 : Nat) : Int) := by simp
  rw [e4]
  have := Nat.mod_two_eq_zero_or_one (x / 2 ^ (p % 8))
  rcases this with h | h <;> simp [h]
end Go.Proofs.Ytlnibgkdjmkekaa
