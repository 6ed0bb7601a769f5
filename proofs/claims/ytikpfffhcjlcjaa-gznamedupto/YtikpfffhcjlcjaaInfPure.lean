import Derived.Test.YtikpfffhcjlcjaaHuff2
import Derived.Test.YtikpfffhcjlcjaaHuffPlain
import Derived.Test.YtikpfffhcjlcjaaDefStore
set_option linter.unusedVariables false
set_option linter.unusedSimpArgs false
namespace Go.Proofs.Ytikpfffhcjlcjaa
open Go Go.Vc Go.Huf Go.Dfl
set_option maxRecDepth 20000
def Str (s : ByteArray) (p : Nat) (bs : List Bool) : Prop := ∀ j b, bs[j]? = some b → p + j < 8 * s.size ∧ bit s ((p + j : Nat) : Int) = b2i b
theorem Str.left {s : ByteArray} {p : Nat} {xs ys : List Bool} (h : Str s p (xs ++ ys)) : Str s p xs := fun j b hj => h j b (by
  have := (List.getElem?_eq_some_iff.1 hj).1
  rw [List.getElem?_append_left this]; exact hj)
theorem Str.right {s : ByteArray} {p : Nat} {xs ys : List Bool} (h : Str s p (xs ++ ys)) : Str s (p + xs.length) ys := fun j b hj => by
  have := h (xs.length + j) b (by rw [List.getElem?_append_right (by omega), Nat.add_sub_cancel_left]; exact hj)
  rw [← Nat.add_assoc] at this
  exact this
theorem byteV_bit : ∀ (l : List Bool) (i : Nat) (b : Bool), l[i]? = some b → byteV l / 2 ^ i % 2 = b2i b
  | [], i, b, h => by simp at h
  | x :: r, 0, b, h => by
    have hb : x = b := by simpa using h
    subst hb
    have := b2i_range x
    rw [byteV]
    omega
  | x :: r, i + 1, b, h => by
    have ih := byteV_bit r i b (by simpa using h)
    have hx := b2i_range x
    have e : byteV (x :: r) / 2 ^ (i + 1) = byteV r / 2 ^ i := by
      rw [Int.pow_succ, Int.mul_comm, ← Int.ediv_ediv_of_nonneg (by decide)]
      congr 1
      rw [byteV]
      omega
    rw [e]
    exact ih
theorem byteAt_list {s : ByteArray} {k : Nat} {x : Int} (h : (s.data.toList.map fun x => ((x.toNat : Nat) : Int))[k]? = some x) : byteAt s k = x ∧ k < s.size := by
  rw [List.getElem?_map, Option.map_eq_some_iff] at h
  obtain ⟨y, hy, rfl⟩ := h
  have hk := (List.getElem?_eq_some_iff.1 hy).1
  refine ⟨?_, by have : s.data.toList.length = s.size := by rw [Array.length_toList]; rfl
                 omega⟩
  unfold byteAt
  rw [Array.getD_eq_getD_getElem?, ← Array.getElem?_toList, hy]
  rfl
theorem str_pack {s : ByteArray} {bs : List Bool} {R : List Int} (h : (s.data.toList.map fun x => ((x.toNat : Nat) : Int)) = packB bs ++ R) : Str s 0 bs := fun j b hj => by
  have hjl := (List.getElem?_eq_some_iff.1 hj).1
  have hk : j / 8 < (bs.length + 7) / 8 := by omega
  obtain ⟨h1, h2⟩ := byteAt_list (s := s) (k := j / 8) (x := byteV ((bs.drop (8 * (j / 8))).take 8)) (by
    rw [h, List.getElem?_append_left (by rw [packB_len]; exact hk), packB_get hk])
  refine ⟨by omega, ?_⟩
  unfold bit
  rw [show (((0 + j : Nat) : Int) / 8).toNat = j / 8 by omega, show (((0 + j : Nat) : Int) % 8).toNat = j % 8 by omega, h1]
  refine byteV_bit _ _ _ ?_
  rw [List.getElem?_take, if_pos (by omega), List.getElem?_drop, show 8 * (j / 8) + j % 8 = j by omega]
  exact hj
theorem bitsL_get {n : Int} {m j : Nat} (h : j < m) : (bitsL n m)[j]? = some (dbit n j) := by
  unfold bitsL
  rw [List.getElem?_map, List.getElem?_range h]; rfl
theorem bitsH_get {n : Int} {m j : Nat} (h : j < m) : (bitsH n m)[j]? = some (dbit n (m - 1 - j)) := by
  unfold bitsH
  rw [List.getElem?_map, List.getElem?_range h]; rfl
theorem dbit_i (n : Int) (i : Nat) : b2i (dbit n i) = n / 2 ^ i % 2 := by
  unfold dbit b2i
  have h1 : 0 ≤ n / 2 ^ i % 2 := Int.emod_nonneg _ (by decide)
  have h2 : n / 2 ^ i % 2 < 2 := Int.emod_lt_of_pos _ (by decide)
  by_cases h : n / 2 ^ i % 2 = 1
  · rw [decide_eq_true h, h]; rfl
  · rw [decide_eq_false h]
    show (0 : Int) = _
    omega
theorem emod_step (n : Int) (i : Nat) : n % 2 ^ (i + 1) = n % 2 ^ i + n / 2 ^ i % 2 * 2 ^ i := by
  have h0 : (0 : Int) < 2 ^ i := Int.pow_pos (by decide)
  have h1 := Int.emod_add_mul_ediv n (2 ^ i)
  have h2 := Int.emod_add_mul_ediv (n / 2 ^ i) 2
  have h3 : n = (n % 2 ^ i + n / 2 ^ i % 2 * 2 ^ i) + n / 2 ^ i / 2 * 2 ^ (i + 1) := by
    have e : 2 ^ i * (n / 2 ^ i) = 2 ^ i * (n / 2 ^ i % 2 + 2 * (n / 2 ^ i / 2)) := by rw [h2]
    rw [Int.mul_add] at e
    rw [Int.pow_succ]
    have e2 : 2 ^ i * (2 * (n / 2 ^ i / 2)) = n / 2 ^ i / 2 * (2 ^ i * 2) := by
      rw [← Int.mul_assoc, Int.mul_comm]
    rw [Int.mul_comm (n / 2 ^ i % 2)]
    omega
  have h4 : 0 ≤ n % 2 ^ i := Int.emod_nonneg _ (by omega)
  have h5 : n % 2 ^ i < 2 ^ i := Int.emod_lt_of_pos _ h0
  have h6 : 0 ≤ n / 2 ^ i % 2 := Int.emod_nonneg _ (by decide)
  have h7 : n / 2 ^ i % 2 < 2 := Int.emod_lt_of_pos _ (by decide)
  have h8 : 0 ≤ n / 2 ^ i % 2 * 2 ^ i ∧ n / 2 ^ i % 2 * 2 ^ i ≤ 2 ^ i := by
    have h9 : n / 2 ^ i % 2 = 0 ∨ n / 2 ^ i % 2 = 1 := by omega
    rcases h9 with h9 | h9 <;> rw [h9] <;> omega
  have h10 : (2 : Int) ^ (i + 1) = 2 ^ i * 2 := Int.pow_succ ..
  conv => lhs; rw [h3]
  rw [Int.add_mul_emod_self_right]
  exact Int.emod_eq_of_lt (by omega) (by omega)
theorem or_acc {x b : Int} {i : Nat} (hx : 0 ≤ x ∧ x < 2 ^ i) (hb : b = 0 ∨ b = 1) (hi : i ≤ 40) {Q : Int → Prop} (hk : Q (x + b * 2 ^ i)) :
    ∃ z, z = IntKind.i64.wrap ((BitVec.ofInt IntKind.i64.bits x ||| BitVec.ofInt IntKind.i64.bits (b * 2 ^ i)).toNat : Int) ∧ Q z := by
  refine ⟨_, ?_, hk⟩
  obtain ⟨X, rfl⟩ := Int.eq_ofNat_of_zero_le hx.1
  have hX : X < 2 ^ i := by
    have := hx.2
    exact_mod_cast this
  obtain ⟨B, hB⟩ : ∃ B : Nat, b = (B : Int) ∧ B ≤ 1 := by
    rcases hb with rfl | rfl
    · exact ⟨0, rfl, by omega⟩
    · exact ⟨1, rfl, by omega⟩
  obtain ⟨rfl, hB1⟩ := hB
  have h40 : 2 ^ i ≤ 2 ^ 40 := Nat.pow_le_pow_right (by decide) hi
  have hBm : B * 2 ^ i ≤ 2 ^ 40 := Nat.le_trans (Nat.mul_le_mul_right _ hB1) (by omega)
  have e1 : ((B : Int) * 2 ^ i) = ((B * 2 ^ i : Nat) : Int) := by push_cast; rfl
  rw [e1]
  have e2 : (BitVec.ofInt IntKind.i64.bits (X : Int) ||| BitVec.ofInt IntKind.i64.bits ((B * 2 ^ i : Nat) : Int)).toNat = X + B * 2 ^ i := by
    show (BitVec.ofInt 64 (X : Int) ||| BitVec.ofInt 64 ((B * 2 ^ i : Nat) : Int)).toNat = _
    rw [BitVec.ofInt_natCast, BitVec.ofInt_natCast, BitVec.toNat_or, BitVec.toNat_ofNat, BitVec.toNat_ofNat, Nat.mod_eq_of_lt (by omega), Nat.mod_eq_of_lt (by omega)]
    have := Nat.two_pow_add_eq_or_of_lt hX B
    rw [Nat.or_comm, Nat.mul_comm B, ← this, Nat.add_comm]
  rw [e2, wi (by omega) (by omega)]
  push_cast
  rfl
theorem and1_u8f : ∀ n : Fin 256, IntKind.u8.wrap ((BitVec.ofInt IntKind.u8.bits (n.val : Int) &&& BitVec.ofInt IntKind.u8.bits 1).toNat : Int) = (n.val : Int) % 2 := by decide +kernel
theorem and1_u8 {x : Int} (h : 0 ≤ x ∧ x < 256) {Q : Int → Prop} (hk : Q (x % 2)) : ∃ z, z = IntKind.u8.wrap ((BitVec.ofInt IntKind.u8.bits x &&& BitVec.ofInt IntKind.u8.bits 1).toNat : Int) ∧ Q z := by
  obtain ⟨n, rfl⟩ := Int.eq_ofNat_of_zero_le h.1
  exact ⟨_, (and1_u8f ⟨n, by omega⟩).symm, hk⟩
theorem shl_bit {b : Int} {i : Nat} (hb : b = 0 ∨ b = 1) (hi : i ≤ 40) {Q : Int → Prop} (hk : Q (b * 2 ^ i)) : ∃ z, z = shlV .i64 b (i : Int) ∧ Q z := by
  refine ⟨_, ?_, hk⟩
  unfold shlV
  rw [Int.toNat_natCast, show min i IntKind.i64.bits = i by show min i 64 = i; omega]
  have h40 : (2 : Int) ^ i ≤ 2 ^ 40 := by
    have : (2 : Nat) ^ i ≤ 2 ^ 40 := Nat.pow_le_pow_right (by decide) hi
    exact_mod_cast this
  have h0 : (0 : Int) < 2 ^ i := Int.pow_pos (by decide)
  rcases hb with rfl | rfl
  · rw [Int.zero_mul, wi (by omega) (by omega)]
  · rw [Int.one_mul, wi (by omega) (by omega)]
theorem and_mask {m : Nat} (h : m < 2 ^ 31) : m &&& 18446744073709551608 = m / 8 * 8 := by
  apply Nat.eq_of_testBit_eq
  intro i
  have e1 : m / 8 * 8 = (m >>> 3) <<< 3 := by rw [Nat.shiftLeft_eq, Nat.shiftRight_eq_div_pow]
  have e2 : 18446744073709551608 = (2 ^ 61 - 1) <<< 3 := by decide
  rw [Nat.testBit_and, e1, e2, Nat.testBit_shiftLeft, Nat.testBit_shiftLeft, Nat.testBit_shiftRight, Nat.testBit_two_pow_sub_one]
  rcases Nat.lt_or_ge i 3 with h3 | h3
  · simp [show ¬ 3 ≤ i by omega]
  · rw [show 3 + (i - 3) = i by omega]
    rcases Nat.lt_or_ge i 31 with h4 | h4
    · simp [h3, show i - 3 < 61 by omega]
    · have : m.testBit i = false := Nat.testBit_lt_two_pow (Nat.lt_of_lt_of_le h (Nat.pow_le_pow_right (by decide) h4))
      simp [this]
theorem andnot7 {m : Nat} (h : m < 2 ^ 31) {Q : Int → Prop} (hk : Q ((m / 8 * 8 : Nat) : Int)) :
    ∃ z, z = IntKind.i64.wrap ((BitVec.ofInt IntKind.i64.bits (m : Int) &&& ~~~BitVec.ofInt IntKind.i64.bits 7).toNat : Int) ∧ Q z := by
  refine ⟨_, ?_, hk⟩
  have e : (BitVec.ofInt 64 (m : Int) &&& ~~~BitVec.ofInt 64 7).toNat = m / 8 * 8 := by
    rw [BitVec.toNat_and, BitVec.ofInt_natCast, BitVec.toNat_ofNat, Nat.mod_eq_of_lt (by omega), show (~~~BitVec.ofInt 64 7).toNat = 18446744073709551608 by decide, and_mask h]
  show _ = IntKind.i64.wrap ((BitVec.ofInt 64 (m : Int) &&& ~~~BitVec.ofInt 64 7).toNat : Int)
  rw [e, wi (by omega) (by omega)]
theorem half_code {C : Int} {d : Nat} : C / 2 ^ (d + 1) * 2 + C / 2 ^ d % 2 = C / 2 ^ d := by
  have h1 : C / 2 ^ (d + 1) = C / 2 ^ d / 2 := by rw [Int.pow_succ, Int.ediv_ediv_of_nonneg (Int.le_of_lt (Int.pow_pos (by decide)))]
  rw [h1]
  omega
theorem go_from {l : List Int} {s : ByteArray} {k sz : Nat} {C at_ : Int} (hk : k < l.length) (hs : l.getD k 0 = (sz : Int)) (h15 : sz ≤ 15) (hC : codeAt l k = C)
    (hb : ∀ j : Nat, j < sz → bit s (at_ + j) = C / 2 ^ (sz - 1 - j) % 2) (hz : ∀ j : Nat, j < sz → (at_ + j) / 8 < (s.size : Int)) :
    ∀ (d j : Nat), j + (d + 1) = sz → go l s (15 - j) (j : Int) (C / 2 ^ (d + 1)) (at_ + j) = ((k : Int), at_ + sz, 0)
  | 0, j, hj => by
    have h1 := hb j (by omega)
    have h2 := hz j (by omega)
    rw [show sz - 1 - j = 0 from by omega] at h1
    rw [show 15 - j = (15 - (j + 1)) + 1 from by omega, go, if_neg (by omega), h1, half_code, Int.pow_zero, Int.ediv_one]
    have hl : look l (List.range l.length) ((j : Int) + 1) C = some k := by
      unfold look
      cases e : (List.range l.length).find? fun i => decide (l.getD i 0 = (j : Int) + 1 ∧ codeAt l i = C) with
      | none =>
        have := List.find?_eq_none.1 e k (List.mem_range.2 hk)
        simp only [decide_eq_true_eq, not_and] at this
        exact absurd hC (this (by rw [hs]; omega))
      | some i =>
        have h3 := List.find?_some e
        simp only [decide_eq_true_eq] at h3
        have h4 := List.mem_range.1 (List.mem_of_find?_eq_some e)
        by_cases hik : i = k
        · rw [hik]
        · have := prefix_free (s := sz) (d := 0) h4 hk hik (by rw [h3.1]; omega) (by rw [hs]; rfl) (by omega)
          rw [Int.pow_zero, Int.ediv_one, hC, h3.2] at this
          exact absurd rfl this
    rw [hl]
    show ((k : Int), at_ + j + 1, (0 : Int)) = _
    rw [show at_ + (j : Int) + 1 = at_ + sz from by omega]
  | d + 1, j, hj => by
    have h1 := hb j (by omega)
    have h2 := hz j (by omega)
    rw [show sz - 1 - j = d + 1 from by omega] at h1
    rw [show 15 - j = (15 - (j + 1)) + 1 from by omega, go, if_neg (by omega), h1, half_code]
    have hl : look l (List.range l.length) ((j : Int) + 1) (C / 2 ^ (d + 1)) = none := by
      unfold look
      rw [List.find?_eq_none]
      intro i hi
      simp only [decide_eq_true_eq, not_and]
      intro h3 h4
      have hil := List.mem_range.1 hi
      by_cases hik : i = k
      · subst hik; rw [hs] at h3; omega
      · have := prefix_free (s := j + 1) (d := d + 1) hil hk hik (by rw [h3]; omega) (by rw [hs]; congr 1; omega) (by omega)
        rw [hC] at this
        exact this h4.symm
    rw [hl]
    have := go_from hk hs h15 hC hb hz d (j + 1) (by omega)
    rw [show at_ + (j : Int) + 1 = at_ + ((j + 1 : Nat) : Int) from by omega]
    exact this
theorem next_sym {l : List Int} {s : ByteArray} {k p : Nat} (he : err l = 0) (hk : k < l.length) (h1 : 1 ≤ (l.getD k 0).toNat) (hs : Str s p (bitsH (codeAt l k) (l.getD k 0).toNat)) :
    nextF l s (p : Nat) = ((k : Int), ((p + (l.getD k 0).toNat : Nat) : Int), 0) := by
  obtain ⟨_, hg, hw⟩ := err_zero he
  obtain ⟨sz, hsz⟩ : ∃ sz, (l.getD k 0).toNat = sz := ⟨_, rfl⟩
  rw [hsz] at h1 hs ⊢
  have hl : l.getD k 0 = (sz : Int) := by omega
  have h15 : sz ≤ 15 := by
    have hgk : good (l.getD k 0) = true := by
      rw [List.getD_eq_getElem?_getD, List.getElem?_eq_getElem hk]
      exact List.all_eq_true.1 hg _ (List.getElem_mem hk)
    have := good_iff.1 hgk
    omega
  have hf := code_fits hg hw hk hl (by omega)
  unfold nextF
  rw [if_neg (by omega)]
  obtain ⟨d, rfl⟩ : ∃ d, sz = d + 1 := ⟨sz - 1, by omega⟩
  have hb : ∀ j : Nat, j < d + 1 → bit s ((p : Int) + j) = codeAt l k / 2 ^ (d + 1 - 1 - j) % 2 := fun j hj => by
    have := (hs j _ (bitsH_get hj)).2
    rw [dbit_i] at this
    rw [← this]
    congr 1
  have hz : ∀ j : Nat, j < d + 1 → ((p : Int) + j) / 8 < (s.size : Int) := fun j hj => by
    have := (hs j _ (bitsH_get hj)).1
    omega
  have := go_from hk hl h15 rfl hb hz d 0 (by omega)
  have e : codeAt l k / 2 ^ (d + 1) = 0 := Int.ediv_eq_zero_of_lt hf.1 hf.2
  rw [e] at this
  rw [show (p : Int) + ((0 : Nat) : Int) = (p : Int) by omega] at this
  rw [show ((p + (d + 1) : Nat) : Int) = (p : Int) + ((d + 1 : Nat) : Int) by omega]
  exact this
end Go.Proofs.Ytikpfffhcjlcjaa
