import Derived.Test.YtikpfffhcjlcjaaGzSet
import Derived.Test.YtikpfffhcjlcjaaGzSil
set_option linter.unusedSimpArgs false
namespace Go.Proofs.Ytikpfffhcjlcjaa
open Go Go.Vc Go.Huf Go.Dfl Go.Gz
set_option maxRecDepth 20000
set_option linter.unusedVariables false
def NoZ (U : ByteArray) : Prop := ∀ x ∈ L8 U, x ≠ 0
def zB : ByteArray := ⟨#[0]⟩
def UpIdx (s : ByteArray) (i : Nat) : Prop := i ≤ s.size ∧ i ≤ 300 ∧ (∀ j, j < i → byteAt s j ≠ 0) ∧ (i < s.size → i < 300 → byteAt s i = 0)
theorem up_one {s : ByteArray} {i k : Nat} (hi : UpIdx s i) (hk : UpIdx s k) : i = k := by
  have key : ∀ {i k : Nat}, UpIdx s i → UpIdx s k → ¬ i < k := fun {i k} hi hk hc => hk.2.2.1 i hc (hi.2.2.2 (by have := hk.1; omega) (by have := hk.2.1; omega))
  rcases Nat.lt_trichotomy i k with h | h | h
  · exact absurd h (key hi hk)
  · exact h
  · exact absurd h (key hk hi)
theorem up_is (s : ByteArray) : ∃ i, UpIdx s i := by
  have key : ∀ n k, (∀ j, j < k → byteAt s j ≠ 0) → k ≤ s.size → k ≤ 300 → 300 - k = n → ∃ i, UpIdx s i := by
    intro n
    induction n with
    | zero => exact fun k hj h1 h2 h3 => ⟨k, h1, h2, hj, fun _ h => by omega⟩
    | succ n ih =>
      intro k hj h1 h2 h3
      by_cases hc : k < s.size ∧ byteAt s k ≠ 0
      · refine ih (k + 1) (fun j hj' => ?_) (by omega) (by omega) (by omega)
        rcases Nat.lt_or_ge j k with h4 | h4
        · exact hj j h4
        · rw [show j = k by omega]; exact hc.2
      · refine ⟨k, h1, h2, hj, fun h4 _ => ?_⟩
        apply Classical.byContradiction
        exact fun h5 => hc ⟨h4, h5⟩
  exact key 300 0 (fun j hj => by omega) (by omega) (by omega) rfl
theorem up_nz {s : ByteArray} {i : Nat} (hu : UpIdx s i) : NoZ (s.extract 0 i) := fun x hx => by
  obtain ⟨hi, _, hj, _⟩ := hu
  obtain ⟨k, hk, rfl⟩ := List.mem_iff_getElem.1 hx
  intro hc
  have h1 : k < i := by rw [L8_len, ByteArray.size_extract] at hk; omega
  have h2 := ext_byte (b := s) (i := 0) (j := i) (k := k) (by omega) hi
  rw [Nat.zero_add] at h2
  apply hj k h1
  rw [← h2, L8_byte, List.getD_eq_getElem?_getD, List.getElem?_eq_getElem hk]
  show (((L8 (s.extract 0 i))[k].toNat : Nat) : Int) = 0
  rw [hc]; rfl
theorem upto_spec {h : Heap} {t : Nat} (s : ByteArray) (hs : s.size ≤ 1048576) {q : Nat} (hq : UpIdx s q) :
    CallSpec Try.prog 26 #[.string s] h t (fun v h' t' => v = .string (s.extract 0 q) ∧ h' = h ∧ t' = t) := by
  refine Go.Vc.spec_of_vc (fn := Try.f26) Try.func26 rfl (by kernel_rfl) (by kernel_rfl) (Nat.le_of_ble_eq_true rfl) ?_
  intro hd
  conv => whnf
  refine loop_intro (fun i : Nat => [(0, .string s), (3, .int .i64 (i : Nat))]) (fun i h' t' => h' = h ∧ t' = t ∧ i ≤ s.size ∧ i ≤ 300 ∧ ∀ j, j < i → byteAt s j ≠ 0) (fun i => s.size - i) 0 ⟨rfl, rfl, trivial⟩ ⟨rfl, rfl, by omega, by omega, fun j hj => by omega⟩ ?_
  rintro i e1 _ _ hd1 ⟨rfl, rfl, hi, hi3, hj⟩
  rcases Nat.lt_or_ge i s.size with h1 | h1
  · rcases Nat.lt_or_ge i 300 with h2 | h2
    · conv => whnf
      repeat (first | ((with_reducible refine And.intro (And.intro ?_ ?_) ?_); (focus omega); (focus omega); conv => whnf) | (intro _ _; conv => whnf) | (refine Go.Vc.br_t ?_ ?_; (focus omega); conv => whnf))
      refine br (fun hb => ?_) (fun hb => ?_)
      · conv => whnf
        repeat (first | ((with_reducible refine And.intro (And.intro ?_ ?_) ?_); (focus omega); (focus omega); conv => whnf))
        exact ⟨by rw [up_one hq ⟨hi, hi3, hj, fun _ _ => hb⟩]; rfl, rfl, rfl⟩
      · conv => whnf
        repeat (first | ((with_reducible apply Go.Vc.wr_i64); (focus exact And.intro (by omega) (by omega)); conv => whnf))
        refine round_end (i + 1) (by omega) ⟨rfl, rfl, trivial⟩ ⟨rfl, rfl, by omega, by omega, fun j hj' => ?_⟩
        rcases Nat.lt_or_ge j i with h3 | h3
        · exact hj j h3
        · rw [show j = i by omega]; exact hb
    · conv => whnf
      repeat (first | ((with_reducible refine And.intro (And.intro ?_ ?_) ?_); (focus omega); (focus omega); conv => whnf) | (refine Go.Vc.br_t ?_ ?_; (focus omega); conv => whnf) | (refine Go.Vc.br_f ?_ ?_; (focus omega); conv => whnf))
      have hmin : (if (300 : Int) < (s.size : Nat) then (300 : Int) else (s.size : Nat)).toNat = i := by split <;> omega
      rw [hmin]
      exact ⟨by rw [up_one hq ⟨hi, hi3, hj, fun h1 h2 => by omega⟩], rfl, rfl⟩
  · conv => whnf
    repeat (first | ((with_reducible refine And.intro (And.intro ?_ ?_) ?_); (focus omega); (focus omega); conv => whnf) | (refine Go.Vc.br_f ?_ ?_; (focus omega); conv => whnf))
    have hmin : (if (300 : Int) < (s.size : Nat) then (300 : Int) else (s.size : Nat)).toNat = i := by split <;> omega
    rw [hmin]
    exact ⟨by rw [up_one hq ⟨hi, hi3, hj, fun h1 h2 => by omega⟩], rfl, rfl⟩
theorem idx_at : ∀ (l X : List UInt8), (∀ x ∈ l, x ≠ 0) → Lib.indexByte (l ++ 0 :: X) 0 = (l.length : Nat)
  | [], X, _ => by
    unfold Lib.indexByte
    rfl
  | y :: l, X, h => by
    have ih := idx_at l X fun x hx => h x (List.mem_cons_of_mem _ hx)
    have hy := h y (List.mem_cons_self ..)
    rw [List.cons_append]
    unfold Lib.indexByte
    rw [ih, if_neg (by simpa using hy), if_neg (by simp)]
    rw [List.length_cons]
    push_cast
    rfl
theorem idx_text {U X : ByteArray} (h : NoZ U) : Lib.indexByte (U ++ (zB ++ X)).data.toList 0 = (U.size : Nat) := by
  have := idx_at (L8 U) (L8 X) h
  show Lib.indexByte (L8 (U ++ (zB ++ X))) 0 = _
  rw [L8_app, L8_app, ← L8_len]
  exact this
theorem xorN {X Y : Nat} (hX : X < 2 ^ 40) (hY : Y < 2 ^ 40) {Q : Int → Prop} (hk : Q ((X ^^^ Y : Nat) : Int)) :
    ∃ z, z = IntKind.i64.wrap ((BitVec.ofInt IntKind.i64.bits ((X : Nat) : Int) ^^^ BitVec.ofInt IntKind.i64.bits ((Y : Nat) : Int)).toNat : Int) ∧ Q z := by
  refine ⟨_, ?_, hk⟩
  have hl : X ^^^ Y < 2 ^ 40 := Nat.xor_lt_two_pow hX hY
  have e : (BitVec.ofInt 64 ((X : Nat) : Int) ^^^ BitVec.ofInt 64 ((Y : Nat) : Int)).toNat = X ^^^ Y := by
    rw [BitVec.ofInt_natCast, BitVec.ofInt_natCast, BitVec.toNat_xor, BitVec.toNat_ofNat, BitVec.toNat_ofNat, Nat.mod_eq_of_lt (by omega), Nat.mod_eq_of_lt (by omega)]
  show _ = IntKind.i64.wrap ((BitVec.ofInt 64 ((X : Nat) : Int) ^^^ BitVec.ofInt 64 ((Y : Nat) : Int)).toNat : Int)
  rw [e, wi (by omega) (by omega)]
theorem wb8 {m : Nat} {Q : Int → Prop} (hk : Q (((UInt8.ofNat m).toNat : Nat) : Int)) : ∃ z, z = IntKind.u8.wrap (m : Int) ∧ Q z := ⟨_, (wrap8 m).symm, hk⟩
theorem two_low (c : Nat) : (⟨[UInt8.ofNat c, UInt8.ofNat (c / 256)].toArray⟩ : ByteArray) = lowF c 2 := by
  unfold lowF lowL
  show _ = (⟨[UInt8.ofNat (c / 2 ^ (8 * 0)), UInt8.ofNat (c / 2 ^ (8 * 1))].toArray⟩ : ByteArray)
  rw [Nat.mul_zero, Nat.pow_zero, Nat.div_one]
theorem low_ne {c n : Nat} (hn : n < 16) : lowF (c ^^^ 2 ^ n) 2 ≠ lowF c 2 := fun hc => by
  have h1 : L8 (lowF (c ^^^ 2 ^ n) 2) = L8 (lowF c 2) := by rw [hc]
  have e : ∀ m : Nat, L8 (lowF m 2) = [UInt8.ofNat m, UInt8.ofNat (m / 256)] := fun m => by rw [← two_low]; rfl
  rw [e, e] at h1
  injection h1 with h2 h3
  injection h3 with h3 _
  have h4 := congrArg UInt8.toNat h2
  have h5 := congrArg UInt8.toNat h3
  rw [UInt8.toNat_ofNat', UInt8.toNat_ofNat'] at h4 h5
  have h6 : (c ^^^ 2 ^ n) % 2 ^ 16 = c % 2 ^ 16 := by omega
  have h7 := congrArg (fun m => m.testBit n) h6
  simp only [Nat.testBit_mod_two_pow, hn, decide_true, Bool.true_and, Nat.testBit_xor, Nat.testBit_two_pow_self] at h7
  cases hcb : c.testBit n <;> rw [hcb] at h7 <;> simp at h7
theorem ext_mid {A B R : ByteArray} {m : Nat} (hm : m = A.size + B.size) : (A ++ (B ++ R)).extract A.size m = B := by
  apply L8_inj
  rw [L8_ext, L8_app, L8_app, ← L8_len A, List.drop_left, hm, ← L8_len A, show (L8 A).length + B.size - (L8 A).length = B.size by omega, ← L8_len B, List.take_left]
theorem ext_pre {A R : ByteArray} : (A ++ R).extract 0 A.size = A := by
  rw [app_head (Nat.le_refl _)]
  exact ByteArray.extract_zero_size
def thB : ByteArray := ⟨#[30]⟩
def midB : ByteArray := ⟨#[0, 0, 0, 0, 0, 255]⟩
def twoB (lo hi : UInt8) : ByteArray := ⟨[lo, hi].toArray⟩
def p12 (lo hi : UInt8) : ByteArray := magicB ++ thB ++ midB ++ twoB lo hi
theorem p12_size (lo hi : UInt8) : (p12 lo hi).size = 12 := rfl
def headN (lo hi : UInt8) (E U1 U2 : ByteArray) : ByteArray := p12 lo hi ++ E ++ U1 ++ zB ++ U2 ++ zB
theorem headN_size (lo hi : UInt8) (E U1 U2 : ByteArray) : (headN lo hi E U1 U2).size = 12 + E.size + U1.size + 1 + U2.size + 1 := by
  unfold headN
  rw [ByteArray.size_append, ByteArray.size_append, ByteArray.size_append, ByteArray.size_append, ByteArray.size_append, p12_size]
  rfl
theorem named_open {h : Heap} {t : Nat} {E U1 U2 C s rest : ByteArray} {lo hi : UInt8} {most : Nat} (hE : E.size ≤ 300) (hlh : ((lo.toNat : Nat) : Int) + ((hi.toNat : Nat) : Int) * 256 = (E.size : Nat)) (h1 : NoZ U1) (h2 : NoZ U2) (z1 : U1.size ≤ 300) (z2 : U2.size ≤ 300) (hC : C.size = 2)
    (hm : most ≤ 1048576) (hs : s.size ≤ 32768) (hr : rest.size ≤ 1000000) :
    CallSpec Try.prog 25 #[.string (headN lo hi E U1 U2 ++ C ++ (packS s ++ rest)), .int .i64 (most : Nat)] h t (fun v h' t' => v = goF s most (if C = lowF (crcF (headN lo hi E U1 U2)).toNat 2 then 0 else 8) rest ∧ Vc.Sub h h' ∧ t ≤ t') := by
  obtain ⟨H, hH⟩ : ∃ H, headN lo hi E U1 U2 = H := ⟨_, rfl⟩
  have hHz := headN_size lo hi E U1 U2
  have hl := packL_le s hs
  have hz := packS_size2 s
  rw [hH] at hHz ⊢
  obtain ⟨R, hR⟩ : ∃ R, packS s ++ rest = R := ⟨_, rfl⟩
  have hRz : R.size = (packL s).length + rest.size := by rw [← hR, ByteArray.size_append, hz]
  have a0 : H ++ C ++ R = H ++ (C ++ R) := ByteArray.append_assoc
  have a1 : H ++ C ++ R = p12 lo hi ++ (E ++ U1 ++ zB ++ U2 ++ zB ++ C ++ R) := by rw [← hH]; unfold headN; simp only [ByteArray.append_assoc]
  have a2 : H ++ C ++ R = (p12 lo hi ++ E) ++ (U1 ++ (zB ++ (U2 ++ zB ++ C ++ R))) := by rw [← hH]; unfold headN; simp only [ByteArray.append_assoc]
  have a3 : H ++ C ++ R = (p12 lo hi ++ E ++ U1 ++ zB) ++ (U2 ++ (zB ++ (C ++ R))) := by rw [← hH]; unfold headN; simp only [ByteArray.append_assoc]
  have hbz : (H ++ C ++ R).size = H.size + 2 + R.size := by rw [ByteArray.size_append, ByteArray.size_append, hC]
  have hpE : (p12 lo hi ++ E).size = 12 + E.size := by rw [ByteArray.size_append, p12_size]
  have hpU : (p12 lo hi ++ E ++ U1 ++ zB).size = 12 + E.size + U1.size + 1 := by rw [ByteArray.size_append, ByteArray.size_append, hpE]; rfl
  rw [hR]
  refine gopen_spec (q := H.size + 2) (by omega) (by omega) ?_ hm hs (.inr ⟨?_, 12 + E.size, 12 + E.size + U1.size + 1, H.size, ⟨E.size, by omega, by omega, ?_⟩, ⟨U1.size, by omega, by omega, by omega, ?_⟩, ⟨U2.size, by omega, by omega, by omega, ?_⟩, by omega, rfl, ?_⟩) (by omega) ?_ ?_
  · rw [a1, app_head (by rw [p12_size]; omega)]; rfl
  · rw [a1, app_byte (by rw [p12_size]; omega)]; rfl
  · rw [a1, app_byte (by rw [p12_size]; omega), app_byte (by rw [p12_size]; omega)]; exact hlh
  · have := app_tail (A := p12 lo hi ++ E) (B := U1 ++ (zB ++ (U2 ++ zB ++ C ++ R))) rfl
    rw [← a2, hpE] at this
    rw [this]
    exact idx_text h1
  · have := app_tail (A := p12 lo hi ++ E ++ U1 ++ zB) (B := U2 ++ (zB ++ (C ++ R))) rfl
    rw [← a3, hpU] at this
    rw [this]
    exact idx_text h2
  · rw [a0, ext_mid (by rw [hC]), ext_pre]
  · have := app_tail (A := H ++ C) (B := R) rfl
    rw [ByteArray.size_append, hC] at this
    rw [this, hR]
  · have h5 := app_rest (A := H ++ C) (B := R) (k := (packL s).length) rfl
    rw [ByteArray.size_append, hC] at h5
    rw [h5, ← hR, ← hz]
    exact app_tail rfl
end Go.Proofs.Ytikpfffhcjlcjaa
