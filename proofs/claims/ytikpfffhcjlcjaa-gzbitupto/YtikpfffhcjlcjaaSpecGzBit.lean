import Derived.Test.YtikpfffhcjlcjaaGzSet
/- GzBit answers true, by its contract. -/
set_option linter.unusedSimpArgs false
namespace Go.Proofs.Ytikpfffhcjlcjaa
open Go Go.Vc Go.Huf Go.Dfl Go.Gz
set_option maxRecDepth 10000
set_option linter.unusedVariables false

theorem shl_u8 : ∀ n : Fin 8, shlV .u8 1 (n.val : Int) = (((UInt8.ofNat (2 ^ n.val)).toNat : Nat) : Int) := by decide +kernel
theorem xor_ne : ∀ a : Fin 256, ∀ n : Fin 8, UInt8.ofNat a.val ^^^ UInt8.ofNat (2 ^ n.val) ≠ UInt8.ofNat a.val := by decide +kernel
theorem GzBit_spec (h : Heap) (t : Nat) (s : ByteArray) (hs : s.size ≤ 1048576) (bit : Int) (hbit : IntKind.min .u8 ≤ bit ∧ bit ≤ IntKind.max .u8) :
    CallSpec Try.prog 11 #[.string s, .int .u8 bit] h t (fun v h' _ => v = .bool true ∧ Vc.Sub h h') := by
  rw [show IntKind.min .u8 = 0 from rfl, show IntKind.max .u8 = 255 from rfl] at hbit
  obtain ⟨B, rfl⟩ := Int.eq_ofNat_of_zero_le hbit.1
  refine Go.Vc.spec_of_vc (fn := Try.f11) Try.func11 rfl (by kernel_rfl) (by kernel_rfl) (Nat.le_of_ble_eq_true rfl) ?_
  intro hd
  conv => whnf
  refine (zexamples_spec h t).mono ?_
  rintro _ h1 t1 hd1 ht1 ⟨rfl, hs1, _⟩
  conv => whnf
  repeat (first | ((with_reducible refine And.intro (And.intro ?_ ?_) ?_); (focus omega); (focus omega); conv => whnf))
  have hS : (s.extract 0 (if (1000 : Int) < (s.size : Nat) then (1000 : Int) else (s.size : Nat)).toNat).size ≤ 1000 := by
    rw [ByteArray.size_extract]; split <;> omega
  generalize s.extract 0 (if (1000 : Int) < (s.size : Nat) then (1000 : Int) else (s.size : Nat)).toNat = S at hS ⊢
  refine (gpack_spec S (by omega)).mono ?_
  rintro _ h2 t2 hd2 ht2 ⟨rfl, hs2, _⟩
  have hz := pack_size S
  have hl := packL_le S (by omega)
  have hzs := packS_size2 S
  have hes := end_size S
  conv => whnf
  repeat (first | (intro _ _; conv => whnf) | ((with_reducible apply Go.Vc.wr_i64); (focus exact And.intro (by omega) (by omega)); conv => whnf) | ((with_reducible apply Go.Vc.rem_i); (focus omega); conv => whnf) | (refine Go.Vc.br_f ?_ ?_; (focus omega); conv => whnf) | ((with_reducible refine And.intro ?_ (And.intro ?_ ?_)); (focus exact rfl); (focus omega); conv => whnf))
  refine Go.Vc.draw_intro [⟨0, false, false, false, 0⟩, ⟨1, false, false, false, 0⟩, ⟨2, false, false, false, 2⟩, ⟨3, false, false, false, 6⟩, ⟨4, false, false, false, 0⟩, ⟨5, false, false, false, 16⟩, ⟨6, false, false, false, 62⟩, ⟨7, false, false, false, 0⟩, ⟨8, false, false, false, 0⟩, ⟨9, false, false, false, 256⟩, ⟨10, false, false, false, 768⟩, ⟨11, false, false, false, 0⟩, ⟨12, false, false, false, 2048⟩, ⟨13, false, false, false, 7936⟩, ⟨14, false, false, false, 16256⟩, ⟨15, false, false, false, 32640⟩, ⟨16, false, false, false, 0⟩, ⟨17, false, false, false, 65536⟩, ⟨18, false, false, false, 196608⟩, ⟨19, false, false, false, 524160⟩, ⟨20, false, false, false, 1048575⟩, ⟨21, true, false, false, 2097151⟩] (hs := (fun _ => none)) (hsub := (fun _ _ h => nomatch h)) (hm := by kernel_rfl) (hpl := by kernel_rfl) ?_
  conv => whnf
  conv => whnf
  repeat (first | ((with_reducible apply Go.Vc.own_ix); (focus exact And.intro (by omega) (by omega)); conv => whnf) | ((with_reducible apply Go.Vc.wr_i64); (focus exact And.intro (by omega) (by omega)); conv => whnf) | ((with_reducible apply Go.Vc.quo_i64); (focus exact And.intro (by omega) (And.intro (by omega) (by omega))); conv => whnf) | ((with_reducible refine And.intro ?_ (And.intro ?_ ?_)); (focus exact rfl); (focus omega); conv => whnf))
  rename_i r1 c1 hr1 hc1
  have ho := own_conv (h := h2) (r := r1) (c := c1) (E := 5) (s := packZ S) hc1
  obtain ⟨j, hj⟩ : ∃ j, j = B % 64 / 8 := ⟨_, rfl⟩
  obtain ⟨n, hn⟩ : ∃ n, n = B % 64 % 8 := ⟨_, rfl⟩
  have hj8 : j < (L8 (endF S)).length := by rw [L8_len, hes]; omega
  obtain ⟨X, hX⟩ : ∃ X, (L8 (endF S))[j]? = some X := ⟨_, List.getElem?_eq_getElem hj8⟩
  have hXz : (L8 (packZ S))[10 + (packL S).length + j]? = some X := by
    unfold packZ
    rw [L8_app, List.getElem?_append_right (by rw [L8_app, List.length_append, L8_len, L8_len, hzs]; show 10 + _ ≤ _; omega), L8_app, List.length_append, L8_len, L8_len, hzs]
    show (L8 (endF S))[10 + (packL S).length + j - (10 + (packL S).length)]? = _
    rw [show 10 + (packL S).length + j - (10 + (packL S).length) = j by omega]
    exact hX
  have hcell := Own.cell ho hXz
  rw [show (((packZ S).size : Int) - 8 + (B : Int) % 64 / 8).toNat = 10 + (packL S).length + j by omega]
  refine ⟨_, hcell, ?_⟩
  conv => whnf
  repeat (first | ((with_reducible apply Go.Vc.rem_i); (focus omega); conv => whnf) | ((with_reducible apply Go.Vc.and_leI); (focus omega); conv => whnf) | ((with_reducible refine And.intro ?_ (And.intro ?_ ?_)); (focus exact rfl); (focus omega); conv => whnf))
  rw [show (B : Int) % 64 % 8 = ((n : Nat) : Int) by omega]
  refine ⟨_, (shl_u8 ⟨n, by omega⟩).symm, ?_⟩
  conv => whnf
  refine xor8 X (UInt8.ofNat (2 ^ n)) ?_
  conv => whnf
  repeat (first | ((with_reducible apply Go.Vc.own_ix); (focus exact And.intro (by omega) (by omega)); conv => whnf))
  rw [show (((packZ S).size : Int) - 8 + (B : Int) % 64 / 8).toNat = 10 + (packL S).length + j by omega]
  obtain ⟨Y, hY⟩ : ∃ Y, X ^^^ UInt8.ofNat (2 ^ n) = Y := ⟨_, rfl⟩
  have hYX : Y ≠ X := by
    have := xor_ne ⟨X.toNat, X.toNat_lt⟩ ⟨n, by omega⟩
    rw [← hY]
    simpa using this
  rw [hY]
  obtain ⟨cs, fr, hbq, hlt, hfz, hput⟩ := Own.put ho (j := 10 + (packL S).length + j) (by omega) Y
  refine ⟨rfl, cs, _, fr, hbq, hlt, hfz, ?_⟩
  rintro _ rfl
  have hsa : Vc.Sub h2 (hset (hset h2 r1 (.cells (bytesVals (packZ S) ++ Array.replicate (c1 - (packZ S).size) (.int .u8 0)) 5 (c1, c1 + 1))) r1 (.cells (cs.setIfInBounds (0 + (10 + (packL S).length + j) * 1) (bv Y)) 5 fr)) := fun z o hz' => by
    have := hd2 _ _ hz'
    rw [hset_ne _ _ (by omega), hset_ne _ _ (by omega)]; exact hz'
  have e1 : setB (packZ S) (10 + (packL S).length + j) Y = aheadB ++ (packS S ++ setB (endF S) j Y) := by
    rw [pack_split, show 10 + (packL S).length + j = aheadB.size + ((packS S).size + j) by rw [hzs]; show _ = 10 + _; omega, set_right, set_right]
  have hrz : (setB (endF S) j Y).size = 8 := by rw [setB_size, hes]
  have hrn : setB (endF S) j Y ≠ endF S := fun hc => by
    have h1 := congrArg L8 hc
    rw [L8_set] at h1
    have h2 : ((L8 (endF S)).set j Y)[j]? = (L8 (endF S))[j]? := by rw [h1]
    rw [List.getElem?_set_self hj8, hX] at h2
    exact hYX (Option.some.inj h2)
  conv => whnf
  refine ⟨_, readB_own hput, ?_⟩
  rw [show (⟨((L8 (packZ S)).set (10 + (packL S).length + j) Y).toArray⟩ : ByteArray) = aheadB ++ (packS S ++ setB (endF S) j Y) from e1]
  conv => whnf
  refine (gopen_pack (s := S) (rest := setB (endF S) j Y) (most := 1000) (by omega) (by omega) (by omega)).mono ?_
  rintro _ h3 t3 hd3 ht3 ⟨rfl, hs3, _⟩
  have hgo : goF S 1000 0 (setB (endF S) j Y) = .tuple #[.string ByteArray.empty, .int .i64 8] := by
    unfold goF
    rw [if_neg (by decide), if_neg (by omega), if_neg (by omega), if_pos hrn]
  rw [hgo]
  conv => whnf
  exact ⟨by rw [opq_eq, decide_eq_true rfl], fun z o hz' => hs3 _ _ (hsa _ _ (hs2 _ _ (hs1 _ _ hz')))⟩
end Go.Proofs.Ytikpfffhcjlcjaa
