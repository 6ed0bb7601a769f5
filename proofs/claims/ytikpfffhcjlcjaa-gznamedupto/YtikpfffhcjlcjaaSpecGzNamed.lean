import Derived.Test.YtikpfffhcjlcjaaGzName
set_option linter.unusedSimpArgs false
namespace Go.Proofs.Ytikpfffhcjlcjaa
open Go Go.Vc Go.Huf Go.Dfl Go.Gz
set_option maxRecDepth 10000
set_option linter.unusedVariables false
theorem GzNamed_spec (h : Heap) (t : Nat) (s : ByteArray) (hs : s.size ≤ 1048576) (name : ByteArray) (hna : name.size ≤ 1048576) (comment : ByteArray) (hco : comment.size ≤ 1048576) (extra : ByteArray) (hex : extra.size ≤ 1048576) (bit : Int) (hbit : IntKind.min .u8 ≤ bit ∧ bit ≤ IntKind.max .u8) :
    CallSpec Try.prog 12 #[.string s, .string name, .string comment, .string extra, .int .u8 bit] h t (fun v h' _ => v = .bool true ∧ Vc.Sub h h') := by
  rw [show IntKind.min .u8 = 0 from rfl, show IntKind.max .u8 = 255 from rfl] at hbit
  obtain ⟨B, rfl⟩ := Int.eq_ofNat_of_zero_le hbit.1
  refine Go.Vc.spec_of_vc (fn := Try.f12) Try.func12 rfl (by kernel_rfl) (by kernel_rfl) (Nat.le_of_ble_eq_true rfl) ?_
  intro hd
  conv => whnf
  refine (zexamples_spec h t).mono ?_
  rintro _ h1 t1 hd1 ht1 ⟨rfl, hs1, _⟩
  conv => whnf
  repeat (first | ((with_reducible refine And.intro (And.intro ?_ ?_) ?_); (focus omega); (focus omega); conv => whnf))
  have hS : (s.extract 0 (if (300 : Int) < (s.size : Nat) then (300 : Int) else (s.size : Nat)).toNat).size ≤ 300 := by
    rw [ByteArray.size_extract]; split <;> omega
  have hE : (extra.extract 0 (if (300 : Int) < (extra.size : Nat) then (300 : Int) else (extra.size : Nat)).toNat).size ≤ 300 := by
    rw [ByteArray.size_extract]; split <;> omega
  generalize s.extract 0 (if (300 : Int) < (s.size : Nat) then (300 : Int) else (s.size : Nat)).toNat = S at hS ⊢
  generalize extra.extract 0 (if (300 : Int) < (extra.size : Nat) then (300 : Int) else (extra.size : Nat)).toNat = E at hE ⊢
  refine (gpack_spec S (by omega)).mono ?_
  rintro _ h2 t2 hd2 ht2 ⟨rfl, hs2, _⟩
  have hz := pack_size S
  have hl := packL_le S (by omega)
  have hzs := packS_size2 S
  have hes := end_size S
  have e3 : (packZ S).extract 0 (Int.toNat 3) = magicB := by rw [pack_split, app_head (by decide)]; rfl
  have e6 : (packZ S).extract (Int.toNat 4) (Int.toNat 10) = midB := by rw [pack_split, app_head (by decide)]; rfl
  have eR : (packZ S).extract (Int.toNat 10) (packZ S).size = packS S ++ endF S := by
    rw [pack_split]
    exact app_tail (A := aheadB) rfl
  conv => whnf
  repeat (first | (refine Go.Vc.br_f ?_ ?_; (focus omega); conv => whnf))
  obtain ⟨q1, hq1⟩ := up_is name
  obtain ⟨q2, hq2⟩ := up_is comment
  refine Go.Vc.S.draw_sil [⟨0, false, true, false, 0⟩, ⟨1, false, true, false, 1⟩, ⟨2, false, true, false, 3⟩, ⟨3, false, true, false, 0⟩, ⟨4, false, true, false, 8⟩, ⟨5, false, true, false, 31⟩, ⟨6, false, false, false, 0⟩, ⟨7, false, false, false, 64⟩, ⟨8, false, false, false, 192⟩, ⟨9, false, false, false, 0⟩, ⟨10, false, false, false, 512⟩, ⟨11, false, false, false, 1536⟩, ⟨12, false, false, false, 3584⟩, ⟨16, false, true, false, 0⟩, ⟨18, false, true, false, 0⟩, ⟨19, false, true, true, 262144⟩, ⟨22, false, true, false, 0⟩, ⟨23, false, true, true, 4980736⟩, ⟨13, true, false, true, 8128⟩, ⟨14, false, false, false, 16320⟩, ⟨15, false, false, false, 32767⟩, ⟨17, false, false, false, 131071⟩, ⟨20, false, false, false, 1048575⟩, ⟨21, false, false, false, 2097151⟩, ⟨24, false, false, false, 16777215⟩, ⟨25, false, false, false, 33554431⟩, ⟨26, false, false, false, 67108863⟩] (hs := (fun _ => none)) (hsub := (fun _ _ h => nomatch h)) (hm := by kernel_rfl) (hpl := by kernel_rfl) ?_
  conv => whnf
  conv => whnf
  repeat (first | ((with_reducible refine And.intro (And.intro ?_ ?_) ?_); (focus omega); (focus omega); conv => whnf))
  rw [e3]
  have hp1 : (magicB ++ { data := #[30] } : ByteArray).size = 4 := rfl
  refine ⟨by decide, ?_⟩
  conv => whnf
  repeat (first | ((with_reducible refine And.intro (And.intro ?_ ?_) ?_); (focus omega); (focus omega); conv => whnf))
  rw [e6]
  refine ⟨by decide, ?_⟩
  conv => whnf
  apply wb8
  conv => whnf
  repeat (first | ((with_reducible apply Go.Vc.shr_i64); (focus exact And.intro (by omega) (by omega)); intro zS hzS hzS0 hzS1; conv => whnf) | ((with_reducible apply Go.Vc.and_leI); (focus omega); conv => whnf))
  obtain ⟨ez, hez⟩ : ∃ m : Nat, m = E.size / 256 := ⟨_, rfl⟩
  replace hzS : zS = ((E.size : Nat) : Int) / 256 := hzS
  rw [show zS = ((ez : Nat) : Int) by omega]
  apply wb8
  conv => whnf
  refine ⟨.string (name.extract 0 q1), fun h' t' hd' => ?_, ?_⟩
  · conv => whnf
    exact upto_spec name hna hq1
  conv => whnf
  refine ⟨.string (comment.extract 0 q2), fun h' t' hd' => ?_, ?_⟩
  · conv => whnf
    exact upto_spec comment hco hq2
  conv => whnf
  repeat (first | (intro _ _; conv => whnf))
  refine ⟨fun _ _ hh => (by cases hh), ?_⟩
  rename_i r9 hr9
  conv => whnf
  refine ⟨_, readB_arr (l := [UInt8.ofNat E.size, UInt8.ofNat ez]) (hset_same _ _ _) rfl, ?_⟩
  conv => whnf
  refine ⟨Nat.le_of_ble_eq_true rfl, ?_⟩
  obtain ⟨H0, hH0⟩ : ∃ H, H = p12 (UInt8.ofNat E.size) (UInt8.ofNat ez) := ⟨_, rfl⟩
  have hz0 : H0.size = 12 := by rw [hH0]; rfl
  rw [show (magicB ++ { data := #[30] } ++ midB ++ { data := [UInt8.ofNat E.size, UInt8.ofNat ez].toArray } : ByteArray) = H0 from hH0.symm]
  conv => whnf
  repeat (first | ((with_reducible apply Go.Vc.and_leN); (focus (first | omega | (simp only [ByteArray.size, List.size_toArray, List.length_cons, List.length_nil] at *; omega))); conv => whnf))
  obtain ⟨U1, hU1⟩ : ∃ U, U = name.extract 0 q1 := ⟨_, rfl⟩
  obtain ⟨U2, hU2⟩ : ∃ U, U = comment.extract 0 q2 := ⟨_, rfl⟩
  have n1 : NoZ U1 := hU1 ▸ up_nz hq1
  have n2 : NoZ U2 := hU2 ▸ up_nz hq2
  have z1 : U1.size ≤ 300 := by rw [hU1, ByteArray.size_extract]; have := hq1.2.1; omega
  have z2 : U2.size ≤ 300 := by rw [hU2, ByteArray.size_extract]; have := hq2.2.1; omega
  rw [← hU1, ← hU2]
  have g1 : (H0 ++ E).size = 12 + E.size := by rw [ByteArray.size_append, hz0]
  have g2 : (H0 ++ E ++ U1).size = 12 + E.size + U1.size := by rw [ByteArray.size_append, g1]
  have g3 : (H0 ++ E ++ U1 ++ { data := #[0] } : ByteArray).size = 12 + E.size + U1.size + 1 := by rw [ByteArray.size_append, g2]; rfl
  have g4 : (H0 ++ E ++ U1 ++ { data := #[0] } ++ U2 : ByteArray).size = 12 + E.size + U1.size + 1 + U2.size := by rw [ByteArray.size_append, g3]
  have g5 : (H0 ++ E ++ U1 ++ { data := #[0] } ++ U2 ++ { data := #[0] } : ByteArray).size = 12 + E.size + U1.size + 1 + U2.size + 1 := by rw [ByteArray.size_append, g4]; rfl
  have g6 : ({ data := #[0] } : ByteArray).size = 1 := rfl
  conv => whnf
  repeat (first | ((with_reducible apply Go.Vc.and_leN); (focus (first | omega | (simp only [ByteArray.size, List.size_toArray, List.length_cons, List.length_nil] at *; omega))); conv => whnf))
  have hhd : headN (UInt8.ofNat E.size) (UInt8.ofNat ez) E U1 U2 = H0 ++ E ++ U1 ++ { data := #[0] } ++ U2 ++ { data := #[0] } := by rw [hH0]; rfl
  obtain ⟨H, hH⟩ : ∃ H, H = H0 ++ E ++ U1 ++ { data := #[0] } ++ U2 ++ { data := #[0] } := ⟨_, rfl⟩
  rw [← hH] at hhd g5 ⊢
  have hda := hd2.set r9 (.cells #[.int .u8 ((UInt8.ofNat E.size).toNat : Nat), .int .u8 ((UInt8.ofNat ez).toNat : Nat)] 5 (0, 0)) (r9 + 1) (by omega) (by omega)
  have hsa : Vc.Sub h2 (hset h2 r9 (.cells #[.int .u8 ((UInt8.ofNat E.size).toNat : Nat), .int .u8 ((UInt8.ofNat ez).toNat : Nat)] 5 (0, 0))) := hd2.sub_new hr9 _
  refine (crcsum_spec H (by omega)).mono ?_
  rintro _ h3 t3 hd3 ht3 ⟨rfl, hs3, _⟩
  have hcl := (crcF H).isLt
  conv => whnf
  repeat (first | ((with_reducible apply Go.Vc.wr_i64); (focus exact And.intro (by omega) (by omega)); conv => whnf))
  obtain ⟨C, hC⟩ : ∃ C, C = (crcF H).toNat := ⟨_, rfl⟩
  rw [← hC] at hcl ⊢
  refine Go.Vc.draw_intro [⟨0, false, true, false, 0⟩, ⟨1, false, false, false, 0⟩, ⟨2, false, false, false, 2⟩, ⟨3, false, false, false, 0⟩, ⟨4, false, false, false, 8⟩, ⟨5, false, false, false, 24⟩, ⟨9, false, true, false, 0⟩, ⟨10, false, true, false, 512⟩, ⟨6, true, false, true, 62⟩, ⟨7, false, false, false, 126⟩, ⟨8, false, false, false, 255⟩, ⟨11, false, false, false, 2047⟩, ⟨12, true, false, false, 4095⟩, ⟨13, false, false, false, 8191⟩, ⟨14, false, false, false, 16383⟩, ⟨15, false, false, false, 16383⟩, ⟨16, false, false, false, 32767⟩, ⟨17, false, false, false, 131071⟩] (hs := (fun _ => none)) (hsub := (fun _ _ h => nomatch h)) (hm := by kernel_rfl) (hpl := by kernel_rfl) ?_
  conv => whnf
  conv => whnf
  apply wb8
  conv => whnf
  repeat (first | ((with_reducible apply Go.Vc.shr_i64); (focus exact And.intro (by omega) (by omega)); intro zS hzS hzS0 hzS1; conv => whnf) | ((with_reducible apply Go.Vc.and_leI); (focus omega); conv => whnf))
  obtain ⟨C4, hC4⟩ : ∃ m : Nat, m = C / 256 := ⟨_, rfl⟩
  replace hzS : zS = ((C : Nat) : Int) / 256 := hzS
  rw [show zS = ((C4 : Nat) : Int) by omega]
  apply wb8
  conv => whnf
  repeat (first | ((with_reducible refine And.intro (And.intro ?_ ?_) ?_); (focus omega); (focus omega); conv => whnf) | (intro _ _; conv => whnf))
  refine ⟨fun _ _ hh => (by cases hh), ?_⟩
  rename_i r8 hr8
  conv => whnf
  refine ⟨_, readB_arr (l := [UInt8.ofNat C, UInt8.ofNat C4]) (hset_same _ _ _) rfl, ?_⟩
  rw [hC4, two_low C]
  have g7 : (H ++ lowF C 2).size = H.size + 2 := by rw [ByteArray.size_append]; rfl
  have g70 : (lowF C 2).size = 2 := rfl
  have g8 : (packS S ++ endF S).size = (packL S).length + 8 := by rw [ByteArray.size_append, hzs, hes]
  have hlh : (((UInt8.ofNat E.size).toNat : Nat) : Int) + (((UInt8.ofNat ez).toNat : Nat) : Int) * 256 = (E.size : Nat) := by
    rw [UInt8.toNat_ofNat', UInt8.toNat_ofNat']; omega
  have hno : ∀ (X : ByteArray) (hp : Heap) (tp : Nat), X.size = 2 → CallSpec Try.prog 25 #[.string (H ++ X ++ (packS S ++ endF S)), .int .i64 300] hp tp (fun v h' t' => v = goF S 300 (if X = lowF C 2 then 0 else 8) (endF S) ∧ Vc.Sub hp h' ∧ tp ≤ t') := fun X hp tp hX => by
    have := named_open (h := hp) (t := tp) (s := S) (rest := endF S) (C := X) (most := 300) hE hlh n1 n2 z1 z2 hX (by omega) (by omega) (by omega)
    rw [hhd, ← hC] at this
    exact this
  conv => whnf
  repeat (first | ((with_reducible apply Go.Vc.and_leN); (focus (first | omega | (simp only [ByteArray.size, List.size_toArray, List.length_cons, List.length_nil] at *; omega))); conv => whnf))
  rw [eR]
  conv => whnf
  repeat (first | ((with_reducible apply Go.Vc.and_leN); (focus (first | omega | (simp only [ByteArray.size, List.size_toArray, List.length_cons, List.length_nil] at *; omega))); conv => whnf))
  refine (hno _ _ _ rfl).mono ?_
  rintro _ h4 t4 hd4 ht4 ⟨rfl, hs4, _⟩
  rw [if_pos rfl, go_ok (by omega)]
  conv => whnf
  repeat (first | ((with_reducible apply Go.Vc.one_shl); (focus exact And.intro (by omega) (by omega)); intro zP hzP hzP0 hzP1; conv => whnf) | ((with_reducible apply Go.Vc.rem_i); (focus omega); conv => whnf) | ((with_reducible apply Go.Vc.and_leI); (focus omega); conv => whnf) | ((with_reducible refine And.intro ?_ (And.intro ?_ ?_)); (focus exact rfl); (focus omega); conv => whnf))
  obtain ⟨n, hn⟩ : ∃ n : Nat, n = B % 16 := ⟨_, rfl⟩
  have hn16 : n < 16 := by omega
  replace hzP : zP = 2 ^ n := by rw [hzP]; congr 1; omega
  have hzb : zP < 2 ^ 40 := by rw [hzP]; exact Nat.pow_lt_pow_right (by decide) (by omega)
  refine xorN (by omega) hzb ?_
  have hdl : C ^^^ zP < 2 ^ 40 := Nat.xor_lt_two_pow (by omega) hzb
  have hne : lowF (C ^^^ zP) 2 ≠ lowF C 2 := by rw [hzP]; exact low_ne hn16
  obtain ⟨D, hD⟩ : ∃ D, D = C ^^^ zP := ⟨_, rfl⟩
  rw [← hD] at hdl hne ⊢
  conv => whnf
  refine Go.Vc.draw_intro [⟨0, false, true, false, 0⟩, ⟨1, false, false, false, 0⟩, ⟨2, false, false, false, 2⟩, ⟨3, false, false, false, 0⟩, ⟨4, false, false, false, 8⟩, ⟨5, false, false, false, 24⟩, ⟨9, false, true, false, 0⟩, ⟨10, false, true, false, 512⟩, ⟨6, true, false, true, 62⟩, ⟨7, false, false, false, 126⟩, ⟨8, false, false, false, 255⟩, ⟨11, false, false, false, 2047⟩, ⟨12, true, false, false, 4095⟩, ⟨13, false, false, false, 8191⟩, ⟨14, false, false, false, 16383⟩, ⟨15, false, false, false, 16383⟩, ⟨16, false, false, false, 32767⟩, ⟨17, false, false, false, 131071⟩] (hs := (fun _ => none)) (hsub := (fun _ _ h => nomatch h)) (hm := by kernel_rfl) (hpl := by kernel_rfl) ?_
  conv => whnf
  conv => whnf
  apply wb8
  conv => whnf
  repeat (first | ((with_reducible apply Go.Vc.shr_i64); (focus exact And.intro (by omega) (by omega)); intro zS hzS hzS0 hzS1; conv => whnf) | ((with_reducible apply Go.Vc.and_leI); (focus omega); conv => whnf))
  obtain ⟨D4, hD4⟩ : ∃ m : Nat, m = D / 256 := ⟨_, rfl⟩
  replace hzS : zS = ((D : Nat) : Int) / 256 := hzS
  rw [show zS = ((D4 : Nat) : Int) by omega]
  apply wb8
  conv => whnf
  repeat (first | ((with_reducible refine And.intro (And.intro ?_ ?_) ?_); (focus omega); (focus omega); conv => whnf) | (intro _ _; conv => whnf))
  refine ⟨fun _ _ hh => (by cases hh), ?_⟩
  rename_i r7 hr7
  conv => whnf
  refine ⟨_, readB_arr (l := [UInt8.ofNat D, UInt8.ofNat D4]) (hset_same _ _ _) rfl, ?_⟩
  rw [hD4, two_low D]
  have g7' : (H ++ lowF D 2).size = H.size + 2 := by rw [ByteArray.size_append]; rfl
  have g70' : (lowF D 2).size = 2 := rfl
  conv => whnf
  repeat (first | ((with_reducible apply Go.Vc.and_leN); (focus (first | omega | (simp only [ByteArray.size, List.size_toArray, List.length_cons, List.length_nil] at *; omega))); conv => whnf))
  rw [eR]
  conv => whnf
  repeat (first | ((with_reducible apply Go.Vc.and_leN); (focus (first | omega | (simp only [ByteArray.size, List.size_toArray, List.length_cons, List.length_nil] at *; omega))); conv => whnf))
  refine (hno _ _ _ rfl).mono ?_
  rintro _ h5 t5 hd5 ht5 ⟨rfl, hs5, _⟩
  rw [if_neg hne]
  conv => whnf
  rw [show opq (decide (S = S)) = true from by rw [opq_eq]; exact decide_eq_true rfl]
  conv => whnf
  repeat (first | (refine Go.Vc.br_t ?_ ?_; (focus omega); conv => whnf))
  have hfin : Vc.Sub h h5 := fun z o hz' => hs5 _ _ (hd4.sub_new hr7 _ _ _ (hs4 _ _ (hd3.sub_new hr8 _ _ _ (hs3 _ _ (hsa _ _ (hs2 _ _ (hs1 _ _ hz')))))))
  exact ⟨by rw [opq_eq, decide_eq_true rfl], hfin⟩
end Go.Proofs.Ytikpfffhcjlcjaa
