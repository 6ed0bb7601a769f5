import Derived.Test.YtikpfffhcjlcjaaGreatDefC
import Derived.Test.YtikpfffhcjlcjaaGreatDefRef1
set_option linter.unusedSimpArgs false
namespace Go.Proofs.YtikpfffhcjlcjaaGreat
open Go Go.Vc Go.Huf Go.Dfl
set_option maxRecDepth 20000
set_option linter.unusedVariables false
set_option maxHeartbeats 1000000
theorem rupto_spec {h : Heap} {t : Nat} {a : Option Addr} {n c : Nat} {l : List Int} (s : Sl h a n (Value.int .i64) l) (hn : n ≤ 1000000) (hc : n ≤ c) {least : Nat} (hl : least ≤ 1000000) :
    CallSpec Tryz.prog 80 #[.slice a n c, .int .i64 (least : Nat)] h t (fun v h' t' => v = .slice a (cutF l least).length c ∧ h = h' ∧ t = t') := by
  have hll := s.1
  have hcl := cutF_len l least
  refine Go.Vc.spec_of_vc (fn := Tryz.f80) Tryz.func80 rfl (by kernel_rfl) (by kernel_rfl) (Nat.le_of_ble_eq_true rfl) ?_
  intro hd
  conv => whnf
  refine loop_intro (fun i : Nat => [(0, .slice a n c), (1, .int .i64 (least : Nat)), (5, .int .i64 (i : Nat))])
    (fun i h' t' => h = h' ∧ t = t' ∧ i ≤ n ∧ cutN l least i = cutN l least n) (fun i => i) n ⟨rfl, rfl, rfl, trivial⟩ ⟨rfl, rfl, by omega, rfl⟩ ?_
  rintro i e g t1 hd1 ⟨rfl, rfl, hi, hcu⟩
  conv => whnf
  refine br (fun hb => ?_) (fun hb => ?_)
  · obtain ⟨j, rfl⟩ : ∃ j, i = j + 1 := ⟨i - 1, by omega⟩
    rw [cutN] at hcu
    conv => whnf
    repeat (first | ((with_reducible apply Go.Vc.sl_ix); (focus with_reducible assumption); (focus exact And.intro (by omega) (by omega)); intro xI bI offI hxI hcI; conv => whnf) | ((with_reducible apply Go.Vc.cell_i); (focus assumption); conv => whnf) | ((with_reducible apply Go.Vc.wr_i64); (focus exact And.intro (by omega) (by omega)); conv => whnf))
    have hx : l[j]? = some xI := by
      have e := hxI
      rw [show (((j + 1 : Nat) : Int) - 1).toNat = j by omega] at e
      exact e
    have hgd : l.getD j 0 = xI := by rw [List.getD_eq_getElem?_getD, hx]; rfl
    refine br (fun hb2 => ?_) (fun hb2 => ?_)
    · rw [if_pos ⟨by omega, by rw [hgd, hb2]⟩] at hcu
      conv => whnf
      repeat (first | ((with_reducible apply Go.Vc.wr_i64); (focus exact And.intro (by omega) (by omega)); conv => whnf))
      refine round_end j (by omega) ⟨rfl, rfl, by show Value.int .i64 (((j + 1 : Nat) : Int) - 1) = _; rw [show ((j + 1 : Nat) : Int) - 1 = (j : Nat) by omega], trivial⟩ ⟨rfl, rfl, by omega, hcu⟩
    · rw [if_neg (fun h => hb2 (by rw [← hgd]; exact h.2))] at hcu
      conv => whnf
      repeat (first | ((with_reducible refine And.intro (And.intro ?_ ?_) ?_); (focus omega); (focus omega); conv => whnf))
      exact ⟨by rw [hcl, hll, ← hcu]; rfl, rfl, rfl⟩
  · have hz : cutN l least i = i := by
      cases i with
      | zero => rfl
      | succ j => rw [cutN, if_neg (by omega)]
    conv => whnf
    repeat (first | ((with_reducible refine And.intro (And.intro ?_ ?_) ?_); (focus omega); (focus omega); conv => whnf))
    exact ⟨by rw [hcl, hll, ← hcu, hz]; rfl, rfl, rfl⟩
theorem rmore_spec {h : Heap} {t : Nat} (x : Int) :
    CallSpec Tryz.prog 84 #[.int .i64 x] h t (fun v h' t' => v = .int .i64 (extraB x : Nat) ∧ h = h' ∧ t = t') := by
  unfold extraB
  refine Go.Vc.spec_of_vc (fn := Tryz.f84) Tryz.func84 rfl (by kernel_rfl) (by kernel_rfl) (Nat.le_of_ble_eq_true rfl) ?_
  intro hd
  conv => whnf
  refine br (fun h1 => ?_) (fun h1 => ?_)
  · rw [if_pos h1]
    conv => whnf
    exact ⟨rfl, rfl, rfl⟩
  rw [if_neg h1]
  conv => whnf
  refine br (fun h2 => ?_) (fun h2 => ?_)
  · rw [if_pos h2]
    conv => whnf
    exact ⟨rfl, rfl, rfl⟩
  rw [if_neg h2]
  conv => whnf
  refine br (fun h3 => ?_) (fun h3 => ?_)
  · rw [if_pos h3]
    conv => whnf
    exact ⟨rfl, rfl, rfl⟩
  rw [if_neg h3]
  conv => whnf
  exact ⟨rfl, rfl, rfl⟩
theorem order_spec {h : Heap} {t : Nat} :
    CallSpec Tryz.prog 67 #[] h t (fun v h' t' => ∃ a, v = .slice a 19 19 ∧ Vc.Own h' 3 a 19 19 (Value.int .i64) orderI ∧ (∀ b, owner a = some b → t ≤ b) ∧ Vc.Sub h h' ∧ t ≤ t') := by
  refine Go.Vc.spec_of_vc (fn := Tryz.f67) Tryz.func67 rfl (by kernel_rfl) (by kernel_rfl) (Nat.le_of_ble_eq_true rfl) ?_
  intro hd
  conv => whnf
  repeat (first | (intro _ _; conv => whnf))
  rename_i rO hrO
  refine ⟨_, rfl, ar_own (l := orderI) (n := 19) (hset_same _ _ _) rfl, fun b hb => ?_, hd.sub_new hrO _, by omega⟩
  have e : rO = b := Option.some.inj hb
  omega
theorem rdynamic_spec {h : Heap} {t w : Nat} {d : Option Nat} {bs : List Bool} (W : Wr 59 h w d bs) (hbl : bs.length ≤ 3000000) (s : ByteArray) {f e : Nat} {T : List (Nat × Nat)} {a : Option Addr} {c : Nat}
    (hs : s.size ≤ 1000000) (hf : f ≤ 32768) (hfe : f ≤ e) (he : e ≤ s.size) (hl : e ≤ f + 32768) (hT : T = toks s f e) (sT : Sl h a (T.length * 2) id (T.flatMap tk))
    (f0 : 0 < T.length → ∀ b, owner a = some b → b ≠ w ∧ d ≠ some b) :
    CallSpec Tryz.prog 52 #[.agg #[.slice a T.length c, .string (s.extract f e)], .pointer (some ⟨w, 0, none⟩)] h t (fun v h' t' => v = .tuple #[] ∧ WrTo 59 w h t d (bs ++ dynF (partsF s f T)) h' t') := by
  have hTn := toks_len s (to := e) 32768 f (by omega)
  rw [← hT] at hTn
  obtain ⟨ps, hps⟩ : ∃ ps, partsF s f T = ps := ⟨_, rfl⟩
  have hpl : ps.length = T.length := by rw [← hps]; exact parts_len _ _ _
  have hok : ∀ p ∈ ps, SymOk p := by rw [← hps, hT]; exact parts_ok (s := s) (to := e) he _ f (Nat.le_refl _)
  have hmL : (manyL ps).length ≤ 1000000 := by simp [manyL]; omega
  have hfL : (farL ps).length ≤ 1000000 := by
    have := List.length_filter_le (fun p : Prt => !p.plain) ps
    unfold farL
    rw [List.length_map]
    omega
  obtain ⟨hAe, hA1, hA2, hA3⟩ := lenA_ok (ps := ps) (by omega)
  obtain ⟨hBe, hB1, hB2, hB3⟩ := lenB_ok (ps := ps) (by omega)
  refine Go.Vc.spec_of_vc (fn := Tryz.f52) Tryz.func52 rfl (by kernel_rfl) (by kernel_rfl) (Nat.le_of_ble_eq_true rfl) ?_
  intro hd
  conv => whnf
  intro r2 hr2
  have hs2 := hd.sub_new hr2 (.cells #[.slice a T.length c, .string (s.extract f e)] 63)
  have hb2 := hset_same h r2 (.cells #[.slice a T.length c, .string (s.extract f e)] 63)
  have hwt := W.lt hd
  have hdt := W.dlt hd
  conv => whnf
  refine ldrow hb2 rfl ?_
  rintro _ rfl
  conv => whnf
  refine (rcounts_spec s hs hfe he hT (sT.sub hs2)).mono ?_
  rintro _ g0 u0 hg0 hu0 ⟨aA, aB, rfl, oA, oB, k0, _⟩
  rw [hps] at oA oB ⊢
  conv => whnf
  refine (reflengths2_specO oA (by omega)).mono ?_
  rintro _ g1 u1 hg1 hu1 ⟨a1, n1, c1, rfl, s1, hc1, _, k1, w1⟩
  rw [lengthsF_cnt (by omega) hmL (.inl rfl)] at s1
  have e1 := s1.1
  rw [Huf.lenF_len, cntF_len] at e1
  obtain ⟨X, hX⟩ : ∃ X, Huf.lenF 40 (cntF 286 (manyL ps)) 15 = X := ⟨_, rfl⟩
  have eA : lenA ps = cutF X 257 := by unfold lenA; rw [hX]
  have lX : X.length = 286 := by rw [← hX, Huf.lenF_len, cntF_len]
  rw [hX] at s1
  conv => whnf
  refine (reflengths2_specO (oB.sub k1) (by omega)).mono ?_
  rintro _ g2 u2 hg2 hu2 ⟨a2, n2, c2, rfl, s2, hc2, _, k2, w2⟩
  rw [lengthsF_cnt (by omega) hfL (.inl rfl)] at s2
  have e2 := s2.1
  rw [Huf.lenF_len, cntF_len] at e2
  obtain ⟨Y, hY⟩ : ∃ Y, Huf.lenF 40 (cntF 30 (farL ps)) 15 = Y := ⟨_, rfl⟩
  have eB : lenB ps = cutF Y 1 := by unfold lenB; rw [hY]
  have lY : Y.length = 30 := by rw [← hY, Huf.lenF_len, cntF_len]
  rw [hY] at s2
  conv => whnf
  refine (rupto_spec (least := 257) (s1.sub k2) (by omega) hc1 (by omega)).mono ?_
  rintro _ _ _ _ _ ⟨rfl, rfl, rfl⟩
  rw [← eA]
  conv => whnf
  refine (rupto_spec (least := 1) s2 (by omega) hc2 (by omega)).mono ?_
  rintro _ _ _ _ _ ⟨rfl, rfl, rfl⟩
  rw [← eB]
  have sA : Sl g2 a1 (lenA ps).length (Value.int .i64) (lenA ps) := by
    rw [eA]
    exact cut_sl (s1.sub k2) 257
  have sB : Sl g2 a2 (lenB ps).length (Value.int .i64) (lenB ps) := by
    rw [eB]
    exact cut_sl s2 1
  clear eA eB
  generalize hLA : lenA ps = LA at *
  generalize hLB : lenB ps = LB at *
  conv => whnf
  refine app_int (Own.nil _ _ _) sA (by omega) hg2 ?_
  intro a3 c3 g3 u3 o3 hu3 hg3 hk3 hown3
  rw [Nat.zero_add, List.nil_append] at o3
  rw [Nat.zero_add]
  have k3 : Vc.Sub g2 g3 := fun b o hb => by rw [hk3 b (hg2 b o hb) (by simp [owner])]; exact hb
  have w3 : ∀ b, owner a3 = some b → u2 ≤ b := fun b hb => by
    rcases hown3 with e | ⟨r, e, hr⟩
    · rw [e] at hb; cases hb
    · rw [e] at hb; cases hb; exact hr
  conv => whnf
  refine app_int o3 (sB.sub k3) (by omega) hg3 ?_
  intro a5 c5 g4 u4 o5 hu4 hg4 hk4 hown4
  have k4 : Vc.Sub g2 g4 := fun b o hb => by
    have h1 := k3 _ _ hb
    rw [hk4 b (hg3 b o h1) (fun e => by have := w3 b e; have := hg2 _ _ hb; omega)]; exact h1
  conv => whnf
  refine (refruns_specO o5.sl (by omega)).mono ?_
  rintro _ g5 u5 hg5 hu5 ⟨a6, c6, a7, c7, rfl, s6, s7, _, k5, w6, w7⟩
  obtain ⟨R, hR⟩ : ∃ R, runsF (LA ++ LB) = R := ⟨_, rfl⟩
  rw [hR] at s6 s7 ⊢
  have hRok : ∀ p ∈ R, symOk p := by
    rw [← hR]
    exact runs_ok _ _ (Nat.le_refl _) (by
    rw [List.all_append, (Huf.err_zero hAe).2.1, (Huf.err_zero hBe).2.1]; rfl)
  have hRlen : R.length ≤ 316 := by
    have := runs_len _ (LA ++ LB) (Nat.le_refl _)
    rw [List.length_append] at this
    rw [hR] at this
    omega
  conv => whnf
  repeat (first | ((with_reducible apply Go.Vc.mk_b); (focus exact And.intro (by omega) (by omega)); (focus exact rfl); (focus omega); intro rM csM hrM hcsM; (first | (replace hcsM := hcsM.trans (Go.Vc.zc (Value.int .i64) 0 _)) | (replace hcsM := hcsM.trans (Go.Vc.zc Go.Vc.bv 0 _)) | (replace hcsM := hcsM.trans (Go.Vc.zc Value.string ByteArray.empty _))); subst hcsM; conv => whnf))
  have hsB := hs2.trans (k0.trans (k1.trans (k2.trans (k4.trans k5))))
  have hs5M := hg5.sub_new hrM (.cells ((List.replicate 19 (0 : Int)).map (Value.int .i64)).toArray 3)
  refine loop_intro (fun i : Nat => [(1, .pointer (some ⟨w, 0, none⟩)), (2, .pointer (some ⟨r2, 0, none⟩)), (6, .slice a1 LA.length c1), (8, .slice a2 LB.length c2), (10, .slice a6 R.length c6), (11, .slice a7 R.length c7), (12, .slice (some ⟨rM, 0, none⟩) 19 19), (13, .int .i64 (i : Nat))])
    (fun i h' t' => i ≤ R.length ∧ Vc.Own h' 3 (some ⟨rM, 0, none⟩) 19 19 (Value.int .i64) (cntF 19 ((R.take i).map fun p => p.1.toNat)) ∧ Vc.Sub g5 h' ∧ rM < t') (fun i => R.length - i) 0 ⟨rfl, rfl, rfl, rfl, rfl, rfl, rfl, rfl, trivial⟩
    ⟨by omega, by rw [show (R.take 0).map (fun p => p.1.toNat) = [] from rfl, cntF_nil]; exact ar_own (hset_same _ _ _) (by simp), hs5M, by omega⟩ ?_
  rintro i e g6 u6 hg6 ⟨hi, oC, k6, htC⟩
  have s6g := s6.sub k6
  conv => whnf
  refine br (fun hb => ?_) (fun hb => ?_)
  · obtain ⟨p, hp⟩ : ∃ p, R[i]? = some p := ⟨_, List.getElem?_eq_getElem (by omega)⟩
    obtain ⟨q1, q2, q3, q4⟩ := hRok p (List.mem_of_getElem? hp)
    obtain ⟨kk, hkk⟩ := Int.eq_ofNat_of_zero_le q1
    have hp1 : (R.map (·.1))[i]? = some ((kk : Nat) : Int) := by rw [List.getElem?_map, hp, ← hkk]; rfl
    have htk : (R.take (i + 1)).map (fun p => p.1.toNat) = (R.take i).map (fun p => p.1.toNat) ++ [kk] := by
      rw [List.take_add_one, hp, List.map_append]
      simp [hkk]
    have hcc := List.count_le_length (a := kk) (l := (R.take i).map fun p => p.1.toNat)
    rw [List.length_map, List.length_take] at hcc
    have k19 : kk < 19 := by omega
    have hcK := Own.cell oC (cntF_get ((R.take i).map fun p => p.1.toNat) k19)
    conv => whnf
    repeat (first | ((with_reducible apply Go.Vc.sl_ix); (focus with_reducible assumption); (focus exact And.intro (by omega) (by omega)); intro xI bI offI hxI hcI; conv => whnf) | ((with_reducible apply Go.Vc.cell_i); (focus assumption); conv => whnf))
    have hxk : xI = ((kk : Nat) : Int) := by
      have e := hxI
      rw [show ((i : Nat) : Int).toNat = i from rfl, hp1] at e
      exact (Option.some.inj e).symm
    subst hxk
    conv => whnf
    repeat (first | ((with_reducible apply Go.Vc.own_ix); (focus exact And.intro (by omega) (by omega)); conv => whnf) | ((with_reducible apply Go.Vc.cell_i); (focus assumption); conv => whnf) | ((with_reducible apply Go.Vc.wr_i64); (focus exact And.intro (by omega) (by omega)); conv => whnf))
    obtain ⟨csC, frC, hbC, hltC, hfzC, hputC⟩ := oC.put (j := kk) k19 ((((R.take i).map fun p => p.1.toNat).count kk : Nat) + 1)
    rw [cntF_set _ k19, ← htk] at hputC
    refine ⟨rfl, csC, _, frC, hbC, hltC, hfzC, ?_⟩
    intro c' hc'
    subst hc'
    conv => whnf
    repeat (first | ((with_reducible apply Go.Vc.wr_i64); (focus exact And.intro (by omega) (by omega)); conv => whnf))
    refine round_end (i + 1) (by omega) ⟨rfl, rfl, rfl, rfl, rfl, rfl, rfl, rfl, trivial⟩ ⟨by omega, hputC, fun b o hb => ?_, by omega⟩
    have := hg5 _ _ hb
    rw [hset_ne _ _ (by omega)]
    exact k6 b o hb
  · rw [List.take_of_length_le (by omega)] at oC
    have hSok := lens_ok (n := 19) (l := R.map fun p => p.1.toNat) (m := 7) (by omega) (by rw [List.length_map]; omega) (.inr ⟨rfl, by omega⟩)
    conv => whnf
    refine (reflengths2_specO oC.sl (by omega)).mono ?_
    rintro _ g7 u7 hg7 hu7 ⟨a8, n8, c8, rfl, s8, hc8, _, k7, w8⟩
    rw [lengthsF_cnt (by omega) (by rw [List.length_map]; omega) (.inr ⟨rfl, by omega⟩)] at s8
    obtain ⟨S, hS⟩ : ∃ S, Huf.lenF 40 (cntF 19 (R.map fun p => p.1.toNat)) 7 = S := ⟨_, rfl⟩
    rw [hS] at s8 hSok
    obtain ⟨hSe, hSl, hS7, _⟩ := hSok
    have e8 := s8.1
    rw [hSl] at e8
    subst e8
    conv => whnf
    refine (refCodes_spec s8 (by omega)).mono ?_
    rintro _ g8 u8 hg8 hu8 ⟨a9, n9, rfl, k8, o9, w9⟩
    rw [if_pos hSe] at o9
    have e9 := o9.1
    rw [Huf.codes_length, hSl] at e9
    subst e9
    conv => whnf
    refine order_spec.mono ?_
    rintro _ gO uO hgO huO ⟨aO, rfl, oO, wO, k9, _⟩
    have s8O := (s8.sub k8).sub k9
    conv => whnf
    refine loop_intro3 (fun (i : Nat) (a : Option Addr) (c : Nat) => [(1, .pointer (some ⟨w, 0, none⟩)), (2, .pointer (some ⟨r2, 0, none⟩)), (6, .slice a1 LA.length c1), (8, .slice a2 LB.length c2), (10, .slice a6 R.length c6), (11, .slice a7 R.length c7), (14, .slice a8 19 c8), (16, .slice a9 19 19), (18, .slice aO 19 19), (19, .slice a i c), (20, .int .i64 (i : Nat))])
      (fun i a c h' t' => i ≤ 19 ∧ Vc.Own h' 3 a i c (Value.int .i64) ((orderL.take i).map fun k => S.getD k 0) ∧ (∀ b, owner a = some b → uO ≤ b) ∧ Vc.Sub gO h' ∧ uO ≤ t') (fun i _ _ => 19 - i) 0 none 0 ⟨rfl, rfl, rfl, rfl, rfl, rfl, rfl, rfl, rfl, rfl, rfl, trivial⟩
      ⟨by omega, Own.nil _ _ _, (fun b hb => by cases hb), Sub.refl _, Nat.le_refl _⟩ ?_
    rintro i aT cT e g9 u9 hg9 ⟨hi, oT, wT, k10, htT⟩
    have slO := oO.sl.sub k10
    have s8T := s8O.sub k10
    conv => whnf
    refine br (fun hb => ?_) (fun hb => ?_)
    · obtain ⟨k, hk⟩ : ∃ k, orderL[i]? = some k := ⟨_, List.getElem?_eq_getElem (by show i < 19; omega)⟩
      have hk19 := order_lt k (List.mem_of_getElem? hk)
      have hkI : orderI[i]? = some ((k : Nat) : Int) := by unfold orderI; rw [List.getElem?_map, hk]; rfl
      have hkS : S[k]? = some (S.getD k 0) := by rw [List.getD_eq_getElem?_getD, List.getElem?_eq_getElem (by omega)]; rfl
      have htk : (orderL.take (i + 1)).map (fun k => S.getD k 0) = (orderL.take i).map (fun k => S.getD k 0) ++ [S.getD k 0] := by
        rw [List.take_add_one, hk, List.map_append]
        rfl
      conv => whnf
      repeat (first | ((with_reducible apply Go.Vc.sl_ix); (focus with_reducible assumption); (focus exact And.intro (by omega) (by omega)); intro xI bI offI hxI hcI; conv => whnf) | ((with_reducible apply Go.Vc.cell_i); (focus assumption); conv => whnf))
      have hxo : xI = ((k : Nat) : Int) := by
        have e := hxI
        rw [show ((i : Nat) : Int).toNat = i from rfl, hkI] at e
        exact (Option.some.inj e).symm
      subst hxo
      conv => whnf
      repeat (first | ((with_reducible apply Go.Vc.sl_ix); (focus with_reducible assumption); (focus exact And.intro (by omega) (by omega)); intro xI bI offI hxI hcI; conv => whnf) | ((with_reducible apply Go.Vc.cell_i); (focus assumption); conv => whnf) | (intro _ _; conv => whnf))
      have hxk : xI = S.getD k 0 := by
        have e := hxI
        rw [show ((k : Nat) : Int).toNat = k from rfl, hkS] at e
        exact (Option.some.inj e).symm
      subst hxk
      rename_i rT hrT
      refine own_app1 hgO htT k10 wT hg9 hrT oT (by omega) ?_
      intro aT' cT' g10 u10 oT' htT' hg10 k11 wT' _ _
      rw [← htk] at oT'
      conv => whnf
      repeat (first | ((with_reducible apply Go.Vc.wr_i64); (focus exact And.intro (by omega) (by omega)); conv => whnf))
      refine round_end3 (i + 1) aT' cT' (by omega) ⟨rfl, rfl, rfl, rfl, rfl, rfl, rfl, rfl, rfl, rfl, rfl, trivial⟩ ⟨by omega, oT', wT', k11, by omega⟩
    · obtain rfl : i = 19 := by omega
      have htk : (orderL.take 19).map (fun k => S.getD k 0) = orderL.map fun k => S.getD k 0 := rfl
      rw [htk] at oT
      obtain ⟨TT, hTT⟩ : ∃ TT, (orderL.map fun k => S.getD k 0) = TT := ⟨_, rfl⟩
      rw [hTT] at oT
      conv => whnf
      refine (rupto_spec (least := 4) oT.sl (by omega) oT.cap (by omega)).mono ?_
      rintro _ _ _ _ _ ⟨rfl, rfl, rfl⟩
      have sTC := cut_sl oT.sl 4
      have hTl := cutF_len TT 4
      have hT4 := cutN_ge TT 4 TT.length (by rw [oT.1]; omega)
      have hT19 := cutN_le TT 4 TT.length
      rw [oT.1] at hT4 hT19
      rw [oT.1] at hTl
      obtain ⟨TC, hTC⟩ : ∃ TC, cutF TT 4 = TC := ⟨_, rfl⟩
      rw [hTC] at sTC hTl ⊢
      have k6a := k6.trans (k7.trans (k8.trans (k9.trans k10)))
      have kAll := hsB.trans k6a
      have hTCb : ∀ x ∈ TC, 0 ≤ x ∧ x ≤ 7 := fun x hx => by
        rw [← hTC] at hx
        have h1 := List.mem_of_mem_take hx
        rw [← hTT] at h1
        obtain ⟨k, _, rfl⟩ := List.mem_map.1 h1
        rw [List.getD_eq_getElem?_getD]
        cases hk : S[k]? with
        | none => exact ⟨by decide, by decide⟩
        | some z => exact hS7 z (List.mem_of_getElem? hk)
      have Wn := W.sub kAll
      have fge : ∀ {a : Option Addr} {x : Nat}, (∀ b, owner a = some b → x ≤ b) → t ≤ x → ∀ b, owner a = some b → b ≠ w ∧ d ≠ some b := fun hx ht b hb => by
        have := hx b hb
        exact ⟨by omega, fun e => by have := hdt b e; omega⟩
      have fT := fge wT (by omega)
      have f6 := fge w6 (by omega)
      have f7 := fge w7 (by omega)
      have f8 := fge w8 (by omega)
      have f9 := fge w9 (by omega)
      have fA := fge w1 (by omega)
      have fB := fge w2 (by omega)
      have s6n := s6.sub k6a
      have s7n := s7.sub k6a
      have s8n := s8.sub (k8.trans (k9.trans k10))
      have s9n := o9.sl.sub (k9.trans k10)
      have sAn := sA.sub (k4.trans (k5.trans k6a))
      have sBn := sB.sub (k4.trans (k5.trans k6a))
      have hb2n := (k0.trans (k1.trans (k2.trans (k4.trans (k5.trans k6a))))) _ _ hb2
      have spn := sT.sub kAll
      conv => whnf
      repeat (first | ((with_reducible apply Go.Vc.wr_i64); (focus exact And.intro (by omega) (by omega)); conv => whnf))
      rw [show ((LA.length : Int) - 257) = ((LA.length - 257 : Nat) : Int) by omega]
      refine (number_spec Wn (many := 5) (by omega) (by omega) (by omega)).mono ?_
      rintro _ y1 v1 hy1 hv1 ⟨rfl, V1⟩
      obtain ⟨d1, B1, fr1, dd1, le1⟩ := id V1
      conv => whnf
      repeat (first | ((with_reducible apply Go.Vc.wr_i64); (focus exact And.intro (by omega) (by omega)); conv => whnf))
      rw [show ((LB.length : Int) - 1) = ((LB.length - 1 : Nat) : Int) by omega]
      refine (number_spec B1 (many := 5) (by omega) (by rw [List.length_append, bitsL_len]; omega) (by omega)).mono ?_
      rintro _ y2 v2 hy2 hv2 ⟨rfl, V2⟩
      have V12 := WrTo.step hg9 fr1 dd1 le1 V2
      obtain ⟨d2, B2, fr2, dd2, le2⟩ := id V12
      conv => whnf
      repeat (first | ((with_reducible apply Go.Vc.wr_i64); (focus exact And.intro (by omega) (by omega)); conv => whnf))
      rw [show ((TC.length : Int) - 4) = ((TC.length - 4 : Nat) : Int) by omega]
      refine (number_spec B2 (many := 4) (by omega) (by rw [List.length_append, List.length_append, bitsL_len, bitsL_len]; omega) (by omega)).mono ?_
      rintro _ y3 v3 hy3 hv3 ⟨rfl, V3⟩
      have V123 := WrTo.step hg9 fr2 dd2 le2 V3
      conv => whnf
      refine loop_intro (fun i : Nat => [(1, .pointer (some ⟨w, 0, none⟩)), (2, .pointer (some ⟨r2, 0, none⟩)), (6, .slice a1 LA.length c1), (8, .slice a2 LB.length c2), (10, .slice a6 R.length c6), (11, .slice a7 R.length c7), (14, .slice a8 19 c8), (16, .slice a9 19 19), (19, .slice aT TC.length cT), (21, .int .i64 (i : Nat))])
        (fun i h' t' => i ≤ TC.length ∧ WrTo 59 w g9 u9 d (bs ++ bitsL (LA.length - 257 : Nat) 5 ++ bitsL (LB.length - 1 : Nat) 5 ++ bitsL (TC.length - 4 : Nat) 4 ++ (TC.take i).flatMap (fun k => bitsL k 3)) h' t') (fun i => TC.length - i) 0 ⟨rfl, rfl, rfl, rfl, rfl, rfl, rfl, rfl, rfl, rfl, trivial⟩
        ⟨by omega, by simpa using V123⟩ ?_
      rintro i e g t1 hd1 ⟨hi, W4⟩
      obtain ⟨d4, B4, fr4, dd4, le4⟩ := id W4
      have sTi := sl_frW sTC (fun _ => fT) fr4
      have h3l : ∀ l : List Int, (l.flatMap fun k => bitsL k 3).length = 3 * l.length := fun l => by
        induction l with
        | nil => rfl
        | cons x l ih => rw [List.flatMap_cons, List.length_append, ih, bitsL_len, List.length_cons]; omega
      conv => whnf
      refine br (fun hb => ?_) (fun hb => ?_)
      · obtain ⟨k, hk⟩ : ∃ k, TC[i]? = some k := ⟨_, List.getElem?_eq_getElem (by omega)⟩
        have hkb := hTCb k (List.mem_of_getElem? hk)
        conv => whnf
        repeat (first | ((with_reducible apply Go.Vc.sl_ix); (focus with_reducible assumption); (focus exact And.intro (by omega) (by omega)); intro xI bI offI hxI hcI; conv => whnf) | ((with_reducible apply Go.Vc.cell_i); (focus assumption); conv => whnf))
        have hxk : xI = k := by
          have e := hxI
          rw [show ((i : Nat) : Int).toNat = i from rfl, hk] at e
          exact (Option.some.inj e).symm
        subst hxk
        refine (number_spec B4 (many := 3) (by omega) (by rw [List.length_append, List.length_append, List.length_append, List.length_append, bitsL_len, bitsL_len, bitsL_len, h3l, List.length_take]; omega) (by omega)).mono ?_
        rintro _ y5 v5 hy5 hv5 ⟨rfl, V5⟩
        conv => whnf
        repeat (first | ((with_reducible apply Go.Vc.wr_i64); (focus exact And.intro (by omega) (by omega)); conv => whnf))
        refine round_end (i + 1) (by omega) ⟨rfl, rfl, rfl, rfl, rfl, rfl, rfl, rfl, rfl, rfl, trivial⟩ ⟨by omega, ?_⟩
        rw [List.take_add_one, hk, List.flatMap_append, Option.toList_some, List.flatMap_singleton, ← List.append_assoc]
        exact WrTo.step hg9 fr4 dd4 le4 V5
      · rw [List.take_of_length_le (by omega)] at B4
        obtain ⟨b4, hb4⟩ : ∃ b4, bs ++ bitsL (LA.length - 257 : Nat) 5 ++ bitsL (LB.length - 1 : Nat) 5 ++ bitsL (TC.length - 4 : Nat) 4 ++ TC.flatMap (fun k => bitsL k 3) = b4 := ⟨_, rfl⟩
        rw [hb4] at B4
        have hb4l : b4.length ≤ bs.length + 1000 := by
          rw [← hb4, List.length_append, List.length_append, List.length_append, List.length_append, bitsL_len, bitsL_len, bitsL_len, h3l]
          omega
        have h40 : ∀ l : List (Int × Int), (∀ p ∈ l, symOk p) → (l.flatMap (symB S)).length ≤ 40 * l.length := fun l => by
          induction l with
          | nil => intro _; simp
          | cons x l ih =>
            intro hk
            obtain ⟨z1, z2, z3, z4⟩ := hk x (by simp)
            have h2 := ih fun q hq => hk q (by simp [hq])
            have h3 : (S.getD x.1.toNat 0).toNat ≤ 15 := by
              obtain ⟨m', _, hm', em'⟩ := err_get hSe (i := x.1.toNat) (by omega)
              omega
            have h4 : extraB x.1 ≤ 7 := by unfold extraB; split <;> (try split) <;> (try split) <;> omega
            rw [List.flatMap_cons, List.length_append, List.length_cons, symB, List.length_append, bitsH_len, bitsL_len]
            omega
        conv => whnf
        refine loop_intro (fun i : Nat => [(1, .pointer (some ⟨w, 0, none⟩)), (2, .pointer (some ⟨r2, 0, none⟩)), (6, .slice a1 LA.length c1), (8, .slice a2 LB.length c2), (10, .slice a6 R.length c6), (11, .slice a7 R.length c7), (14, .slice a8 19 c8), (16, .slice a9 19 19), (22, .int .i64 (i : Nat))])
          (fun i h' t' => i ≤ R.length ∧ WrTo 59 w g9 u9 d (b4 ++ (R.take i).flatMap (symB S)) h' t') (fun i => R.length - i) 0 ⟨rfl, rfl, rfl, rfl, rfl, rfl, rfl, rfl, rfl, trivial⟩
          ⟨by omega, d4, by simpa using B4, fr4, dd4, le4⟩ ?_
        rintro i e g t1 hd1 ⟨hi, W5⟩
        obtain ⟨d5, B5, fr5, dd5, le5⟩ := id W5
        have s6i := sl_frW s6n (fun _ => f6) fr5
        have s7i := sl_frW s7n (fun _ => f7) fr5
        have s8i := sl_frW s8n (fun _ => f8) fr5
        have s9i := sl_frW s9n (fun _ => f9) fr5
        conv => whnf
        refine br (fun hb => ?_) (fun hb => ?_)
        · obtain ⟨p, hp⟩ : ∃ p, R[i]? = some p := ⟨_, List.getElem?_eq_getElem (by omega)⟩
          obtain ⟨q1, q2, q3, q4⟩ := hRok p (List.mem_of_getElem? hp)
          obtain ⟨kk, hkk⟩ := Int.eq_ofNat_of_zero_le q1
          have hp1 : (R.map (·.1))[i]? = some ((kk : Nat) : Int) := by rw [List.getElem?_map, hp, ← hkk]; rfl
          have hp2 : (R.map (·.2))[i]? = some p.2 := by rw [List.getElem?_map, hp]; rfl
          have k19 : kk < S.length := by omega
          obtain ⟨mm, hmm, hm15, emm⟩ := err_get hSe k19
          have hcr := Huf.code_range hSe k19
          conv => whnf
          refine Go.Vc.draw_intro [⟨0, false, false, false, 0⟩, ⟨1, false, false, false, 0⟩, ⟨2, false, false, false, 0⟩, ⟨3, false, false, false, 0⟩, ⟨4, false, false, false, 12⟩, ⟨5, false, false, false, 28⟩, ⟨6, false, false, false, 62⟩, ⟨7, false, false, false, 126⟩, ⟨8, false, false, false, 0⟩, ⟨9, false, false, false, 0⟩, ⟨10, false, false, false, 0⟩, ⟨11, false, false, false, 1536⟩, ⟨12, false, false, false, 3584⟩, ⟨13, false, false, false, 7936⟩, ⟨14, false, false, false, 16128⟩, ⟨15, true, false, false, 32767⟩] (hs := (fun _ => none)) (hsub := (fun _ _ h => nomatch h)) (hm := by kernel_rfl) (hpl := by kernel_rfl) ?_
          conv => whnf
          conv => whnf
          repeat (first | ((with_reducible apply Go.Vc.sl_ix); (focus with_reducible assumption); (focus exact And.intro (by omega) (by omega)); intro xI bI offI hxI hcI; conv => whnf) | ((with_reducible apply Go.Vc.cell_i); (focus assumption); conv => whnf))
          have hxk : xI = ((kk : Nat) : Int) := by
            have e := hxI
            rw [show ((i : Nat) : Int).toNat = i from rfl, hp1] at e
            exact (Option.some.inj e).symm
          subst hxk
          conv => whnf
          repeat (first | ((with_reducible apply Go.Vc.sl_ix); (focus with_reducible assumption); (focus exact And.intro (by omega) (by omega)); intro xI bI offI hxI hcI; conv => whnf) | ((with_reducible apply Go.Vc.cell_i); (focus assumption); conv => whnf))
          rename_i x1 b1 o1 hx1 hc1'
          have hxk2 : xI = ((kk : Nat) : Int) := by
            have e := hxI
            rw [show ((i : Nat) : Int).toNat = i from rfl, hp1] at e
            exact (Option.some.inj e).symm
          subst hxk2
          have ex1 : x1 = Huf.codeAt S kk := by
            have e := hx1
            rw [show ((kk : Nat) : Int).toNat = kk from rfl, Huf.codes_get k19] at e
            exact (Option.some.inj e).symm
          subst ex1
          conv => whnf
          repeat (first | ((with_reducible apply Go.Vc.sl_ix); (focus with_reducible assumption); (focus exact And.intro (by omega) (by omega)); intro xI bI offI hxI hcI; conv => whnf) | ((with_reducible apply Go.Vc.cell_i); (focus assumption); conv => whnf))
          have ex2 : xI = (mm : Int) := by
            have e := hxI
            rw [show ((kk : Nat) : Int).toNat = kk from rfl, hmm] at e
            exact (Option.some.inj e).symm
          subst ex2
          have hbR := h40 (R.take i) fun p hp => hRok p (List.mem_of_mem_take hp)
          rw [List.length_take] at hbR
          refine (rcode_spec B5 (many := mm) (by omega) (by rw [List.length_append]; omega) (by omega)).mono ?_
          rintro _ y6 v6 hy6 hv6 ⟨rfl, V6⟩
          have V56 := WrTo.step hg9 fr5 dd5 le5 V6
          obtain ⟨d6', B6', fr6', dd6', le6'⟩ := id V56
          have s6j := sl_frW s6n (fun _ => f6) fr6'
          have s7j := sl_frW s7n (fun _ => f7) fr6'
          conv => whnf
          refine Go.Vc.draw_intro [⟨0, false, true, false, 0⟩, ⟨1, false, true, false, 0⟩, ⟨2, false, true, false, 0⟩, ⟨3, false, true, false, 6⟩, ⟨4, false, true, false, 14⟩, ⟨5, false, false, false, 0⟩, ⟨6, false, false, false, 0⟩, ⟨7, false, false, false, 96⟩, ⟨8, false, false, false, 224⟩, ⟨9, true, false, true, 480⟩, ⟨10, true, false, false, 1023⟩] (hs := y6) (hsub := (Sub.refl _)) (hm := by kernel_rfl) (hpl := by kernel_rfl) ?_
          conv => whnf
          conv => whnf
          repeat (first | ((with_reducible apply Go.Vc.sl_ix); (focus with_reducible assumption); (focus exact And.intro (by omega) (by omega)); intro xI bI offI hxI hcI; conv => whnf) | ((with_reducible apply Go.Vc.cell_i); (focus assumption); conv => whnf))
          rename_i x2 b2 o2 hx2 hc2'
          have hx3 : xI = ((kk : Nat) : Int) := by
            have e := hxI
            rw [show ((i : Nat) : Int).toNat = i from rfl, hp1] at e
            exact (Option.some.inj e).symm
          have ex3 : x2 = p.2 := by
            have e := hx2
            rw [show ((i : Nat) : Int).toNat = i from rfl, hp2] at e
            exact (Option.some.inj e).symm
          subst hx3
          subst ex3
          refine (rmore_spec _).mono ?_
          rintro _ y9 v9 hy9 hv9 ⟨rfl, rfl, rfl⟩
          refine ⟨Sub.refl _, ?_⟩
          have hex : extraB ((kk : Nat) : Int) ≤ 7 := by unfold extraB; split <;> (try split) <;> (try split) <;> omega
          conv => whnf
          refine (number_spec B6' (many := extraB ((kk : Nat) : Int)) (by omega) (by rw [List.length_append, List.length_append, bitsH_len]; omega) (by omega)).mono ?_
          rintro _ y7 v7 hy7 hv7 ⟨rfl, V7⟩
          have V57 := WrTo.step hg9 fr6' dd6' le6' V7
          conv => whnf
          repeat (first | ((with_reducible apply Go.Vc.wr_i64); (focus exact And.intro (by omega) (by omega)); conv => whnf))
          have hsy : b4 ++ (R.take (i + 1)).flatMap (symB S) = b4 ++ (R.take i).flatMap (symB S) ++ bitsH (Huf.codeAt S kk) mm ++ bitsL p.2 (extraB ((kk : Nat) : Int)) := by
            rw [List.take_add_one, hp, List.flatMap_append, Option.toList_some, List.flatMap_singleton, symB, hkk, Int.toNat_natCast, emm]
            simp only [List.append_assoc]
          exact round_end (i + 1) (by omega) ⟨rfl, rfl, rfl, rfl, rfl, rfl, rfl, rfl, rfl, trivial⟩ ⟨by omega, by rw [hsy]; exact V57⟩
        · have br2 := fr5 _ _ (show r2 ≠ w by omega) (fun e => by have := hdt r2 e; omega) hb2n
          rw [List.take_of_length_le (by omega)] at B5
          have hbR := h40 R hRok
          have hd5 : ∀ {b : Nat}, (True → b ≠ w ∧ d ≠ some b) → b < u9 → d5 ≠ some b := fun {b} h1 h2 e => by
            rcases dd5 with h3 | ⟨r, h3, hr⟩
            · exact (h1 trivial).2 (h3 ▸ e)
            · rw [h3] at e; cases e; omega
          conv => whnf
          repeat (first | ((with_reducible apply Go.Vc.ldrow); (focus ((repeat (first | with_reducible assumption | with_reducible exact Go.Vc.hset_same _ _ _ | with_reducible refine (Go.Vc.hset_ne _ _ (by omega)).trans ?_)); done)); (focus exact rfl); rintro _ rfl; conv => whnf))
          refine (rcoded_spec B5 (by rw [List.length_append]; omega) s hs hf hfe he hl hT (sl_frW spn (fun h => f0 (by omega)) fr5) (sl_frW sAn (fun _ => fA) fr5) (sl_frW sBn (fun _ => fB) fr5) hAe hBe (by omega) (fun p hp => ?_)
            (fun h0 b hb => ⟨(f0 h0 b hb).1, hd5 (fun x => f0 h0 b hb) (sl_dom spn (by omega) hg9 b hb)⟩) (fun b hb => ⟨(fA b hb).1, hd5 (fun x => fA b hb) (sl_dom sAn (by omega) hg9 b hb)⟩) (fun b hb => ⟨(fB b hb).1, hd5 (fun x => fB b hb) (sl_dom sBn (by omega) hg9 b hb)⟩)).mono ?_
          · rw [hps] at hp
            obtain ⟨o1, o2, o3, o4, o5, o6⟩ := hok p hp
            exact ⟨hA3 p hp o1, o2, o3, fun h => hB3 p hp h (o4 h), o5, o6⟩
          rintro _ y8 v8 hy8 hv8 ⟨rfl, V8⟩
          conv => whnf
          have e : dynF ps = bitsL (LA.length - 257 : Nat) 5 ++ bitsL (LB.length - 1 : Nat) 5 ++ bitsL (TC.length - 4 : Nat) 4 ++ TC.flatMap (fun k => bitsL k 3) ++ R.flatMap (symB S) ++ tellF LA LB ps := by
            unfold dynF toldF shortS shortC runsAB
            rw [hLA, hLB, hR, hS, hTT, hTC]
          refine ⟨rfl, ?_⟩
          have V9 := WrTo.step hd (FrW.of_sub kAll) (.inl rfl) (show t ≤ u9 by omega) (WrTo.step hg9 fr5 dd5 le5 V8)
          rw [e]
          rw [hps, ← hb4] at V9
          simp only [List.append_assoc] at V9 ⊢
          exact V9
end Go.Proofs.YtikpfffhcjlcjaaGreat
