/- A tile out of its path, as the document has it. -/
import Derived.Test.YtlkpgjicpjjlcaaGreatDoorTileRTk
set_option linter.unusedSimpArgs false
namespace Go.Proofs.YtlkpgjicpjjlcaaGreatDoor
open Go Go.Vc Go.Tile
set_option maxRecDepth 20000
set_option maxHeartbeats 4000000
set_option linter.unusedVariables false
def RTakeRes (s : ByteArray) (v : Value) : Prop := (∃ lv ix wd, RightC lv ix wd ∧ pathS lv ix wd = s ∧ v = .tuple #[coordV lv ix wd, .bool true]) ∨ ((∀ lv ix wd, RightC lv ix wd → pathS lv ix wd ≠ s) ∧ v = .tuple #[coordV 0 0 0, .bool false])
theorem rtakepath_spec {h : Heap} {t : Nat} (s : ByteArray) (hs : s.size ≤ 1048576) :
    CallSpec Tryz.prog 12 #[.string s] h t (fun v h' t' => RTakeRes s v ∧ Vc.Sub h h' ∧ t ≤ t') := by
  refine Go.Vc.spec_of_vc (fn := Tryz.f12) Tryz.func12 rfl (by kernel_rfl) (by kernel_rfl) (Nat.le_of_ble_eq_true rfl) ?_
  intro hd
  have hsl : s.data.toList.length = s.size := rfl
  conv => whnf
  repeat (first | (intro _ _; conv => whnf))
  rename_i r2 hr2
  refine (parts_spec s hs).mono ?_
  rintro _ g t1 hd1 ht1 ⟨a, c, rfl, hSl, hmc, hsg, _⟩
  have g2 := hsg _ _ (hset_same _ _ _)
  have hsub : Vc.Sub h g := (hd.sub_new hr2 _).trans hsg
  obtain ⟨K, hK⟩ : ∃ K, K = splitS s.data.toList := ⟨_, rfl⟩
  have hKl := split_len s.data.toList
  have hKm : ∀ p ∈ K, p.length ≤ 1048576 := fun p hp => by
    have := split_mem (hK ▸ hp)
    omega
  rw [← hK] at hSl hKl hmc
  rw [← hK]
  conv => whnf
  refine br (fun h1 => ?_) (fun h1 => ?_)
  · conv => whnf
    repeat (first | ((with_reducible apply Go.Vc.ldrow); (focus ((repeat (first | with_reducible assumption | with_reducible exact Go.Vc.hset_same _ _ _ | with_reducible refine (Go.Vc.hset_ne _ _ (by omega)).trans ?_)); done)); (focus exact rfl); rintro _ rfl; conv => whnf) | ((with_reducible apply Go.Vc.strow); (focus ((repeat (first | with_reducible assumption | with_reducible exact Go.Vc.hset_same _ _ _ | with_reducible refine (Go.Vc.hset_ne _ _ (by omega)).trans ?_)); done)); (focus exact rfl); (focus exact rfl); (focus exact rfl); rintro _ rfl; conv => whnf))
    refine ⟨.inr ⟨fun lv ix wd hR => rt_few (by rw [← hK]; omega) hR, rfl⟩, ?_, by omega⟩
    intro b o hb
    have := hd b o hb
    rw [hset_ne _ _ (by omega)]
    exact hsub _ _ hb
  · have hKs : ((K.map mkB).length : Int) = K.length := by simp
    conv => whnf
    repeat (first | ((with_reducible apply Go.Vc.sl_ix); (focus with_reducible assumption); (focus exact And.intro (by omega) (by omega)); intro xI bI offI hxI hcI; conv => whnf) | ((with_reducible apply Go.Vc.strow); (focus ((repeat (first | with_reducible assumption | with_reducible exact Go.Vc.hset_same _ _ _ | with_reducible refine (Go.Vc.hset_ne _ _ (by omega)).trans ?_)); done)); (focus exact rfl); (focus exact rfl); (focus exact rfl); rintro _ rfl; conv => whnf) | (intro _ _; conv => whnf))
    rename_i r5 hr5
    have hx1 : (K.map mkB)[1]? = some xI := hxI
    rw [List.getElem?_map] at hx1
    obtain ⟨q, hq, rfl⟩ := Option.map_eq_some_iff.1 hx1
    have hql := hKm q (List.mem_of_getElem? hq)
    have hsub5 := fun o => (hd1.sub_new hr5 o)
    refine ⟨_, Cell.sub (fun b o hb => ?_) hcI, ?_⟩
    · rw [hset_ne _ _ (hd1.ne hb hr5), hset_ne _ _ (hd1.ne hb hr5)]
      exact hb
    conv => whnf
    refine br (fun hdt => ?_) (fun hdt => ?_)
    · conv => whnf
      repeat (first | ((with_reducible apply Go.Vc.sl_ix); (focus with_reducible assumption); (focus exact And.intro (by omega) (by omega)); intro xI bI offI hxI hcI; conv => whnf))
      have hx6 : (K.map mkB)[1]? = some xI := hxI
      rw [List.getElem?_map, hq] at hx6
      obtain rfl := Option.some.inj hx6
      refine ⟨_, Cell.sub (fun b o hb => ?_) hcI, ?_⟩
      · rw [hset_ne _ _ (hd1.ne hb hr5), hset_ne _ _ (hd1.ne hb hr5)]
        exact hb
      conv => whnf
      refine (rtake_spec (mkB q) (show q.length ≤ _ by omega)).mono ?_
      rintro _ g7 t7 hd7 ht7 ⟨lvv, ok1, rfl, hn10, hn11, hn1k, hs7, _⟩
      have hb5 := hs7 _ _ (hset_same _ _ _)
      have hb2 : g7 r2 = some (.cells #[.int .i64 0, .int .i64 0, .int .i64 0] 30 (0, 0)) := hs7 _ _ (by rw [hset_ne _ _ (by omega), hset_ne _ _ (by omega)]; exact g2)
      have hsb : Vc.Sub g g7 := fun b o hb => hs7 _ _ (by
        rw [hset_ne _ _ (hd1.ne hb hr5), hset_ne _ _ (hd1.ne hb hr5)]
        exact hb)
      have hTk : TkL q true lvv ok1 := tkL_num hdt hn1k
      cases ok1
      · have hfail : ∀ lv ix wd, RightC lv ix wd → pathS lv ix wd ≠ s := fun lv ix wd hR he => by have := (rt_level (hK ▸ hq) hTk hR he).2; cases this
        have eS := hsub.trans hsb
        conv => whnf
        repeat (first | ((with_reducible apply Go.Vc.ldrow); (focus ((repeat (first | with_reducible assumption | with_reducible exact Go.Vc.hset_same _ _ _ | with_reducible refine (Go.Vc.hset_ne _ _ (by omega)).trans ?_)); done)); (focus exact rfl); rintro _ rfl; conv => whnf) | ((with_reducible apply Go.Vc.strow); (focus ((repeat (first | with_reducible assumption | with_reducible exact Go.Vc.hset_same _ _ _ | with_reducible refine (Go.Vc.hset_ne _ _ (by omega)).trans ?_)); done)); (focus exact rfl); (focus exact rfl); (focus exact rfl); rintro _ rfl; conv => whnf))
        refine ⟨.inr ⟨hfail, rfl⟩, ?_, by omega⟩
        intro b o hb
        have := hd b o hb
        repeat rw [hset_ne _ _ (by omega)]
        exact eS _ _ hb
      · conv => whnf
        repeat (first | ((with_reducible apply Go.Vc.st_i); (focus ((repeat (first | with_reducible assumption | with_reducible exact Go.Vc.hset_same _ _ _ | with_reducible refine (Go.Vc.hset_ne _ _ (by omega)).trans ?_)); done)); (focus exact rfl); (focus exact rfl); (focus exact rfl); (conv => whnf); intro cA hcA; (first | (simp only [List.setIfInBounds_toArray, List.set_cons_succ, List.set_cons_zero] at hcA; subst hcA) | subst hcA); conv => whnf))
        refine loop_intro3 (fun (i : Nat) (D : List UInt8) (w : Int) => [(0, .string s), (2, .pointer (some ⟨r2, 0, none⟩)), (4, .slice a K.length c), (5, .pointer (some ⟨r5, 0, none⟩)), (8, .string (mkB D)), (9, .int .i64 (i : Nat))])
          (fun i D w h' t' => 2 ≤ i ∧ i ≤ K.length ∧ D.length ≤ (i - 2) * 1048576 ∧ GoodT s i D w ∧ h' r5 = some (.cells #[.int .i64 lvv, .int .i64 0, .int .i64 w] 30 (0, 0)) ∧ Vc.Sub g h' ∧ r5 < t') (fun i _ _ => K.length - i) 2 [] 256 ⟨rfl, rfl, rfl, rfl, rfl, rfl, trivial⟩
          ⟨by omega, by omega, by simp, good_start, ?_, ?_, by omega⟩ ?_
        · first
          | exact hb5
          | (rw [hset_same]; rfl)
          | (rw [hset_same, hlv]; rfl)
          | (rw [hset_same]; done)
          | (rw [hset_same, hlv]; done)
        · intro b o hb
          repeat rw [hset_ne _ _ (hd1.ne hb hr5)]
          first
          | exact hb
          | exact hsb _ _ hb
        rintro i D w e3 g3 t3 hd3 ⟨hi2, hiK, hDl, hgood, h5, hs3, ht3⟩
        have hSl3 := hSl.sub hs3
        have h2 := hs3 _ _ g2
        clear hSl
        conv => whnf
        refine br (fun hb1 => ?_) (fun hb1 => ?_)
        · conv => whnf
          repeat (first | ((with_reducible apply Go.Vc.sl_ix); (focus with_reducible assumption); (focus exact And.intro (by omega) (by omega)); intro xI bI offI hxI hcI; conv => whnf) | ((with_reducible apply Go.Vc.cell_i); (focus assumption); conv => whnf))
          have hx3 : (K.map mkB)[i]? = some xI := hxI
          rw [List.getElem?_map] at hx3
          obtain ⟨p, hp, rfl⟩ := Option.map_eq_some_iff.1 hx3
          have hpl := hKm p (List.mem_of_getElem? hp)
          have hps : (mkB p).size = p.length := rfl
          have hb3e : ((((mkB p).size : Nat) : Int) - 2).toNat = p.length - 2 := by omega
          refine br (fun hb2 => ?_) (fun hb2 => ?_)
          · conv => whnf
            repeat (first | ((with_reducible refine And.intro (And.intro ?_ ?_) ?_); (focus omega); (focus omega); conv => whnf) | ((with_reducible apply Go.Vc.wr_i64); (focus exact And.intro (by omega) (by omega)); conv => whnf))
            refine br (fun hb3 => ?_) (fun hb3 => ?_)
            · conv => whnf
              repeat (first | ((with_reducible apply Go.Vc.wr_i64); (focus exact And.intro (by omega) (by omega)); conv => whnf))
              refine br (fun hb4 => ?_) (fun hb4 => ?_)
              · have hl4 : i + 2 = K.length := by omega
                have hpP : isP p := by
                  rw [hb3e] at hb3
                  exact (isP_mk (by omega)).1 hb3
                conv => whnf
                repeat (first | ((with_reducible apply Go.Vc.sl_ix); (focus with_reducible assumption); (focus exact And.intro (by omega) (by omega)); intro xI bI offI hxI hcI; conv => whnf) | ((with_reducible apply Go.Vc.cell_i); (focus assumption); conv => whnf) | ((with_reducible apply Go.Vc.wr_i64); (focus exact And.intro (by omega) (by omega)); conv => whnf))
                have hx6 : (K.map mkB)[i + 1]? = some xI := hxI
                rw [List.getElem?_map] at hx6
                obtain ⟨q2, hq2, rfl⟩ := Option.map_eq_some_iff.1 hx6
                have hq2l := hKm q2 (List.mem_of_getElem? hq2)
                refine (rtake_spec (mkB q2) (show q2.length ≤ _ by omega)).mono ?_
                rintro _ g7 t7 hd7 ht7 ⟨n2, b2, rfl, hn20, hn21, hn2k, hs7, _⟩
                have hgp := fun lv ix wd (hR : RightC lv ix wd) (he : pathS lv ix wd = s) => good_p hi2 (hK ▸ hp) (hK ▸ hq2) hpP (hK ▸ hl4) hgood hn2k hR he
                have e2 := hs7 _ _ h2
                have e5 := hs7 _ _ h5
                have eS := (hsub.trans hs3).trans hs7
                cases b2
                · have hfail : ∀ lv ix wd, RightC lv ix wd → pathS lv ix wd ≠ s := fun lv ix wd hR he => by have := (hgp lv ix wd hR he).2.2; cases this
                  conv => whnf
                  repeat (first | ((with_reducible apply Go.Vc.ldrow); (focus ((repeat (first | with_reducible assumption | with_reducible exact Go.Vc.hset_same _ _ _ | with_reducible refine (Go.Vc.hset_ne _ _ (by omega)).trans ?_)); done)); (focus exact rfl); rintro _ rfl; conv => whnf) | ((with_reducible apply Go.Vc.strow); (focus ((repeat (first | with_reducible assumption | with_reducible exact Go.Vc.hset_same _ _ _ | with_reducible refine (Go.Vc.hset_ne _ _ (by omega)).trans ?_)); done)); (focus exact rfl); (focus exact rfl); (focus exact rfl); rintro _ rfl; conv => whnf))
                  refine ⟨.inr ⟨hfail, rfl⟩, ?_, by omega⟩
                  intro b o hb
                  have := hd b o hb
                  repeat rw [hset_ne _ _ (by omega)]
                  exact eS _ _ hb
                · obtain ⟨pp, hpp⟩ : ∃ pp, pp = p.take (p.length - 2) := ⟨_, rfl⟩
                  obtain ⟨ii, hii0⟩ : ∃ ii, ii = i + 1 := ⟨_, rfl⟩
                  obtain ⟨ww, hww⟩ : ∃ ww, ww = n2 := ⟨_, rfl⟩
                  have gG : GoodT s (ii + 1) (D ++ pp.filter isD) ww := by
                    intro lv ix wd hR he
                    obtain ⟨c1, c2, c3⟩ := hgp lv ix wd hR he
                    rw [hpp, hii0, hww]
                    exact .inr ⟨hK ▸ hl4, c1, c2⟩
                  have hii : Value.int .i64 (((i : Nat) : Int) + 1) = Value.int .i64 (ii : Nat) := congrArg (Value.int .i64) (show ((i : Nat) : Int) + 1 = ((ii : Nat) : Int) by omega)
                  have fS := hs3.trans hs7
                  have hiik : ii < K.length := by omega
                  have hpl2 : pp.length ≤ 1048576 := by rw [hpp, List.length_take]; omega
                  have hDl2 : D.length ≤ (ii - 2) * 1048576 := Nat.le_trans hDl (Nat.mul_le_mul_right _ (by omega))
                  conv => whnf
                  repeat (first | ((with_reducible refine And.intro (And.intro ?_ ?_) ?_); (focus omega); (focus omega); conv => whnf) | ((with_reducible apply Go.Vc.st_i); (focus ((repeat (first | with_reducible assumption | with_reducible exact Go.Vc.hset_same _ _ _ | with_reducible refine (Go.Vc.hset_ne _ _ (by omega)).trans ?_)); done)); (focus exact rfl); (focus exact rfl); (focus exact rfl); (conv => whnf); intro cA hcA; (first | (simp only [List.setIfInBounds_toArray, List.set_cons_succ, List.set_cons_zero] at hcA; subst hcA) | subst hcA); conv => whnf) | ((with_reducible apply Go.Vc.wr_i64); (focus exact And.intro (by omega) (by omega)); conv => whnf))
                  rw [show (mkB p).extract 0 (((mkB p).size : Int) - 2).toNat = mkB pp by rw [hb3e, hpp]; exact mk_front]
                  have hpps : (mkB pp).size = pp.length := rfl
                  refine loop_intro (fun (k : Nat) => [(0, .string s), (2, .pointer (some ⟨r2, 0, none⟩)), (4, .slice a K.length c), (5, .pointer (some ⟨r5, 0, none⟩)), (8, .string (mkB (D ++ (pp.take k).filter isD))), (9, .int .i64 (ii : Nat)), (10, .string (mkB pp)), (13, .int .i64 (k : Nat))])
                    (fun k h' t' => k ≤ pp.length ∧ h' r5 = some (.cells #[.int .i64 lvv, .int .i64 0, .int .i64 ww] 30 (0, 0)) ∧ Vc.Sub g h' ∧ r5 < t') (fun k => pp.length - k) 0 ⟨rfl, rfl, rfl, rfl, (by show Value.string (mkB D) = _; rw [List.take_zero, List.filter_nil, List.append_nil]), hii, rfl, rfl, trivial⟩
                    ⟨by omega, ?_, ?_, by omega⟩ ?_
                  · first
                    | exact f5
                    | (rw [hset_same, hww])
                  · first
                    | exact fS
                    | (intro b o hb; rw [hset_ne _ _ (hd1.ne hb hr5)]; exact fS _ _ hb)
                  rintro k e6 g6 t6 hd6 ⟨hk, h56, hs6, ht6⟩
                  have hXs : (mkB (D ++ (pp.take k).filter isD)).size ≤ D.length + pp.length := by
                    have e1 : (mkB (D ++ (pp.take k).filter isD)).size = (D ++ (pp.take k).filter isD).length := mk_size _
                    have e2 := List.length_filter_le isD (pp.take k)
                    rw [List.length_take] at e2
                    rw [List.length_append] at e1
                    omega
                  conv => whnf
                  refine br (fun hc1 => ?_) (fun hc1 => ?_)
                  · have hkp : k < pp.length := by omega
                    have hby : byteAt (mkB pp) ((k : Int)).toNat = ((pp[k]).toNat : Int) := byteAt_get hkp
                    conv => whnf
                    repeat (first | ((with_reducible refine And.intro (And.intro ?_ ?_) ?_); (focus omega); (focus omega); conv => whnf) | (intro _ _; conv => whnf))
                    rw [hby]
                    refine br (fun hc2 => ?_) (fun hc2 => ?_)
                    · conv => whnf
                      repeat (first | ((with_reducible refine And.intro (And.intro ?_ ?_) ?_); (focus omega); (focus omega); conv => whnf) | (intro _ _; conv => whnf))
                      rw [hby]
                      refine br (fun hc3 => ?_) (fun hc3 => ?_)
                      · have hxs : ((mkB pp).extract ((k : Nat) : Int).toNat (((k : Nat) : Int) + 1).toNat).size = 1 := by
                          rw [show (((k : Nat) : Int) + 1).toNat = k + 1 by omega, Int.toNat_natCast]
                          rw [ext_mk (by omega) (by omega)]
                          refine (mk_size _).trans ?_
                          rw [List.length_take, List.length_drop]
                          show min (k + 1 - k) (pp.length - k) = 1
                          omega
                        conv => whnf
                        repeat (first | ((with_reducible refine And.intro (And.intro ?_ ?_) ?_); (focus omega); (focus omega); conv => whnf) | ((with_reducible apply Go.Vc.wr_i64); (focus exact And.intro (by omega) (by omega)); conv => whnf) | ((with_reducible apply Go.Vc.and_leN); (focus (first | omega | (simp only [ByteArray.size, List.size_toArray, List.length_cons, List.length_nil] at *; omega))); conv => whnf))
                        refine round_end (k + 1) (by omega) ⟨rfl, rfl, rfl, rfl, ?_, rfl, rfl, rfl, trivial⟩ ⟨by omega, h56, hs6, by omega⟩
                        exact congrArg Value.string (take_dig_t hkp (by omega) (by omega))
                      · conv => whnf
                        repeat (first | ((with_reducible apply Go.Vc.wr_i64); (focus exact And.intro (by omega) (by omega)); conv => whnf))
                        refine round_end (k + 1) (by omega) ⟨rfl, rfl, rfl, rfl, ?_, rfl, rfl, rfl, trivial⟩ ⟨by omega, h56, hs6, by omega⟩
                        exact congrArg Value.string (take_dig_f hkp (by omega))
                    · conv => whnf
                      repeat (first | ((with_reducible apply Go.Vc.wr_i64); (focus exact And.intro (by omega) (by omega)); conv => whnf))
                      refine round_end (k + 1) (by omega) ⟨rfl, rfl, rfl, rfl, ?_, rfl, rfl, rfl, trivial⟩ ⟨by omega, h56, hs6, by omega⟩
                      exact congrArg Value.string (take_dig_f hkp (by omega))
                  · obtain rfl : k = pp.length := by omega
                    rw [List.take_length] at *
                    conv => whnf
                    repeat (first | ((with_reducible apply Go.Vc.wr_i64); (focus exact And.intro (by omega) (by omega)); conv => whnf))
                    refine round_end3 (ii + 1) (D ++ pp.filter isD) ww (by omega) ⟨rfl, rfl, rfl, rfl, rfl, rfl, trivial⟩ ⟨by omega, by omega, ?_, gG, h56, hs6, by omega⟩
                    have e2 := List.length_filter_le isD pp
                    rw [List.length_append]
                    omega
              · obtain ⟨pp, hpp⟩ : ∃ pp, pp = p := ⟨_, rfl⟩
                obtain ⟨ii, hii0⟩ : ∃ ii, ii = i := ⟨_, rfl⟩
                obtain ⟨ww, hww⟩ : ∃ ww, ww = w := ⟨_, rfl⟩
                have gG : GoodT s (ii + 1) (D ++ pp.filter isD) ww := by
                  rw [hpp, hii0, hww]
                  refine good_step hi2 (hK ▸ hp) ?_ hgood
                  rintro ⟨q1, q2⟩
                  first
                  | exact hb2 (by have := q1.1; omega)
                  | exact hb3 (by rw [hb3e, hps]; exact (isP_mk q1.1).2 q1)
                  | exact hb4 (by rw [← hK] at q2; omega)
                have hiik : ii < K.length := by omega
                have hii : Value.int .i64 (i : Nat) = Value.int .i64 (ii : Nat) := by rw [hii0]
                have f5 := h5
                have fS := hs3
                rw [← hww] at f5
                rw [← hpp] at hpl hps ⊢
                conv => whnf
                have hpps : (mkB pp).size = pp.length := rfl
                refine loop_intro (fun (k : Nat) => [(0, .string s), (2, .pointer (some ⟨r2, 0, none⟩)), (4, .slice a K.length c), (5, .pointer (some ⟨r5, 0, none⟩)), (8, .string (mkB (D ++ (pp.take k).filter isD))), (9, .int .i64 (ii : Nat)), (10, .string (mkB pp)), (13, .int .i64 (k : Nat))])
                  (fun k h' t' => k ≤ pp.length ∧ h' r5 = some (.cells #[.int .i64 lvv, .int .i64 0, .int .i64 ww] 30 (0, 0)) ∧ Vc.Sub g h' ∧ r5 < t') (fun k => pp.length - k) 0 ⟨rfl, rfl, rfl, rfl, (by show Value.string (mkB D) = _; rw [List.take_zero, List.filter_nil, List.append_nil]), hii, rfl, rfl, trivial⟩
                  ⟨by omega, ?_, ?_, by omega⟩ ?_
                · first
                  | exact f5
                  | (rw [hset_same, hww])
                · first
                  | exact fS
                  | (intro b o hb; rw [hset_ne _ _ (hd1.ne hb hr5)]; exact fS _ _ hb)
                rintro k e6 g6 t6 hd6 ⟨hk, h56, hs6, ht6⟩
                have hXs : (mkB (D ++ (pp.take k).filter isD)).size ≤ D.length + pp.length := by
                  have e1 : (mkB (D ++ (pp.take k).filter isD)).size = (D ++ (pp.take k).filter isD).length := mk_size _
                  have e2 := List.length_filter_le isD (pp.take k)
                  rw [List.length_take] at e2
                  rw [List.length_append] at e1
                  omega
                conv => whnf
                refine br (fun hc1 => ?_) (fun hc1 => ?_)
                · have hkp : k < pp.length := by omega
                  have hby : byteAt (mkB pp) ((k : Int)).toNat = ((pp[k]).toNat : Int) := byteAt_get hkp
                  conv => whnf
                  repeat (first | ((with_reducible refine And.intro (And.intro ?_ ?_) ?_); (focus omega); (focus omega); conv => whnf) | (intro _ _; conv => whnf))
                  rw [hby]
                  refine br (fun hc2 => ?_) (fun hc2 => ?_)
                  · conv => whnf
                    repeat (first | ((with_reducible refine And.intro (And.intro ?_ ?_) ?_); (focus omega); (focus omega); conv => whnf) | (intro _ _; conv => whnf))
                    rw [hby]
                    refine br (fun hc3 => ?_) (fun hc3 => ?_)
                    · have hxs : ((mkB pp).extract ((k : Nat) : Int).toNat (((k : Nat) : Int) + 1).toNat).size = 1 := by
                        rw [show (((k : Nat) : Int) + 1).toNat = k + 1 by omega, Int.toNat_natCast]
                        rw [ext_mk (by omega) (by omega)]
                        refine (mk_size _).trans ?_
                        rw [List.length_take, List.length_drop]
                        show min (k + 1 - k) (pp.length - k) = 1
                        omega
                      conv => whnf
                      repeat (first | ((with_reducible refine And.intro (And.intro ?_ ?_) ?_); (focus omega); (focus omega); conv => whnf) | ((with_reducible apply Go.Vc.wr_i64); (focus exact And.intro (by omega) (by omega)); conv => whnf) | ((with_reducible apply Go.Vc.and_leN); (focus (first | omega | (simp only [ByteArray.size, List.size_toArray, List.length_cons, List.length_nil] at *; omega))); conv => whnf))
                      refine round_end (k + 1) (by omega) ⟨rfl, rfl, rfl, rfl, ?_, rfl, rfl, rfl, trivial⟩ ⟨by omega, h56, hs6, by omega⟩
                      exact congrArg Value.string (take_dig_t hkp (by omega) (by omega))
                    · conv => whnf
                      repeat (first | ((with_reducible apply Go.Vc.wr_i64); (focus exact And.intro (by omega) (by omega)); conv => whnf))
                      refine round_end (k + 1) (by omega) ⟨rfl, rfl, rfl, rfl, ?_, rfl, rfl, rfl, trivial⟩ ⟨by omega, h56, hs6, by omega⟩
                      exact congrArg Value.string (take_dig_f hkp (by omega))
                  · conv => whnf
                    repeat (first | ((with_reducible apply Go.Vc.wr_i64); (focus exact And.intro (by omega) (by omega)); conv => whnf))
                    refine round_end (k + 1) (by omega) ⟨rfl, rfl, rfl, rfl, ?_, rfl, rfl, rfl, trivial⟩ ⟨by omega, h56, hs6, by omega⟩
                    exact congrArg Value.string (take_dig_f hkp (by omega))
                · obtain rfl : k = pp.length := by omega
                  rw [List.take_length] at *
                  conv => whnf
                  repeat (first | ((with_reducible apply Go.Vc.wr_i64); (focus exact And.intro (by omega) (by omega)); conv => whnf))
                  refine round_end3 (ii + 1) (D ++ pp.filter isD) ww (by omega) ⟨rfl, rfl, rfl, rfl, rfl, rfl, trivial⟩ ⟨by omega, by omega, ?_, gG, h56, hs6, by omega⟩
                  have e2 := List.length_filter_le isD pp
                  rw [List.length_append]
                  omega
            · obtain ⟨pp, hpp⟩ : ∃ pp, pp = p := ⟨_, rfl⟩
              obtain ⟨ii, hii0⟩ : ∃ ii, ii = i := ⟨_, rfl⟩
              obtain ⟨ww, hww⟩ : ∃ ww, ww = w := ⟨_, rfl⟩
              have gG : GoodT s (ii + 1) (D ++ pp.filter isD) ww := by
                rw [hpp, hii0, hww]
                refine good_step hi2 (hK ▸ hp) ?_ hgood
                rintro ⟨q1, q2⟩
                first
                | exact hb2 (by have := q1.1; omega)
                | exact hb3 (by rw [hb3e, hps]; exact (isP_mk q1.1).2 q1)
                | exact hb4 (by rw [← hK] at q2; omega)
              have hiik : ii < K.length := by omega
              have hii : Value.int .i64 (i : Nat) = Value.int .i64 (ii : Nat) := by rw [hii0]
              have f5 := h5
              have fS := hs3
              rw [← hww] at f5
              rw [← hpp] at hpl hps ⊢
              conv => whnf
              have hpps : (mkB pp).size = pp.length := rfl
              refine loop_intro (fun (k : Nat) => [(0, .string s), (2, .pointer (some ⟨r2, 0, none⟩)), (4, .slice a K.length c), (5, .pointer (some ⟨r5, 0, none⟩)), (8, .string (mkB (D ++ (pp.take k).filter isD))), (9, .int .i64 (ii : Nat)), (10, .string (mkB pp)), (13, .int .i64 (k : Nat))])
                (fun k h' t' => k ≤ pp.length ∧ h' r5 = some (.cells #[.int .i64 lvv, .int .i64 0, .int .i64 ww] 30 (0, 0)) ∧ Vc.Sub g h' ∧ r5 < t') (fun k => pp.length - k) 0 ⟨rfl, rfl, rfl, rfl, (by show Value.string (mkB D) = _; rw [List.take_zero, List.filter_nil, List.append_nil]), hii, rfl, rfl, trivial⟩
                ⟨by omega, ?_, ?_, by omega⟩ ?_
              · first
                | exact f5
                | (rw [hset_same, hww])
              · first
                | exact fS
                | (intro b o hb; rw [hset_ne _ _ (hd1.ne hb hr5)]; exact fS _ _ hb)
              rintro k e6 g6 t6 hd6 ⟨hk, h56, hs6, ht6⟩
              have hXs : (mkB (D ++ (pp.take k).filter isD)).size ≤ D.length + pp.length := by
                have e1 : (mkB (D ++ (pp.take k).filter isD)).size = (D ++ (pp.take k).filter isD).length := mk_size _
                have e2 := List.length_filter_le isD (pp.take k)
                rw [List.length_take] at e2
                rw [List.length_append] at e1
                omega
              conv => whnf
              refine br (fun hc1 => ?_) (fun hc1 => ?_)
              · have hkp : k < pp.length := by omega
                have hby : byteAt (mkB pp) ((k : Int)).toNat = ((pp[k]).toNat : Int) := byteAt_get hkp
                conv => whnf
                repeat (first | ((with_reducible refine And.intro (And.intro ?_ ?_) ?_); (focus omega); (focus omega); conv => whnf) | (intro _ _; conv => whnf))
                rw [hby]
                refine br (fun hc2 => ?_) (fun hc2 => ?_)
                · conv => whnf
                  repeat (first | ((with_reducible refine And.intro (And.intro ?_ ?_) ?_); (focus omega); (focus omega); conv => whnf) | (intro _ _; conv => whnf))
                  rw [hby]
                  refine br (fun hc3 => ?_) (fun hc3 => ?_)
                  · have hxs : ((mkB pp).extract ((k : Nat) : Int).toNat (((k : Nat) : Int) + 1).toNat).size = 1 := by
                      rw [show (((k : Nat) : Int) + 1).toNat = k + 1 by omega, Int.toNat_natCast]
                      rw [ext_mk (by omega) (by omega)]
                      refine (mk_size _).trans ?_
                      rw [List.length_take, List.length_drop]
                      show min (k + 1 - k) (pp.length - k) = 1
                      omega
                    conv => whnf
                    repeat (first | ((with_reducible refine And.intro (And.intro ?_ ?_) ?_); (focus omega); (focus omega); conv => whnf) | ((with_reducible apply Go.Vc.wr_i64); (focus exact And.intro (by omega) (by omega)); conv => whnf) | ((with_reducible apply Go.Vc.and_leN); (focus (first | omega | (simp only [ByteArray.size, List.size_toArray, List.length_cons, List.length_nil] at *; omega))); conv => whnf))
                    refine round_end (k + 1) (by omega) ⟨rfl, rfl, rfl, rfl, ?_, rfl, rfl, rfl, trivial⟩ ⟨by omega, h56, hs6, by omega⟩
                    exact congrArg Value.string (take_dig_t hkp (by omega) (by omega))
                  · conv => whnf
                    repeat (first | ((with_reducible apply Go.Vc.wr_i64); (focus exact And.intro (by omega) (by omega)); conv => whnf))
                    refine round_end (k + 1) (by omega) ⟨rfl, rfl, rfl, rfl, ?_, rfl, rfl, rfl, trivial⟩ ⟨by omega, h56, hs6, by omega⟩
                    exact congrArg Value.string (take_dig_f hkp (by omega))
                · conv => whnf
                  repeat (first | ((with_reducible apply Go.Vc.wr_i64); (focus exact And.intro (by omega) (by omega)); conv => whnf))
                  refine round_end (k + 1) (by omega) ⟨rfl, rfl, rfl, rfl, ?_, rfl, rfl, rfl, trivial⟩ ⟨by omega, h56, hs6, by omega⟩
                  exact congrArg Value.string (take_dig_f hkp (by omega))
              · obtain rfl : k = pp.length := by omega
                rw [List.take_length] at *
                conv => whnf
                repeat (first | ((with_reducible apply Go.Vc.wr_i64); (focus exact And.intro (by omega) (by omega)); conv => whnf))
                refine round_end3 (ii + 1) (D ++ pp.filter isD) ww (by omega) ⟨rfl, rfl, rfl, rfl, rfl, rfl, trivial⟩ ⟨by omega, by omega, ?_, gG, h56, hs6, by omega⟩
                have e2 := List.length_filter_le isD pp
                rw [List.length_append]
                omega
          · obtain ⟨pp, hpp⟩ : ∃ pp, pp = p := ⟨_, rfl⟩
            obtain ⟨ii, hii0⟩ : ∃ ii, ii = i := ⟨_, rfl⟩
            obtain ⟨ww, hww⟩ : ∃ ww, ww = w := ⟨_, rfl⟩
            have gG : GoodT s (ii + 1) (D ++ pp.filter isD) ww := by
              rw [hpp, hii0, hww]
              refine good_step hi2 (hK ▸ hp) ?_ hgood
              rintro ⟨q1, q2⟩
              first
              | exact hb2 (by have := q1.1; omega)
              | exact hb3 (by rw [hb3e, hps]; exact (isP_mk q1.1).2 q1)
              | exact hb4 (by rw [← hK] at q2; omega)
            have hiik : ii < K.length := by omega
            have hii : Value.int .i64 (i : Nat) = Value.int .i64 (ii : Nat) := by rw [hii0]
            have f5 := h5
            have fS := hs3
            rw [← hww] at f5
            rw [← hpp] at hpl hps ⊢
            conv => whnf
            have hpps : (mkB pp).size = pp.length := rfl
            refine loop_intro (fun (k : Nat) => [(0, .string s), (2, .pointer (some ⟨r2, 0, none⟩)), (4, .slice a K.length c), (5, .pointer (some ⟨r5, 0, none⟩)), (8, .string (mkB (D ++ (pp.take k).filter isD))), (9, .int .i64 (ii : Nat)), (10, .string (mkB pp)), (13, .int .i64 (k : Nat))])
              (fun k h' t' => k ≤ pp.length ∧ h' r5 = some (.cells #[.int .i64 lvv, .int .i64 0, .int .i64 ww] 30 (0, 0)) ∧ Vc.Sub g h' ∧ r5 < t') (fun k => pp.length - k) 0 ⟨rfl, rfl, rfl, rfl, (by show Value.string (mkB D) = _; rw [List.take_zero, List.filter_nil, List.append_nil]), hii, rfl, rfl, trivial⟩
              ⟨by omega, ?_, ?_, by omega⟩ ?_
            · first
              | exact f5
              | (rw [hset_same, hww])
            · first
              | exact fS
              | (intro b o hb; rw [hset_ne _ _ (hd1.ne hb hr5)]; exact fS _ _ hb)
            rintro k e6 g6 t6 hd6 ⟨hk, h56, hs6, ht6⟩
            have hXs : (mkB (D ++ (pp.take k).filter isD)).size ≤ D.length + pp.length := by
              have e1 : (mkB (D ++ (pp.take k).filter isD)).size = (D ++ (pp.take k).filter isD).length := mk_size _
              have e2 := List.length_filter_le isD (pp.take k)
              rw [List.length_take] at e2
              rw [List.length_append] at e1
              omega
            conv => whnf
            refine br (fun hc1 => ?_) (fun hc1 => ?_)
            · have hkp : k < pp.length := by omega
              have hby : byteAt (mkB pp) ((k : Int)).toNat = ((pp[k]).toNat : Int) := byteAt_get hkp
              conv => whnf
              repeat (first | ((with_reducible refine And.intro (And.intro ?_ ?_) ?_); (focus omega); (focus omega); conv => whnf) | (intro _ _; conv => whnf))
              rw [hby]
              refine br (fun hc2 => ?_) (fun hc2 => ?_)
              · conv => whnf
                repeat (first | ((with_reducible refine And.intro (And.intro ?_ ?_) ?_); (focus omega); (focus omega); conv => whnf) | (intro _ _; conv => whnf))
                rw [hby]
                refine br (fun hc3 => ?_) (fun hc3 => ?_)
                · have hxs : ((mkB pp).extract ((k : Nat) : Int).toNat (((k : Nat) : Int) + 1).toNat).size = 1 := by
                    rw [show (((k : Nat) : Int) + 1).toNat = k + 1 by omega, Int.toNat_natCast]
                    rw [ext_mk (by omega) (by omega)]
                    refine (mk_size _).trans ?_
                    rw [List.length_take, List.length_drop]
                    show min (k + 1 - k) (pp.length - k) = 1
                    omega
                  conv => whnf
                  repeat (first | ((with_reducible refine And.intro (And.intro ?_ ?_) ?_); (focus omega); (focus omega); conv => whnf) | ((with_reducible apply Go.Vc.wr_i64); (focus exact And.intro (by omega) (by omega)); conv => whnf) | ((with_reducible apply Go.Vc.and_leN); (focus (first | omega | (simp only [ByteArray.size, List.size_toArray, List.length_cons, List.length_nil] at *; omega))); conv => whnf))
                  refine round_end (k + 1) (by omega) ⟨rfl, rfl, rfl, rfl, ?_, rfl, rfl, rfl, trivial⟩ ⟨by omega, h56, hs6, by omega⟩
                  exact congrArg Value.string (take_dig_t hkp (by omega) (by omega))
                · conv => whnf
                  repeat (first | ((with_reducible apply Go.Vc.wr_i64); (focus exact And.intro (by omega) (by omega)); conv => whnf))
                  refine round_end (k + 1) (by omega) ⟨rfl, rfl, rfl, rfl, ?_, rfl, rfl, rfl, trivial⟩ ⟨by omega, h56, hs6, by omega⟩
                  exact congrArg Value.string (take_dig_f hkp (by omega))
              · conv => whnf
                repeat (first | ((with_reducible apply Go.Vc.wr_i64); (focus exact And.intro (by omega) (by omega)); conv => whnf))
                refine round_end (k + 1) (by omega) ⟨rfl, rfl, rfl, rfl, ?_, rfl, rfl, rfl, trivial⟩ ⟨by omega, h56, hs6, by omega⟩
                exact congrArg Value.string (take_dig_f hkp (by omega))
            · obtain rfl : k = pp.length := by omega
              rw [List.take_length] at *
              conv => whnf
              repeat (first | ((with_reducible apply Go.Vc.wr_i64); (focus exact And.intro (by omega) (by omega)); conv => whnf))
              refine round_end3 (ii + 1) (D ++ pp.filter isD) ww (by omega) ⟨rfl, rfl, rfl, rfl, rfl, rfl, trivial⟩ ⟨by omega, by omega, ?_, gG, h56, hs6, by omega⟩
              have e2 := List.length_filter_le isD pp
              rw [List.length_append]
              omega
        · obtain rfl : i = K.length := by omega
          conv => whnf
          refine loop_intro (fun (cur : List UInt8) => [(0, .string s), (2, .pointer (some ⟨r2, 0, none⟩)), (5, .pointer (some ⟨r5, 0, none⟩)), (8, .string (mkB cur))])
            (fun cur h' t' => (D ≠ [] → cur ≠ []) ∧ Lib.trimLeftB cur 48 = Lib.trimLeftB D 48 ∧ cur.length ≤ D.length ∧ h' r5 = some (.cells #[.int .i64 lvv, .int .i64 0, .int .i64 w] 30 (0, 0)) ∧ Vc.Sub g h' ∧ r5 < t') (fun cur => cur.length) D ⟨rfl, rfl, rfl, rfl, trivial⟩
            ⟨id, rfl, Nat.le_refl _, h5, hs3, ht3⟩ ?_
          rintro cur e8 g8 t8 hd8 ⟨hc0, hct, hcl, h58, hs8, ht8⟩
          have hcs : (mkB cur).size = cur.length := mk_size cur
          have h28 := hs8 _ _ g2
          conv => whnf
          refine br (fun hz1 => ?_) (fun hz1 => ?_)
          · obtain ⟨x, r, rfl⟩ : ∃ x r, cur = x :: r := by
              cases cur with
              | nil => rw [hcs] at hz1; simp at hz1
              | cons x r => exact ⟨x, r, rfl⟩
            have hby : byteAt (mkB (x :: r)) (Int.toNat 0) = (x.toNat : Int) := rfl
            have hxl := UInt8.toNat_lt x
            rw [List.length_cons] at hcl hcs
            conv => whnf
            repeat (first | ((with_reducible refine And.intro (And.intro ?_ ?_) ?_); (focus omega); (focus omega); conv => whnf) | (intro _ _; conv => whnf))
            rw [hby]
            refine br (fun hz2 => ?_) (fun hz2 => ?_)
            · have hx48 : x = 48 := UInt8.toNat_inj.1 (show x.toNat = 48 by omega)
              conv => whnf
              repeat (first | ((with_reducible refine And.intro (And.intro ?_ ?_) ?_); (focus omega); (focus omega); conv => whnf))
              refine round_end r (by simp) ⟨rfl, rfl, rfl, congrArg Value.string mk_tail, trivial⟩ ⟨fun _ e => ?_, ?_, by omega, h58, hs8, by omega⟩
              · have := congrArg List.length e; rw [List.length_nil] at this; omega
              · rw [← hct, hx48, trim_zero]
            · have hend : (x :: r).length ≤ 1 ∨ ∀ y, (x :: r).head? = some y → y ≠ 48 := .inr fun y hy e => by
                obtain rfl := Option.some.inj hy
                subst e
                exact hz2 rfl
              conv => whnf
              refine (rtake_spec _ ?_).mono ?_
              · omega
              rintro _ F TF hDF hTF ⟨n3, is3, rfl, hn30, hn31, hn3k, hsF, _⟩
              have hgood3 : ∀ lv ix wd, RightC lv ix wd → pathS lv ix wd = s → lvv = lv ∧ n3 = ix ∧ w = wd ∧ true = true ∧ is3 = true := fun lv ix wd hR he => by
                obtain ⟨c1, c2, c3⟩ := good_end (hK ▸ hgood) hc0 hct hend hn3k hR he
                exact ⟨(rt_level (hK ▸ hq) hTk hR he).1, c1, c2, rfl, c3⟩
              have f2 := hsF _ _ h28
              have f5 := hsF _ _ h58
              have fS := (hsub.trans hs8).trans hsF
              cases is3
              · have hfail := take_no hgood3 (.inr (.inl rfl))
                have eS := fS
                have e2 := f2
                conv => whnf
                repeat (first | ((with_reducible apply Go.Vc.ldrow); (focus ((repeat (first | with_reducible assumption | with_reducible exact Go.Vc.hset_same _ _ _ | with_reducible refine (Go.Vc.hset_ne _ _ (by omega)).trans ?_)); done)); (focus exact rfl); rintro _ rfl; conv => whnf) | ((with_reducible apply Go.Vc.strow); (focus ((repeat (first | with_reducible assumption | with_reducible exact Go.Vc.hset_same _ _ _ | with_reducible refine (Go.Vc.hset_ne _ _ (by omega)).trans ?_)); done)); (focus exact rfl); (focus exact rfl); (focus exact rfl); rintro _ rfl; conv => whnf))
                refine ⟨.inr ⟨hfail, rfl⟩, ?_, by omega⟩
                intro b o hb
                have := hd b o hb
                repeat rw [hset_ne _ _ (by omega)]
                exact eS _ _ hb
              · conv => whnf
                repeat (first | ((with_reducible apply Go.Vc.ldrow); (focus ((repeat (first | with_reducible assumption | with_reducible exact Go.Vc.hset_same _ _ _ | with_reducible refine (Go.Vc.hset_ne _ _ (by omega)).trans ?_)); done)); (focus exact rfl); rintro _ rfl; conv => whnf) | ((with_reducible apply Go.Vc.st_i); (focus ((repeat (first | with_reducible assumption | with_reducible exact Go.Vc.hset_same _ _ _ | with_reducible refine (Go.Vc.hset_ne _ _ (by omega)).trans ?_)); done)); (focus exact rfl); (focus exact rfl); (focus exact rfl); (conv => whnf); intro cA hcA; (first | (simp only [List.setIfInBounds_toArray, List.set_cons_succ, List.set_cons_zero] at hcA; subst hcA) | subst hcA); conv => whnf))
                by_cases hR : RightC lvv n3 w
                · refine (rpath_spec lvv n3 w hR).mono ?_
                  rintro _ E TE hDE hTE ⟨rfl, hsE, _⟩
                  have e2 := hsE r2 _ ((hset_ne _ _ (by omega)).trans f2)
                  have e5 := hsE r5 _ (hset_same _ _ _)
                  have eS : Vc.Sub h E := fun b o hb => hsE _ _ (by
                    have := hd b o hb
                    rw [hset_ne _ _ (by omega)]
                    exact fS _ _ hb)
                  conv => whnf
                  refine br (fun hts => ?_) (fun hts => ?_)
                  · have hfail := take_no hgood3 (.inr (.inr (.inr hts)))
                    conv => whnf
                    repeat (first | ((with_reducible apply Go.Vc.ldrow); (focus ((repeat (first | with_reducible assumption | with_reducible exact Go.Vc.hset_same _ _ _ | with_reducible refine (Go.Vc.hset_ne _ _ (by omega)).trans ?_)); done)); (focus exact rfl); rintro _ rfl; conv => whnf) | ((with_reducible apply Go.Vc.strow); (focus ((repeat (first | with_reducible assumption | with_reducible exact Go.Vc.hset_same _ _ _ | with_reducible refine (Go.Vc.hset_ne _ _ (by omega)).trans ?_)); done)); (focus exact rfl); (focus exact rfl); (focus exact rfl); rintro _ rfl; conv => whnf))
                    refine ⟨.inr ⟨hfail, rfl⟩, ?_, by omega⟩
                    intro b o hb
                    have := hd b o hb
                    repeat rw [hset_ne _ _ (by omega)]
                    exact eS _ _ hb
                  · conv => whnf
                    repeat (first | ((with_reducible apply Go.Vc.ldrow); (focus ((repeat (first | with_reducible assumption | with_reducible exact Go.Vc.hset_same _ _ _ | with_reducible refine (Go.Vc.hset_ne _ _ (by omega)).trans ?_)); done)); (focus exact rfl); rintro _ rfl; conv => whnf) | ((with_reducible apply Go.Vc.strow); (focus ((repeat (first | with_reducible assumption | with_reducible exact Go.Vc.hset_same _ _ _ | with_reducible refine (Go.Vc.hset_ne _ _ (by omega)).trans ?_)); done)); (focus exact rfl); (focus exact rfl); (focus exact rfl); rintro _ rfl; conv => whnf))
                    refine ⟨.inl ⟨lvv, n3, w, hR, Classical.not_not.1 hts, rfl⟩, ?_, by omega⟩
                    intro b o hb
                    have := hd b o hb
                    repeat rw [hset_ne _ _ (by omega)]
                    exact eS _ _ hb
                · refine (rpath_no lvv n3 w hR).mono ?_
                  rintro _ E TE hDE hTE ⟨rfl, hsE, _⟩
                  have e2 := hsE r2 _ ((hset_ne _ _ (by omega)).trans f2)
                  have e5 := hsE r5 _ (hset_same _ _ _)
                  have eS : Vc.Sub h E := fun b o hb => hsE _ _ (by
                    have := hd b o hb
                    rw [hset_ne _ _ (by omega)]
                    exact fS _ _ hb)
                  have hfail := take_no hgood3 (.inr (.inr (.inl hR)))
                  conv => whnf
                  repeat (first | ((with_reducible apply Go.Vc.ldrow); (focus ((repeat (first | with_reducible assumption | with_reducible exact Go.Vc.hset_same _ _ _ | with_reducible refine (Go.Vc.hset_ne _ _ (by omega)).trans ?_)); done)); (focus exact rfl); rintro _ rfl; conv => whnf) | ((with_reducible apply Go.Vc.strow); (focus ((repeat (first | with_reducible assumption | with_reducible exact Go.Vc.hset_same _ _ _ | with_reducible refine (Go.Vc.hset_ne _ _ (by omega)).trans ?_)); done)); (focus exact rfl); (focus exact rfl); (focus exact rfl); rintro _ rfl; conv => whnf))
                  refine ⟨.inr ⟨hfail, rfl⟩, ?_, by omega⟩
                  intro b o hb
                  have := hd b o hb
                  repeat rw [hset_ne _ _ (by omega)]
                  exact eS _ _ hb
          · have hend : cur.length ≤ 1 ∨ ∀ y, cur.head? = some y → y ≠ 48 := .inl (by omega)
            conv => whnf
            refine (rtake_spec _ ?_).mono ?_
            · omega
            rintro _ F TF hDF hTF ⟨n3, is3, rfl, hn30, hn31, hn3k, hsF, _⟩
            have hgood3 : ∀ lv ix wd, RightC lv ix wd → pathS lv ix wd = s → lvv = lv ∧ n3 = ix ∧ w = wd ∧ true = true ∧ is3 = true := fun lv ix wd hR he => by
              obtain ⟨c1, c2, c3⟩ := good_end (hK ▸ hgood) hc0 hct hend hn3k hR he
              exact ⟨(rt_level (hK ▸ hq) hTk hR he).1, c1, c2, rfl, c3⟩
            have f2 := hsF _ _ h28
            have f5 := hsF _ _ h58
            have fS := (hsub.trans hs8).trans hsF
            cases is3
            · have hfail := take_no hgood3 (.inr (.inl rfl))
              have eS := fS
              have e2 := f2
              conv => whnf
              repeat (first | ((with_reducible apply Go.Vc.ldrow); (focus ((repeat (first | with_reducible assumption | with_reducible exact Go.Vc.hset_same _ _ _ | with_reducible refine (Go.Vc.hset_ne _ _ (by omega)).trans ?_)); done)); (focus exact rfl); rintro _ rfl; conv => whnf) | ((with_reducible apply Go.Vc.strow); (focus ((repeat (first | with_reducible assumption | with_reducible exact Go.Vc.hset_same _ _ _ | with_reducible refine (Go.Vc.hset_ne _ _ (by omega)).trans ?_)); done)); (focus exact rfl); (focus exact rfl); (focus exact rfl); rintro _ rfl; conv => whnf))
              refine ⟨.inr ⟨hfail, rfl⟩, ?_, by omega⟩
              intro b o hb
              have := hd b o hb
              repeat rw [hset_ne _ _ (by omega)]
              exact eS _ _ hb
            · conv => whnf
              repeat (first | ((with_reducible apply Go.Vc.ldrow); (focus ((repeat (first | with_reducible assumption | with_reducible exact Go.Vc.hset_same _ _ _ | with_reducible refine (Go.Vc.hset_ne _ _ (by omega)).trans ?_)); done)); (focus exact rfl); rintro _ rfl; conv => whnf) | ((with_reducible apply Go.Vc.st_i); (focus ((repeat (first | with_reducible assumption | with_reducible exact Go.Vc.hset_same _ _ _ | with_reducible refine (Go.Vc.hset_ne _ _ (by omega)).trans ?_)); done)); (focus exact rfl); (focus exact rfl); (focus exact rfl); (conv => whnf); intro cA hcA; (first | (simp only [List.setIfInBounds_toArray, List.set_cons_succ, List.set_cons_zero] at hcA; subst hcA) | subst hcA); conv => whnf))
              by_cases hR : RightC lvv n3 w
              · refine (rpath_spec lvv n3 w hR).mono ?_
                rintro _ E TE hDE hTE ⟨rfl, hsE, _⟩
                have e2 := hsE r2 _ ((hset_ne _ _ (by omega)).trans f2)
                have e5 := hsE r5 _ (hset_same _ _ _)
                have eS : Vc.Sub h E := fun b o hb => hsE _ _ (by
                  have := hd b o hb
                  rw [hset_ne _ _ (by omega)]
                  exact fS _ _ hb)
                conv => whnf
                refine br (fun hts => ?_) (fun hts => ?_)
                · have hfail := take_no hgood3 (.inr (.inr (.inr hts)))
                  conv => whnf
                  repeat (first | ((with_reducible apply Go.Vc.ldrow); (focus ((repeat (first | with_reducible assumption | with_reducible exact Go.Vc.hset_same _ _ _ | with_reducible refine (Go.Vc.hset_ne _ _ (by omega)).trans ?_)); done)); (focus exact rfl); rintro _ rfl; conv => whnf) | ((with_reducible apply Go.Vc.strow); (focus ((repeat (first | with_reducible assumption | with_reducible exact Go.Vc.hset_same _ _ _ | with_reducible refine (Go.Vc.hset_ne _ _ (by omega)).trans ?_)); done)); (focus exact rfl); (focus exact rfl); (focus exact rfl); rintro _ rfl; conv => whnf))
                  refine ⟨.inr ⟨hfail, rfl⟩, ?_, by omega⟩
                  intro b o hb
                  have := hd b o hb
                  repeat rw [hset_ne _ _ (by omega)]
                  exact eS _ _ hb
                · conv => whnf
                  repeat (first | ((with_reducible apply Go.Vc.ldrow); (focus ((repeat (first | with_reducible assumption | with_reducible exact Go.Vc.hset_same _ _ _ | with_reducible refine (Go.Vc.hset_ne _ _ (by omega)).trans ?_)); done)); (focus exact rfl); rintro _ rfl; conv => whnf) | ((with_reducible apply Go.Vc.strow); (focus ((repeat (first | with_reducible assumption | with_reducible exact Go.Vc.hset_same _ _ _ | with_reducible refine (Go.Vc.hset_ne _ _ (by omega)).trans ?_)); done)); (focus exact rfl); (focus exact rfl); (focus exact rfl); rintro _ rfl; conv => whnf))
                  refine ⟨.inl ⟨lvv, n3, w, hR, Classical.not_not.1 hts, rfl⟩, ?_, by omega⟩
                  intro b o hb
                  have := hd b o hb
                  repeat rw [hset_ne _ _ (by omega)]
                  exact eS _ _ hb
              · refine (rpath_no lvv n3 w hR).mono ?_
                rintro _ E TE hDE hTE ⟨rfl, hsE, _⟩
                have e2 := hsE r2 _ ((hset_ne _ _ (by omega)).trans f2)
                have e5 := hsE r5 _ (hset_same _ _ _)
                have eS : Vc.Sub h E := fun b o hb => hsE _ _ (by
                  have := hd b o hb
                  rw [hset_ne _ _ (by omega)]
                  exact fS _ _ hb)
                have hfail := take_no hgood3 (.inr (.inr (.inl hR)))
                conv => whnf
                repeat (first | ((with_reducible apply Go.Vc.ldrow); (focus ((repeat (first | with_reducible assumption | with_reducible exact Go.Vc.hset_same _ _ _ | with_reducible refine (Go.Vc.hset_ne _ _ (by omega)).trans ?_)); done)); (focus exact rfl); rintro _ rfl; conv => whnf) | ((with_reducible apply Go.Vc.strow); (focus ((repeat (first | with_reducible assumption | with_reducible exact Go.Vc.hset_same _ _ _ | with_reducible refine (Go.Vc.hset_ne _ _ (by omega)).trans ?_)); done)); (focus exact rfl); (focus exact rfl); (focus exact rfl); rintro _ rfl; conv => whnf))
                refine ⟨.inr ⟨hfail, rfl⟩, ?_, by omega⟩
                intro b o hb
                have := hd b o hb
                repeat rw [hset_ne _ _ (by omega)]
                exact eS _ _ hb
    · have hqd : q = dataB.data.toList := by
        have := Classical.not_not.1 hdt
        exact congrArg (fun x : ByteArray => x.data.toList) this
      obtain ⟨lvv, hlv⟩ : ∃ x : Int, x = -1 := ⟨_, rfl⟩
      have hTk : TkL q true lvv true := hlv ▸ tkL_data hqd
      conv => whnf
      refine loop_intro3 (fun (i : Nat) (D : List UInt8) (w : Int) => [(0, .string s), (2, .pointer (some ⟨r2, 0, none⟩)), (4, .slice a K.length c), (5, .pointer (some ⟨r5, 0, none⟩)), (8, .string (mkB D)), (9, .int .i64 (i : Nat))])
        (fun i D w h' t' => 2 ≤ i ∧ i ≤ K.length ∧ D.length ≤ (i - 2) * 1048576 ∧ GoodT s i D w ∧ h' r5 = some (.cells #[.int .i64 lvv, .int .i64 0, .int .i64 w] 30 (0, 0)) ∧ Vc.Sub g h' ∧ r5 < t') (fun i _ _ => K.length - i) 2 [] 256 ⟨rfl, rfl, rfl, rfl, rfl, rfl, trivial⟩
        ⟨by omega, by omega, by simp, good_start, ?_, ?_, by omega⟩ ?_
      · first
        | exact hb5
        | (rw [hset_same]; rfl)
        | (rw [hset_same, hlv]; rfl)
        | (rw [hset_same]; done)
        | (rw [hset_same, hlv]; done)
      · intro b o hb
        repeat rw [hset_ne _ _ (hd1.ne hb hr5)]
        first
        | exact hb
        | exact hsb _ _ hb
      rintro i D w e3 g3 t3 hd3 ⟨hi2, hiK, hDl, hgood, h5, hs3, ht3⟩
      have hSl3 := hSl.sub hs3
      have h2 := hs3 _ _ g2
      clear hSl
      conv => whnf
      refine br (fun hb1 => ?_) (fun hb1 => ?_)
      · conv => whnf
        repeat (first | ((with_reducible apply Go.Vc.sl_ix); (focus with_reducible assumption); (focus exact And.intro (by omega) (by omega)); intro xI bI offI hxI hcI; conv => whnf) | ((with_reducible apply Go.Vc.cell_i); (focus assumption); conv => whnf))
        have hx3 : (K.map mkB)[i]? = some xI := hxI
        rw [List.getElem?_map] at hx3
        obtain ⟨p, hp, rfl⟩ := Option.map_eq_some_iff.1 hx3
        have hpl := hKm p (List.mem_of_getElem? hp)
        have hps : (mkB p).size = p.length := rfl
        have hb3e : ((((mkB p).size : Nat) : Int) - 2).toNat = p.length - 2 := by omega
        refine br (fun hb2 => ?_) (fun hb2 => ?_)
        · conv => whnf
          repeat (first | ((with_reducible refine And.intro (And.intro ?_ ?_) ?_); (focus omega); (focus omega); conv => whnf) | ((with_reducible apply Go.Vc.wr_i64); (focus exact And.intro (by omega) (by omega)); conv => whnf))
          refine br (fun hb3 => ?_) (fun hb3 => ?_)
          · conv => whnf
            repeat (first | ((with_reducible apply Go.Vc.wr_i64); (focus exact And.intro (by omega) (by omega)); conv => whnf))
            refine br (fun hb4 => ?_) (fun hb4 => ?_)
            · have hl4 : i + 2 = K.length := by omega
              have hpP : isP p := by
                rw [hb3e] at hb3
                exact (isP_mk (by omega)).1 hb3
              conv => whnf
              repeat (first | ((with_reducible apply Go.Vc.sl_ix); (focus with_reducible assumption); (focus exact And.intro (by omega) (by omega)); intro xI bI offI hxI hcI; conv => whnf) | ((with_reducible apply Go.Vc.cell_i); (focus assumption); conv => whnf) | ((with_reducible apply Go.Vc.wr_i64); (focus exact And.intro (by omega) (by omega)); conv => whnf))
              have hx6 : (K.map mkB)[i + 1]? = some xI := hxI
              rw [List.getElem?_map] at hx6
              obtain ⟨q2, hq2, rfl⟩ := Option.map_eq_some_iff.1 hx6
              have hq2l := hKm q2 (List.mem_of_getElem? hq2)
              refine (rtake_spec (mkB q2) (show q2.length ≤ _ by omega)).mono ?_
              rintro _ g7 t7 hd7 ht7 ⟨n2, b2, rfl, hn20, hn21, hn2k, hs7, _⟩
              have hgp := fun lv ix wd (hR : RightC lv ix wd) (he : pathS lv ix wd = s) => good_p hi2 (hK ▸ hp) (hK ▸ hq2) hpP (hK ▸ hl4) hgood hn2k hR he
              have e2 := hs7 _ _ h2
              have e5 := hs7 _ _ h5
              have eS := (hsub.trans hs3).trans hs7
              cases b2
              · have hfail : ∀ lv ix wd, RightC lv ix wd → pathS lv ix wd ≠ s := fun lv ix wd hR he => by have := (hgp lv ix wd hR he).2.2; cases this
                conv => whnf
                repeat (first | ((with_reducible apply Go.Vc.ldrow); (focus ((repeat (first | with_reducible assumption | with_reducible exact Go.Vc.hset_same _ _ _ | with_reducible refine (Go.Vc.hset_ne _ _ (by omega)).trans ?_)); done)); (focus exact rfl); rintro _ rfl; conv => whnf) | ((with_reducible apply Go.Vc.strow); (focus ((repeat (first | with_reducible assumption | with_reducible exact Go.Vc.hset_same _ _ _ | with_reducible refine (Go.Vc.hset_ne _ _ (by omega)).trans ?_)); done)); (focus exact rfl); (focus exact rfl); (focus exact rfl); rintro _ rfl; conv => whnf))
                refine ⟨.inr ⟨hfail, rfl⟩, ?_, by omega⟩
                intro b o hb
                have := hd b o hb
                repeat rw [hset_ne _ _ (by omega)]
                exact eS _ _ hb
              · obtain ⟨pp, hpp⟩ : ∃ pp, pp = p.take (p.length - 2) := ⟨_, rfl⟩
                obtain ⟨ii, hii0⟩ : ∃ ii, ii = i + 1 := ⟨_, rfl⟩
                obtain ⟨ww, hww⟩ : ∃ ww, ww = n2 := ⟨_, rfl⟩
                have gG : GoodT s (ii + 1) (D ++ pp.filter isD) ww := by
                  intro lv ix wd hR he
                  obtain ⟨c1, c2, c3⟩ := hgp lv ix wd hR he
                  rw [hpp, hii0, hww]
                  exact .inr ⟨hK ▸ hl4, c1, c2⟩
                have hii : Value.int .i64 (((i : Nat) : Int) + 1) = Value.int .i64 (ii : Nat) := congrArg (Value.int .i64) (show ((i : Nat) : Int) + 1 = ((ii : Nat) : Int) by omega)
                have fS := hs3.trans hs7
                have hiik : ii < K.length := by omega
                have hpl2 : pp.length ≤ 1048576 := by rw [hpp, List.length_take]; omega
                have hDl2 : D.length ≤ (ii - 2) * 1048576 := Nat.le_trans hDl (Nat.mul_le_mul_right _ (by omega))
                conv => whnf
                repeat (first | ((with_reducible refine And.intro (And.intro ?_ ?_) ?_); (focus omega); (focus omega); conv => whnf) | ((with_reducible apply Go.Vc.st_i); (focus ((repeat (first | with_reducible assumption | with_reducible exact Go.Vc.hset_same _ _ _ | with_reducible refine (Go.Vc.hset_ne _ _ (by omega)).trans ?_)); done)); (focus exact rfl); (focus exact rfl); (focus exact rfl); (conv => whnf); intro cA hcA; (first | (simp only [List.setIfInBounds_toArray, List.set_cons_succ, List.set_cons_zero] at hcA; subst hcA) | subst hcA); conv => whnf) | ((with_reducible apply Go.Vc.wr_i64); (focus exact And.intro (by omega) (by omega)); conv => whnf))
                rw [show (mkB p).extract 0 (((mkB p).size : Int) - 2).toNat = mkB pp by rw [hb3e, hpp]; exact mk_front]
                have hpps : (mkB pp).size = pp.length := rfl
                refine loop_intro (fun (k : Nat) => [(0, .string s), (2, .pointer (some ⟨r2, 0, none⟩)), (4, .slice a K.length c), (5, .pointer (some ⟨r5, 0, none⟩)), (8, .string (mkB (D ++ (pp.take k).filter isD))), (9, .int .i64 (ii : Nat)), (10, .string (mkB pp)), (13, .int .i64 (k : Nat))])
                  (fun k h' t' => k ≤ pp.length ∧ h' r5 = some (.cells #[.int .i64 lvv, .int .i64 0, .int .i64 ww] 30 (0, 0)) ∧ Vc.Sub g h' ∧ r5 < t') (fun k => pp.length - k) 0 ⟨rfl, rfl, rfl, rfl, (by show Value.string (mkB D) = _; rw [List.take_zero, List.filter_nil, List.append_nil]), hii, rfl, rfl, trivial⟩
                  ⟨by omega, ?_, ?_, by omega⟩ ?_
                · first
                  | exact f5
                  | (rw [hset_same, hww])
                · first
                  | exact fS
                  | (intro b o hb; rw [hset_ne _ _ (hd1.ne hb hr5)]; exact fS _ _ hb)
                rintro k e6 g6 t6 hd6 ⟨hk, h56, hs6, ht6⟩
                have hXs : (mkB (D ++ (pp.take k).filter isD)).size ≤ D.length + pp.length := by
                  have e1 : (mkB (D ++ (pp.take k).filter isD)).size = (D ++ (pp.take k).filter isD).length := mk_size _
                  have e2 := List.length_filter_le isD (pp.take k)
                  rw [List.length_take] at e2
                  rw [List.length_append] at e1
                  omega
                conv => whnf
                refine br (fun hc1 => ?_) (fun hc1 => ?_)
                · have hkp : k < pp.length := by omega
                  have hby : byteAt (mkB pp) ((k : Int)).toNat = ((pp[k]).toNat : Int) := byteAt_get hkp
                  conv => whnf
                  repeat (first | ((with_reducible refine And.intro (And.intro ?_ ?_) ?_); (focus omega); (focus omega); conv => whnf) | (intro _ _; conv => whnf))
                  rw [hby]
                  refine br (fun hc2 => ?_) (fun hc2 => ?_)
                  · conv => whnf
                    repeat (first | ((with_reducible refine And.intro (And.intro ?_ ?_) ?_); (focus omega); (focus omega); conv => whnf) | (intro _ _; conv => whnf))
                    rw [hby]
                    refine br (fun hc3 => ?_) (fun hc3 => ?_)
                    · have hxs : ((mkB pp).extract ((k : Nat) : Int).toNat (((k : Nat) : Int) + 1).toNat).size = 1 := by
                        rw [show (((k : Nat) : Int) + 1).toNat = k + 1 by omega, Int.toNat_natCast]
                        rw [ext_mk (by omega) (by omega)]
                        refine (mk_size _).trans ?_
                        rw [List.length_take, List.length_drop]
                        show min (k + 1 - k) (pp.length - k) = 1
                        omega
                      conv => whnf
                      repeat (first | ((with_reducible refine And.intro (And.intro ?_ ?_) ?_); (focus omega); (focus omega); conv => whnf) | ((with_reducible apply Go.Vc.wr_i64); (focus exact And.intro (by omega) (by omega)); conv => whnf) | ((with_reducible apply Go.Vc.and_leN); (focus (first | omega | (simp only [ByteArray.size, List.size_toArray, List.length_cons, List.length_nil] at *; omega))); conv => whnf))
                      refine round_end (k + 1) (by omega) ⟨rfl, rfl, rfl, rfl, ?_, rfl, rfl, rfl, trivial⟩ ⟨by omega, h56, hs6, by omega⟩
                      exact congrArg Value.string (take_dig_t hkp (by omega) (by omega))
                    · conv => whnf
                      repeat (first | ((with_reducible apply Go.Vc.wr_i64); (focus exact And.intro (by omega) (by omega)); conv => whnf))
                      refine round_end (k + 1) (by omega) ⟨rfl, rfl, rfl, rfl, ?_, rfl, rfl, rfl, trivial⟩ ⟨by omega, h56, hs6, by omega⟩
                      exact congrArg Value.string (take_dig_f hkp (by omega))
                  · conv => whnf
                    repeat (first | ((with_reducible apply Go.Vc.wr_i64); (focus exact And.intro (by omega) (by omega)); conv => whnf))
                    refine round_end (k + 1) (by omega) ⟨rfl, rfl, rfl, rfl, ?_, rfl, rfl, rfl, trivial⟩ ⟨by omega, h56, hs6, by omega⟩
                    exact congrArg Value.string (take_dig_f hkp (by omega))
                · obtain rfl : k = pp.length := by omega
                  rw [List.take_length] at *
                  conv => whnf
                  repeat (first | ((with_reducible apply Go.Vc.wr_i64); (focus exact And.intro (by omega) (by omega)); conv => whnf))
                  refine round_end3 (ii + 1) (D ++ pp.filter isD) ww (by omega) ⟨rfl, rfl, rfl, rfl, rfl, rfl, trivial⟩ ⟨by omega, by omega, ?_, gG, h56, hs6, by omega⟩
                  have e2 := List.length_filter_le isD pp
                  rw [List.length_append]
                  omega
            · obtain ⟨pp, hpp⟩ : ∃ pp, pp = p := ⟨_, rfl⟩
              obtain ⟨ii, hii0⟩ : ∃ ii, ii = i := ⟨_, rfl⟩
              obtain ⟨ww, hww⟩ : ∃ ww, ww = w := ⟨_, rfl⟩
              have gG : GoodT s (ii + 1) (D ++ pp.filter isD) ww := by
                rw [hpp, hii0, hww]
                refine good_step hi2 (hK ▸ hp) ?_ hgood
                rintro ⟨q1, q2⟩
                first
                | exact hb2 (by have := q1.1; omega)
                | exact hb3 (by rw [hb3e, hps]; exact (isP_mk q1.1).2 q1)
                | exact hb4 (by rw [← hK] at q2; omega)
              have hiik : ii < K.length := by omega
              have hii : Value.int .i64 (i : Nat) = Value.int .i64 (ii : Nat) := by rw [hii0]
              have f5 := h5
              have fS := hs3
              rw [← hww] at f5
              rw [← hpp] at hpl hps ⊢
              conv => whnf
              have hpps : (mkB pp).size = pp.length := rfl
              refine loop_intro (fun (k : Nat) => [(0, .string s), (2, .pointer (some ⟨r2, 0, none⟩)), (4, .slice a K.length c), (5, .pointer (some ⟨r5, 0, none⟩)), (8, .string (mkB (D ++ (pp.take k).filter isD))), (9, .int .i64 (ii : Nat)), (10, .string (mkB pp)), (13, .int .i64 (k : Nat))])
                (fun k h' t' => k ≤ pp.length ∧ h' r5 = some (.cells #[.int .i64 lvv, .int .i64 0, .int .i64 ww] 30 (0, 0)) ∧ Vc.Sub g h' ∧ r5 < t') (fun k => pp.length - k) 0 ⟨rfl, rfl, rfl, rfl, (by show Value.string (mkB D) = _; rw [List.take_zero, List.filter_nil, List.append_nil]), hii, rfl, rfl, trivial⟩
                ⟨by omega, ?_, ?_, by omega⟩ ?_
              · first
                | exact f5
                | (rw [hset_same, hww])
              · first
                | exact fS
                | (intro b o hb; rw [hset_ne _ _ (hd1.ne hb hr5)]; exact fS _ _ hb)
              rintro k e6 g6 t6 hd6 ⟨hk, h56, hs6, ht6⟩
              have hXs : (mkB (D ++ (pp.take k).filter isD)).size ≤ D.length + pp.length := by
                have e1 : (mkB (D ++ (pp.take k).filter isD)).size = (D ++ (pp.take k).filter isD).length := mk_size _
                have e2 := List.length_filter_le isD (pp.take k)
                rw [List.length_take] at e2
                rw [List.length_append] at e1
                omega
              conv => whnf
              refine br (fun hc1 => ?_) (fun hc1 => ?_)
              · have hkp : k < pp.length := by omega
                have hby : byteAt (mkB pp) ((k : Int)).toNat = ((pp[k]).toNat : Int) := byteAt_get hkp
                conv => whnf
                repeat (first | ((with_reducible refine And.intro (And.intro ?_ ?_) ?_); (focus omega); (focus omega); conv => whnf) | (intro _ _; conv => whnf))
                rw [hby]
                refine br (fun hc2 => ?_) (fun hc2 => ?_)
                · conv => whnf
                  repeat (first | ((with_reducible refine And.intro (And.intro ?_ ?_) ?_); (focus omega); (focus omega); conv => whnf) | (intro _ _; conv => whnf))
                  rw [hby]
                  refine br (fun hc3 => ?_) (fun hc3 => ?_)
                  · have hxs : ((mkB pp).extract ((k : Nat) : Int).toNat (((k : Nat) : Int) + 1).toNat).size = 1 := by
                      rw [show (((k : Nat) : Int) + 1).toNat = k + 1 by omega, Int.toNat_natCast]
                      rw [ext_mk (by omega) (by omega)]
                      refine (mk_size _).trans ?_
                      rw [List.length_take, List.length_drop]
                      show min (k + 1 - k) (pp.length - k) = 1
                      omega
                    conv => whnf
                    repeat (first | ((with_reducible refine And.intro (And.intro ?_ ?_) ?_); (focus omega); (focus omega); conv => whnf) | ((with_reducible apply Go.Vc.wr_i64); (focus exact And.intro (by omega) (by omega)); conv => whnf) | ((with_reducible apply Go.Vc.and_leN); (focus (first | omega | (simp only [ByteArray.size, List.size_toArray, List.length_cons, List.length_nil] at *; omega))); conv => whnf))
                    refine round_end (k + 1) (by omega) ⟨rfl, rfl, rfl, rfl, ?_, rfl, rfl, rfl, trivial⟩ ⟨by omega, h56, hs6, by omega⟩
                    exact congrArg Value.string (take_dig_t hkp (by omega) (by omega))
                  · conv => whnf
                    repeat (first | ((with_reducible apply Go.Vc.wr_i64); (focus exact And.intro (by omega) (by omega)); conv => whnf))
                    refine round_end (k + 1) (by omega) ⟨rfl, rfl, rfl, rfl, ?_, rfl, rfl, rfl, trivial⟩ ⟨by omega, h56, hs6, by omega⟩
                    exact congrArg Value.string (take_dig_f hkp (by omega))
                · conv => whnf
                  repeat (first | ((with_reducible apply Go.Vc.wr_i64); (focus exact And.intro (by omega) (by omega)); conv => whnf))
                  refine round_end (k + 1) (by omega) ⟨rfl, rfl, rfl, rfl, ?_, rfl, rfl, rfl, trivial⟩ ⟨by omega, h56, hs6, by omega⟩
                  exact congrArg Value.string (take_dig_f hkp (by omega))
              · obtain rfl : k = pp.length := by omega
                rw [List.take_length] at *
                conv => whnf
                repeat (first | ((with_reducible apply Go.Vc.wr_i64); (focus exact And.intro (by omega) (by omega)); conv => whnf))
                refine round_end3 (ii + 1) (D ++ pp.filter isD) ww (by omega) ⟨rfl, rfl, rfl, rfl, rfl, rfl, trivial⟩ ⟨by omega, by omega, ?_, gG, h56, hs6, by omega⟩
                have e2 := List.length_filter_le isD pp
                rw [List.length_append]
                omega
          · obtain ⟨pp, hpp⟩ : ∃ pp, pp = p := ⟨_, rfl⟩
            obtain ⟨ii, hii0⟩ : ∃ ii, ii = i := ⟨_, rfl⟩
            obtain ⟨ww, hww⟩ : ∃ ww, ww = w := ⟨_, rfl⟩
            have gG : GoodT s (ii + 1) (D ++ pp.filter isD) ww := by
              rw [hpp, hii0, hww]
              refine good_step hi2 (hK ▸ hp) ?_ hgood
              rintro ⟨q1, q2⟩
              first
              | exact hb2 (by have := q1.1; omega)
              | exact hb3 (by rw [hb3e, hps]; exact (isP_mk q1.1).2 q1)
              | exact hb4 (by rw [← hK] at q2; omega)
            have hiik : ii < K.length := by omega
            have hii : Value.int .i64 (i : Nat) = Value.int .i64 (ii : Nat) := by rw [hii0]
            have f5 := h5
            have fS := hs3
            rw [← hww] at f5
            rw [← hpp] at hpl hps ⊢
            conv => whnf
            have hpps : (mkB pp).size = pp.length := rfl
            refine loop_intro (fun (k : Nat) => [(0, .string s), (2, .pointer (some ⟨r2, 0, none⟩)), (4, .slice a K.length c), (5, .pointer (some ⟨r5, 0, none⟩)), (8, .string (mkB (D ++ (pp.take k).filter isD))), (9, .int .i64 (ii : Nat)), (10, .string (mkB pp)), (13, .int .i64 (k : Nat))])
              (fun k h' t' => k ≤ pp.length ∧ h' r5 = some (.cells #[.int .i64 lvv, .int .i64 0, .int .i64 ww] 30 (0, 0)) ∧ Vc.Sub g h' ∧ r5 < t') (fun k => pp.length - k) 0 ⟨rfl, rfl, rfl, rfl, (by show Value.string (mkB D) = _; rw [List.take_zero, List.filter_nil, List.append_nil]), hii, rfl, rfl, trivial⟩
              ⟨by omega, ?_, ?_, by omega⟩ ?_
            · first
              | exact f5
              | (rw [hset_same, hww])
            · first
              | exact fS
              | (intro b o hb; rw [hset_ne _ _ (hd1.ne hb hr5)]; exact fS _ _ hb)
            rintro k e6 g6 t6 hd6 ⟨hk, h56, hs6, ht6⟩
            have hXs : (mkB (D ++ (pp.take k).filter isD)).size ≤ D.length + pp.length := by
              have e1 : (mkB (D ++ (pp.take k).filter isD)).size = (D ++ (pp.take k).filter isD).length := mk_size _
              have e2 := List.length_filter_le isD (pp.take k)
              rw [List.length_take] at e2
              rw [List.length_append] at e1
              omega
            conv => whnf
            refine br (fun hc1 => ?_) (fun hc1 => ?_)
            · have hkp : k < pp.length := by omega
              have hby : byteAt (mkB pp) ((k : Int)).toNat = ((pp[k]).toNat : Int) := byteAt_get hkp
              conv => whnf
              repeat (first | ((with_reducible refine And.intro (And.intro ?_ ?_) ?_); (focus omega); (focus omega); conv => whnf) | (intro _ _; conv => whnf))
              rw [hby]
              refine br (fun hc2 => ?_) (fun hc2 => ?_)
              · conv => whnf
                repeat (first | ((with_reducible refine And.intro (And.intro ?_ ?_) ?_); (focus omega); (focus omega); conv => whnf) | (intro _ _; conv => whnf))
                rw [hby]
                refine br (fun hc3 => ?_) (fun hc3 => ?_)
                · have hxs : ((mkB pp).extract ((k : Nat) : Int).toNat (((k : Nat) : Int) + 1).toNat).size = 1 := by
                    rw [show (((k : Nat) : Int) + 1).toNat = k + 1 by omega, Int.toNat_natCast]
                    rw [ext_mk (by omega) (by omega)]
                    refine (mk_size _).trans ?_
                    rw [List.length_take, List.length_drop]
                    show min (k + 1 - k) (pp.length - k) = 1
                    omega
                  conv => whnf
                  repeat (first | ((with_reducible refine And.intro (And.intro ?_ ?_) ?_); (focus omega); (focus omega); conv => whnf) | ((with_reducible apply Go.Vc.wr_i64); (focus exact And.intro (by omega) (by omega)); conv => whnf) | ((with_reducible apply Go.Vc.and_leN); (focus (first | omega | (simp only [ByteArray.size, List.size_toArray, List.length_cons, List.length_nil] at *; omega))); conv => whnf))
                  refine round_end (k + 1) (by omega) ⟨rfl, rfl, rfl, rfl, ?_, rfl, rfl, rfl, trivial⟩ ⟨by omega, h56, hs6, by omega⟩
                  exact congrArg Value.string (take_dig_t hkp (by omega) (by omega))
                · conv => whnf
                  repeat (first | ((with_reducible apply Go.Vc.wr_i64); (focus exact And.intro (by omega) (by omega)); conv => whnf))
                  refine round_end (k + 1) (by omega) ⟨rfl, rfl, rfl, rfl, ?_, rfl, rfl, rfl, trivial⟩ ⟨by omega, h56, hs6, by omega⟩
                  exact congrArg Value.string (take_dig_f hkp (by omega))
              · conv => whnf
                repeat (first | ((with_reducible apply Go.Vc.wr_i64); (focus exact And.intro (by omega) (by omega)); conv => whnf))
                refine round_end (k + 1) (by omega) ⟨rfl, rfl, rfl, rfl, ?_, rfl, rfl, rfl, trivial⟩ ⟨by omega, h56, hs6, by omega⟩
                exact congrArg Value.string (take_dig_f hkp (by omega))
            · obtain rfl : k = pp.length := by omega
              rw [List.take_length] at *
              conv => whnf
              repeat (first | ((with_reducible apply Go.Vc.wr_i64); (focus exact And.intro (by omega) (by omega)); conv => whnf))
              refine round_end3 (ii + 1) (D ++ pp.filter isD) ww (by omega) ⟨rfl, rfl, rfl, rfl, rfl, rfl, trivial⟩ ⟨by omega, by omega, ?_, gG, h56, hs6, by omega⟩
              have e2 := List.length_filter_le isD pp
              rw [List.length_append]
              omega
        · obtain ⟨pp, hpp⟩ : ∃ pp, pp = p := ⟨_, rfl⟩
          obtain ⟨ii, hii0⟩ : ∃ ii, ii = i := ⟨_, rfl⟩
          obtain ⟨ww, hww⟩ : ∃ ww, ww = w := ⟨_, rfl⟩
          have gG : GoodT s (ii + 1) (D ++ pp.filter isD) ww := by
            rw [hpp, hii0, hww]
            refine good_step hi2 (hK ▸ hp) ?_ hgood
            rintro ⟨q1, q2⟩
            first
            | exact hb2 (by have := q1.1; omega)
            | exact hb3 (by rw [hb3e, hps]; exact (isP_mk q1.1).2 q1)
            | exact hb4 (by rw [← hK] at q2; omega)
          have hiik : ii < K.length := by omega
          have hii : Value.int .i64 (i : Nat) = Value.int .i64 (ii : Nat) := by rw [hii0]
          have f5 := h5
          have fS := hs3
          rw [← hww] at f5
          rw [← hpp] at hpl hps ⊢
          conv => whnf
          have hpps : (mkB pp).size = pp.length := rfl
          refine loop_intro (fun (k : Nat) => [(0, .string s), (2, .pointer (some ⟨r2, 0, none⟩)), (4, .slice a K.length c), (5, .pointer (some ⟨r5, 0, none⟩)), (8, .string (mkB (D ++ (pp.take k).filter isD))), (9, .int .i64 (ii : Nat)), (10, .string (mkB pp)), (13, .int .i64 (k : Nat))])
            (fun k h' t' => k ≤ pp.length ∧ h' r5 = some (.cells #[.int .i64 lvv, .int .i64 0, .int .i64 ww] 30 (0, 0)) ∧ Vc.Sub g h' ∧ r5 < t') (fun k => pp.length - k) 0 ⟨rfl, rfl, rfl, rfl, (by show Value.string (mkB D) = _; rw [List.take_zero, List.filter_nil, List.append_nil]), hii, rfl, rfl, trivial⟩
            ⟨by omega, ?_, ?_, by omega⟩ ?_
          · first
            | exact f5
            | (rw [hset_same, hww])
          · first
            | exact fS
            | (intro b o hb; rw [hset_ne _ _ (hd1.ne hb hr5)]; exact fS _ _ hb)
          rintro k e6 g6 t6 hd6 ⟨hk, h56, hs6, ht6⟩
          have hXs : (mkB (D ++ (pp.take k).filter isD)).size ≤ D.length + pp.length := by
            have e1 : (mkB (D ++ (pp.take k).filter isD)).size = (D ++ (pp.take k).filter isD).length := mk_size _
            have e2 := List.length_filter_le isD (pp.take k)
            rw [List.length_take] at e2
            rw [List.length_append] at e1
            omega
          conv => whnf
          refine br (fun hc1 => ?_) (fun hc1 => ?_)
          · have hkp : k < pp.length := by omega
            have hby : byteAt (mkB pp) ((k : Int)).toNat = ((pp[k]).toNat : Int) := byteAt_get hkp
            conv => whnf
            repeat (first | ((with_reducible refine And.intro (And.intro ?_ ?_) ?_); (focus omega); (focus omega); conv => whnf) | (intro _ _; conv => whnf))
            rw [hby]
            refine br (fun hc2 => ?_) (fun hc2 => ?_)
            · conv => whnf
              repeat (first | ((with_reducible refine And.intro (And.intro ?_ ?_) ?_); (focus omega); (focus omega); conv => whnf) | (intro _ _; conv => whnf))
              rw [hby]
              refine br (fun hc3 => ?_) (fun hc3 => ?_)
              · have hxs : ((mkB pp).extract ((k : Nat) : Int).toNat (((k : Nat) : Int) + 1).toNat).size = 1 := by
                  rw [show (((k : Nat) : Int) + 1).toNat = k + 1 by omega, Int.toNat_natCast]
                  rw [ext_mk (by omega) (by omega)]
                  refine (mk_size _).trans ?_
                  rw [List.length_take, List.length_drop]
                  show min (k + 1 - k) (pp.length - k) = 1
                  omega
                conv => whnf
                repeat (first | ((with_reducible refine And.intro (And.intro ?_ ?_) ?_); (focus omega); (focus omega); conv => whnf) | ((with_reducible apply Go.Vc.wr_i64); (focus exact And.intro (by omega) (by omega)); conv => whnf) | ((with_reducible apply Go.Vc.and_leN); (focus (first | omega | (simp only [ByteArray.size, List.size_toArray, List.length_cons, List.length_nil] at *; omega))); conv => whnf))
                refine round_end (k + 1) (by omega) ⟨rfl, rfl, rfl, rfl, ?_, rfl, rfl, rfl, trivial⟩ ⟨by omega, h56, hs6, by omega⟩
                exact congrArg Value.string (take_dig_t hkp (by omega) (by omega))
              · conv => whnf
                repeat (first | ((with_reducible apply Go.Vc.wr_i64); (focus exact And.intro (by omega) (by omega)); conv => whnf))
                refine round_end (k + 1) (by omega) ⟨rfl, rfl, rfl, rfl, ?_, rfl, rfl, rfl, trivial⟩ ⟨by omega, h56, hs6, by omega⟩
                exact congrArg Value.string (take_dig_f hkp (by omega))
            · conv => whnf
              repeat (first | ((with_reducible apply Go.Vc.wr_i64); (focus exact And.intro (by omega) (by omega)); conv => whnf))
              refine round_end (k + 1) (by omega) ⟨rfl, rfl, rfl, rfl, ?_, rfl, rfl, rfl, trivial⟩ ⟨by omega, h56, hs6, by omega⟩
              exact congrArg Value.string (take_dig_f hkp (by omega))
          · obtain rfl : k = pp.length := by omega
            rw [List.take_length] at *
            conv => whnf
            repeat (first | ((with_reducible apply Go.Vc.wr_i64); (focus exact And.intro (by omega) (by omega)); conv => whnf))
            refine round_end3 (ii + 1) (D ++ pp.filter isD) ww (by omega) ⟨rfl, rfl, rfl, rfl, rfl, rfl, trivial⟩ ⟨by omega, by omega, ?_, gG, h56, hs6, by omega⟩
            have e2 := List.length_filter_le isD pp
            rw [List.length_append]
            omega
      · obtain rfl : i = K.length := by omega
        conv => whnf
        refine loop_intro (fun (cur : List UInt8) => [(0, .string s), (2, .pointer (some ⟨r2, 0, none⟩)), (5, .pointer (some ⟨r5, 0, none⟩)), (8, .string (mkB cur))])
          (fun cur h' t' => (D ≠ [] → cur ≠ []) ∧ Lib.trimLeftB cur 48 = Lib.trimLeftB D 48 ∧ cur.length ≤ D.length ∧ h' r5 = some (.cells #[.int .i64 lvv, .int .i64 0, .int .i64 w] 30 (0, 0)) ∧ Vc.Sub g h' ∧ r5 < t') (fun cur => cur.length) D ⟨rfl, rfl, rfl, rfl, trivial⟩
          ⟨id, rfl, Nat.le_refl _, h5, hs3, ht3⟩ ?_
        rintro cur e8 g8 t8 hd8 ⟨hc0, hct, hcl, h58, hs8, ht8⟩
        have hcs : (mkB cur).size = cur.length := mk_size cur
        have h28 := hs8 _ _ g2
        conv => whnf
        refine br (fun hz1 => ?_) (fun hz1 => ?_)
        · obtain ⟨x, r, rfl⟩ : ∃ x r, cur = x :: r := by
            cases cur with
            | nil => rw [hcs] at hz1; simp at hz1
            | cons x r => exact ⟨x, r, rfl⟩
          have hby : byteAt (mkB (x :: r)) (Int.toNat 0) = (x.toNat : Int) := rfl
          have hxl := UInt8.toNat_lt x
          rw [List.length_cons] at hcl hcs
          conv => whnf
          repeat (first | ((with_reducible refine And.intro (And.intro ?_ ?_) ?_); (focus omega); (focus omega); conv => whnf) | (intro _ _; conv => whnf))
          rw [hby]
          refine br (fun hz2 => ?_) (fun hz2 => ?_)
          · have hx48 : x = 48 := UInt8.toNat_inj.1 (show x.toNat = 48 by omega)
            conv => whnf
            repeat (first | ((with_reducible refine And.intro (And.intro ?_ ?_) ?_); (focus omega); (focus omega); conv => whnf))
            refine round_end r (by simp) ⟨rfl, rfl, rfl, congrArg Value.string mk_tail, trivial⟩ ⟨fun _ e => ?_, ?_, by omega, h58, hs8, by omega⟩
            · have := congrArg List.length e; rw [List.length_nil] at this; omega
            · rw [← hct, hx48, trim_zero]
          · have hend : (x :: r).length ≤ 1 ∨ ∀ y, (x :: r).head? = some y → y ≠ 48 := .inr fun y hy e => by
              obtain rfl := Option.some.inj hy
              subst e
              exact hz2 rfl
            conv => whnf
            refine (rtake_spec _ ?_).mono ?_
            · omega
            rintro _ F TF hDF hTF ⟨n3, is3, rfl, hn30, hn31, hn3k, hsF, _⟩
            have hgood3 : ∀ lv ix wd, RightC lv ix wd → pathS lv ix wd = s → lvv = lv ∧ n3 = ix ∧ w = wd ∧ true = true ∧ is3 = true := fun lv ix wd hR he => by
              obtain ⟨c1, c2, c3⟩ := good_end (hK ▸ hgood) hc0 hct hend hn3k hR he
              exact ⟨(rt_level (hK ▸ hq) hTk hR he).1, c1, c2, rfl, c3⟩
            have f2 := hsF _ _ h28
            have f5 := hsF _ _ h58
            have fS := (hsub.trans hs8).trans hsF
            cases is3
            · have hfail := take_no hgood3 (.inr (.inl rfl))
              have eS := fS
              have e2 := f2
              conv => whnf
              repeat (first | ((with_reducible apply Go.Vc.ldrow); (focus ((repeat (first | with_reducible assumption | with_reducible exact Go.Vc.hset_same _ _ _ | with_reducible refine (Go.Vc.hset_ne _ _ (by omega)).trans ?_)); done)); (focus exact rfl); rintro _ rfl; conv => whnf) | ((with_reducible apply Go.Vc.strow); (focus ((repeat (first | with_reducible assumption | with_reducible exact Go.Vc.hset_same _ _ _ | with_reducible refine (Go.Vc.hset_ne _ _ (by omega)).trans ?_)); done)); (focus exact rfl); (focus exact rfl); (focus exact rfl); rintro _ rfl; conv => whnf))
              refine ⟨.inr ⟨hfail, rfl⟩, ?_, by omega⟩
              intro b o hb
              have := hd b o hb
              repeat rw [hset_ne _ _ (by omega)]
              exact eS _ _ hb
            · conv => whnf
              repeat (first | ((with_reducible apply Go.Vc.ldrow); (focus ((repeat (first | with_reducible assumption | with_reducible exact Go.Vc.hset_same _ _ _ | with_reducible refine (Go.Vc.hset_ne _ _ (by omega)).trans ?_)); done)); (focus exact rfl); rintro _ rfl; conv => whnf) | ((with_reducible apply Go.Vc.st_i); (focus ((repeat (first | with_reducible assumption | with_reducible exact Go.Vc.hset_same _ _ _ | with_reducible refine (Go.Vc.hset_ne _ _ (by omega)).trans ?_)); done)); (focus exact rfl); (focus exact rfl); (focus exact rfl); (conv => whnf); intro cA hcA; (first | (simp only [List.setIfInBounds_toArray, List.set_cons_succ, List.set_cons_zero] at hcA; subst hcA) | subst hcA); conv => whnf))
              by_cases hR : RightC lvv n3 w
              · refine (rpath_spec lvv n3 w hR).mono ?_
                rintro _ E TE hDE hTE ⟨rfl, hsE, _⟩
                have e2 := hsE r2 _ ((hset_ne _ _ (by omega)).trans f2)
                have e5 := hsE r5 _ (hset_same _ _ _)
                have eS : Vc.Sub h E := fun b o hb => hsE _ _ (by
                  have := hd b o hb
                  rw [hset_ne _ _ (by omega)]
                  exact fS _ _ hb)
                conv => whnf
                refine br (fun hts => ?_) (fun hts => ?_)
                · have hfail := take_no hgood3 (.inr (.inr (.inr hts)))
                  conv => whnf
                  repeat (first | ((with_reducible apply Go.Vc.ldrow); (focus ((repeat (first | with_reducible assumption | with_reducible exact Go.Vc.hset_same _ _ _ | with_reducible refine (Go.Vc.hset_ne _ _ (by omega)).trans ?_)); done)); (focus exact rfl); rintro _ rfl; conv => whnf) | ((with_reducible apply Go.Vc.strow); (focus ((repeat (first | with_reducible assumption | with_reducible exact Go.Vc.hset_same _ _ _ | with_reducible refine (Go.Vc.hset_ne _ _ (by omega)).trans ?_)); done)); (focus exact rfl); (focus exact rfl); (focus exact rfl); rintro _ rfl; conv => whnf))
                  refine ⟨.inr ⟨hfail, rfl⟩, ?_, by omega⟩
                  intro b o hb
                  have := hd b o hb
                  repeat rw [hset_ne _ _ (by omega)]
                  exact eS _ _ hb
                · conv => whnf
                  repeat (first | ((with_reducible apply Go.Vc.ldrow); (focus ((repeat (first | with_reducible assumption | with_reducible exact Go.Vc.hset_same _ _ _ | with_reducible refine (Go.Vc.hset_ne _ _ (by omega)).trans ?_)); done)); (focus exact rfl); rintro _ rfl; conv => whnf) | ((with_reducible apply Go.Vc.strow); (focus ((repeat (first | with_reducible assumption | with_reducible exact Go.Vc.hset_same _ _ _ | with_reducible refine (Go.Vc.hset_ne _ _ (by omega)).trans ?_)); done)); (focus exact rfl); (focus exact rfl); (focus exact rfl); rintro _ rfl; conv => whnf))
                  refine ⟨.inl ⟨lvv, n3, w, hR, Classical.not_not.1 hts, rfl⟩, ?_, by omega⟩
                  intro b o hb
                  have := hd b o hb
                  repeat rw [hset_ne _ _ (by omega)]
                  exact eS _ _ hb
              · refine (rpath_no lvv n3 w hR).mono ?_
                rintro _ E TE hDE hTE ⟨rfl, hsE, _⟩
                have e2 := hsE r2 _ ((hset_ne _ _ (by omega)).trans f2)
                have e5 := hsE r5 _ (hset_same _ _ _)
                have eS : Vc.Sub h E := fun b o hb => hsE _ _ (by
                  have := hd b o hb
                  rw [hset_ne _ _ (by omega)]
                  exact fS _ _ hb)
                have hfail := take_no hgood3 (.inr (.inr (.inl hR)))
                conv => whnf
                repeat (first | ((with_reducible apply Go.Vc.ldrow); (focus ((repeat (first | with_reducible assumption | with_reducible exact Go.Vc.hset_same _ _ _ | with_reducible refine (Go.Vc.hset_ne _ _ (by omega)).trans ?_)); done)); (focus exact rfl); rintro _ rfl; conv => whnf) | ((with_reducible apply Go.Vc.strow); (focus ((repeat (first | with_reducible assumption | with_reducible exact Go.Vc.hset_same _ _ _ | with_reducible refine (Go.Vc.hset_ne _ _ (by omega)).trans ?_)); done)); (focus exact rfl); (focus exact rfl); (focus exact rfl); rintro _ rfl; conv => whnf))
                refine ⟨.inr ⟨hfail, rfl⟩, ?_, by omega⟩
                intro b o hb
                have := hd b o hb
                repeat rw [hset_ne _ _ (by omega)]
                exact eS _ _ hb
        · have hend : cur.length ≤ 1 ∨ ∀ y, cur.head? = some y → y ≠ 48 := .inl (by omega)
          conv => whnf
          refine (rtake_spec _ ?_).mono ?_
          · omega
          rintro _ F TF hDF hTF ⟨n3, is3, rfl, hn30, hn31, hn3k, hsF, _⟩
          have hgood3 : ∀ lv ix wd, RightC lv ix wd → pathS lv ix wd = s → lvv = lv ∧ n3 = ix ∧ w = wd ∧ true = true ∧ is3 = true := fun lv ix wd hR he => by
            obtain ⟨c1, c2, c3⟩ := good_end (hK ▸ hgood) hc0 hct hend hn3k hR he
            exact ⟨(rt_level (hK ▸ hq) hTk hR he).1, c1, c2, rfl, c3⟩
          have f2 := hsF _ _ h28
          have f5 := hsF _ _ h58
          have fS := (hsub.trans hs8).trans hsF
          cases is3
          · have hfail := take_no hgood3 (.inr (.inl rfl))
            have eS := fS
            have e2 := f2
            conv => whnf
            repeat (first | ((with_reducible apply Go.Vc.ldrow); (focus ((repeat (first | with_reducible assumption | with_reducible exact Go.Vc.hset_same _ _ _ | with_reducible refine (Go.Vc.hset_ne _ _ (by omega)).trans ?_)); done)); (focus exact rfl); rintro _ rfl; conv => whnf) | ((with_reducible apply Go.Vc.strow); (focus ((repeat (first | with_reducible assumption | with_reducible exact Go.Vc.hset_same _ _ _ | with_reducible refine (Go.Vc.hset_ne _ _ (by omega)).trans ?_)); done)); (focus exact rfl); (focus exact rfl); (focus exact rfl); rintro _ rfl; conv => whnf))
            refine ⟨.inr ⟨hfail, rfl⟩, ?_, by omega⟩
            intro b o hb
            have := hd b o hb
            repeat rw [hset_ne _ _ (by omega)]
            exact eS _ _ hb
          · conv => whnf
            repeat (first | ((with_reducible apply Go.Vc.ldrow); (focus ((repeat (first | with_reducible assumption | with_reducible exact Go.Vc.hset_same _ _ _ | with_reducible refine (Go.Vc.hset_ne _ _ (by omega)).trans ?_)); done)); (focus exact rfl); rintro _ rfl; conv => whnf) | ((with_reducible apply Go.Vc.st_i); (focus ((repeat (first | with_reducible assumption | with_reducible exact Go.Vc.hset_same _ _ _ | with_reducible refine (Go.Vc.hset_ne _ _ (by omega)).trans ?_)); done)); (focus exact rfl); (focus exact rfl); (focus exact rfl); (conv => whnf); intro cA hcA; (first | (simp only [List.setIfInBounds_toArray, List.set_cons_succ, List.set_cons_zero] at hcA; subst hcA) | subst hcA); conv => whnf))
            by_cases hR : RightC lvv n3 w
            · refine (rpath_spec lvv n3 w hR).mono ?_
              rintro _ E TE hDE hTE ⟨rfl, hsE, _⟩
              have e2 := hsE r2 _ ((hset_ne _ _ (by omega)).trans f2)
              have e5 := hsE r5 _ (hset_same _ _ _)
              have eS : Vc.Sub h E := fun b o hb => hsE _ _ (by
                have := hd b o hb
                rw [hset_ne _ _ (by omega)]
                exact fS _ _ hb)
              conv => whnf
              refine br (fun hts => ?_) (fun hts => ?_)
              · have hfail := take_no hgood3 (.inr (.inr (.inr hts)))
                conv => whnf
                repeat (first | ((with_reducible apply Go.Vc.ldrow); (focus ((repeat (first | with_reducible assumption | with_reducible exact Go.Vc.hset_same _ _ _ | with_reducible refine (Go.Vc.hset_ne _ _ (by omega)).trans ?_)); done)); (focus exact rfl); rintro _ rfl; conv => whnf) | ((with_reducible apply Go.Vc.strow); (focus ((repeat (first | with_reducible assumption | with_reducible exact Go.Vc.hset_same _ _ _ | with_reducible refine (Go.Vc.hset_ne _ _ (by omega)).trans ?_)); done)); (focus exact rfl); (focus exact rfl); (focus exact rfl); rintro _ rfl; conv => whnf))
                refine ⟨.inr ⟨hfail, rfl⟩, ?_, by omega⟩
                intro b o hb
                have := hd b o hb
                repeat rw [hset_ne _ _ (by omega)]
                exact eS _ _ hb
              · conv => whnf
                repeat (first | ((with_reducible apply Go.Vc.ldrow); (focus ((repeat (first | with_reducible assumption | with_reducible exact Go.Vc.hset_same _ _ _ | with_reducible refine (Go.Vc.hset_ne _ _ (by omega)).trans ?_)); done)); (focus exact rfl); rintro _ rfl; conv => whnf) | ((with_reducible apply Go.Vc.strow); (focus ((repeat (first | with_reducible assumption | with_reducible exact Go.Vc.hset_same _ _ _ | with_reducible refine (Go.Vc.hset_ne _ _ (by omega)).trans ?_)); done)); (focus exact rfl); (focus exact rfl); (focus exact rfl); rintro _ rfl; conv => whnf))
                refine ⟨.inl ⟨lvv, n3, w, hR, Classical.not_not.1 hts, rfl⟩, ?_, by omega⟩
                intro b o hb
                have := hd b o hb
                repeat rw [hset_ne _ _ (by omega)]
                exact eS _ _ hb
            · refine (rpath_no lvv n3 w hR).mono ?_
              rintro _ E TE hDE hTE ⟨rfl, hsE, _⟩
              have e2 := hsE r2 _ ((hset_ne _ _ (by omega)).trans f2)
              have e5 := hsE r5 _ (hset_same _ _ _)
              have eS : Vc.Sub h E := fun b o hb => hsE _ _ (by
                have := hd b o hb
                rw [hset_ne _ _ (by omega)]
                exact fS _ _ hb)
              have hfail := take_no hgood3 (.inr (.inr (.inl hR)))
              conv => whnf
              repeat (first | ((with_reducible apply Go.Vc.ldrow); (focus ((repeat (first | with_reducible assumption | with_reducible exact Go.Vc.hset_same _ _ _ | with_reducible refine (Go.Vc.hset_ne _ _ (by omega)).trans ?_)); done)); (focus exact rfl); rintro _ rfl; conv => whnf) | ((with_reducible apply Go.Vc.strow); (focus ((repeat (first | with_reducible assumption | with_reducible exact Go.Vc.hset_same _ _ _ | with_reducible refine (Go.Vc.hset_ne _ _ (by omega)).trans ?_)); done)); (focus exact rfl); (focus exact rfl); (focus exact rfl); rintro _ rfl; conv => whnf))
              refine ⟨.inr ⟨hfail, rfl⟩, ?_, by omega⟩
              intro b o hb
              have := hd b o hb
              repeat rw [hset_ne _ _ (by omega)]
              exact eS _ _ hb
end Go.Proofs.YtlkpgjicpjjlcaaGreatDoor
