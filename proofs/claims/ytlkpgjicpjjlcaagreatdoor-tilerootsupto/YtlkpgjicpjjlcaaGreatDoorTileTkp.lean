import Derived.Test.YtlkpgjicpjjlcaaGreatDoorTileTk
/- TakePath. -/
set_option linter.unusedSimpArgs false
namespace Go.Proofs.YtlkpgjicpjjlcaaGreatDoor
open Go Go.Vc Go.Tile
set_option maxRecDepth 20000
set_option maxHeartbeats 4000000
set_option linter.unusedVariables false
def TakeRes (s : ByteArray) (v : Value) : Prop := (∃ lv ix wd, RightC lv ix wd ∧ pathS lv ix wd = s ∧ v = .tuple #[coordV lv ix wd, .int .i64 0]) ∨ ((∀ lv ix wd, RightC lv ix wd → pathS lv ix wd ≠ s) ∧ v = .tuple #[coordV 0 0 0, .int .i64 2])
theorem takepath_spec {h : Heap} {t : Nat} (s : ByteArray) (hs : s.size ≤ 1048576) (hM : MaxC h) :
    CallSpec Tryz.prog 11 #[.string s] h t (fun v h' t' => TakeRes s v ∧ Vc.Sub h h' ∧ t ≤ t') := by
  refine Go.Vc.spec_of_vc (fn := Tryz.f11) Tryz.func11 rfl (by kernel_rfl) (by kernel_rfl) (Nat.le_of_ble_eq_true rfl) ?_
  intro hd
  have hsl : s.data.toList.length = s.size := rfl
  conv => whnf
  repeat (first | ((with_reducible apply Go.Vc.strow); (focus ((repeat (first | with_reducible assumption | with_reducible exact Go.Vc.hset_same _ _ _ | with_reducible refine (Go.Vc.hset_ne _ _ (by omega)).trans ?_)); done)); (focus exact rfl); (focus exact rfl); (focus exact rfl); rintro _ rfl; conv => whnf) | (intro _ _; conv => whnf))
  rename_i r2 hr2 r4 hr4
  refine (cutprefix_spec s tileB).mono ?_
  rintro _ g t1 hd1 _ ⟨rfl, hg, rfl⟩
  have hsub : Vc.Sub h g := by
    intro b o hb
    have := hd b o hb
    rw [hg]
    repeat rw [hset_ne _ _ (by omega)]
    exact hb
  have g2 : g r2 = some (.cells #[.int .i64 0, .int .i64 0, .int .i64 0] 23 (0, 0)) := by
    rw [hg]
    repeat rw [hset_ne _ _ (by omega)]
    rw [hset_same]
    rfl
  have g4 : g r4 = some (.cells #[.int .i64 0, .int .i64 0, .int .i64 0] 23 (0, 0)) := by
    rw [hg, hset_same]
    rfl
  clear hg
  conv => whnf
  by_cases hpre : Lib.hasPrefix s.data.toList tileB.data.toList = true
  · rw [hpre]
    obtain ⟨P1, hP1⟩ : ∃ P1, P1 = Lib.trimPrefix s.data.toList tileB.data.toList := ⟨_, rfl⟩
    have hP1l : P1.length ≤ s.size := by rw [hP1]; exact trimPrefix_len
    rw [← hP1]
    conv => whnf
    refine (cut_spec ⟨P1.toArray⟩ ⟨#[47]⟩ (by rw [mk_size]; omega) (hM.sub hsub)).mono ?_
    rintro _ g5 t5 hd5 _ ⟨rfl, rfl, rfl⟩
    obtain ⟨l1, l2, b1, hC1⟩ : ∃ l1 l2 b1, Lib.cut P1 [47] = (l1, l2, b1) := ⟨_, _, _, rfl⟩
    have hC1l := cut_len (s := P1) (p := [47])
    rw [show (⟨P1.toArray⟩ : ByteArray).data.toList = P1 from rfl, show (⟨#[47]⟩ : ByteArray).data.toList = [47] from rfl, hC1]
    rw [hC1] at hC1l
    dsimp only at hC1l ⊢
    conv => whnf
    repeat (first | ((with_reducible apply Go.Vc.strow); (focus ((repeat (first | with_reducible assumption | with_reducible exact Go.Vc.hset_same _ _ _ | with_reducible refine (Go.Vc.hset_ne _ _ (by omega)).trans ?_)); done)); (focus exact rfl); (focus exact rfl); (focus exact rfl); rintro _ rfl; conv => whnf) | (intro _ _; conv => whnf))
    rename_i r8 hr8
    refine br (fun hdt => ?_) (fun hdt => ?_)
    · have hl1z : l1.length ≤ 1048576 := by omega
      conv => whnf
      refine (takenumber_spec ⟨l1.toArray⟩ (by rw [mk_size]; omega)).mono ?_
      rintro _ Gb Tb hDb hTb ⟨n1, is1, rfl, hn10, hn11, hn1k, hsb, _⟩
      have hb8 := hsb _ _ (hset_same _ _ _)
      have hb2 : Gb r2 = some (.cells #[.int .i64 0, .int .i64 0, .int .i64 0] 23 (0, 0)) := hsb _ _ (by rw [hset_ne _ _ (by omega), hset_ne _ _ (by omega)]; exact g2)
      have hb4 : Gb r4 = some (.cells #[.int .i64 0, .int .i64 0, .int .i64 0] 23 (0, 0)) := hsb _ _ (by rw [hset_ne _ _ (by omega), hset_ne _ _ (by omega)]; exact g4)
      have hbase : Vc.Sub h Gb := fun b o hb => hsb _ _ (by
        have := hd b o hb
        rw [hset_ne _ _ (by omega), hset_ne _ _ (by omega)]
        exact hsub _ _ hb)
      obtain ⟨lvv, hlv⟩ : ∃ x, n1 = x := ⟨_, rfl⟩
      cases b1
      · have hTk : TkL l1 false lvv false := tkL_no
        conv => whnf
        repeat (first | ((with_reducible apply Go.Vc.st_i); (focus ((repeat (first | with_reducible assumption | with_reducible exact Go.Vc.hset_same _ _ _ | with_reducible refine (Go.Vc.hset_ne _ _ (by omega)).trans ?_)); done)); (focus exact rfl); (focus exact rfl); (focus exact rfl); (conv => whnf); intro cA hcA; (first | (simp only [List.setIfInBounds_toArray, List.set_cons_succ, List.set_cons_zero] at hcA; subst hcA) | subst hcA); conv => whnf))
        refine (cut_spec ⟨l2.toArray⟩ ⟨#[46, 112, 47]⟩ (by rw [mk_size]; omega) (hM.sub (by
          intro b o hb
          have := hd b o hb
          repeat rw [hset_ne _ _ (by omega)]
          exact hbase _ _ hb))).mono ?_
        rintro _ G T hD _ ⟨rfl, hG, rfl⟩
        have G2 : G r2 = some (.cells #[.int .i64 0, .int .i64 0, .int .i64 0] 23 (0, 0)) := by
          rw [hG]
          repeat rw [hset_ne _ _ (by omega)]
          exact hb2
        have G4 : G r4 = some (.cells #[.int .i64 0, .int .i64 0, .int .i64 0] 23 (0, 0)) := by
          rw [hG]
          repeat rw [hset_ne _ _ (by omega)]
          exact hb4
        have G8 : G r8 = some (.cells #[.int .i64 lvv, .int .i64 0, .int .i64 256] 23 (0, 0)) := by
          rw [hG, hset_same, hlv]
          rfl
        have GS : Vc.Sub h G := by
          intro b o hb
          have := hd b o hb
          rw [hG]
          repeat rw [hset_ne _ _ (by omega)]
          exact hbase _ _ hb
        clear hG
        obtain ⟨i1, w1, b2, hC2⟩ : ∃ i1 w1 b2, Lib.cut l2 ppB.data.toList = (i1, w1, b2) := ⟨_, _, _, rfl⟩
        have hC2l := cut_len (s := l2) (p := ppB.data.toList)
        rw [show (⟨l2.toArray⟩ : ByteArray).data.toList = l2 from rfl, show (⟨#[46, 112, 47]⟩ : ByteArray).data.toList = ppB.data.toList from rfl, hC2]
        rw [hC2] at hC2l
        dsimp only at hC2l ⊢
        have hC1s := hP1 ▸ hC1
        cases b2
        · obtain ⟨wdv, hwv⟩ : ∃ x : Int, 256 = x := ⟨_, rfl⟩
          have hfin := fun (n : Int) (is : Bool) (hI : TkI i1 n is) (lv ix wd : Int) (hR : RightC lv ix wd) (he : pathS lv ix wd = s) => take_good hC1s hC2 hTk tkW_none hI hR he
          rw [hwv] at hfin
          have hc2 := G2
          have hc4 := G4
          have hc8 := G8
          have hbs := GS
          conv => whnf
          repeat (first | (intro _ _; conv => whnf))
          rename_i rS hrS
          refine (newreplacer_spec (hset_same _ _ _)).mono ?_
          rintro _ N TN hDN hTN ⟨rr, cc, aa, rfl, hrr, hslo, hcc, hab, hrt, hrt2, hsN⟩
          have n2' : N r2 = some (.cells #[.int .i64 0, .int .i64 0, .int .i64 0] 23 (0, 0)) := hsN _ _ (by
            repeat rw [hset_ne _ _ (by omega)]
            exact hc2)
          have n4' : N r4 = some (.cells #[.int .i64 0, .int .i64 0, .int .i64 0] 23 (0, 0)) := hsN _ _ (by
            repeat rw [hset_ne _ _ (by omega)]
            exact hc4)
          have n8' : N r8 = some (.cells #[.int .i64 lvv, .int .i64 0, .int .i64 wdv] 23 (0, 0)) := hsN _ _ (by
            rw [hset_ne _ _ (by omega), ← hwv]
            first
            | exact hc8
            | exact hset_same _ _ _)
          have nS : Vc.Sub h N := fun b o hb => hsN _ _ (by
            have := hd b o hb
            repeat rw [hset_ne _ _ (by omega)]
            exact hbs _ _ hb)
          conv => whnf
          refine (replace_spec ⟨i1.toArray⟩ (by rw [mk_size]; omega) hrr hslo hcc hab).mono ?_
          rintro _ M TM hDM hTM ⟨rfl, hfM, _⟩
          have m2 := hfM r2 _ (by omega) n2'
          have m4 := hfM r4 _ (by omega) n4'
          have m8 := hfM r8 _ (by omega) n8'
          have mS : Vc.Sub h M := fun b o hb => hfM b o (by have := hd b o hb; omega) (nS b o hb)
          rw [show (⟨i1.toArray⟩ : ByteArray).data.toList = i1 from rfl]
          conv => whnf
          refine (trimleft_spec _ 48 (by decide)).mono ?_
          rintro _ M2 TM2 hDM2 hTM2 ⟨rfl, rfl, rfl⟩
          rw [show (⟨(keptL i1).toArray⟩ : ByteArray).data.toList = keptL i1 from rfl]
          have hDl : (Lib.trimLeftB (keptL i1) 48).length ≤ 1048576 := by
            have h1 := trimLeft_len (s := keptL i1) (c := 48)
            have h2 : (keptL i1).length ≤ i1.length := List.length_filter_le _ _
            omega
          conv => whnf
          refine br (fun hz => ?_) (fun hz => ?_)
          · conv => whnf
            refine (takenumber_spec ⟨#[48]⟩ (by decide)).mono ?_
            rintro _ F TF hDF hTF ⟨n3, is3, rfl, hn30, hn31, hn3k, hsF, _⟩
            have hI : TkI i1 n3 is3 := tkI_zero (congrArg (fun x : ByteArray => x.data.toList) hz) hn3k
            have f2 := hsF _ _ m2
            have f4 := hsF _ _ m4
            have f8 := hsF _ _ m8
            have fS := mS.trans hsF
            have hgood := hfin n3 is3 hI
            conv => whnf
            repeat (first | ((with_reducible apply Go.Vc.ldrow); (focus ((repeat (first | with_reducible assumption | with_reducible exact Go.Vc.hset_same _ _ _ | with_reducible refine (Go.Vc.hset_ne _ _ (by omega)).trans ?_)); done)); (focus exact rfl); rintro _ rfl; conv => whnf) | ((with_reducible apply Go.Vc.st_i); (focus ((repeat (first | with_reducible assumption | with_reducible exact Go.Vc.hset_same _ _ _ | with_reducible refine (Go.Vc.hset_ne _ _ (by omega)).trans ?_)); done)); (focus exact rfl); (focus exact rfl); (focus exact rfl); (conv => whnf); intro cA hcA; (first | (simp only [List.setIfInBounds_toArray, List.set_cons_succ, List.set_cons_zero] at hcA; subst hcA) | subst hcA); conv => whnf))
            by_cases hR : RightC lvv n3 wdv
            · refine (path_spec lvv n3 wdv hR).mono ?_
              rintro _ E TE hDE hTE ⟨rfl, hsE, _⟩
              have e2 := hsE r2 _ ((hset_ne _ _ (by omega)).trans f2)
              have e4 := hsE r4 _ ((hset_ne _ _ (by omega)).trans f4)
              have e8 := hsE r8 _ (hset_same _ _ _)
              have eS : Vc.Sub h E := fun b o hb => hsE _ _ (by
                have := hd b o hb
                rw [hset_ne _ _ (by omega)]
                exact fS _ _ hb)
              cases is3
              · conv => whnf
                repeat (first | ((with_reducible apply Go.Vc.ldrow); (focus ((repeat (first | with_reducible assumption | with_reducible exact Go.Vc.hset_same _ _ _ | with_reducible refine (Go.Vc.hset_ne _ _ (by omega)).trans ?_)); done)); (focus exact rfl); rintro _ rfl; conv => whnf) | ((with_reducible apply Go.Vc.strow); (focus ((repeat (first | with_reducible assumption | with_reducible exact Go.Vc.hset_same _ _ _ | with_reducible refine (Go.Vc.hset_ne _ _ (by omega)).trans ?_)); done)); (focus exact rfl); (focus exact rfl); (focus exact rfl); rintro _ rfl; conv => whnf))
                refine ⟨.inr ⟨take_no hgood (by first | exact .inl rfl | exact .inr (.inl rfl) | exact .inr (.inr (.inl hR)) | exact .inr (.inr (.inr hts))), rfl⟩, ?_, by omega⟩
                intro b o hb
                have := hd b o hb
                repeat rw [hset_ne _ _ (by omega)]
                exact eS _ _ hb
              · conv => whnf
                repeat (first | ((with_reducible apply Go.Vc.ldrow); (focus ((repeat (first | with_reducible assumption | with_reducible exact Go.Vc.hset_same _ _ _ | with_reducible refine (Go.Vc.hset_ne _ _ (by omega)).trans ?_)); done)); (focus exact rfl); rintro _ rfl; conv => whnf) | ((with_reducible apply Go.Vc.strow); (focus ((repeat (first | with_reducible assumption | with_reducible exact Go.Vc.hset_same _ _ _ | with_reducible refine (Go.Vc.hset_ne _ _ (by omega)).trans ?_)); done)); (focus exact rfl); (focus exact rfl); (focus exact rfl); rintro _ rfl; conv => whnf))
                first
                | refine ⟨.inr ⟨take_no hgood (by first | exact .inl rfl | exact .inr (.inl rfl) | exact .inr (.inr (.inl hR)) | exact .inr (.inr (.inr hts))), rfl⟩, ?_, by omega⟩
                  intro b o hb
                  have := hd b o hb
                  repeat rw [hset_ne _ _ (by omega)]
                  exact eS _ _ hb
                | refine br (fun hts => ?_) (fun hts => ?_)
                  · conv => whnf
                    refine ⟨.inr ⟨take_no hgood (by first | exact .inl rfl | exact .inr (.inl rfl) | exact .inr (.inr (.inl hR)) | exact .inr (.inr (.inr hts))), rfl⟩, ?_, by omega⟩
                    intro b o hb
                    have := hd b o hb
                    repeat rw [hset_ne _ _ (by omega)]
                    exact eS _ _ hb
                  · conv => whnf
                    refine ⟨.inl ⟨lvv, n3, wdv, hR, Classical.not_not.1 hts, rfl⟩, ?_, by omega⟩
                    intro b o hb
                    have := hd b o hb
                    repeat rw [hset_ne _ _ (by omega)]
                    exact eS _ _ hb
            · refine (path_no lvv n3 wdv hR).mono ?_
              rintro _ E TE hDE hTE ⟨rfl, hsE, _⟩
              have e2 := hsE r2 _ ((hset_ne _ _ (by omega)).trans f2)
              have e4 := hsE r4 _ ((hset_ne _ _ (by omega)).trans f4)
              have e8 := hsE r8 _ (hset_same _ _ _)
              have eS : Vc.Sub h E := fun b o hb => hsE _ _ (by
                have := hd b o hb
                rw [hset_ne _ _ (by omega)]
                exact fS _ _ hb)
              cases is3
              · conv => whnf
                repeat (first | ((with_reducible apply Go.Vc.ldrow); (focus ((repeat (first | with_reducible assumption | with_reducible exact Go.Vc.hset_same _ _ _ | with_reducible refine (Go.Vc.hset_ne _ _ (by omega)).trans ?_)); done)); (focus exact rfl); rintro _ rfl; conv => whnf) | ((with_reducible apply Go.Vc.strow); (focus ((repeat (first | with_reducible assumption | with_reducible exact Go.Vc.hset_same _ _ _ | with_reducible refine (Go.Vc.hset_ne _ _ (by omega)).trans ?_)); done)); (focus exact rfl); (focus exact rfl); (focus exact rfl); rintro _ rfl; conv => whnf))
                refine ⟨.inr ⟨take_no hgood (by first | exact .inl rfl | exact .inr (.inl rfl) | exact .inr (.inr (.inl hR)) | exact .inr (.inr (.inr hts))), rfl⟩, ?_, by omega⟩
                intro b o hb
                have := hd b o hb
                repeat rw [hset_ne _ _ (by omega)]
                exact eS _ _ hb
              · conv => whnf
                repeat (first | ((with_reducible apply Go.Vc.ldrow); (focus ((repeat (first | with_reducible assumption | with_reducible exact Go.Vc.hset_same _ _ _ | with_reducible refine (Go.Vc.hset_ne _ _ (by omega)).trans ?_)); done)); (focus exact rfl); rintro _ rfl; conv => whnf) | ((with_reducible apply Go.Vc.strow); (focus ((repeat (first | with_reducible assumption | with_reducible exact Go.Vc.hset_same _ _ _ | with_reducible refine (Go.Vc.hset_ne _ _ (by omega)).trans ?_)); done)); (focus exact rfl); (focus exact rfl); (focus exact rfl); rintro _ rfl; conv => whnf))
                refine ⟨.inr ⟨take_no hgood (by first | exact .inl rfl | exact .inr (.inl rfl) | exact .inr (.inr (.inl hR)) | exact .inr (.inr (.inr hts))), rfl⟩, ?_, by omega⟩
                intro b o hb
                have := hd b o hb
                repeat rw [hset_ne _ _ (by omega)]
                exact eS _ _ hb
          · conv => whnf
            refine (takenumber_spec ⟨(Lib.trimLeftB (keptL i1) 48).toArray⟩ (by rw [mk_size]; exact hDl)).mono ?_
            rintro _ F TF hDF hTF ⟨n3, is3, rfl, hn30, hn31, hn3k, hsF, _⟩
            have hI : TkI i1 n3 is3 := tkI_num (fun e => hz (by rw [e])) hn3k
            have f2 := hsF _ _ m2
            have f4 := hsF _ _ m4
            have f8 := hsF _ _ m8
            have fS := mS.trans hsF
            have hgood := hfin n3 is3 hI
            conv => whnf
            repeat (first | ((with_reducible apply Go.Vc.ldrow); (focus ((repeat (first | with_reducible assumption | with_reducible exact Go.Vc.hset_same _ _ _ | with_reducible refine (Go.Vc.hset_ne _ _ (by omega)).trans ?_)); done)); (focus exact rfl); rintro _ rfl; conv => whnf) | ((with_reducible apply Go.Vc.st_i); (focus ((repeat (first | with_reducible assumption | with_reducible exact Go.Vc.hset_same _ _ _ | with_reducible refine (Go.Vc.hset_ne _ _ (by omega)).trans ?_)); done)); (focus exact rfl); (focus exact rfl); (focus exact rfl); (conv => whnf); intro cA hcA; (first | (simp only [List.setIfInBounds_toArray, List.set_cons_succ, List.set_cons_zero] at hcA; subst hcA) | subst hcA); conv => whnf))
            by_cases hR : RightC lvv n3 wdv
            · refine (path_spec lvv n3 wdv hR).mono ?_
              rintro _ E TE hDE hTE ⟨rfl, hsE, _⟩
              have e2 := hsE r2 _ ((hset_ne _ _ (by omega)).trans f2)
              have e4 := hsE r4 _ ((hset_ne _ _ (by omega)).trans f4)
              have e8 := hsE r8 _ (hset_same _ _ _)
              have eS : Vc.Sub h E := fun b o hb => hsE _ _ (by
                have := hd b o hb
                rw [hset_ne _ _ (by omega)]
                exact fS _ _ hb)
              cases is3
              · conv => whnf
                repeat (first | ((with_reducible apply Go.Vc.ldrow); (focus ((repeat (first | with_reducible assumption | with_reducible exact Go.Vc.hset_same _ _ _ | with_reducible refine (Go.Vc.hset_ne _ _ (by omega)).trans ?_)); done)); (focus exact rfl); rintro _ rfl; conv => whnf) | ((with_reducible apply Go.Vc.strow); (focus ((repeat (first | with_reducible assumption | with_reducible exact Go.Vc.hset_same _ _ _ | with_reducible refine (Go.Vc.hset_ne _ _ (by omega)).trans ?_)); done)); (focus exact rfl); (focus exact rfl); (focus exact rfl); rintro _ rfl; conv => whnf))
                refine ⟨.inr ⟨take_no hgood (by first | exact .inl rfl | exact .inr (.inl rfl) | exact .inr (.inr (.inl hR)) | exact .inr (.inr (.inr hts))), rfl⟩, ?_, by omega⟩
                intro b o hb
                have := hd b o hb
                repeat rw [hset_ne _ _ (by omega)]
                exact eS _ _ hb
              · conv => whnf
                repeat (first | ((with_reducible apply Go.Vc.ldrow); (focus ((repeat (first | with_reducible assumption | with_reducible exact Go.Vc.hset_same _ _ _ | with_reducible refine (Go.Vc.hset_ne _ _ (by omega)).trans ?_)); done)); (focus exact rfl); rintro _ rfl; conv => whnf) | ((with_reducible apply Go.Vc.strow); (focus ((repeat (first | with_reducible assumption | with_reducible exact Go.Vc.hset_same _ _ _ | with_reducible refine (Go.Vc.hset_ne _ _ (by omega)).trans ?_)); done)); (focus exact rfl); (focus exact rfl); (focus exact rfl); rintro _ rfl; conv => whnf))
                first
                | refine ⟨.inr ⟨take_no hgood (by first | exact .inl rfl | exact .inr (.inl rfl) | exact .inr (.inr (.inl hR)) | exact .inr (.inr (.inr hts))), rfl⟩, ?_, by omega⟩
                  intro b o hb
                  have := hd b o hb
                  repeat rw [hset_ne _ _ (by omega)]
                  exact eS _ _ hb
                | refine br (fun hts => ?_) (fun hts => ?_)
                  · conv => whnf
                    refine ⟨.inr ⟨take_no hgood (by first | exact .inl rfl | exact .inr (.inl rfl) | exact .inr (.inr (.inl hR)) | exact .inr (.inr (.inr hts))), rfl⟩, ?_, by omega⟩
                    intro b o hb
                    have := hd b o hb
                    repeat rw [hset_ne _ _ (by omega)]
                    exact eS _ _ hb
                  · conv => whnf
                    refine ⟨.inl ⟨lvv, n3, wdv, hR, Classical.not_not.1 hts, rfl⟩, ?_, by omega⟩
                    intro b o hb
                    have := hd b o hb
                    repeat rw [hset_ne _ _ (by omega)]
                    exact eS _ _ hb
            · refine (path_no lvv n3 wdv hR).mono ?_
              rintro _ E TE hDE hTE ⟨rfl, hsE, _⟩
              have e2 := hsE r2 _ ((hset_ne _ _ (by omega)).trans f2)
              have e4 := hsE r4 _ ((hset_ne _ _ (by omega)).trans f4)
              have e8 := hsE r8 _ (hset_same _ _ _)
              have eS : Vc.Sub h E := fun b o hb => hsE _ _ (by
                have := hd b o hb
                rw [hset_ne _ _ (by omega)]
                exact fS _ _ hb)
              cases is3
              · conv => whnf
                repeat (first | ((with_reducible apply Go.Vc.ldrow); (focus ((repeat (first | with_reducible assumption | with_reducible exact Go.Vc.hset_same _ _ _ | with_reducible refine (Go.Vc.hset_ne _ _ (by omega)).trans ?_)); done)); (focus exact rfl); rintro _ rfl; conv => whnf) | ((with_reducible apply Go.Vc.strow); (focus ((repeat (first | with_reducible assumption | with_reducible exact Go.Vc.hset_same _ _ _ | with_reducible refine (Go.Vc.hset_ne _ _ (by omega)).trans ?_)); done)); (focus exact rfl); (focus exact rfl); (focus exact rfl); rintro _ rfl; conv => whnf))
                refine ⟨.inr ⟨take_no hgood (by first | exact .inl rfl | exact .inr (.inl rfl) | exact .inr (.inr (.inl hR)) | exact .inr (.inr (.inr hts))), rfl⟩, ?_, by omega⟩
                intro b o hb
                have := hd b o hb
                repeat rw [hset_ne _ _ (by omega)]
                exact eS _ _ hb
              · conv => whnf
                repeat (first | ((with_reducible apply Go.Vc.ldrow); (focus ((repeat (first | with_reducible assumption | with_reducible exact Go.Vc.hset_same _ _ _ | with_reducible refine (Go.Vc.hset_ne _ _ (by omega)).trans ?_)); done)); (focus exact rfl); rintro _ rfl; conv => whnf) | ((with_reducible apply Go.Vc.strow); (focus ((repeat (first | with_reducible assumption | with_reducible exact Go.Vc.hset_same _ _ _ | with_reducible refine (Go.Vc.hset_ne _ _ (by omega)).trans ?_)); done)); (focus exact rfl); (focus exact rfl); (focus exact rfl); rintro _ rfl; conv => whnf))
                refine ⟨.inr ⟨take_no hgood (by first | exact .inl rfl | exact .inr (.inl rfl) | exact .inr (.inr (.inl hR)) | exact .inr (.inr (.inr hts))), rfl⟩, ?_, by omega⟩
                intro b o hb
                have := hd b o hb
                repeat rw [hset_ne _ _ (by omega)]
                exact eS _ _ hb
        · conv => whnf
          refine (takenumber_spec ⟨w1.toArray⟩ (by rw [mk_size]; omega)).mono ?_
          rintro _ Gc Tc hDc hTc ⟨n2, is2, rfl, hn20, hn21, hn2k, hsc, _⟩
          have hc2 := hsc _ _ G2
          have hc4 := hsc _ _ G4
          have hc8 := hsc _ _ G8
          have hbs := GS.trans hsc
          obtain ⟨wdv, hwv⟩ : ∃ x : Int, n2 = x := ⟨_, rfl⟩
          cases is2
          · first
            | have hfin := fun (n : Int) (is : Bool) (hI : TkI i1 n is) (lv ix wd : Int) (hR : RightC lv ix wd) (he : pathS lv ix wd = s) => take_good hC1s hC2 hTk (tkW_num hn2k) hI hR he
            | have hfin := fun (n : Int) (is : Bool) (hI : TkI i1 n is) (lv ix wd : Int) (hR : RightC lv ix wd) (he : pathS lv ix wd = s) => take_good hC1s hC2 hTk (tkW_no (n := n2) (ok := false)) hI hR he
            rw [hwv] at hfin
            conv => whnf
            repeat (first | ((with_reducible apply Go.Vc.st_i); (focus ((repeat (first | with_reducible assumption | with_reducible exact Go.Vc.hset_same _ _ _ | with_reducible refine (Go.Vc.hset_ne _ _ (by omega)).trans ?_)); done)); (focus exact rfl); (focus exact rfl); (focus exact rfl); (conv => whnf); intro cA hcA; (first | (simp only [List.setIfInBounds_toArray, List.set_cons_succ, List.set_cons_zero] at hcA; subst hcA) | subst hcA); conv => whnf) | (intro _ _; conv => whnf))
            rename_i rS hrS
            refine (newreplacer_spec (hset_same _ _ _)).mono ?_
            rintro _ N TN hDN hTN ⟨rr, cc, aa, rfl, hrr, hslo, hcc, hab, hrt, hrt2, hsN⟩
            have n2' : N r2 = some (.cells #[.int .i64 0, .int .i64 0, .int .i64 0] 23 (0, 0)) := hsN _ _ (by
              repeat rw [hset_ne _ _ (by omega)]
              exact hc2)
            have n4' : N r4 = some (.cells #[.int .i64 0, .int .i64 0, .int .i64 0] 23 (0, 0)) := hsN _ _ (by
              repeat rw [hset_ne _ _ (by omega)]
              exact hc4)
            have n8' : N r8 = some (.cells #[.int .i64 lvv, .int .i64 0, .int .i64 wdv] 23 (0, 0)) := hsN _ _ (by
              rw [hset_ne _ _ (by omega), ← hwv]
              first
              | exact hc8
              | exact hset_same _ _ _)
            have nS : Vc.Sub h N := fun b o hb => hsN _ _ (by
              have := hd b o hb
              repeat rw [hset_ne _ _ (by omega)]
              exact hbs _ _ hb)
            conv => whnf
            refine (replace_spec ⟨i1.toArray⟩ (by rw [mk_size]; omega) hrr hslo hcc hab).mono ?_
            rintro _ M TM hDM hTM ⟨rfl, hfM, _⟩
            have m2 := hfM r2 _ (by omega) n2'
            have m4 := hfM r4 _ (by omega) n4'
            have m8 := hfM r8 _ (by omega) n8'
            have mS : Vc.Sub h M := fun b o hb => hfM b o (by have := hd b o hb; omega) (nS b o hb)
            rw [show (⟨i1.toArray⟩ : ByteArray).data.toList = i1 from rfl]
            conv => whnf
            refine (trimleft_spec _ 48 (by decide)).mono ?_
            rintro _ M2 TM2 hDM2 hTM2 ⟨rfl, rfl, rfl⟩
            rw [show (⟨(keptL i1).toArray⟩ : ByteArray).data.toList = keptL i1 from rfl]
            have hDl : (Lib.trimLeftB (keptL i1) 48).length ≤ 1048576 := by
              have h1 := trimLeft_len (s := keptL i1) (c := 48)
              have h2 : (keptL i1).length ≤ i1.length := List.length_filter_le _ _
              omega
            conv => whnf
            refine br (fun hz => ?_) (fun hz => ?_)
            · conv => whnf
              refine (takenumber_spec ⟨#[48]⟩ (by decide)).mono ?_
              rintro _ F TF hDF hTF ⟨n3, is3, rfl, hn30, hn31, hn3k, hsF, _⟩
              have hI : TkI i1 n3 is3 := tkI_zero (congrArg (fun x : ByteArray => x.data.toList) hz) hn3k
              have f2 := hsF _ _ m2
              have f4 := hsF _ _ m4
              have f8 := hsF _ _ m8
              have fS := mS.trans hsF
              have hgood := hfin n3 is3 hI
              conv => whnf
              repeat (first | ((with_reducible apply Go.Vc.ldrow); (focus ((repeat (first | with_reducible assumption | with_reducible exact Go.Vc.hset_same _ _ _ | with_reducible refine (Go.Vc.hset_ne _ _ (by omega)).trans ?_)); done)); (focus exact rfl); rintro _ rfl; conv => whnf) | ((with_reducible apply Go.Vc.st_i); (focus ((repeat (first | with_reducible assumption | with_reducible exact Go.Vc.hset_same _ _ _ | with_reducible refine (Go.Vc.hset_ne _ _ (by omega)).trans ?_)); done)); (focus exact rfl); (focus exact rfl); (focus exact rfl); (conv => whnf); intro cA hcA; (first | (simp only [List.setIfInBounds_toArray, List.set_cons_succ, List.set_cons_zero] at hcA; subst hcA) | subst hcA); conv => whnf))
              by_cases hR : RightC lvv n3 wdv
              · refine (path_spec lvv n3 wdv hR).mono ?_
                rintro _ E TE hDE hTE ⟨rfl, hsE, _⟩
                have e2 := hsE r2 _ ((hset_ne _ _ (by omega)).trans f2)
                have e4 := hsE r4 _ ((hset_ne _ _ (by omega)).trans f4)
                have e8 := hsE r8 _ (hset_same _ _ _)
                have eS : Vc.Sub h E := fun b o hb => hsE _ _ (by
                  have := hd b o hb
                  rw [hset_ne _ _ (by omega)]
                  exact fS _ _ hb)
                cases is3
                · conv => whnf
                  repeat (first | ((with_reducible apply Go.Vc.ldrow); (focus ((repeat (first | with_reducible assumption | with_reducible exact Go.Vc.hset_same _ _ _ | with_reducible refine (Go.Vc.hset_ne _ _ (by omega)).trans ?_)); done)); (focus exact rfl); rintro _ rfl; conv => whnf) | ((with_reducible apply Go.Vc.strow); (focus ((repeat (first | with_reducible assumption | with_reducible exact Go.Vc.hset_same _ _ _ | with_reducible refine (Go.Vc.hset_ne _ _ (by omega)).trans ?_)); done)); (focus exact rfl); (focus exact rfl); (focus exact rfl); rintro _ rfl; conv => whnf))
                  refine ⟨.inr ⟨take_no hgood (by first | exact .inl rfl | exact .inr (.inl rfl) | exact .inr (.inr (.inl hR)) | exact .inr (.inr (.inr hts))), rfl⟩, ?_, by omega⟩
                  intro b o hb
                  have := hd b o hb
                  repeat rw [hset_ne _ _ (by omega)]
                  exact eS _ _ hb
                · conv => whnf
                  repeat (first | ((with_reducible apply Go.Vc.ldrow); (focus ((repeat (first | with_reducible assumption | with_reducible exact Go.Vc.hset_same _ _ _ | with_reducible refine (Go.Vc.hset_ne _ _ (by omega)).trans ?_)); done)); (focus exact rfl); rintro _ rfl; conv => whnf) | ((with_reducible apply Go.Vc.strow); (focus ((repeat (first | with_reducible assumption | with_reducible exact Go.Vc.hset_same _ _ _ | with_reducible refine (Go.Vc.hset_ne _ _ (by omega)).trans ?_)); done)); (focus exact rfl); (focus exact rfl); (focus exact rfl); rintro _ rfl; conv => whnf))
                  first
                  | refine ⟨.inr ⟨take_no hgood (by first | exact .inl rfl | exact .inr (.inl rfl) | exact .inr (.inr (.inl hR)) | exact .inr (.inr (.inr hts))), rfl⟩, ?_, by omega⟩
                    intro b o hb
                    have := hd b o hb
                    repeat rw [hset_ne _ _ (by omega)]
                    exact eS _ _ hb
                  | refine br (fun hts => ?_) (fun hts => ?_)
                    · conv => whnf
                      refine ⟨.inr ⟨take_no hgood (by first | exact .inl rfl | exact .inr (.inl rfl) | exact .inr (.inr (.inl hR)) | exact .inr (.inr (.inr hts))), rfl⟩, ?_, by omega⟩
                      intro b o hb
                      have := hd b o hb
                      repeat rw [hset_ne _ _ (by omega)]
                      exact eS _ _ hb
                    · conv => whnf
                      refine ⟨.inl ⟨lvv, n3, wdv, hR, Classical.not_not.1 hts, rfl⟩, ?_, by omega⟩
                      intro b o hb
                      have := hd b o hb
                      repeat rw [hset_ne _ _ (by omega)]
                      exact eS _ _ hb
              · refine (path_no lvv n3 wdv hR).mono ?_
                rintro _ E TE hDE hTE ⟨rfl, hsE, _⟩
                have e2 := hsE r2 _ ((hset_ne _ _ (by omega)).trans f2)
                have e4 := hsE r4 _ ((hset_ne _ _ (by omega)).trans f4)
                have e8 := hsE r8 _ (hset_same _ _ _)
                have eS : Vc.Sub h E := fun b o hb => hsE _ _ (by
                  have := hd b o hb
                  rw [hset_ne _ _ (by omega)]
                  exact fS _ _ hb)
                cases is3
                · conv => whnf
                  repeat (first | ((with_reducible apply Go.Vc.ldrow); (focus ((repeat (first | with_reducible assumption | with_reducible exact Go.Vc.hset_same _ _ _ | with_reducible refine (Go.Vc.hset_ne _ _ (by omega)).trans ?_)); done)); (focus exact rfl); rintro _ rfl; conv => whnf) | ((with_reducible apply Go.Vc.strow); (focus ((repeat (first | with_reducible assumption | with_reducible exact Go.Vc.hset_same _ _ _ | with_reducible refine (Go.Vc.hset_ne _ _ (by omega)).trans ?_)); done)); (focus exact rfl); (focus exact rfl); (focus exact rfl); rintro _ rfl; conv => whnf))
                  refine ⟨.inr ⟨take_no hgood (by first | exact .inl rfl | exact .inr (.inl rfl) | exact .inr (.inr (.inl hR)) | exact .inr (.inr (.inr hts))), rfl⟩, ?_, by omega⟩
                  intro b o hb
                  have := hd b o hb
                  repeat rw [hset_ne _ _ (by omega)]
                  exact eS _ _ hb
                · conv => whnf
                  repeat (first | ((with_reducible apply Go.Vc.ldrow); (focus ((repeat (first | with_reducible assumption | with_reducible exact Go.Vc.hset_same _ _ _ | with_reducible refine (Go.Vc.hset_ne _ _ (by omega)).trans ?_)); done)); (focus exact rfl); rintro _ rfl; conv => whnf) | ((with_reducible apply Go.Vc.strow); (focus ((repeat (first | with_reducible assumption | with_reducible exact Go.Vc.hset_same _ _ _ | with_reducible refine (Go.Vc.hset_ne _ _ (by omega)).trans ?_)); done)); (focus exact rfl); (focus exact rfl); (focus exact rfl); rintro _ rfl; conv => whnf))
                  refine ⟨.inr ⟨take_no hgood (by first | exact .inl rfl | exact .inr (.inl rfl) | exact .inr (.inr (.inl hR)) | exact .inr (.inr (.inr hts))), rfl⟩, ?_, by omega⟩
                  intro b o hb
                  have := hd b o hb
                  repeat rw [hset_ne _ _ (by omega)]
                  exact eS _ _ hb
            · conv => whnf
              refine (takenumber_spec ⟨(Lib.trimLeftB (keptL i1) 48).toArray⟩ (by rw [mk_size]; exact hDl)).mono ?_
              rintro _ F TF hDF hTF ⟨n3, is3, rfl, hn30, hn31, hn3k, hsF, _⟩
              have hI : TkI i1 n3 is3 := tkI_num (fun e => hz (by rw [e])) hn3k
              have f2 := hsF _ _ m2
              have f4 := hsF _ _ m4
              have f8 := hsF _ _ m8
              have fS := mS.trans hsF
              have hgood := hfin n3 is3 hI
              conv => whnf
              repeat (first | ((with_reducible apply Go.Vc.ldrow); (focus ((repeat (first | with_reducible assumption | with_reducible exact Go.Vc.hset_same _ _ _ | with_reducible refine (Go.Vc.hset_ne _ _ (by omega)).trans ?_)); done)); (focus exact rfl); rintro _ rfl; conv => whnf) | ((with_reducible apply Go.Vc.st_i); (focus ((repeat (first | with_reducible assumption | with_reducible exact Go.Vc.hset_same _ _ _ | with_reducible refine (Go.Vc.hset_ne _ _ (by omega)).trans ?_)); done)); (focus exact rfl); (focus exact rfl); (focus exact rfl); (conv => whnf); intro cA hcA; (first | (simp only [List.setIfInBounds_toArray, List.set_cons_succ, List.set_cons_zero] at hcA; subst hcA) | subst hcA); conv => whnf))
              by_cases hR : RightC lvv n3 wdv
              · refine (path_spec lvv n3 wdv hR).mono ?_
                rintro _ E TE hDE hTE ⟨rfl, hsE, _⟩
                have e2 := hsE r2 _ ((hset_ne _ _ (by omega)).trans f2)
                have e4 := hsE r4 _ ((hset_ne _ _ (by omega)).trans f4)
                have e8 := hsE r8 _ (hset_same _ _ _)
                have eS : Vc.Sub h E := fun b o hb => hsE _ _ (by
                  have := hd b o hb
                  rw [hset_ne _ _ (by omega)]
                  exact fS _ _ hb)
                cases is3
                · conv => whnf
                  repeat (first | ((with_reducible apply Go.Vc.ldrow); (focus ((repeat (first | with_reducible assumption | with_reducible exact Go.Vc.hset_same _ _ _ | with_reducible refine (Go.Vc.hset_ne _ _ (by omega)).trans ?_)); done)); (focus exact rfl); rintro _ rfl; conv => whnf) | ((with_reducible apply Go.Vc.strow); (focus ((repeat (first | with_reducible assumption | with_reducible exact Go.Vc.hset_same _ _ _ | with_reducible refine (Go.Vc.hset_ne _ _ (by omega)).trans ?_)); done)); (focus exact rfl); (focus exact rfl); (focus exact rfl); rintro _ rfl; conv => whnf))
                  refine ⟨.inr ⟨take_no hgood (by first | exact .inl rfl | exact .inr (.inl rfl) | exact .inr (.inr (.inl hR)) | exact .inr (.inr (.inr hts))), rfl⟩, ?_, by omega⟩
                  intro b o hb
                  have := hd b o hb
                  repeat rw [hset_ne _ _ (by omega)]
                  exact eS _ _ hb
                · conv => whnf
                  repeat (first | ((with_reducible apply Go.Vc.ldrow); (focus ((repeat (first | with_reducible assumption | with_reducible exact Go.Vc.hset_same _ _ _ | with_reducible refine (Go.Vc.hset_ne _ _ (by omega)).trans ?_)); done)); (focus exact rfl); rintro _ rfl; conv => whnf) | ((with_reducible apply Go.Vc.strow); (focus ((repeat (first | with_reducible assumption | with_reducible exact Go.Vc.hset_same _ _ _ | with_reducible refine (Go.Vc.hset_ne _ _ (by omega)).trans ?_)); done)); (focus exact rfl); (focus exact rfl); (focus exact rfl); rintro _ rfl; conv => whnf))
                  first
                  | refine ⟨.inr ⟨take_no hgood (by first | exact .inl rfl | exact .inr (.inl rfl) | exact .inr (.inr (.inl hR)) | exact .inr (.inr (.inr hts))), rfl⟩, ?_, by omega⟩
                    intro b o hb
                    have := hd b o hb
                    repeat rw [hset_ne _ _ (by omega)]
                    exact eS _ _ hb
                  | refine br (fun hts => ?_) (fun hts => ?_)
                    · conv => whnf
                      refine ⟨.inr ⟨take_no hgood (by first | exact .inl rfl | exact .inr (.inl rfl) | exact .inr (.inr (.inl hR)) | exact .inr (.inr (.inr hts))), rfl⟩, ?_, by omega⟩
                      intro b o hb
                      have := hd b o hb
                      repeat rw [hset_ne _ _ (by omega)]
                      exact eS _ _ hb
                    · conv => whnf
                      refine ⟨.inl ⟨lvv, n3, wdv, hR, Classical.not_not.1 hts, rfl⟩, ?_, by omega⟩
                      intro b o hb
                      have := hd b o hb
                      repeat rw [hset_ne _ _ (by omega)]
                      exact eS _ _ hb
              · refine (path_no lvv n3 wdv hR).mono ?_
                rintro _ E TE hDE hTE ⟨rfl, hsE, _⟩
                have e2 := hsE r2 _ ((hset_ne _ _ (by omega)).trans f2)
                have e4 := hsE r4 _ ((hset_ne _ _ (by omega)).trans f4)
                have e8 := hsE r8 _ (hset_same _ _ _)
                have eS : Vc.Sub h E := fun b o hb => hsE _ _ (by
                  have := hd b o hb
                  rw [hset_ne _ _ (by omega)]
                  exact fS _ _ hb)
                cases is3
                · conv => whnf
                  repeat (first | ((with_reducible apply Go.Vc.ldrow); (focus ((repeat (first | with_reducible assumption | with_reducible exact Go.Vc.hset_same _ _ _ | with_reducible refine (Go.Vc.hset_ne _ _ (by omega)).trans ?_)); done)); (focus exact rfl); rintro _ rfl; conv => whnf) | ((with_reducible apply Go.Vc.strow); (focus ((repeat (first | with_reducible assumption | with_reducible exact Go.Vc.hset_same _ _ _ | with_reducible refine (Go.Vc.hset_ne _ _ (by omega)).trans ?_)); done)); (focus exact rfl); (focus exact rfl); (focus exact rfl); rintro _ rfl; conv => whnf))
                  refine ⟨.inr ⟨take_no hgood (by first | exact .inl rfl | exact .inr (.inl rfl) | exact .inr (.inr (.inl hR)) | exact .inr (.inr (.inr hts))), rfl⟩, ?_, by omega⟩
                  intro b o hb
                  have := hd b o hb
                  repeat rw [hset_ne _ _ (by omega)]
                  exact eS _ _ hb
                · conv => whnf
                  repeat (first | ((with_reducible apply Go.Vc.ldrow); (focus ((repeat (first | with_reducible assumption | with_reducible exact Go.Vc.hset_same _ _ _ | with_reducible refine (Go.Vc.hset_ne _ _ (by omega)).trans ?_)); done)); (focus exact rfl); rintro _ rfl; conv => whnf) | ((with_reducible apply Go.Vc.strow); (focus ((repeat (first | with_reducible assumption | with_reducible exact Go.Vc.hset_same _ _ _ | with_reducible refine (Go.Vc.hset_ne _ _ (by omega)).trans ?_)); done)); (focus exact rfl); (focus exact rfl); (focus exact rfl); rintro _ rfl; conv => whnf))
                  refine ⟨.inr ⟨take_no hgood (by first | exact .inl rfl | exact .inr (.inl rfl) | exact .inr (.inr (.inl hR)) | exact .inr (.inr (.inr hts))), rfl⟩, ?_, by omega⟩
                  intro b o hb
                  have := hd b o hb
                  repeat rw [hset_ne _ _ (by omega)]
                  exact eS _ _ hb
          · first
            | have hfin := fun (n : Int) (is : Bool) (hI : TkI i1 n is) (lv ix wd : Int) (hR : RightC lv ix wd) (he : pathS lv ix wd = s) => take_good hC1s hC2 hTk (tkW_num hn2k) hI hR he
            | have hfin := fun (n : Int) (is : Bool) (hI : TkI i1 n is) (lv ix wd : Int) (hR : RightC lv ix wd) (he : pathS lv ix wd = s) => take_good hC1s hC2 hTk (tkW_no (n := n2) (ok := false)) hI hR he
            rw [hwv] at hfin
            conv => whnf
            repeat (first | ((with_reducible apply Go.Vc.st_i); (focus ((repeat (first | with_reducible assumption | with_reducible exact Go.Vc.hset_same _ _ _ | with_reducible refine (Go.Vc.hset_ne _ _ (by omega)).trans ?_)); done)); (focus exact rfl); (focus exact rfl); (focus exact rfl); (conv => whnf); intro cA hcA; (first | (simp only [List.setIfInBounds_toArray, List.set_cons_succ, List.set_cons_zero] at hcA; subst hcA) | subst hcA); conv => whnf) | (intro _ _; conv => whnf))
            rename_i rS hrS
            refine (newreplacer_spec (hset_same _ _ _)).mono ?_
            rintro _ N TN hDN hTN ⟨rr, cc, aa, rfl, hrr, hslo, hcc, hab, hrt, hrt2, hsN⟩
            have n2' : N r2 = some (.cells #[.int .i64 0, .int .i64 0, .int .i64 0] 23 (0, 0)) := hsN _ _ (by
              repeat rw [hset_ne _ _ (by omega)]
              exact hc2)
            have n4' : N r4 = some (.cells #[.int .i64 0, .int .i64 0, .int .i64 0] 23 (0, 0)) := hsN _ _ (by
              repeat rw [hset_ne _ _ (by omega)]
              exact hc4)
            have n8' : N r8 = some (.cells #[.int .i64 lvv, .int .i64 0, .int .i64 wdv] 23 (0, 0)) := hsN _ _ (by
              rw [hset_ne _ _ (by omega), ← hwv]
              first
              | exact hc8
              | exact hset_same _ _ _)
            have nS : Vc.Sub h N := fun b o hb => hsN _ _ (by
              have := hd b o hb
              repeat rw [hset_ne _ _ (by omega)]
              exact hbs _ _ hb)
            conv => whnf
            refine (replace_spec ⟨i1.toArray⟩ (by rw [mk_size]; omega) hrr hslo hcc hab).mono ?_
            rintro _ M TM hDM hTM ⟨rfl, hfM, _⟩
            have m2 := hfM r2 _ (by omega) n2'
            have m4 := hfM r4 _ (by omega) n4'
            have m8 := hfM r8 _ (by omega) n8'
            have mS : Vc.Sub h M := fun b o hb => hfM b o (by have := hd b o hb; omega) (nS b o hb)
            rw [show (⟨i1.toArray⟩ : ByteArray).data.toList = i1 from rfl]
            conv => whnf
            refine (trimleft_spec _ 48 (by decide)).mono ?_
            rintro _ M2 TM2 hDM2 hTM2 ⟨rfl, rfl, rfl⟩
            rw [show (⟨(keptL i1).toArray⟩ : ByteArray).data.toList = keptL i1 from rfl]
            have hDl : (Lib.trimLeftB (keptL i1) 48).length ≤ 1048576 := by
              have h1 := trimLeft_len (s := keptL i1) (c := 48)
              have h2 : (keptL i1).length ≤ i1.length := List.length_filter_le _ _
              omega
            conv => whnf
            refine br (fun hz => ?_) (fun hz => ?_)
            · conv => whnf
              refine (takenumber_spec ⟨#[48]⟩ (by decide)).mono ?_
              rintro _ F TF hDF hTF ⟨n3, is3, rfl, hn30, hn31, hn3k, hsF, _⟩
              have hI : TkI i1 n3 is3 := tkI_zero (congrArg (fun x : ByteArray => x.data.toList) hz) hn3k
              have f2 := hsF _ _ m2
              have f4 := hsF _ _ m4
              have f8 := hsF _ _ m8
              have fS := mS.trans hsF
              have hgood := hfin n3 is3 hI
              conv => whnf
              repeat (first | ((with_reducible apply Go.Vc.ldrow); (focus ((repeat (first | with_reducible assumption | with_reducible exact Go.Vc.hset_same _ _ _ | with_reducible refine (Go.Vc.hset_ne _ _ (by omega)).trans ?_)); done)); (focus exact rfl); rintro _ rfl; conv => whnf) | ((with_reducible apply Go.Vc.st_i); (focus ((repeat (first | with_reducible assumption | with_reducible exact Go.Vc.hset_same _ _ _ | with_reducible refine (Go.Vc.hset_ne _ _ (by omega)).trans ?_)); done)); (focus exact rfl); (focus exact rfl); (focus exact rfl); (conv => whnf); intro cA hcA; (first | (simp only [List.setIfInBounds_toArray, List.set_cons_succ, List.set_cons_zero] at hcA; subst hcA) | subst hcA); conv => whnf))
              by_cases hR : RightC lvv n3 wdv
              · refine (path_spec lvv n3 wdv hR).mono ?_
                rintro _ E TE hDE hTE ⟨rfl, hsE, _⟩
                have e2 := hsE r2 _ ((hset_ne _ _ (by omega)).trans f2)
                have e4 := hsE r4 _ ((hset_ne _ _ (by omega)).trans f4)
                have e8 := hsE r8 _ (hset_same _ _ _)
                have eS : Vc.Sub h E := fun b o hb => hsE _ _ (by
                  have := hd b o hb
                  rw [hset_ne _ _ (by omega)]
                  exact fS _ _ hb)
                cases is3
                · conv => whnf
                  repeat (first | ((with_reducible apply Go.Vc.ldrow); (focus ((repeat (first | with_reducible assumption | with_reducible exact Go.Vc.hset_same _ _ _ | with_reducible refine (Go.Vc.hset_ne _ _ (by omega)).trans ?_)); done)); (focus exact rfl); rintro _ rfl; conv => whnf) | ((with_reducible apply Go.Vc.strow); (focus ((repeat (first | with_reducible assumption | with_reducible exact Go.Vc.hset_same _ _ _ | with_reducible refine (Go.Vc.hset_ne _ _ (by omega)).trans ?_)); done)); (focus exact rfl); (focus exact rfl); (focus exact rfl); rintro _ rfl; conv => whnf))
                  refine ⟨.inr ⟨take_no hgood (by first | exact .inl rfl | exact .inr (.inl rfl) | exact .inr (.inr (.inl hR)) | exact .inr (.inr (.inr hts))), rfl⟩, ?_, by omega⟩
                  intro b o hb
                  have := hd b o hb
                  repeat rw [hset_ne _ _ (by omega)]
                  exact eS _ _ hb
                · conv => whnf
                  repeat (first | ((with_reducible apply Go.Vc.ldrow); (focus ((repeat (first | with_reducible assumption | with_reducible exact Go.Vc.hset_same _ _ _ | with_reducible refine (Go.Vc.hset_ne _ _ (by omega)).trans ?_)); done)); (focus exact rfl); rintro _ rfl; conv => whnf) | ((with_reducible apply Go.Vc.strow); (focus ((repeat (first | with_reducible assumption | with_reducible exact Go.Vc.hset_same _ _ _ | with_reducible refine (Go.Vc.hset_ne _ _ (by omega)).trans ?_)); done)); (focus exact rfl); (focus exact rfl); (focus exact rfl); rintro _ rfl; conv => whnf))
                  first
                  | refine ⟨.inr ⟨take_no hgood (by first | exact .inl rfl | exact .inr (.inl rfl) | exact .inr (.inr (.inl hR)) | exact .inr (.inr (.inr hts))), rfl⟩, ?_, by omega⟩
                    intro b o hb
                    have := hd b o hb
                    repeat rw [hset_ne _ _ (by omega)]
                    exact eS _ _ hb
                  | refine br (fun hts => ?_) (fun hts => ?_)
                    · conv => whnf
                      refine ⟨.inr ⟨take_no hgood (by first | exact .inl rfl | exact .inr (.inl rfl) | exact .inr (.inr (.inl hR)) | exact .inr (.inr (.inr hts))), rfl⟩, ?_, by omega⟩
                      intro b o hb
                      have := hd b o hb
                      repeat rw [hset_ne _ _ (by omega)]
                      exact eS _ _ hb
                    · conv => whnf
                      refine ⟨.inl ⟨lvv, n3, wdv, hR, Classical.not_not.1 hts, rfl⟩, ?_, by omega⟩
                      intro b o hb
                      have := hd b o hb
                      repeat rw [hset_ne _ _ (by omega)]
                      exact eS _ _ hb
              · refine (path_no lvv n3 wdv hR).mono ?_
                rintro _ E TE hDE hTE ⟨rfl, hsE, _⟩
                have e2 := hsE r2 _ ((hset_ne _ _ (by omega)).trans f2)
                have e4 := hsE r4 _ ((hset_ne _ _ (by omega)).trans f4)
                have e8 := hsE r8 _ (hset_same _ _ _)
                have eS : Vc.Sub h E := fun b o hb => hsE _ _ (by
                  have := hd b o hb
                  rw [hset_ne _ _ (by omega)]
                  exact fS _ _ hb)
                cases is3
                · conv => whnf
                  repeat (first | ((with_reducible apply Go.Vc.ldrow); (focus ((repeat (first | with_reducible assumption | with_reducible exact Go.Vc.hset_same _ _ _ | with_reducible refine (Go.Vc.hset_ne _ _ (by omega)).trans ?_)); done)); (focus exact rfl); rintro _ rfl; conv => whnf) | ((with_reducible apply Go.Vc.strow); (focus ((repeat (first | with_reducible assumption | with_reducible exact Go.Vc.hset_same _ _ _ | with_reducible refine (Go.Vc.hset_ne _ _ (by omega)).trans ?_)); done)); (focus exact rfl); (focus exact rfl); (focus exact rfl); rintro _ rfl; conv => whnf))
                  refine ⟨.inr ⟨take_no hgood (by first | exact .inl rfl | exact .inr (.inl rfl) | exact .inr (.inr (.inl hR)) | exact .inr (.inr (.inr hts))), rfl⟩, ?_, by omega⟩
                  intro b o hb
                  have := hd b o hb
                  repeat rw [hset_ne _ _ (by omega)]
                  exact eS _ _ hb
                · conv => whnf
                  repeat (first | ((with_reducible apply Go.Vc.ldrow); (focus ((repeat (first | with_reducible assumption | with_reducible exact Go.Vc.hset_same _ _ _ | with_reducible refine (Go.Vc.hset_ne _ _ (by omega)).trans ?_)); done)); (focus exact rfl); rintro _ rfl; conv => whnf) | ((with_reducible apply Go.Vc.strow); (focus ((repeat (first | with_reducible assumption | with_reducible exact Go.Vc.hset_same _ _ _ | with_reducible refine (Go.Vc.hset_ne _ _ (by omega)).trans ?_)); done)); (focus exact rfl); (focus exact rfl); (focus exact rfl); rintro _ rfl; conv => whnf))
                  refine ⟨.inr ⟨take_no hgood (by first | exact .inl rfl | exact .inr (.inl rfl) | exact .inr (.inr (.inl hR)) | exact .inr (.inr (.inr hts))), rfl⟩, ?_, by omega⟩
                  intro b o hb
                  have := hd b o hb
                  repeat rw [hset_ne _ _ (by omega)]
                  exact eS _ _ hb
            · conv => whnf
              refine (takenumber_spec ⟨(Lib.trimLeftB (keptL i1) 48).toArray⟩ (by rw [mk_size]; exact hDl)).mono ?_
              rintro _ F TF hDF hTF ⟨n3, is3, rfl, hn30, hn31, hn3k, hsF, _⟩
              have hI : TkI i1 n3 is3 := tkI_num (fun e => hz (by rw [e])) hn3k
              have f2 := hsF _ _ m2
              have f4 := hsF _ _ m4
              have f8 := hsF _ _ m8
              have fS := mS.trans hsF
              have hgood := hfin n3 is3 hI
              conv => whnf
              repeat (first | ((with_reducible apply Go.Vc.ldrow); (focus ((repeat (first | with_reducible assumption | with_reducible exact Go.Vc.hset_same _ _ _ | with_reducible refine (Go.Vc.hset_ne _ _ (by omega)).trans ?_)); done)); (focus exact rfl); rintro _ rfl; conv => whnf) | ((with_reducible apply Go.Vc.st_i); (focus ((repeat (first | with_reducible assumption | with_reducible exact Go.Vc.hset_same _ _ _ | with_reducible refine (Go.Vc.hset_ne _ _ (by omega)).trans ?_)); done)); (focus exact rfl); (focus exact rfl); (focus exact rfl); (conv => whnf); intro cA hcA; (first | (simp only [List.setIfInBounds_toArray, List.set_cons_succ, List.set_cons_zero] at hcA; subst hcA) | subst hcA); conv => whnf))
              by_cases hR : RightC lvv n3 wdv
              · refine (path_spec lvv n3 wdv hR).mono ?_
                rintro _ E TE hDE hTE ⟨rfl, hsE, _⟩
                have e2 := hsE r2 _ ((hset_ne _ _ (by omega)).trans f2)
                have e4 := hsE r4 _ ((hset_ne _ _ (by omega)).trans f4)
                have e8 := hsE r8 _ (hset_same _ _ _)
                have eS : Vc.Sub h E := fun b o hb => hsE _ _ (by
                  have := hd b o hb
                  rw [hset_ne _ _ (by omega)]
                  exact fS _ _ hb)
                cases is3
                · conv => whnf
                  repeat (first | ((with_reducible apply Go.Vc.ldrow); (focus ((repeat (first | with_reducible assumption | with_reducible exact Go.Vc.hset_same _ _ _ | with_reducible refine (Go.Vc.hset_ne _ _ (by omega)).trans ?_)); done)); (focus exact rfl); rintro _ rfl; conv => whnf) | ((with_reducible apply Go.Vc.strow); (focus ((repeat (first | with_reducible assumption | with_reducible exact Go.Vc.hset_same _ _ _ | with_reducible refine (Go.Vc.hset_ne _ _ (by omega)).trans ?_)); done)); (focus exact rfl); (focus exact rfl); (focus exact rfl); rintro _ rfl; conv => whnf))
                  refine ⟨.inr ⟨take_no hgood (by first | exact .inl rfl | exact .inr (.inl rfl) | exact .inr (.inr (.inl hR)) | exact .inr (.inr (.inr hts))), rfl⟩, ?_, by omega⟩
                  intro b o hb
                  have := hd b o hb
                  repeat rw [hset_ne _ _ (by omega)]
                  exact eS _ _ hb
                · conv => whnf
                  repeat (first | ((with_reducible apply Go.Vc.ldrow); (focus ((repeat (first | with_reducible assumption | with_reducible exact Go.Vc.hset_same _ _ _ | with_reducible refine (Go.Vc.hset_ne _ _ (by omega)).trans ?_)); done)); (focus exact rfl); rintro _ rfl; conv => whnf) | ((with_reducible apply Go.Vc.strow); (focus ((repeat (first | with_reducible assumption | with_reducible exact Go.Vc.hset_same _ _ _ | with_reducible refine (Go.Vc.hset_ne _ _ (by omega)).trans ?_)); done)); (focus exact rfl); (focus exact rfl); (focus exact rfl); rintro _ rfl; conv => whnf))
                  first
                  | refine ⟨.inr ⟨take_no hgood (by first | exact .inl rfl | exact .inr (.inl rfl) | exact .inr (.inr (.inl hR)) | exact .inr (.inr (.inr hts))), rfl⟩, ?_, by omega⟩
                    intro b o hb
                    have := hd b o hb
                    repeat rw [hset_ne _ _ (by omega)]
                    exact eS _ _ hb
                  | refine br (fun hts => ?_) (fun hts => ?_)
                    · conv => whnf
                      refine ⟨.inr ⟨take_no hgood (by first | exact .inl rfl | exact .inr (.inl rfl) | exact .inr (.inr (.inl hR)) | exact .inr (.inr (.inr hts))), rfl⟩, ?_, by omega⟩
                      intro b o hb
                      have := hd b o hb
                      repeat rw [hset_ne _ _ (by omega)]
                      exact eS _ _ hb
                    · conv => whnf
                      refine ⟨.inl ⟨lvv, n3, wdv, hR, Classical.not_not.1 hts, rfl⟩, ?_, by omega⟩
                      intro b o hb
                      have := hd b o hb
                      repeat rw [hset_ne _ _ (by omega)]
                      exact eS _ _ hb
              · refine (path_no lvv n3 wdv hR).mono ?_
                rintro _ E TE hDE hTE ⟨rfl, hsE, _⟩
                have e2 := hsE r2 _ ((hset_ne _ _ (by omega)).trans f2)
                have e4 := hsE r4 _ ((hset_ne _ _ (by omega)).trans f4)
                have e8 := hsE r8 _ (hset_same _ _ _)
                have eS : Vc.Sub h E := fun b o hb => hsE _ _ (by
                  have := hd b o hb
                  rw [hset_ne _ _ (by omega)]
                  exact fS _ _ hb)
                cases is3
                · conv => whnf
                  repeat (first | ((with_reducible apply Go.Vc.ldrow); (focus ((repeat (first | with_reducible assumption | with_reducible exact Go.Vc.hset_same _ _ _ | with_reducible refine (Go.Vc.hset_ne _ _ (by omega)).trans ?_)); done)); (focus exact rfl); rintro _ rfl; conv => whnf) | ((with_reducible apply Go.Vc.strow); (focus ((repeat (first | with_reducible assumption | with_reducible exact Go.Vc.hset_same _ _ _ | with_reducible refine (Go.Vc.hset_ne _ _ (by omega)).trans ?_)); done)); (focus exact rfl); (focus exact rfl); (focus exact rfl); rintro _ rfl; conv => whnf))
                  refine ⟨.inr ⟨take_no hgood (by first | exact .inl rfl | exact .inr (.inl rfl) | exact .inr (.inr (.inl hR)) | exact .inr (.inr (.inr hts))), rfl⟩, ?_, by omega⟩
                  intro b o hb
                  have := hd b o hb
                  repeat rw [hset_ne _ _ (by omega)]
                  exact eS _ _ hb
                · conv => whnf
                  repeat (first | ((with_reducible apply Go.Vc.ldrow); (focus ((repeat (first | with_reducible assumption | with_reducible exact Go.Vc.hset_same _ _ _ | with_reducible refine (Go.Vc.hset_ne _ _ (by omega)).trans ?_)); done)); (focus exact rfl); rintro _ rfl; conv => whnf) | ((with_reducible apply Go.Vc.strow); (focus ((repeat (first | with_reducible assumption | with_reducible exact Go.Vc.hset_same _ _ _ | with_reducible refine (Go.Vc.hset_ne _ _ (by omega)).trans ?_)); done)); (focus exact rfl); (focus exact rfl); (focus exact rfl); rintro _ rfl; conv => whnf))
                  refine ⟨.inr ⟨take_no hgood (by first | exact .inl rfl | exact .inr (.inl rfl) | exact .inr (.inr (.inl hR)) | exact .inr (.inr (.inr hts))), rfl⟩, ?_, by omega⟩
                  intro b o hb
                  have := hd b o hb
                  repeat rw [hset_ne _ _ (by omega)]
                  exact eS _ _ hb
      · have hTk : TkL l1 true lvv is1 := hlv ▸ tkL_num hdt hn1k
        cases is1
        · conv => whnf
          repeat (first | ((with_reducible apply Go.Vc.st_i); (focus ((repeat (first | with_reducible assumption | with_reducible exact Go.Vc.hset_same _ _ _ | with_reducible refine (Go.Vc.hset_ne _ _ (by omega)).trans ?_)); done)); (focus exact rfl); (focus exact rfl); (focus exact rfl); (conv => whnf); intro cA hcA; (first | (simp only [List.setIfInBounds_toArray, List.set_cons_succ, List.set_cons_zero] at hcA; subst hcA) | subst hcA); conv => whnf))
          refine (cut_spec ⟨l2.toArray⟩ ⟨#[46, 112, 47]⟩ (by rw [mk_size]; omega) (hM.sub (by
            intro b o hb
            have := hd b o hb
            repeat rw [hset_ne _ _ (by omega)]
            exact hbase _ _ hb))).mono ?_
          rintro _ G T hD _ ⟨rfl, hG, rfl⟩
          have G2 : G r2 = some (.cells #[.int .i64 0, .int .i64 0, .int .i64 0] 23 (0, 0)) := by
            rw [hG]
            repeat rw [hset_ne _ _ (by omega)]
            exact hb2
          have G4 : G r4 = some (.cells #[.int .i64 0, .int .i64 0, .int .i64 0] 23 (0, 0)) := by
            rw [hG]
            repeat rw [hset_ne _ _ (by omega)]
            exact hb4
          have G8 : G r8 = some (.cells #[.int .i64 lvv, .int .i64 0, .int .i64 256] 23 (0, 0)) := by
            rw [hG, hset_same, hlv]
            rfl
          have GS : Vc.Sub h G := by
            intro b o hb
            have := hd b o hb
            rw [hG]
            repeat rw [hset_ne _ _ (by omega)]
            exact hbase _ _ hb
          clear hG
          obtain ⟨i1, w1, b2, hC2⟩ : ∃ i1 w1 b2, Lib.cut l2 ppB.data.toList = (i1, w1, b2) := ⟨_, _, _, rfl⟩
          have hC2l := cut_len (s := l2) (p := ppB.data.toList)
          rw [show (⟨l2.toArray⟩ : ByteArray).data.toList = l2 from rfl, show (⟨#[46, 112, 47]⟩ : ByteArray).data.toList = ppB.data.toList from rfl, hC2]
          rw [hC2] at hC2l
          dsimp only at hC2l ⊢
          have hC1s := hP1 ▸ hC1
          cases b2
          · obtain ⟨wdv, hwv⟩ : ∃ x : Int, 256 = x := ⟨_, rfl⟩
            have hfin := fun (n : Int) (is : Bool) (hI : TkI i1 n is) (lv ix wd : Int) (hR : RightC lv ix wd) (he : pathS lv ix wd = s) => take_good hC1s hC2 hTk tkW_none hI hR he
            rw [hwv] at hfin
            have hc2 := G2
            have hc4 := G4
            have hc8 := G8
            have hbs := GS
            conv => whnf
            repeat (first | (intro _ _; conv => whnf))
            rename_i rS hrS
            refine (newreplacer_spec (hset_same _ _ _)).mono ?_
            rintro _ N TN hDN hTN ⟨rr, cc, aa, rfl, hrr, hslo, hcc, hab, hrt, hrt2, hsN⟩
            have n2' : N r2 = some (.cells #[.int .i64 0, .int .i64 0, .int .i64 0] 23 (0, 0)) := hsN _ _ (by
              repeat rw [hset_ne _ _ (by omega)]
              exact hc2)
            have n4' : N r4 = some (.cells #[.int .i64 0, .int .i64 0, .int .i64 0] 23 (0, 0)) := hsN _ _ (by
              repeat rw [hset_ne _ _ (by omega)]
              exact hc4)
            have n8' : N r8 = some (.cells #[.int .i64 lvv, .int .i64 0, .int .i64 wdv] 23 (0, 0)) := hsN _ _ (by
              rw [hset_ne _ _ (by omega), ← hwv]
              first
              | exact hc8
              | exact hset_same _ _ _)
            have nS : Vc.Sub h N := fun b o hb => hsN _ _ (by
              have := hd b o hb
              repeat rw [hset_ne _ _ (by omega)]
              exact hbs _ _ hb)
            conv => whnf
            refine (replace_spec ⟨i1.toArray⟩ (by rw [mk_size]; omega) hrr hslo hcc hab).mono ?_
            rintro _ M TM hDM hTM ⟨rfl, hfM, _⟩
            have m2 := hfM r2 _ (by omega) n2'
            have m4 := hfM r4 _ (by omega) n4'
            have m8 := hfM r8 _ (by omega) n8'
            have mS : Vc.Sub h M := fun b o hb => hfM b o (by have := hd b o hb; omega) (nS b o hb)
            rw [show (⟨i1.toArray⟩ : ByteArray).data.toList = i1 from rfl]
            conv => whnf
            refine (trimleft_spec _ 48 (by decide)).mono ?_
            rintro _ M2 TM2 hDM2 hTM2 ⟨rfl, rfl, rfl⟩
            rw [show (⟨(keptL i1).toArray⟩ : ByteArray).data.toList = keptL i1 from rfl]
            have hDl : (Lib.trimLeftB (keptL i1) 48).length ≤ 1048576 := by
              have h1 := trimLeft_len (s := keptL i1) (c := 48)
              have h2 : (keptL i1).length ≤ i1.length := List.length_filter_le _ _
              omega
            conv => whnf
            refine br (fun hz => ?_) (fun hz => ?_)
            · conv => whnf
              refine (takenumber_spec ⟨#[48]⟩ (by decide)).mono ?_
              rintro _ F TF hDF hTF ⟨n3, is3, rfl, hn30, hn31, hn3k, hsF, _⟩
              have hI : TkI i1 n3 is3 := tkI_zero (congrArg (fun x : ByteArray => x.data.toList) hz) hn3k
              have f2 := hsF _ _ m2
              have f4 := hsF _ _ m4
              have f8 := hsF _ _ m8
              have fS := mS.trans hsF
              have hgood := hfin n3 is3 hI
              conv => whnf
              repeat (first | ((with_reducible apply Go.Vc.ldrow); (focus ((repeat (first | with_reducible assumption | with_reducible exact Go.Vc.hset_same _ _ _ | with_reducible refine (Go.Vc.hset_ne _ _ (by omega)).trans ?_)); done)); (focus exact rfl); rintro _ rfl; conv => whnf) | ((with_reducible apply Go.Vc.st_i); (focus ((repeat (first | with_reducible assumption | with_reducible exact Go.Vc.hset_same _ _ _ | with_reducible refine (Go.Vc.hset_ne _ _ (by omega)).trans ?_)); done)); (focus exact rfl); (focus exact rfl); (focus exact rfl); (conv => whnf); intro cA hcA; (first | (simp only [List.setIfInBounds_toArray, List.set_cons_succ, List.set_cons_zero] at hcA; subst hcA) | subst hcA); conv => whnf))
              by_cases hR : RightC lvv n3 wdv
              · refine (path_spec lvv n3 wdv hR).mono ?_
                rintro _ E TE hDE hTE ⟨rfl, hsE, _⟩
                have e2 := hsE r2 _ ((hset_ne _ _ (by omega)).trans f2)
                have e4 := hsE r4 _ ((hset_ne _ _ (by omega)).trans f4)
                have e8 := hsE r8 _ (hset_same _ _ _)
                have eS : Vc.Sub h E := fun b o hb => hsE _ _ (by
                  have := hd b o hb
                  rw [hset_ne _ _ (by omega)]
                  exact fS _ _ hb)
                cases is3
                · conv => whnf
                  repeat (first | ((with_reducible apply Go.Vc.ldrow); (focus ((repeat (first | with_reducible assumption | with_reducible exact Go.Vc.hset_same _ _ _ | with_reducible refine (Go.Vc.hset_ne _ _ (by omega)).trans ?_)); done)); (focus exact rfl); rintro _ rfl; conv => whnf) | ((with_reducible apply Go.Vc.strow); (focus ((repeat (first | with_reducible assumption | with_reducible exact Go.Vc.hset_same _ _ _ | with_reducible refine (Go.Vc.hset_ne _ _ (by omega)).trans ?_)); done)); (focus exact rfl); (focus exact rfl); (focus exact rfl); rintro _ rfl; conv => whnf))
                  refine ⟨.inr ⟨take_no hgood (by first | exact .inl rfl | exact .inr (.inl rfl) | exact .inr (.inr (.inl hR)) | exact .inr (.inr (.inr hts))), rfl⟩, ?_, by omega⟩
                  intro b o hb
                  have := hd b o hb
                  repeat rw [hset_ne _ _ (by omega)]
                  exact eS _ _ hb
                · conv => whnf
                  repeat (first | ((with_reducible apply Go.Vc.ldrow); (focus ((repeat (first | with_reducible assumption | with_reducible exact Go.Vc.hset_same _ _ _ | with_reducible refine (Go.Vc.hset_ne _ _ (by omega)).trans ?_)); done)); (focus exact rfl); rintro _ rfl; conv => whnf) | ((with_reducible apply Go.Vc.strow); (focus ((repeat (first | with_reducible assumption | with_reducible exact Go.Vc.hset_same _ _ _ | with_reducible refine (Go.Vc.hset_ne _ _ (by omega)).trans ?_)); done)); (focus exact rfl); (focus exact rfl); (focus exact rfl); rintro _ rfl; conv => whnf))
                  first
                  | refine ⟨.inr ⟨take_no hgood (by first | exact .inl rfl | exact .inr (.inl rfl) | exact .inr (.inr (.inl hR)) | exact .inr (.inr (.inr hts))), rfl⟩, ?_, by omega⟩
                    intro b o hb
                    have := hd b o hb
                    repeat rw [hset_ne _ _ (by omega)]
                    exact eS _ _ hb
                  | refine br (fun hts => ?_) (fun hts => ?_)
                    · conv => whnf
                      refine ⟨.inr ⟨take_no hgood (by first | exact .inl rfl | exact .inr (.inl rfl) | exact .inr (.inr (.inl hR)) | exact .inr (.inr (.inr hts))), rfl⟩, ?_, by omega⟩
                      intro b o hb
                      have := hd b o hb
                      repeat rw [hset_ne _ _ (by omega)]
                      exact eS _ _ hb
                    · conv => whnf
                      refine ⟨.inl ⟨lvv, n3, wdv, hR, Classical.not_not.1 hts, rfl⟩, ?_, by omega⟩
                      intro b o hb
                      have := hd b o hb
                      repeat rw [hset_ne _ _ (by omega)]
                      exact eS _ _ hb
              · refine (path_no lvv n3 wdv hR).mono ?_
                rintro _ E TE hDE hTE ⟨rfl, hsE, _⟩
                have e2 := hsE r2 _ ((hset_ne _ _ (by omega)).trans f2)
                have e4 := hsE r4 _ ((hset_ne _ _ (by omega)).trans f4)
                have e8 := hsE r8 _ (hset_same _ _ _)
                have eS : Vc.Sub h E := fun b o hb => hsE _ _ (by
                  have := hd b o hb
                  rw [hset_ne _ _ (by omega)]
                  exact fS _ _ hb)
                cases is3
                · conv => whnf
                  repeat (first | ((with_reducible apply Go.Vc.ldrow); (focus ((repeat (first | with_reducible assumption | with_reducible exact Go.Vc.hset_same _ _ _ | with_reducible refine (Go.Vc.hset_ne _ _ (by omega)).trans ?_)); done)); (focus exact rfl); rintro _ rfl; conv => whnf) | ((with_reducible apply Go.Vc.strow); (focus ((repeat (first | with_reducible assumption | with_reducible exact Go.Vc.hset_same _ _ _ | with_reducible refine (Go.Vc.hset_ne _ _ (by omega)).trans ?_)); done)); (focus exact rfl); (focus exact rfl); (focus exact rfl); rintro _ rfl; conv => whnf))
                  refine ⟨.inr ⟨take_no hgood (by first | exact .inl rfl | exact .inr (.inl rfl) | exact .inr (.inr (.inl hR)) | exact .inr (.inr (.inr hts))), rfl⟩, ?_, by omega⟩
                  intro b o hb
                  have := hd b o hb
                  repeat rw [hset_ne _ _ (by omega)]
                  exact eS _ _ hb
                · conv => whnf
                  repeat (first | ((with_reducible apply Go.Vc.ldrow); (focus ((repeat (first | with_reducible assumption | with_reducible exact Go.Vc.hset_same _ _ _ | with_reducible refine (Go.Vc.hset_ne _ _ (by omega)).trans ?_)); done)); (focus exact rfl); rintro _ rfl; conv => whnf) | ((with_reducible apply Go.Vc.strow); (focus ((repeat (first | with_reducible assumption | with_reducible exact Go.Vc.hset_same _ _ _ | with_reducible refine (Go.Vc.hset_ne _ _ (by omega)).trans ?_)); done)); (focus exact rfl); (focus exact rfl); (focus exact rfl); rintro _ rfl; conv => whnf))
                  refine ⟨.inr ⟨take_no hgood (by first | exact .inl rfl | exact .inr (.inl rfl) | exact .inr (.inr (.inl hR)) | exact .inr (.inr (.inr hts))), rfl⟩, ?_, by omega⟩
                  intro b o hb
                  have := hd b o hb
                  repeat rw [hset_ne _ _ (by omega)]
                  exact eS _ _ hb
            · conv => whnf
              refine (takenumber_spec ⟨(Lib.trimLeftB (keptL i1) 48).toArray⟩ (by rw [mk_size]; exact hDl)).mono ?_
              rintro _ F TF hDF hTF ⟨n3, is3, rfl, hn30, hn31, hn3k, hsF, _⟩
              have hI : TkI i1 n3 is3 := tkI_num (fun e => hz (by rw [e])) hn3k
              have f2 := hsF _ _ m2
              have f4 := hsF _ _ m4
              have f8 := hsF _ _ m8
              have fS := mS.trans hsF
              have hgood := hfin n3 is3 hI
              conv => whnf
              repeat (first | ((with_reducible apply Go.Vc.ldrow); (focus ((repeat (first | with_reducible assumption | with_reducible exact Go.Vc.hset_same _ _ _ | with_reducible refine (Go.Vc.hset_ne _ _ (by omega)).trans ?_)); done)); (focus exact rfl); rintro _ rfl; conv => whnf) | ((with_reducible apply Go.Vc.st_i); (focus ((repeat (first | with_reducible assumption | with_reducible exact Go.Vc.hset_same _ _ _ | with_reducible refine (Go.Vc.hset_ne _ _ (by omega)).trans ?_)); done)); (focus exact rfl); (focus exact rfl); (focus exact rfl); (conv => whnf); intro cA hcA; (first | (simp only [List.setIfInBounds_toArray, List.set_cons_succ, List.set_cons_zero] at hcA; subst hcA) | subst hcA); conv => whnf))
              by_cases hR : RightC lvv n3 wdv
              · refine (path_spec lvv n3 wdv hR).mono ?_
                rintro _ E TE hDE hTE ⟨rfl, hsE, _⟩
                have e2 := hsE r2 _ ((hset_ne _ _ (by omega)).trans f2)
                have e4 := hsE r4 _ ((hset_ne _ _ (by omega)).trans f4)
                have e8 := hsE r8 _ (hset_same _ _ _)
                have eS : Vc.Sub h E := fun b o hb => hsE _ _ (by
                  have := hd b o hb
                  rw [hset_ne _ _ (by omega)]
                  exact fS _ _ hb)
                cases is3
                · conv => whnf
                  repeat (first | ((with_reducible apply Go.Vc.ldrow); (focus ((repeat (first | with_reducible assumption | with_reducible exact Go.Vc.hset_same _ _ _ | with_reducible refine (Go.Vc.hset_ne _ _ (by omega)).trans ?_)); done)); (focus exact rfl); rintro _ rfl; conv => whnf) | ((with_reducible apply Go.Vc.strow); (focus ((repeat (first | with_reducible assumption | with_reducible exact Go.Vc.hset_same _ _ _ | with_reducible refine (Go.Vc.hset_ne _ _ (by omega)).trans ?_)); done)); (focus exact rfl); (focus exact rfl); (focus exact rfl); rintro _ rfl; conv => whnf))
                  refine ⟨.inr ⟨take_no hgood (by first | exact .inl rfl | exact .inr (.inl rfl) | exact .inr (.inr (.inl hR)) | exact .inr (.inr (.inr hts))), rfl⟩, ?_, by omega⟩
                  intro b o hb
                  have := hd b o hb
                  repeat rw [hset_ne _ _ (by omega)]
                  exact eS _ _ hb
                · conv => whnf
                  repeat (first | ((with_reducible apply Go.Vc.ldrow); (focus ((repeat (first | with_reducible assumption | with_reducible exact Go.Vc.hset_same _ _ _ | with_reducible refine (Go.Vc.hset_ne _ _ (by omega)).trans ?_)); done)); (focus exact rfl); rintro _ rfl; conv => whnf) | ((with_reducible apply Go.Vc.strow); (focus ((repeat (first | with_reducible assumption | with_reducible exact Go.Vc.hset_same _ _ _ | with_reducible refine (Go.Vc.hset_ne _ _ (by omega)).trans ?_)); done)); (focus exact rfl); (focus exact rfl); (focus exact rfl); rintro _ rfl; conv => whnf))
                  first
                  | refine ⟨.inr ⟨take_no hgood (by first | exact .inl rfl | exact .inr (.inl rfl) | exact .inr (.inr (.inl hR)) | exact .inr (.inr (.inr hts))), rfl⟩, ?_, by omega⟩
                    intro b o hb
                    have := hd b o hb
                    repeat rw [hset_ne _ _ (by omega)]
                    exact eS _ _ hb
                  | refine br (fun hts => ?_) (fun hts => ?_)
                    · conv => whnf
                      refine ⟨.inr ⟨take_no hgood (by first | exact .inl rfl | exact .inr (.inl rfl) | exact .inr (.inr (.inl hR)) | exact .inr (.inr (.inr hts))), rfl⟩, ?_, by omega⟩
                      intro b o hb
                      have := hd b o hb
                      repeat rw [hset_ne _ _ (by omega)]
                      exact eS _ _ hb
                    · conv => whnf
                      refine ⟨.inl ⟨lvv, n3, wdv, hR, Classical.not_not.1 hts, rfl⟩, ?_, by omega⟩
                      intro b o hb
                      have := hd b o hb
                      repeat rw [hset_ne _ _ (by omega)]
                      exact eS _ _ hb
              · refine (path_no lvv n3 wdv hR).mono ?_
                rintro _ E TE hDE hTE ⟨rfl, hsE, _⟩
                have e2 := hsE r2 _ ((hset_ne _ _ (by omega)).trans f2)
                have e4 := hsE r4 _ ((hset_ne _ _ (by omega)).trans f4)
                have e8 := hsE r8 _ (hset_same _ _ _)
                have eS : Vc.Sub h E := fun b o hb => hsE _ _ (by
                  have := hd b o hb
                  rw [hset_ne _ _ (by omega)]
                  exact fS _ _ hb)
                cases is3
                · conv => whnf
                  repeat (first | ((with_reducible apply Go.Vc.ldrow); (focus ((repeat (first | with_reducible assumption | with_reducible exact Go.Vc.hset_same _ _ _ | with_reducible refine (Go.Vc.hset_ne _ _ (by omega)).trans ?_)); done)); (focus exact rfl); rintro _ rfl; conv => whnf) | ((with_reducible apply Go.Vc.strow); (focus ((repeat (first | with_reducible assumption | with_reducible exact Go.Vc.hset_same _ _ _ | with_reducible refine (Go.Vc.hset_ne _ _ (by omega)).trans ?_)); done)); (focus exact rfl); (focus exact rfl); (focus exact rfl); rintro _ rfl; conv => whnf))
                  refine ⟨.inr ⟨take_no hgood (by first | exact .inl rfl | exact .inr (.inl rfl) | exact .inr (.inr (.inl hR)) | exact .inr (.inr (.inr hts))), rfl⟩, ?_, by omega⟩
                  intro b o hb
                  have := hd b o hb
                  repeat rw [hset_ne _ _ (by omega)]
                  exact eS _ _ hb
                · conv => whnf
                  repeat (first | ((with_reducible apply Go.Vc.ldrow); (focus ((repeat (first | with_reducible assumption | with_reducible exact Go.Vc.hset_same _ _ _ | with_reducible refine (Go.Vc.hset_ne _ _ (by omega)).trans ?_)); done)); (focus exact rfl); rintro _ rfl; conv => whnf) | ((with_reducible apply Go.Vc.strow); (focus ((repeat (first | with_reducible assumption | with_reducible exact Go.Vc.hset_same _ _ _ | with_reducible refine (Go.Vc.hset_ne _ _ (by omega)).trans ?_)); done)); (focus exact rfl); (focus exact rfl); (focus exact rfl); rintro _ rfl; conv => whnf))
                  refine ⟨.inr ⟨take_no hgood (by first | exact .inl rfl | exact .inr (.inl rfl) | exact .inr (.inr (.inl hR)) | exact .inr (.inr (.inr hts))), rfl⟩, ?_, by omega⟩
                  intro b o hb
                  have := hd b o hb
                  repeat rw [hset_ne _ _ (by omega)]
                  exact eS _ _ hb
          · conv => whnf
            refine (takenumber_spec ⟨w1.toArray⟩ (by rw [mk_size]; omega)).mono ?_
            rintro _ Gc Tc hDc hTc ⟨n2, is2, rfl, hn20, hn21, hn2k, hsc, _⟩
            have hc2 := hsc _ _ G2
            have hc4 := hsc _ _ G4
            have hc8 := hsc _ _ G8
            have hbs := GS.trans hsc
            obtain ⟨wdv, hwv⟩ : ∃ x : Int, n2 = x := ⟨_, rfl⟩
            cases is2
            · first
              | have hfin := fun (n : Int) (is : Bool) (hI : TkI i1 n is) (lv ix wd : Int) (hR : RightC lv ix wd) (he : pathS lv ix wd = s) => take_good hC1s hC2 hTk (tkW_num hn2k) hI hR he
              | have hfin := fun (n : Int) (is : Bool) (hI : TkI i1 n is) (lv ix wd : Int) (hR : RightC lv ix wd) (he : pathS lv ix wd = s) => take_good hC1s hC2 hTk (tkW_no (n := n2) (ok := false)) hI hR he
              rw [hwv] at hfin
              conv => whnf
              repeat (first | ((with_reducible apply Go.Vc.st_i); (focus ((repeat (first | with_reducible assumption | with_reducible exact Go.Vc.hset_same _ _ _ | with_reducible refine (Go.Vc.hset_ne _ _ (by omega)).trans ?_)); done)); (focus exact rfl); (focus exact rfl); (focus exact rfl); (conv => whnf); intro cA hcA; (first | (simp only [List.setIfInBounds_toArray, List.set_cons_succ, List.set_cons_zero] at hcA; subst hcA) | subst hcA); conv => whnf) | (intro _ _; conv => whnf))
              rename_i rS hrS
              refine (newreplacer_spec (hset_same _ _ _)).mono ?_
              rintro _ N TN hDN hTN ⟨rr, cc, aa, rfl, hrr, hslo, hcc, hab, hrt, hrt2, hsN⟩
              have n2' : N r2 = some (.cells #[.int .i64 0, .int .i64 0, .int .i64 0] 23 (0, 0)) := hsN _ _ (by
                repeat rw [hset_ne _ _ (by omega)]
                exact hc2)
              have n4' : N r4 = some (.cells #[.int .i64 0, .int .i64 0, .int .i64 0] 23 (0, 0)) := hsN _ _ (by
                repeat rw [hset_ne _ _ (by omega)]
                exact hc4)
              have n8' : N r8 = some (.cells #[.int .i64 lvv, .int .i64 0, .int .i64 wdv] 23 (0, 0)) := hsN _ _ (by
                rw [hset_ne _ _ (by omega), ← hwv]
                first
                | exact hc8
                | exact hset_same _ _ _)
              have nS : Vc.Sub h N := fun b o hb => hsN _ _ (by
                have := hd b o hb
                repeat rw [hset_ne _ _ (by omega)]
                exact hbs _ _ hb)
              conv => whnf
              refine (replace_spec ⟨i1.toArray⟩ (by rw [mk_size]; omega) hrr hslo hcc hab).mono ?_
              rintro _ M TM hDM hTM ⟨rfl, hfM, _⟩
              have m2 := hfM r2 _ (by omega) n2'
              have m4 := hfM r4 _ (by omega) n4'
              have m8 := hfM r8 _ (by omega) n8'
              have mS : Vc.Sub h M := fun b o hb => hfM b o (by have := hd b o hb; omega) (nS b o hb)
              rw [show (⟨i1.toArray⟩ : ByteArray).data.toList = i1 from rfl]
              conv => whnf
              refine (trimleft_spec _ 48 (by decide)).mono ?_
              rintro _ M2 TM2 hDM2 hTM2 ⟨rfl, rfl, rfl⟩
              rw [show (⟨(keptL i1).toArray⟩ : ByteArray).data.toList = keptL i1 from rfl]
              have hDl : (Lib.trimLeftB (keptL i1) 48).length ≤ 1048576 := by
                have h1 := trimLeft_len (s := keptL i1) (c := 48)
                have h2 : (keptL i1).length ≤ i1.length := List.length_filter_le _ _
                omega
              conv => whnf
              refine br (fun hz => ?_) (fun hz => ?_)
              · conv => whnf
                refine (takenumber_spec ⟨#[48]⟩ (by decide)).mono ?_
                rintro _ F TF hDF hTF ⟨n3, is3, rfl, hn30, hn31, hn3k, hsF, _⟩
                have hI : TkI i1 n3 is3 := tkI_zero (congrArg (fun x : ByteArray => x.data.toList) hz) hn3k
                have f2 := hsF _ _ m2
                have f4 := hsF _ _ m4
                have f8 := hsF _ _ m8
                have fS := mS.trans hsF
                have hgood := hfin n3 is3 hI
                conv => whnf
                repeat (first | ((with_reducible apply Go.Vc.ldrow); (focus ((repeat (first | with_reducible assumption | with_reducible exact Go.Vc.hset_same _ _ _ | with_reducible refine (Go.Vc.hset_ne _ _ (by omega)).trans ?_)); done)); (focus exact rfl); rintro _ rfl; conv => whnf) | ((with_reducible apply Go.Vc.st_i); (focus ((repeat (first | with_reducible assumption | with_reducible exact Go.Vc.hset_same _ _ _ | with_reducible refine (Go.Vc.hset_ne _ _ (by omega)).trans ?_)); done)); (focus exact rfl); (focus exact rfl); (focus exact rfl); (conv => whnf); intro cA hcA; (first | (simp only [List.setIfInBounds_toArray, List.set_cons_succ, List.set_cons_zero] at hcA; subst hcA) | subst hcA); conv => whnf))
                by_cases hR : RightC lvv n3 wdv
                · refine (path_spec lvv n3 wdv hR).mono ?_
                  rintro _ E TE hDE hTE ⟨rfl, hsE, _⟩
                  have e2 := hsE r2 _ ((hset_ne _ _ (by omega)).trans f2)
                  have e4 := hsE r4 _ ((hset_ne _ _ (by omega)).trans f4)
                  have e8 := hsE r8 _ (hset_same _ _ _)
                  have eS : Vc.Sub h E := fun b o hb => hsE _ _ (by
                    have := hd b o hb
                    rw [hset_ne _ _ (by omega)]
                    exact fS _ _ hb)
                  cases is3
                  · conv => whnf
                    repeat (first | ((with_reducible apply Go.Vc.ldrow); (focus ((repeat (first | with_reducible assumption | with_reducible exact Go.Vc.hset_same _ _ _ | with_reducible refine (Go.Vc.hset_ne _ _ (by omega)).trans ?_)); done)); (focus exact rfl); rintro _ rfl; conv => whnf) | ((with_reducible apply Go.Vc.strow); (focus ((repeat (first | with_reducible assumption | with_reducible exact Go.Vc.hset_same _ _ _ | with_reducible refine (Go.Vc.hset_ne _ _ (by omega)).trans ?_)); done)); (focus exact rfl); (focus exact rfl); (focus exact rfl); rintro _ rfl; conv => whnf))
                    refine ⟨.inr ⟨take_no hgood (by first | exact .inl rfl | exact .inr (.inl rfl) | exact .inr (.inr (.inl hR)) | exact .inr (.inr (.inr hts))), rfl⟩, ?_, by omega⟩
                    intro b o hb
                    have := hd b o hb
                    repeat rw [hset_ne _ _ (by omega)]
                    exact eS _ _ hb
                  · conv => whnf
                    repeat (first | ((with_reducible apply Go.Vc.ldrow); (focus ((repeat (first | with_reducible assumption | with_reducible exact Go.Vc.hset_same _ _ _ | with_reducible refine (Go.Vc.hset_ne _ _ (by omega)).trans ?_)); done)); (focus exact rfl); rintro _ rfl; conv => whnf) | ((with_reducible apply Go.Vc.strow); (focus ((repeat (first | with_reducible assumption | with_reducible exact Go.Vc.hset_same _ _ _ | with_reducible refine (Go.Vc.hset_ne _ _ (by omega)).trans ?_)); done)); (focus exact rfl); (focus exact rfl); (focus exact rfl); rintro _ rfl; conv => whnf))
                    first
                    | refine ⟨.inr ⟨take_no hgood (by first | exact .inl rfl | exact .inr (.inl rfl) | exact .inr (.inr (.inl hR)) | exact .inr (.inr (.inr hts))), rfl⟩, ?_, by omega⟩
                      intro b o hb
                      have := hd b o hb
                      repeat rw [hset_ne _ _ (by omega)]
                      exact eS _ _ hb
                    | refine br (fun hts => ?_) (fun hts => ?_)
                      · conv => whnf
                        refine ⟨.inr ⟨take_no hgood (by first | exact .inl rfl | exact .inr (.inl rfl) | exact .inr (.inr (.inl hR)) | exact .inr (.inr (.inr hts))), rfl⟩, ?_, by omega⟩
                        intro b o hb
                        have := hd b o hb
                        repeat rw [hset_ne _ _ (by omega)]
                        exact eS _ _ hb
                      · conv => whnf
                        refine ⟨.inl ⟨lvv, n3, wdv, hR, Classical.not_not.1 hts, rfl⟩, ?_, by omega⟩
                        intro b o hb
                        have := hd b o hb
                        repeat rw [hset_ne _ _ (by omega)]
                        exact eS _ _ hb
                · refine (path_no lvv n3 wdv hR).mono ?_
                  rintro _ E TE hDE hTE ⟨rfl, hsE, _⟩
                  have e2 := hsE r2 _ ((hset_ne _ _ (by omega)).trans f2)
                  have e4 := hsE r4 _ ((hset_ne _ _ (by omega)).trans f4)
                  have e8 := hsE r8 _ (hset_same _ _ _)
                  have eS : Vc.Sub h E := fun b o hb => hsE _ _ (by
                    have := hd b o hb
                    rw [hset_ne _ _ (by omega)]
                    exact fS _ _ hb)
                  cases is3
                  · conv => whnf
                    repeat (first | ((with_reducible apply Go.Vc.ldrow); (focus ((repeat (first | with_reducible assumption | with_reducible exact Go.Vc.hset_same _ _ _ | with_reducible refine (Go.Vc.hset_ne _ _ (by omega)).trans ?_)); done)); (focus exact rfl); rintro _ rfl; conv => whnf) | ((with_reducible apply Go.Vc.strow); (focus ((repeat (first | with_reducible assumption | with_reducible exact Go.Vc.hset_same _ _ _ | with_reducible refine (Go.Vc.hset_ne _ _ (by omega)).trans ?_)); done)); (focus exact rfl); (focus exact rfl); (focus exact rfl); rintro _ rfl; conv => whnf))
                    refine ⟨.inr ⟨take_no hgood (by first | exact .inl rfl | exact .inr (.inl rfl) | exact .inr (.inr (.inl hR)) | exact .inr (.inr (.inr hts))), rfl⟩, ?_, by omega⟩
                    intro b o hb
                    have := hd b o hb
                    repeat rw [hset_ne _ _ (by omega)]
                    exact eS _ _ hb
                  · conv => whnf
                    repeat (first | ((with_reducible apply Go.Vc.ldrow); (focus ((repeat (first | with_reducible assumption | with_reducible exact Go.Vc.hset_same _ _ _ | with_reducible refine (Go.Vc.hset_ne _ _ (by omega)).trans ?_)); done)); (focus exact rfl); rintro _ rfl; conv => whnf) | ((with_reducible apply Go.Vc.strow); (focus ((repeat (first | with_reducible assumption | with_reducible exact Go.Vc.hset_same _ _ _ | with_reducible refine (Go.Vc.hset_ne _ _ (by omega)).trans ?_)); done)); (focus exact rfl); (focus exact rfl); (focus exact rfl); rintro _ rfl; conv => whnf))
                    refine ⟨.inr ⟨take_no hgood (by first | exact .inl rfl | exact .inr (.inl rfl) | exact .inr (.inr (.inl hR)) | exact .inr (.inr (.inr hts))), rfl⟩, ?_, by omega⟩
                    intro b o hb
                    have := hd b o hb
                    repeat rw [hset_ne _ _ (by omega)]
                    exact eS _ _ hb
              · conv => whnf
                refine (takenumber_spec ⟨(Lib.trimLeftB (keptL i1) 48).toArray⟩ (by rw [mk_size]; exact hDl)).mono ?_
                rintro _ F TF hDF hTF ⟨n3, is3, rfl, hn30, hn31, hn3k, hsF, _⟩
                have hI : TkI i1 n3 is3 := tkI_num (fun e => hz (by rw [e])) hn3k
                have f2 := hsF _ _ m2
                have f4 := hsF _ _ m4
                have f8 := hsF _ _ m8
                have fS := mS.trans hsF
                have hgood := hfin n3 is3 hI
                conv => whnf
                repeat (first | ((with_reducible apply Go.Vc.ldrow); (focus ((repeat (first | with_reducible assumption | with_reducible exact Go.Vc.hset_same _ _ _ | with_reducible refine (Go.Vc.hset_ne _ _ (by omega)).trans ?_)); done)); (focus exact rfl); rintro _ rfl; conv => whnf) | ((with_reducible apply Go.Vc.st_i); (focus ((repeat (first | with_reducible assumption | with_reducible exact Go.Vc.hset_same _ _ _ | with_reducible refine (Go.Vc.hset_ne _ _ (by omega)).trans ?_)); done)); (focus exact rfl); (focus exact rfl); (focus exact rfl); (conv => whnf); intro cA hcA; (first | (simp only [List.setIfInBounds_toArray, List.set_cons_succ, List.set_cons_zero] at hcA; subst hcA) | subst hcA); conv => whnf))
                by_cases hR : RightC lvv n3 wdv
                · refine (path_spec lvv n3 wdv hR).mono ?_
                  rintro _ E TE hDE hTE ⟨rfl, hsE, _⟩
                  have e2 := hsE r2 _ ((hset_ne _ _ (by omega)).trans f2)
                  have e4 := hsE r4 _ ((hset_ne _ _ (by omega)).trans f4)
                  have e8 := hsE r8 _ (hset_same _ _ _)
                  have eS : Vc.Sub h E := fun b o hb => hsE _ _ (by
                    have := hd b o hb
                    rw [hset_ne _ _ (by omega)]
                    exact fS _ _ hb)
                  cases is3
                  · conv => whnf
                    repeat (first | ((with_reducible apply Go.Vc.ldrow); (focus ((repeat (first | with_reducible assumption | with_reducible exact Go.Vc.hset_same _ _ _ | with_reducible refine (Go.Vc.hset_ne _ _ (by omega)).trans ?_)); done)); (focus exact rfl); rintro _ rfl; conv => whnf) | ((with_reducible apply Go.Vc.strow); (focus ((repeat (first | with_reducible assumption | with_reducible exact Go.Vc.hset_same _ _ _ | with_reducible refine (Go.Vc.hset_ne _ _ (by omega)).trans ?_)); done)); (focus exact rfl); (focus exact rfl); (focus exact rfl); rintro _ rfl; conv => whnf))
                    refine ⟨.inr ⟨take_no hgood (by first | exact .inl rfl | exact .inr (.inl rfl) | exact .inr (.inr (.inl hR)) | exact .inr (.inr (.inr hts))), rfl⟩, ?_, by omega⟩
                    intro b o hb
                    have := hd b o hb
                    repeat rw [hset_ne _ _ (by omega)]
                    exact eS _ _ hb
                  · conv => whnf
                    repeat (first | ((with_reducible apply Go.Vc.ldrow); (focus ((repeat (first | with_reducible assumption | with_reducible exact Go.Vc.hset_same _ _ _ | with_reducible refine (Go.Vc.hset_ne _ _ (by omega)).trans ?_)); done)); (focus exact rfl); rintro _ rfl; conv => whnf) | ((with_reducible apply Go.Vc.strow); (focus ((repeat (first | with_reducible assumption | with_reducible exact Go.Vc.hset_same _ _ _ | with_reducible refine (Go.Vc.hset_ne _ _ (by omega)).trans ?_)); done)); (focus exact rfl); (focus exact rfl); (focus exact rfl); rintro _ rfl; conv => whnf))
                    first
                    | refine ⟨.inr ⟨take_no hgood (by first | exact .inl rfl | exact .inr (.inl rfl) | exact .inr (.inr (.inl hR)) | exact .inr (.inr (.inr hts))), rfl⟩, ?_, by omega⟩
                      intro b o hb
                      have := hd b o hb
                      repeat rw [hset_ne _ _ (by omega)]
                      exact eS _ _ hb
                    | refine br (fun hts => ?_) (fun hts => ?_)
                      · conv => whnf
                        refine ⟨.inr ⟨take_no hgood (by first | exact .inl rfl | exact .inr (.inl rfl) | exact .inr (.inr (.inl hR)) | exact .inr (.inr (.inr hts))), rfl⟩, ?_, by omega⟩
                        intro b o hb
                        have := hd b o hb
                        repeat rw [hset_ne _ _ (by omega)]
                        exact eS _ _ hb
                      · conv => whnf
                        refine ⟨.inl ⟨lvv, n3, wdv, hR, Classical.not_not.1 hts, rfl⟩, ?_, by omega⟩
                        intro b o hb
                        have := hd b o hb
                        repeat rw [hset_ne _ _ (by omega)]
                        exact eS _ _ hb
                · refine (path_no lvv n3 wdv hR).mono ?_
                  rintro _ E TE hDE hTE ⟨rfl, hsE, _⟩
                  have e2 := hsE r2 _ ((hset_ne _ _ (by omega)).trans f2)
                  have e4 := hsE r4 _ ((hset_ne _ _ (by omega)).trans f4)
                  have e8 := hsE r8 _ (hset_same _ _ _)
                  have eS : Vc.Sub h E := fun b o hb => hsE _ _ (by
                    have := hd b o hb
                    rw [hset_ne _ _ (by omega)]
                    exact fS _ _ hb)
                  cases is3
                  · conv => whnf
                    repeat (first | ((with_reducible apply Go.Vc.ldrow); (focus ((repeat (first | with_reducible assumption | with_reducible exact Go.Vc.hset_same _ _ _ | with_reducible refine (Go.Vc.hset_ne _ _ (by omega)).trans ?_)); done)); (focus exact rfl); rintro _ rfl; conv => whnf) | ((with_reducible apply Go.Vc.strow); (focus ((repeat (first | with_reducible assumption | with_reducible exact Go.Vc.hset_same _ _ _ | with_reducible refine (Go.Vc.hset_ne _ _ (by omega)).trans ?_)); done)); (focus exact rfl); (focus exact rfl); (focus exact rfl); rintro _ rfl; conv => whnf))
                    refine ⟨.inr ⟨take_no hgood (by first | exact .inl rfl | exact .inr (.inl rfl) | exact .inr (.inr (.inl hR)) | exact .inr (.inr (.inr hts))), rfl⟩, ?_, by omega⟩
                    intro b o hb
                    have := hd b o hb
                    repeat rw [hset_ne _ _ (by omega)]
                    exact eS _ _ hb
                  · conv => whnf
                    repeat (first | ((with_reducible apply Go.Vc.ldrow); (focus ((repeat (first | with_reducible assumption | with_reducible exact Go.Vc.hset_same _ _ _ | with_reducible refine (Go.Vc.hset_ne _ _ (by omega)).trans ?_)); done)); (focus exact rfl); rintro _ rfl; conv => whnf) | ((with_reducible apply Go.Vc.strow); (focus ((repeat (first | with_reducible assumption | with_reducible exact Go.Vc.hset_same _ _ _ | with_reducible refine (Go.Vc.hset_ne _ _ (by omega)).trans ?_)); done)); (focus exact rfl); (focus exact rfl); (focus exact rfl); rintro _ rfl; conv => whnf))
                    refine ⟨.inr ⟨take_no hgood (by first | exact .inl rfl | exact .inr (.inl rfl) | exact .inr (.inr (.inl hR)) | exact .inr (.inr (.inr hts))), rfl⟩, ?_, by omega⟩
                    intro b o hb
                    have := hd b o hb
                    repeat rw [hset_ne _ _ (by omega)]
                    exact eS _ _ hb
            · first
              | have hfin := fun (n : Int) (is : Bool) (hI : TkI i1 n is) (lv ix wd : Int) (hR : RightC lv ix wd) (he : pathS lv ix wd = s) => take_good hC1s hC2 hTk (tkW_num hn2k) hI hR he
              | have hfin := fun (n : Int) (is : Bool) (hI : TkI i1 n is) (lv ix wd : Int) (hR : RightC lv ix wd) (he : pathS lv ix wd = s) => take_good hC1s hC2 hTk (tkW_no (n := n2) (ok := false)) hI hR he
              rw [hwv] at hfin
              conv => whnf
              repeat (first | ((with_reducible apply Go.Vc.st_i); (focus ((repeat (first | with_reducible assumption | with_reducible exact Go.Vc.hset_same _ _ _ | with_reducible refine (Go.Vc.hset_ne _ _ (by omega)).trans ?_)); done)); (focus exact rfl); (focus exact rfl); (focus exact rfl); (conv => whnf); intro cA hcA; (first | (simp only [List.setIfInBounds_toArray, List.set_cons_succ, List.set_cons_zero] at hcA; subst hcA) | subst hcA); conv => whnf) | (intro _ _; conv => whnf))
              rename_i rS hrS
              refine (newreplacer_spec (hset_same _ _ _)).mono ?_
              rintro _ N TN hDN hTN ⟨rr, cc, aa, rfl, hrr, hslo, hcc, hab, hrt, hrt2, hsN⟩
              have n2' : N r2 = some (.cells #[.int .i64 0, .int .i64 0, .int .i64 0] 23 (0, 0)) := hsN _ _ (by
                repeat rw [hset_ne _ _ (by omega)]
                exact hc2)
              have n4' : N r4 = some (.cells #[.int .i64 0, .int .i64 0, .int .i64 0] 23 (0, 0)) := hsN _ _ (by
                repeat rw [hset_ne _ _ (by omega)]
                exact hc4)
              have n8' : N r8 = some (.cells #[.int .i64 lvv, .int .i64 0, .int .i64 wdv] 23 (0, 0)) := hsN _ _ (by
                rw [hset_ne _ _ (by omega), ← hwv]
                first
                | exact hc8
                | exact hset_same _ _ _)
              have nS : Vc.Sub h N := fun b o hb => hsN _ _ (by
                have := hd b o hb
                repeat rw [hset_ne _ _ (by omega)]
                exact hbs _ _ hb)
              conv => whnf
              refine (replace_spec ⟨i1.toArray⟩ (by rw [mk_size]; omega) hrr hslo hcc hab).mono ?_
              rintro _ M TM hDM hTM ⟨rfl, hfM, _⟩
              have m2 := hfM r2 _ (by omega) n2'
              have m4 := hfM r4 _ (by omega) n4'
              have m8 := hfM r8 _ (by omega) n8'
              have mS : Vc.Sub h M := fun b o hb => hfM b o (by have := hd b o hb; omega) (nS b o hb)
              rw [show (⟨i1.toArray⟩ : ByteArray).data.toList = i1 from rfl]
              conv => whnf
              refine (trimleft_spec _ 48 (by decide)).mono ?_
              rintro _ M2 TM2 hDM2 hTM2 ⟨rfl, rfl, rfl⟩
              rw [show (⟨(keptL i1).toArray⟩ : ByteArray).data.toList = keptL i1 from rfl]
              have hDl : (Lib.trimLeftB (keptL i1) 48).length ≤ 1048576 := by
                have h1 := trimLeft_len (s := keptL i1) (c := 48)
                have h2 : (keptL i1).length ≤ i1.length := List.length_filter_le _ _
                omega
              conv => whnf
              refine br (fun hz => ?_) (fun hz => ?_)
              · conv => whnf
                refine (takenumber_spec ⟨#[48]⟩ (by decide)).mono ?_
                rintro _ F TF hDF hTF ⟨n3, is3, rfl, hn30, hn31, hn3k, hsF, _⟩
                have hI : TkI i1 n3 is3 := tkI_zero (congrArg (fun x : ByteArray => x.data.toList) hz) hn3k
                have f2 := hsF _ _ m2
                have f4 := hsF _ _ m4
                have f8 := hsF _ _ m8
                have fS := mS.trans hsF
                have hgood := hfin n3 is3 hI
                conv => whnf
                repeat (first | ((with_reducible apply Go.Vc.ldrow); (focus ((repeat (first | with_reducible assumption | with_reducible exact Go.Vc.hset_same _ _ _ | with_reducible refine (Go.Vc.hset_ne _ _ (by omega)).trans ?_)); done)); (focus exact rfl); rintro _ rfl; conv => whnf) | ((with_reducible apply Go.Vc.st_i); (focus ((repeat (first | with_reducible assumption | with_reducible exact Go.Vc.hset_same _ _ _ | with_reducible refine (Go.Vc.hset_ne _ _ (by omega)).trans ?_)); done)); (focus exact rfl); (focus exact rfl); (focus exact rfl); (conv => whnf); intro cA hcA; (first | (simp only [List.setIfInBounds_toArray, List.set_cons_succ, List.set_cons_zero] at hcA; subst hcA) | subst hcA); conv => whnf))
                by_cases hR : RightC lvv n3 wdv
                · refine (path_spec lvv n3 wdv hR).mono ?_
                  rintro _ E TE hDE hTE ⟨rfl, hsE, _⟩
                  have e2 := hsE r2 _ ((hset_ne _ _ (by omega)).trans f2)
                  have e4 := hsE r4 _ ((hset_ne _ _ (by omega)).trans f4)
                  have e8 := hsE r8 _ (hset_same _ _ _)
                  have eS : Vc.Sub h E := fun b o hb => hsE _ _ (by
                    have := hd b o hb
                    rw [hset_ne _ _ (by omega)]
                    exact fS _ _ hb)
                  cases is3
                  · conv => whnf
                    repeat (first | ((with_reducible apply Go.Vc.ldrow); (focus ((repeat (first | with_reducible assumption | with_reducible exact Go.Vc.hset_same _ _ _ | with_reducible refine (Go.Vc.hset_ne _ _ (by omega)).trans ?_)); done)); (focus exact rfl); rintro _ rfl; conv => whnf) | ((with_reducible apply Go.Vc.strow); (focus ((repeat (first | with_reducible assumption | with_reducible exact Go.Vc.hset_same _ _ _ | with_reducible refine (Go.Vc.hset_ne _ _ (by omega)).trans ?_)); done)); (focus exact rfl); (focus exact rfl); (focus exact rfl); rintro _ rfl; conv => whnf))
                    refine ⟨.inr ⟨take_no hgood (by first | exact .inl rfl | exact .inr (.inl rfl) | exact .inr (.inr (.inl hR)) | exact .inr (.inr (.inr hts))), rfl⟩, ?_, by omega⟩
                    intro b o hb
                    have := hd b o hb
                    repeat rw [hset_ne _ _ (by omega)]
                    exact eS _ _ hb
                  · conv => whnf
                    repeat (first | ((with_reducible apply Go.Vc.ldrow); (focus ((repeat (first | with_reducible assumption | with_reducible exact Go.Vc.hset_same _ _ _ | with_reducible refine (Go.Vc.hset_ne _ _ (by omega)).trans ?_)); done)); (focus exact rfl); rintro _ rfl; conv => whnf) | ((with_reducible apply Go.Vc.strow); (focus ((repeat (first | with_reducible assumption | with_reducible exact Go.Vc.hset_same _ _ _ | with_reducible refine (Go.Vc.hset_ne _ _ (by omega)).trans ?_)); done)); (focus exact rfl); (focus exact rfl); (focus exact rfl); rintro _ rfl; conv => whnf))
                    first
                    | refine ⟨.inr ⟨take_no hgood (by first | exact .inl rfl | exact .inr (.inl rfl) | exact .inr (.inr (.inl hR)) | exact .inr (.inr (.inr hts))), rfl⟩, ?_, by omega⟩
                      intro b o hb
                      have := hd b o hb
                      repeat rw [hset_ne _ _ (by omega)]
                      exact eS _ _ hb
                    | refine br (fun hts => ?_) (fun hts => ?_)
                      · conv => whnf
                        refine ⟨.inr ⟨take_no hgood (by first | exact .inl rfl | exact .inr (.inl rfl) | exact .inr (.inr (.inl hR)) | exact .inr (.inr (.inr hts))), rfl⟩, ?_, by omega⟩
                        intro b o hb
                        have := hd b o hb
                        repeat rw [hset_ne _ _ (by omega)]
                        exact eS _ _ hb
                      · conv => whnf
                        refine ⟨.inl ⟨lvv, n3, wdv, hR, Classical.not_not.1 hts, rfl⟩, ?_, by omega⟩
                        intro b o hb
                        have := hd b o hb
                        repeat rw [hset_ne _ _ (by omega)]
                        exact eS _ _ hb
                · refine (path_no lvv n3 wdv hR).mono ?_
                  rintro _ E TE hDE hTE ⟨rfl, hsE, _⟩
                  have e2 := hsE r2 _ ((hset_ne _ _ (by omega)).trans f2)
                  have e4 := hsE r4 _ ((hset_ne _ _ (by omega)).trans f4)
                  have e8 := hsE r8 _ (hset_same _ _ _)
                  have eS : Vc.Sub h E := fun b o hb => hsE _ _ (by
                    have := hd b o hb
                    rw [hset_ne _ _ (by omega)]
                    exact fS _ _ hb)
                  cases is3
                  · conv => whnf
                    repeat (first | ((with_reducible apply Go.Vc.ldrow); (focus ((repeat (first | with_reducible assumption | with_reducible exact Go.Vc.hset_same _ _ _ | with_reducible refine (Go.Vc.hset_ne _ _ (by omega)).trans ?_)); done)); (focus exact rfl); rintro _ rfl; conv => whnf) | ((with_reducible apply Go.Vc.strow); (focus ((repeat (first | with_reducible assumption | with_reducible exact Go.Vc.hset_same _ _ _ | with_reducible refine (Go.Vc.hset_ne _ _ (by omega)).trans ?_)); done)); (focus exact rfl); (focus exact rfl); (focus exact rfl); rintro _ rfl; conv => whnf))
                    refine ⟨.inr ⟨take_no hgood (by first | exact .inl rfl | exact .inr (.inl rfl) | exact .inr (.inr (.inl hR)) | exact .inr (.inr (.inr hts))), rfl⟩, ?_, by omega⟩
                    intro b o hb
                    have := hd b o hb
                    repeat rw [hset_ne _ _ (by omega)]
                    exact eS _ _ hb
                  · conv => whnf
                    repeat (first | ((with_reducible apply Go.Vc.ldrow); (focus ((repeat (first | with_reducible assumption | with_reducible exact Go.Vc.hset_same _ _ _ | with_reducible refine (Go.Vc.hset_ne _ _ (by omega)).trans ?_)); done)); (focus exact rfl); rintro _ rfl; conv => whnf) | ((with_reducible apply Go.Vc.strow); (focus ((repeat (first | with_reducible assumption | with_reducible exact Go.Vc.hset_same _ _ _ | with_reducible refine (Go.Vc.hset_ne _ _ (by omega)).trans ?_)); done)); (focus exact rfl); (focus exact rfl); (focus exact rfl); rintro _ rfl; conv => whnf))
                    refine ⟨.inr ⟨take_no hgood (by first | exact .inl rfl | exact .inr (.inl rfl) | exact .inr (.inr (.inl hR)) | exact .inr (.inr (.inr hts))), rfl⟩, ?_, by omega⟩
                    intro b o hb
                    have := hd b o hb
                    repeat rw [hset_ne _ _ (by omega)]
                    exact eS _ _ hb
              · conv => whnf
                refine (takenumber_spec ⟨(Lib.trimLeftB (keptL i1) 48).toArray⟩ (by rw [mk_size]; exact hDl)).mono ?_
                rintro _ F TF hDF hTF ⟨n3, is3, rfl, hn30, hn31, hn3k, hsF, _⟩
                have hI : TkI i1 n3 is3 := tkI_num (fun e => hz (by rw [e])) hn3k
                have f2 := hsF _ _ m2
                have f4 := hsF _ _ m4
                have f8 := hsF _ _ m8
                have fS := mS.trans hsF
                have hgood := hfin n3 is3 hI
                conv => whnf
                repeat (first | ((with_reducible apply Go.Vc.ldrow); (focus ((repeat (first | with_reducible assumption | with_reducible exact Go.Vc.hset_same _ _ _ | with_reducible refine (Go.Vc.hset_ne _ _ (by omega)).trans ?_)); done)); (focus exact rfl); rintro _ rfl; conv => whnf) | ((with_reducible apply Go.Vc.st_i); (focus ((repeat (first | with_reducible assumption | with_reducible exact Go.Vc.hset_same _ _ _ | with_reducible refine (Go.Vc.hset_ne _ _ (by omega)).trans ?_)); done)); (focus exact rfl); (focus exact rfl); (focus exact rfl); (conv => whnf); intro cA hcA; (first | (simp only [List.setIfInBounds_toArray, List.set_cons_succ, List.set_cons_zero] at hcA; subst hcA) | subst hcA); conv => whnf))
                by_cases hR : RightC lvv n3 wdv
                · refine (path_spec lvv n3 wdv hR).mono ?_
                  rintro _ E TE hDE hTE ⟨rfl, hsE, _⟩
                  have e2 := hsE r2 _ ((hset_ne _ _ (by omega)).trans f2)
                  have e4 := hsE r4 _ ((hset_ne _ _ (by omega)).trans f4)
                  have e8 := hsE r8 _ (hset_same _ _ _)
                  have eS : Vc.Sub h E := fun b o hb => hsE _ _ (by
                    have := hd b o hb
                    rw [hset_ne _ _ (by omega)]
                    exact fS _ _ hb)
                  cases is3
                  · conv => whnf
                    repeat (first | ((with_reducible apply Go.Vc.ldrow); (focus ((repeat (first | with_reducible assumption | with_reducible exact Go.Vc.hset_same _ _ _ | with_reducible refine (Go.Vc.hset_ne _ _ (by omega)).trans ?_)); done)); (focus exact rfl); rintro _ rfl; conv => whnf) | ((with_reducible apply Go.Vc.strow); (focus ((repeat (first | with_reducible assumption | with_reducible exact Go.Vc.hset_same _ _ _ | with_reducible refine (Go.Vc.hset_ne _ _ (by omega)).trans ?_)); done)); (focus exact rfl); (focus exact rfl); (focus exact rfl); rintro _ rfl; conv => whnf))
                    refine ⟨.inr ⟨take_no hgood (by first | exact .inl rfl | exact .inr (.inl rfl) | exact .inr (.inr (.inl hR)) | exact .inr (.inr (.inr hts))), rfl⟩, ?_, by omega⟩
                    intro b o hb
                    have := hd b o hb
                    repeat rw [hset_ne _ _ (by omega)]
                    exact eS _ _ hb
                  · conv => whnf
                    repeat (first | ((with_reducible apply Go.Vc.ldrow); (focus ((repeat (first | with_reducible assumption | with_reducible exact Go.Vc.hset_same _ _ _ | with_reducible refine (Go.Vc.hset_ne _ _ (by omega)).trans ?_)); done)); (focus exact rfl); rintro _ rfl; conv => whnf) | ((with_reducible apply Go.Vc.strow); (focus ((repeat (first | with_reducible assumption | with_reducible exact Go.Vc.hset_same _ _ _ | with_reducible refine (Go.Vc.hset_ne _ _ (by omega)).trans ?_)); done)); (focus exact rfl); (focus exact rfl); (focus exact rfl); rintro _ rfl; conv => whnf))
                    first
                    | refine ⟨.inr ⟨take_no hgood (by first | exact .inl rfl | exact .inr (.inl rfl) | exact .inr (.inr (.inl hR)) | exact .inr (.inr (.inr hts))), rfl⟩, ?_, by omega⟩
                      intro b o hb
                      have := hd b o hb
                      repeat rw [hset_ne _ _ (by omega)]
                      exact eS _ _ hb
                    | refine br (fun hts => ?_) (fun hts => ?_)
                      · conv => whnf
                        refine ⟨.inr ⟨take_no hgood (by first | exact .inl rfl | exact .inr (.inl rfl) | exact .inr (.inr (.inl hR)) | exact .inr (.inr (.inr hts))), rfl⟩, ?_, by omega⟩
                        intro b o hb
                        have := hd b o hb
                        repeat rw [hset_ne _ _ (by omega)]
                        exact eS _ _ hb
                      · conv => whnf
                        refine ⟨.inl ⟨lvv, n3, wdv, hR, Classical.not_not.1 hts, rfl⟩, ?_, by omega⟩
                        intro b o hb
                        have := hd b o hb
                        repeat rw [hset_ne _ _ (by omega)]
                        exact eS _ _ hb
                · refine (path_no lvv n3 wdv hR).mono ?_
                  rintro _ E TE hDE hTE ⟨rfl, hsE, _⟩
                  have e2 := hsE r2 _ ((hset_ne _ _ (by omega)).trans f2)
                  have e4 := hsE r4 _ ((hset_ne _ _ (by omega)).trans f4)
                  have e8 := hsE r8 _ (hset_same _ _ _)
                  have eS : Vc.Sub h E := fun b o hb => hsE _ _ (by
                    have := hd b o hb
                    rw [hset_ne _ _ (by omega)]
                    exact fS _ _ hb)
                  cases is3
                  · conv => whnf
                    repeat (first | ((with_reducible apply Go.Vc.ldrow); (focus ((repeat (first | with_reducible assumption | with_reducible exact Go.Vc.hset_same _ _ _ | with_reducible refine (Go.Vc.hset_ne _ _ (by omega)).trans ?_)); done)); (focus exact rfl); rintro _ rfl; conv => whnf) | ((with_reducible apply Go.Vc.strow); (focus ((repeat (first | with_reducible assumption | with_reducible exact Go.Vc.hset_same _ _ _ | with_reducible refine (Go.Vc.hset_ne _ _ (by omega)).trans ?_)); done)); (focus exact rfl); (focus exact rfl); (focus exact rfl); rintro _ rfl; conv => whnf))
                    refine ⟨.inr ⟨take_no hgood (by first | exact .inl rfl | exact .inr (.inl rfl) | exact .inr (.inr (.inl hR)) | exact .inr (.inr (.inr hts))), rfl⟩, ?_, by omega⟩
                    intro b o hb
                    have := hd b o hb
                    repeat rw [hset_ne _ _ (by omega)]
                    exact eS _ _ hb
                  · conv => whnf
                    repeat (first | ((with_reducible apply Go.Vc.ldrow); (focus ((repeat (first | with_reducible assumption | with_reducible exact Go.Vc.hset_same _ _ _ | with_reducible refine (Go.Vc.hset_ne _ _ (by omega)).trans ?_)); done)); (focus exact rfl); rintro _ rfl; conv => whnf) | ((with_reducible apply Go.Vc.strow); (focus ((repeat (first | with_reducible assumption | with_reducible exact Go.Vc.hset_same _ _ _ | with_reducible refine (Go.Vc.hset_ne _ _ (by omega)).trans ?_)); done)); (focus exact rfl); (focus exact rfl); (focus exact rfl); rintro _ rfl; conv => whnf))
                    refine ⟨.inr ⟨take_no hgood (by first | exact .inl rfl | exact .inr (.inl rfl) | exact .inr (.inr (.inl hR)) | exact .inr (.inr (.inr hts))), rfl⟩, ?_, by omega⟩
                    intro b o hb
                    have := hd b o hb
                    repeat rw [hset_ne _ _ (by omega)]
                    exact eS _ _ hb
        · conv => whnf
          repeat (first | ((with_reducible apply Go.Vc.st_i); (focus ((repeat (first | with_reducible assumption | with_reducible exact Go.Vc.hset_same _ _ _ | with_reducible refine (Go.Vc.hset_ne _ _ (by omega)).trans ?_)); done)); (focus exact rfl); (focus exact rfl); (focus exact rfl); (conv => whnf); intro cA hcA; (first | (simp only [List.setIfInBounds_toArray, List.set_cons_succ, List.set_cons_zero] at hcA; subst hcA) | subst hcA); conv => whnf))
          refine (cut_spec ⟨l2.toArray⟩ ⟨#[46, 112, 47]⟩ (by rw [mk_size]; omega) (hM.sub (by
            intro b o hb
            have := hd b o hb
            repeat rw [hset_ne _ _ (by omega)]
            exact hbase _ _ hb))).mono ?_
          rintro _ G T hD _ ⟨rfl, hG, rfl⟩
          have G2 : G r2 = some (.cells #[.int .i64 0, .int .i64 0, .int .i64 0] 23 (0, 0)) := by
            rw [hG]
            repeat rw [hset_ne _ _ (by omega)]
            exact hb2
          have G4 : G r4 = some (.cells #[.int .i64 0, .int .i64 0, .int .i64 0] 23 (0, 0)) := by
            rw [hG]
            repeat rw [hset_ne _ _ (by omega)]
            exact hb4
          have G8 : G r8 = some (.cells #[.int .i64 lvv, .int .i64 0, .int .i64 256] 23 (0, 0)) := by
            rw [hG, hset_same, hlv]
            rfl
          have GS : Vc.Sub h G := by
            intro b o hb
            have := hd b o hb
            rw [hG]
            repeat rw [hset_ne _ _ (by omega)]
            exact hbase _ _ hb
          clear hG
          obtain ⟨i1, w1, b2, hC2⟩ : ∃ i1 w1 b2, Lib.cut l2 ppB.data.toList = (i1, w1, b2) := ⟨_, _, _, rfl⟩
          have hC2l := cut_len (s := l2) (p := ppB.data.toList)
          rw [show (⟨l2.toArray⟩ : ByteArray).data.toList = l2 from rfl, show (⟨#[46, 112, 47]⟩ : ByteArray).data.toList = ppB.data.toList from rfl, hC2]
          rw [hC2] at hC2l
          dsimp only at hC2l ⊢
          have hC1s := hP1 ▸ hC1
          cases b2
          · obtain ⟨wdv, hwv⟩ : ∃ x : Int, 256 = x := ⟨_, rfl⟩
            have hfin := fun (n : Int) (is : Bool) (hI : TkI i1 n is) (lv ix wd : Int) (hR : RightC lv ix wd) (he : pathS lv ix wd = s) => take_good hC1s hC2 hTk tkW_none hI hR he
            rw [hwv] at hfin
            have hc2 := G2
            have hc4 := G4
            have hc8 := G8
            have hbs := GS
            conv => whnf
            repeat (first | (intro _ _; conv => whnf))
            rename_i rS hrS
            refine (newreplacer_spec (hset_same _ _ _)).mono ?_
            rintro _ N TN hDN hTN ⟨rr, cc, aa, rfl, hrr, hslo, hcc, hab, hrt, hrt2, hsN⟩
            have n2' : N r2 = some (.cells #[.int .i64 0, .int .i64 0, .int .i64 0] 23 (0, 0)) := hsN _ _ (by
              repeat rw [hset_ne _ _ (by omega)]
              exact hc2)
            have n4' : N r4 = some (.cells #[.int .i64 0, .int .i64 0, .int .i64 0] 23 (0, 0)) := hsN _ _ (by
              repeat rw [hset_ne _ _ (by omega)]
              exact hc4)
            have n8' : N r8 = some (.cells #[.int .i64 lvv, .int .i64 0, .int .i64 wdv] 23 (0, 0)) := hsN _ _ (by
              rw [hset_ne _ _ (by omega), ← hwv]
              first
              | exact hc8
              | exact hset_same _ _ _)
            have nS : Vc.Sub h N := fun b o hb => hsN _ _ (by
              have := hd b o hb
              repeat rw [hset_ne _ _ (by omega)]
              exact hbs _ _ hb)
            conv => whnf
            refine (replace_spec ⟨i1.toArray⟩ (by rw [mk_size]; omega) hrr hslo hcc hab).mono ?_
            rintro _ M TM hDM hTM ⟨rfl, hfM, _⟩
            have m2 := hfM r2 _ (by omega) n2'
            have m4 := hfM r4 _ (by omega) n4'
            have m8 := hfM r8 _ (by omega) n8'
            have mS : Vc.Sub h M := fun b o hb => hfM b o (by have := hd b o hb; omega) (nS b o hb)
            rw [show (⟨i1.toArray⟩ : ByteArray).data.toList = i1 from rfl]
            conv => whnf
            refine (trimleft_spec _ 48 (by decide)).mono ?_
            rintro _ M2 TM2 hDM2 hTM2 ⟨rfl, rfl, rfl⟩
            rw [show (⟨(keptL i1).toArray⟩ : ByteArray).data.toList = keptL i1 from rfl]
            have hDl : (Lib.trimLeftB (keptL i1) 48).length ≤ 1048576 := by
              have h1 := trimLeft_len (s := keptL i1) (c := 48)
              have h2 : (keptL i1).length ≤ i1.length := List.length_filter_le _ _
              omega
            conv => whnf
            refine br (fun hz => ?_) (fun hz => ?_)
            · conv => whnf
              refine (takenumber_spec ⟨#[48]⟩ (by decide)).mono ?_
              rintro _ F TF hDF hTF ⟨n3, is3, rfl, hn30, hn31, hn3k, hsF, _⟩
              have hI : TkI i1 n3 is3 := tkI_zero (congrArg (fun x : ByteArray => x.data.toList) hz) hn3k
              have f2 := hsF _ _ m2
              have f4 := hsF _ _ m4
              have f8 := hsF _ _ m8
              have fS := mS.trans hsF
              have hgood := hfin n3 is3 hI
              conv => whnf
              repeat (first | ((with_reducible apply Go.Vc.ldrow); (focus ((repeat (first | with_reducible assumption | with_reducible exact Go.Vc.hset_same _ _ _ | with_reducible refine (Go.Vc.hset_ne _ _ (by omega)).trans ?_)); done)); (focus exact rfl); rintro _ rfl; conv => whnf) | ((with_reducible apply Go.Vc.st_i); (focus ((repeat (first | with_reducible assumption | with_reducible exact Go.Vc.hset_same _ _ _ | with_reducible refine (Go.Vc.hset_ne _ _ (by omega)).trans ?_)); done)); (focus exact rfl); (focus exact rfl); (focus exact rfl); (conv => whnf); intro cA hcA; (first | (simp only [List.setIfInBounds_toArray, List.set_cons_succ, List.set_cons_zero] at hcA; subst hcA) | subst hcA); conv => whnf))
              by_cases hR : RightC lvv n3 wdv
              · refine (path_spec lvv n3 wdv hR).mono ?_
                rintro _ E TE hDE hTE ⟨rfl, hsE, _⟩
                have e2 := hsE r2 _ ((hset_ne _ _ (by omega)).trans f2)
                have e4 := hsE r4 _ ((hset_ne _ _ (by omega)).trans f4)
                have e8 := hsE r8 _ (hset_same _ _ _)
                have eS : Vc.Sub h E := fun b o hb => hsE _ _ (by
                  have := hd b o hb
                  rw [hset_ne _ _ (by omega)]
                  exact fS _ _ hb)
                cases is3
                · conv => whnf
                  repeat (first | ((with_reducible apply Go.Vc.ldrow); (focus ((repeat (first | with_reducible assumption | with_reducible exact Go.Vc.hset_same _ _ _ | with_reducible refine (Go.Vc.hset_ne _ _ (by omega)).trans ?_)); done)); (focus exact rfl); rintro _ rfl; conv => whnf) | ((with_reducible apply Go.Vc.strow); (focus ((repeat (first | with_reducible assumption | with_reducible exact Go.Vc.hset_same _ _ _ | with_reducible refine (Go.Vc.hset_ne _ _ (by omega)).trans ?_)); done)); (focus exact rfl); (focus exact rfl); (focus exact rfl); rintro _ rfl; conv => whnf))
                  refine ⟨.inr ⟨take_no hgood (by first | exact .inl rfl | exact .inr (.inl rfl) | exact .inr (.inr (.inl hR)) | exact .inr (.inr (.inr hts))), rfl⟩, ?_, by omega⟩
                  intro b o hb
                  have := hd b o hb
                  repeat rw [hset_ne _ _ (by omega)]
                  exact eS _ _ hb
                · conv => whnf
                  repeat (first | (refine Go.Vc.br_f ?_ ?_; (focus omega); conv => whnf))
                  first
                  | refine ⟨.inr ⟨take_no hgood (by first | exact .inl rfl | exact .inr (.inl rfl) | exact .inr (.inr (.inl hR)) | exact .inr (.inr (.inr hts))), rfl⟩, ?_, by omega⟩
                    intro b o hb
                    have := hd b o hb
                    repeat rw [hset_ne _ _ (by omega)]
                    exact eS _ _ hb
                  | refine br (fun hts => ?_) (fun hts => ?_)
                    · conv => whnf
                      repeat (first | ((with_reducible apply Go.Vc.ldrow); (focus ((repeat (first | with_reducible assumption | with_reducible exact Go.Vc.hset_same _ _ _ | with_reducible refine (Go.Vc.hset_ne _ _ (by omega)).trans ?_)); done)); (focus exact rfl); rintro _ rfl; conv => whnf) | ((with_reducible apply Go.Vc.strow); (focus ((repeat (first | with_reducible assumption | with_reducible exact Go.Vc.hset_same _ _ _ | with_reducible refine (Go.Vc.hset_ne _ _ (by omega)).trans ?_)); done)); (focus exact rfl); (focus exact rfl); (focus exact rfl); rintro _ rfl; conv => whnf))
                      refine ⟨.inr ⟨take_no hgood (by first | exact .inl rfl | exact .inr (.inl rfl) | exact .inr (.inr (.inl hR)) | exact .inr (.inr (.inr hts))), rfl⟩, ?_, by omega⟩
                      intro b o hb
                      have := hd b o hb
                      repeat rw [hset_ne _ _ (by omega)]
                      exact eS _ _ hb
                    · conv => whnf
                      repeat (first | ((with_reducible apply Go.Vc.ldrow); (focus ((repeat (first | with_reducible assumption | with_reducible exact Go.Vc.hset_same _ _ _ | with_reducible refine (Go.Vc.hset_ne _ _ (by omega)).trans ?_)); done)); (focus exact rfl); rintro _ rfl; conv => whnf) | ((with_reducible apply Go.Vc.strow); (focus ((repeat (first | with_reducible assumption | with_reducible exact Go.Vc.hset_same _ _ _ | with_reducible refine (Go.Vc.hset_ne _ _ (by omega)).trans ?_)); done)); (focus exact rfl); (focus exact rfl); (focus exact rfl); rintro _ rfl; conv => whnf))
                      refine ⟨.inl ⟨lvv, n3, wdv, hR, Classical.not_not.1 hts, rfl⟩, ?_, by omega⟩
                      intro b o hb
                      have := hd b o hb
                      repeat rw [hset_ne _ _ (by omega)]
                      exact eS _ _ hb
              · refine (path_no lvv n3 wdv hR).mono ?_
                rintro _ E TE hDE hTE ⟨rfl, hsE, _⟩
                have e2 := hsE r2 _ ((hset_ne _ _ (by omega)).trans f2)
                have e4 := hsE r4 _ ((hset_ne _ _ (by omega)).trans f4)
                have e8 := hsE r8 _ (hset_same _ _ _)
                have eS : Vc.Sub h E := fun b o hb => hsE _ _ (by
                  have := hd b o hb
                  rw [hset_ne _ _ (by omega)]
                  exact fS _ _ hb)
                cases is3
                · conv => whnf
                  repeat (first | ((with_reducible apply Go.Vc.ldrow); (focus ((repeat (first | with_reducible assumption | with_reducible exact Go.Vc.hset_same _ _ _ | with_reducible refine (Go.Vc.hset_ne _ _ (by omega)).trans ?_)); done)); (focus exact rfl); rintro _ rfl; conv => whnf) | ((with_reducible apply Go.Vc.strow); (focus ((repeat (first | with_reducible assumption | with_reducible exact Go.Vc.hset_same _ _ _ | with_reducible refine (Go.Vc.hset_ne _ _ (by omega)).trans ?_)); done)); (focus exact rfl); (focus exact rfl); (focus exact rfl); rintro _ rfl; conv => whnf))
                  refine ⟨.inr ⟨take_no hgood (by first | exact .inl rfl | exact .inr (.inl rfl) | exact .inr (.inr (.inl hR)) | exact .inr (.inr (.inr hts))), rfl⟩, ?_, by omega⟩
                  intro b o hb
                  have := hd b o hb
                  repeat rw [hset_ne _ _ (by omega)]
                  exact eS _ _ hb
                · conv => whnf
                  repeat (first | ((with_reducible apply Go.Vc.ldrow); (focus ((repeat (first | with_reducible assumption | with_reducible exact Go.Vc.hset_same _ _ _ | with_reducible refine (Go.Vc.hset_ne _ _ (by omega)).trans ?_)); done)); (focus exact rfl); rintro _ rfl; conv => whnf) | ((with_reducible apply Go.Vc.strow); (focus ((repeat (first | with_reducible assumption | with_reducible exact Go.Vc.hset_same _ _ _ | with_reducible refine (Go.Vc.hset_ne _ _ (by omega)).trans ?_)); done)); (focus exact rfl); (focus exact rfl); (focus exact rfl); rintro _ rfl; conv => whnf) | (refine Go.Vc.br_t ?_ ?_; (focus omega); conv => whnf))
                  refine ⟨.inr ⟨take_no hgood (by first | exact .inl rfl | exact .inr (.inl rfl) | exact .inr (.inr (.inl hR)) | exact .inr (.inr (.inr hts))), rfl⟩, ?_, by omega⟩
                  intro b o hb
                  have := hd b o hb
                  repeat rw [hset_ne _ _ (by omega)]
                  exact eS _ _ hb
            · conv => whnf
              refine (takenumber_spec ⟨(Lib.trimLeftB (keptL i1) 48).toArray⟩ (by rw [mk_size]; exact hDl)).mono ?_
              rintro _ F TF hDF hTF ⟨n3, is3, rfl, hn30, hn31, hn3k, hsF, _⟩
              have hI : TkI i1 n3 is3 := tkI_num (fun e => hz (by rw [e])) hn3k
              have f2 := hsF _ _ m2
              have f4 := hsF _ _ m4
              have f8 := hsF _ _ m8
              have fS := mS.trans hsF
              have hgood := hfin n3 is3 hI
              conv => whnf
              repeat (first | ((with_reducible apply Go.Vc.ldrow); (focus ((repeat (first | with_reducible assumption | with_reducible exact Go.Vc.hset_same _ _ _ | with_reducible refine (Go.Vc.hset_ne _ _ (by omega)).trans ?_)); done)); (focus exact rfl); rintro _ rfl; conv => whnf) | ((with_reducible apply Go.Vc.st_i); (focus ((repeat (first | with_reducible assumption | with_reducible exact Go.Vc.hset_same _ _ _ | with_reducible refine (Go.Vc.hset_ne _ _ (by omega)).trans ?_)); done)); (focus exact rfl); (focus exact rfl); (focus exact rfl); (conv => whnf); intro cA hcA; (first | (simp only [List.setIfInBounds_toArray, List.set_cons_succ, List.set_cons_zero] at hcA; subst hcA) | subst hcA); conv => whnf))
              by_cases hR : RightC lvv n3 wdv
              · refine (path_spec lvv n3 wdv hR).mono ?_
                rintro _ E TE hDE hTE ⟨rfl, hsE, _⟩
                have e2 := hsE r2 _ ((hset_ne _ _ (by omega)).trans f2)
                have e4 := hsE r4 _ ((hset_ne _ _ (by omega)).trans f4)
                have e8 := hsE r8 _ (hset_same _ _ _)
                have eS : Vc.Sub h E := fun b o hb => hsE _ _ (by
                  have := hd b o hb
                  rw [hset_ne _ _ (by omega)]
                  exact fS _ _ hb)
                cases is3
                · conv => whnf
                  repeat (first | ((with_reducible apply Go.Vc.ldrow); (focus ((repeat (first | with_reducible assumption | with_reducible exact Go.Vc.hset_same _ _ _ | with_reducible refine (Go.Vc.hset_ne _ _ (by omega)).trans ?_)); done)); (focus exact rfl); rintro _ rfl; conv => whnf) | ((with_reducible apply Go.Vc.strow); (focus ((repeat (first | with_reducible assumption | with_reducible exact Go.Vc.hset_same _ _ _ | with_reducible refine (Go.Vc.hset_ne _ _ (by omega)).trans ?_)); done)); (focus exact rfl); (focus exact rfl); (focus exact rfl); rintro _ rfl; conv => whnf))
                  refine ⟨.inr ⟨take_no hgood (by first | exact .inl rfl | exact .inr (.inl rfl) | exact .inr (.inr (.inl hR)) | exact .inr (.inr (.inr hts))), rfl⟩, ?_, by omega⟩
                  intro b o hb
                  have := hd b o hb
                  repeat rw [hset_ne _ _ (by omega)]
                  exact eS _ _ hb
                · conv => whnf
                  repeat (first | (refine Go.Vc.br_f ?_ ?_; (focus omega); conv => whnf))
                  first
                  | refine ⟨.inr ⟨take_no hgood (by first | exact .inl rfl | exact .inr (.inl rfl) | exact .inr (.inr (.inl hR)) | exact .inr (.inr (.inr hts))), rfl⟩, ?_, by omega⟩
                    intro b o hb
                    have := hd b o hb
                    repeat rw [hset_ne _ _ (by omega)]
                    exact eS _ _ hb
                  | refine br (fun hts => ?_) (fun hts => ?_)
                    · conv => whnf
                      repeat (first | ((with_reducible apply Go.Vc.ldrow); (focus ((repeat (first | with_reducible assumption | with_reducible exact Go.Vc.hset_same _ _ _ | with_reducible refine (Go.Vc.hset_ne _ _ (by omega)).trans ?_)); done)); (focus exact rfl); rintro _ rfl; conv => whnf) | ((with_reducible apply Go.Vc.strow); (focus ((repeat (first | with_reducible assumption | with_reducible exact Go.Vc.hset_same _ _ _ | with_reducible refine (Go.Vc.hset_ne _ _ (by omega)).trans ?_)); done)); (focus exact rfl); (focus exact rfl); (focus exact rfl); rintro _ rfl; conv => whnf))
                      refine ⟨.inr ⟨take_no hgood (by first | exact .inl rfl | exact .inr (.inl rfl) | exact .inr (.inr (.inl hR)) | exact .inr (.inr (.inr hts))), rfl⟩, ?_, by omega⟩
                      intro b o hb
                      have := hd b o hb
                      repeat rw [hset_ne _ _ (by omega)]
                      exact eS _ _ hb
                    · conv => whnf
                      repeat (first | ((with_reducible apply Go.Vc.ldrow); (focus ((repeat (first | with_reducible assumption | with_reducible exact Go.Vc.hset_same _ _ _ | with_reducible refine (Go.Vc.hset_ne _ _ (by omega)).trans ?_)); done)); (focus exact rfl); rintro _ rfl; conv => whnf) | ((with_reducible apply Go.Vc.strow); (focus ((repeat (first | with_reducible assumption | with_reducible exact Go.Vc.hset_same _ _ _ | with_reducible refine (Go.Vc.hset_ne _ _ (by omega)).trans ?_)); done)); (focus exact rfl); (focus exact rfl); (focus exact rfl); rintro _ rfl; conv => whnf))
                      refine ⟨.inl ⟨lvv, n3, wdv, hR, Classical.not_not.1 hts, rfl⟩, ?_, by omega⟩
                      intro b o hb
                      have := hd b o hb
                      repeat rw [hset_ne _ _ (by omega)]
                      exact eS _ _ hb
              · refine (path_no lvv n3 wdv hR).mono ?_
                rintro _ E TE hDE hTE ⟨rfl, hsE, _⟩
                have e2 := hsE r2 _ ((hset_ne _ _ (by omega)).trans f2)
                have e4 := hsE r4 _ ((hset_ne _ _ (by omega)).trans f4)
                have e8 := hsE r8 _ (hset_same _ _ _)
                have eS : Vc.Sub h E := fun b o hb => hsE _ _ (by
                  have := hd b o hb
                  rw [hset_ne _ _ (by omega)]
                  exact fS _ _ hb)
                cases is3
                · conv => whnf
                  repeat (first | ((with_reducible apply Go.Vc.ldrow); (focus ((repeat (first | with_reducible assumption | with_reducible exact Go.Vc.hset_same _ _ _ | with_reducible refine (Go.Vc.hset_ne _ _ (by omega)).trans ?_)); done)); (focus exact rfl); rintro _ rfl; conv => whnf) | ((with_reducible apply Go.Vc.strow); (focus ((repeat (first | with_reducible assumption | with_reducible exact Go.Vc.hset_same _ _ _ | with_reducible refine (Go.Vc.hset_ne _ _ (by omega)).trans ?_)); done)); (focus exact rfl); (focus exact rfl); (focus exact rfl); rintro _ rfl; conv => whnf))
                  refine ⟨.inr ⟨take_no hgood (by first | exact .inl rfl | exact .inr (.inl rfl) | exact .inr (.inr (.inl hR)) | exact .inr (.inr (.inr hts))), rfl⟩, ?_, by omega⟩
                  intro b o hb
                  have := hd b o hb
                  repeat rw [hset_ne _ _ (by omega)]
                  exact eS _ _ hb
                · conv => whnf
                  repeat (first | ((with_reducible apply Go.Vc.ldrow); (focus ((repeat (first | with_reducible assumption | with_reducible exact Go.Vc.hset_same _ _ _ | with_reducible refine (Go.Vc.hset_ne _ _ (by omega)).trans ?_)); done)); (focus exact rfl); rintro _ rfl; conv => whnf) | ((with_reducible apply Go.Vc.strow); (focus ((repeat (first | with_reducible assumption | with_reducible exact Go.Vc.hset_same _ _ _ | with_reducible refine (Go.Vc.hset_ne _ _ (by omega)).trans ?_)); done)); (focus exact rfl); (focus exact rfl); (focus exact rfl); rintro _ rfl; conv => whnf) | (refine Go.Vc.br_t ?_ ?_; (focus omega); conv => whnf))
                  refine ⟨.inr ⟨take_no hgood (by first | exact .inl rfl | exact .inr (.inl rfl) | exact .inr (.inr (.inl hR)) | exact .inr (.inr (.inr hts))), rfl⟩, ?_, by omega⟩
                  intro b o hb
                  have := hd b o hb
                  repeat rw [hset_ne _ _ (by omega)]
                  exact eS _ _ hb
          · conv => whnf
            refine (takenumber_spec ⟨w1.toArray⟩ (by rw [mk_size]; omega)).mono ?_
            rintro _ Gc Tc hDc hTc ⟨n2, is2, rfl, hn20, hn21, hn2k, hsc, _⟩
            have hc2 := hsc _ _ G2
            have hc4 := hsc _ _ G4
            have hc8 := hsc _ _ G8
            have hbs := GS.trans hsc
            obtain ⟨wdv, hwv⟩ : ∃ x : Int, n2 = x := ⟨_, rfl⟩
            cases is2
            · first
              | have hfin := fun (n : Int) (is : Bool) (hI : TkI i1 n is) (lv ix wd : Int) (hR : RightC lv ix wd) (he : pathS lv ix wd = s) => take_good hC1s hC2 hTk (tkW_num hn2k) hI hR he
              | have hfin := fun (n : Int) (is : Bool) (hI : TkI i1 n is) (lv ix wd : Int) (hR : RightC lv ix wd) (he : pathS lv ix wd = s) => take_good hC1s hC2 hTk (tkW_no (n := n2) (ok := false)) hI hR he
              rw [hwv] at hfin
              conv => whnf
              repeat (first | ((with_reducible apply Go.Vc.st_i); (focus ((repeat (first | with_reducible assumption | with_reducible exact Go.Vc.hset_same _ _ _ | with_reducible refine (Go.Vc.hset_ne _ _ (by omega)).trans ?_)); done)); (focus exact rfl); (focus exact rfl); (focus exact rfl); (conv => whnf); intro cA hcA; (first | (simp only [List.setIfInBounds_toArray, List.set_cons_succ, List.set_cons_zero] at hcA; subst hcA) | subst hcA); conv => whnf) | (intro _ _; conv => whnf))
              rename_i rS hrS
              refine (newreplacer_spec (hset_same _ _ _)).mono ?_
              rintro _ N TN hDN hTN ⟨rr, cc, aa, rfl, hrr, hslo, hcc, hab, hrt, hrt2, hsN⟩
              have n2' : N r2 = some (.cells #[.int .i64 0, .int .i64 0, .int .i64 0] 23 (0, 0)) := hsN _ _ (by
                repeat rw [hset_ne _ _ (by omega)]
                exact hc2)
              have n4' : N r4 = some (.cells #[.int .i64 0, .int .i64 0, .int .i64 0] 23 (0, 0)) := hsN _ _ (by
                repeat rw [hset_ne _ _ (by omega)]
                exact hc4)
              have n8' : N r8 = some (.cells #[.int .i64 lvv, .int .i64 0, .int .i64 wdv] 23 (0, 0)) := hsN _ _ (by
                rw [hset_ne _ _ (by omega), ← hwv]
                first
                | exact hc8
                | exact hset_same _ _ _)
              have nS : Vc.Sub h N := fun b o hb => hsN _ _ (by
                have := hd b o hb
                repeat rw [hset_ne _ _ (by omega)]
                exact hbs _ _ hb)
              conv => whnf
              refine (replace_spec ⟨i1.toArray⟩ (by rw [mk_size]; omega) hrr hslo hcc hab).mono ?_
              rintro _ M TM hDM hTM ⟨rfl, hfM, _⟩
              have m2 := hfM r2 _ (by omega) n2'
              have m4 := hfM r4 _ (by omega) n4'
              have m8 := hfM r8 _ (by omega) n8'
              have mS : Vc.Sub h M := fun b o hb => hfM b o (by have := hd b o hb; omega) (nS b o hb)
              rw [show (⟨i1.toArray⟩ : ByteArray).data.toList = i1 from rfl]
              conv => whnf
              refine (trimleft_spec _ 48 (by decide)).mono ?_
              rintro _ M2 TM2 hDM2 hTM2 ⟨rfl, rfl, rfl⟩
              rw [show (⟨(keptL i1).toArray⟩ : ByteArray).data.toList = keptL i1 from rfl]
              have hDl : (Lib.trimLeftB (keptL i1) 48).length ≤ 1048576 := by
                have h1 := trimLeft_len (s := keptL i1) (c := 48)
                have h2 : (keptL i1).length ≤ i1.length := List.length_filter_le _ _
                omega
              conv => whnf
              refine br (fun hz => ?_) (fun hz => ?_)
              · conv => whnf
                refine (takenumber_spec ⟨#[48]⟩ (by decide)).mono ?_
                rintro _ F TF hDF hTF ⟨n3, is3, rfl, hn30, hn31, hn3k, hsF, _⟩
                have hI : TkI i1 n3 is3 := tkI_zero (congrArg (fun x : ByteArray => x.data.toList) hz) hn3k
                have f2 := hsF _ _ m2
                have f4 := hsF _ _ m4
                have f8 := hsF _ _ m8
                have fS := mS.trans hsF
                have hgood := hfin n3 is3 hI
                conv => whnf
                repeat (first | ((with_reducible apply Go.Vc.ldrow); (focus ((repeat (first | with_reducible assumption | with_reducible exact Go.Vc.hset_same _ _ _ | with_reducible refine (Go.Vc.hset_ne _ _ (by omega)).trans ?_)); done)); (focus exact rfl); rintro _ rfl; conv => whnf) | ((with_reducible apply Go.Vc.st_i); (focus ((repeat (first | with_reducible assumption | with_reducible exact Go.Vc.hset_same _ _ _ | with_reducible refine (Go.Vc.hset_ne _ _ (by omega)).trans ?_)); done)); (focus exact rfl); (focus exact rfl); (focus exact rfl); (conv => whnf); intro cA hcA; (first | (simp only [List.setIfInBounds_toArray, List.set_cons_succ, List.set_cons_zero] at hcA; subst hcA) | subst hcA); conv => whnf))
                by_cases hR : RightC lvv n3 wdv
                · refine (path_spec lvv n3 wdv hR).mono ?_
                  rintro _ E TE hDE hTE ⟨rfl, hsE, _⟩
                  have e2 := hsE r2 _ ((hset_ne _ _ (by omega)).trans f2)
                  have e4 := hsE r4 _ ((hset_ne _ _ (by omega)).trans f4)
                  have e8 := hsE r8 _ (hset_same _ _ _)
                  have eS : Vc.Sub h E := fun b o hb => hsE _ _ (by
                    have := hd b o hb
                    rw [hset_ne _ _ (by omega)]
                    exact fS _ _ hb)
                  cases is3
                  · conv => whnf
                    repeat (first | ((with_reducible apply Go.Vc.ldrow); (focus ((repeat (first | with_reducible assumption | with_reducible exact Go.Vc.hset_same _ _ _ | with_reducible refine (Go.Vc.hset_ne _ _ (by omega)).trans ?_)); done)); (focus exact rfl); rintro _ rfl; conv => whnf) | ((with_reducible apply Go.Vc.strow); (focus ((repeat (first | with_reducible assumption | with_reducible exact Go.Vc.hset_same _ _ _ | with_reducible refine (Go.Vc.hset_ne _ _ (by omega)).trans ?_)); done)); (focus exact rfl); (focus exact rfl); (focus exact rfl); rintro _ rfl; conv => whnf))
                    refine ⟨.inr ⟨take_no hgood (by first | exact .inl rfl | exact .inr (.inl rfl) | exact .inr (.inr (.inl hR)) | exact .inr (.inr (.inr hts))), rfl⟩, ?_, by omega⟩
                    intro b o hb
                    have := hd b o hb
                    repeat rw [hset_ne _ _ (by omega)]
                    exact eS _ _ hb
                  · conv => whnf
                    repeat (first | ((with_reducible apply Go.Vc.ldrow); (focus ((repeat (first | with_reducible assumption | with_reducible exact Go.Vc.hset_same _ _ _ | with_reducible refine (Go.Vc.hset_ne _ _ (by omega)).trans ?_)); done)); (focus exact rfl); rintro _ rfl; conv => whnf) | ((with_reducible apply Go.Vc.strow); (focus ((repeat (first | with_reducible assumption | with_reducible exact Go.Vc.hset_same _ _ _ | with_reducible refine (Go.Vc.hset_ne _ _ (by omega)).trans ?_)); done)); (focus exact rfl); (focus exact rfl); (focus exact rfl); rintro _ rfl; conv => whnf))
                    first
                    | refine ⟨.inr ⟨take_no hgood (by first | exact .inl rfl | exact .inr (.inl rfl) | exact .inr (.inr (.inl hR)) | exact .inr (.inr (.inr hts))), rfl⟩, ?_, by omega⟩
                      intro b o hb
                      have := hd b o hb
                      repeat rw [hset_ne _ _ (by omega)]
                      exact eS _ _ hb
                    | refine br (fun hts => ?_) (fun hts => ?_)
                      · conv => whnf
                        refine ⟨.inr ⟨take_no hgood (by first | exact .inl rfl | exact .inr (.inl rfl) | exact .inr (.inr (.inl hR)) | exact .inr (.inr (.inr hts))), rfl⟩, ?_, by omega⟩
                        intro b o hb
                        have := hd b o hb
                        repeat rw [hset_ne _ _ (by omega)]
                        exact eS _ _ hb
                      · conv => whnf
                        refine ⟨.inl ⟨lvv, n3, wdv, hR, Classical.not_not.1 hts, rfl⟩, ?_, by omega⟩
                        intro b o hb
                        have := hd b o hb
                        repeat rw [hset_ne _ _ (by omega)]
                        exact eS _ _ hb
                · refine (path_no lvv n3 wdv hR).mono ?_
                  rintro _ E TE hDE hTE ⟨rfl, hsE, _⟩
                  have e2 := hsE r2 _ ((hset_ne _ _ (by omega)).trans f2)
                  have e4 := hsE r4 _ ((hset_ne _ _ (by omega)).trans f4)
                  have e8 := hsE r8 _ (hset_same _ _ _)
                  have eS : Vc.Sub h E := fun b o hb => hsE _ _ (by
                    have := hd b o hb
                    rw [hset_ne _ _ (by omega)]
                    exact fS _ _ hb)
                  cases is3
                  · conv => whnf
                    repeat (first | ((with_reducible apply Go.Vc.ldrow); (focus ((repeat (first | with_reducible assumption | with_reducible exact Go.Vc.hset_same _ _ _ | with_reducible refine (Go.Vc.hset_ne _ _ (by omega)).trans ?_)); done)); (focus exact rfl); rintro _ rfl; conv => whnf) | ((with_reducible apply Go.Vc.strow); (focus ((repeat (first | with_reducible assumption | with_reducible exact Go.Vc.hset_same _ _ _ | with_reducible refine (Go.Vc.hset_ne _ _ (by omega)).trans ?_)); done)); (focus exact rfl); (focus exact rfl); (focus exact rfl); rintro _ rfl; conv => whnf))
                    refine ⟨.inr ⟨take_no hgood (by first | exact .inl rfl | exact .inr (.inl rfl) | exact .inr (.inr (.inl hR)) | exact .inr (.inr (.inr hts))), rfl⟩, ?_, by omega⟩
                    intro b o hb
                    have := hd b o hb
                    repeat rw [hset_ne _ _ (by omega)]
                    exact eS _ _ hb
                  · conv => whnf
                    repeat (first | ((with_reducible apply Go.Vc.ldrow); (focus ((repeat (first | with_reducible assumption | with_reducible exact Go.Vc.hset_same _ _ _ | with_reducible refine (Go.Vc.hset_ne _ _ (by omega)).trans ?_)); done)); (focus exact rfl); rintro _ rfl; conv => whnf) | ((with_reducible apply Go.Vc.strow); (focus ((repeat (first | with_reducible assumption | with_reducible exact Go.Vc.hset_same _ _ _ | with_reducible refine (Go.Vc.hset_ne _ _ (by omega)).trans ?_)); done)); (focus exact rfl); (focus exact rfl); (focus exact rfl); rintro _ rfl; conv => whnf))
                    refine ⟨.inr ⟨take_no hgood (by first | exact .inl rfl | exact .inr (.inl rfl) | exact .inr (.inr (.inl hR)) | exact .inr (.inr (.inr hts))), rfl⟩, ?_, by omega⟩
                    intro b o hb
                    have := hd b o hb
                    repeat rw [hset_ne _ _ (by omega)]
                    exact eS _ _ hb
              · conv => whnf
                refine (takenumber_spec ⟨(Lib.trimLeftB (keptL i1) 48).toArray⟩ (by rw [mk_size]; exact hDl)).mono ?_
                rintro _ F TF hDF hTF ⟨n3, is3, rfl, hn30, hn31, hn3k, hsF, _⟩
                have hI : TkI i1 n3 is3 := tkI_num (fun e => hz (by rw [e])) hn3k
                have f2 := hsF _ _ m2
                have f4 := hsF _ _ m4
                have f8 := hsF _ _ m8
                have fS := mS.trans hsF
                have hgood := hfin n3 is3 hI
                conv => whnf
                repeat (first | ((with_reducible apply Go.Vc.ldrow); (focus ((repeat (first | with_reducible assumption | with_reducible exact Go.Vc.hset_same _ _ _ | with_reducible refine (Go.Vc.hset_ne _ _ (by omega)).trans ?_)); done)); (focus exact rfl); rintro _ rfl; conv => whnf) | ((with_reducible apply Go.Vc.st_i); (focus ((repeat (first | with_reducible assumption | with_reducible exact Go.Vc.hset_same _ _ _ | with_reducible refine (Go.Vc.hset_ne _ _ (by omega)).trans ?_)); done)); (focus exact rfl); (focus exact rfl); (focus exact rfl); (conv => whnf); intro cA hcA; (first | (simp only [List.setIfInBounds_toArray, List.set_cons_succ, List.set_cons_zero] at hcA; subst hcA) | subst hcA); conv => whnf))
                by_cases hR : RightC lvv n3 wdv
                · refine (path_spec lvv n3 wdv hR).mono ?_
                  rintro _ E TE hDE hTE ⟨rfl, hsE, _⟩
                  have e2 := hsE r2 _ ((hset_ne _ _ (by omega)).trans f2)
                  have e4 := hsE r4 _ ((hset_ne _ _ (by omega)).trans f4)
                  have e8 := hsE r8 _ (hset_same _ _ _)
                  have eS : Vc.Sub h E := fun b o hb => hsE _ _ (by
                    have := hd b o hb
                    rw [hset_ne _ _ (by omega)]
                    exact fS _ _ hb)
                  cases is3
                  · conv => whnf
                    repeat (first | ((with_reducible apply Go.Vc.ldrow); (focus ((repeat (first | with_reducible assumption | with_reducible exact Go.Vc.hset_same _ _ _ | with_reducible refine (Go.Vc.hset_ne _ _ (by omega)).trans ?_)); done)); (focus exact rfl); rintro _ rfl; conv => whnf) | ((with_reducible apply Go.Vc.strow); (focus ((repeat (first | with_reducible assumption | with_reducible exact Go.Vc.hset_same _ _ _ | with_reducible refine (Go.Vc.hset_ne _ _ (by omega)).trans ?_)); done)); (focus exact rfl); (focus exact rfl); (focus exact rfl); rintro _ rfl; conv => whnf))
                    refine ⟨.inr ⟨take_no hgood (by first | exact .inl rfl | exact .inr (.inl rfl) | exact .inr (.inr (.inl hR)) | exact .inr (.inr (.inr hts))), rfl⟩, ?_, by omega⟩
                    intro b o hb
                    have := hd b o hb
                    repeat rw [hset_ne _ _ (by omega)]
                    exact eS _ _ hb
                  · conv => whnf
                    repeat (first | ((with_reducible apply Go.Vc.ldrow); (focus ((repeat (first | with_reducible assumption | with_reducible exact Go.Vc.hset_same _ _ _ | with_reducible refine (Go.Vc.hset_ne _ _ (by omega)).trans ?_)); done)); (focus exact rfl); rintro _ rfl; conv => whnf) | ((with_reducible apply Go.Vc.strow); (focus ((repeat (first | with_reducible assumption | with_reducible exact Go.Vc.hset_same _ _ _ | with_reducible refine (Go.Vc.hset_ne _ _ (by omega)).trans ?_)); done)); (focus exact rfl); (focus exact rfl); (focus exact rfl); rintro _ rfl; conv => whnf))
                    first
                    | refine ⟨.inr ⟨take_no hgood (by first | exact .inl rfl | exact .inr (.inl rfl) | exact .inr (.inr (.inl hR)) | exact .inr (.inr (.inr hts))), rfl⟩, ?_, by omega⟩
                      intro b o hb
                      have := hd b o hb
                      repeat rw [hset_ne _ _ (by omega)]
                      exact eS _ _ hb
                    | refine br (fun hts => ?_) (fun hts => ?_)
                      · conv => whnf
                        refine ⟨.inr ⟨take_no hgood (by first | exact .inl rfl | exact .inr (.inl rfl) | exact .inr (.inr (.inl hR)) | exact .inr (.inr (.inr hts))), rfl⟩, ?_, by omega⟩
                        intro b o hb
                        have := hd b o hb
                        repeat rw [hset_ne _ _ (by omega)]
                        exact eS _ _ hb
                      · conv => whnf
                        refine ⟨.inl ⟨lvv, n3, wdv, hR, Classical.not_not.1 hts, rfl⟩, ?_, by omega⟩
                        intro b o hb
                        have := hd b o hb
                        repeat rw [hset_ne _ _ (by omega)]
                        exact eS _ _ hb
                · refine (path_no lvv n3 wdv hR).mono ?_
                  rintro _ E TE hDE hTE ⟨rfl, hsE, _⟩
                  have e2 := hsE r2 _ ((hset_ne _ _ (by omega)).trans f2)
                  have e4 := hsE r4 _ ((hset_ne _ _ (by omega)).trans f4)
                  have e8 := hsE r8 _ (hset_same _ _ _)
                  have eS : Vc.Sub h E := fun b o hb => hsE _ _ (by
                    have := hd b o hb
                    rw [hset_ne _ _ (by omega)]
                    exact fS _ _ hb)
                  cases is3
                  · conv => whnf
                    repeat (first | ((with_reducible apply Go.Vc.ldrow); (focus ((repeat (first | with_reducible assumption | with_reducible exact Go.Vc.hset_same _ _ _ | with_reducible refine (Go.Vc.hset_ne _ _ (by omega)).trans ?_)); done)); (focus exact rfl); rintro _ rfl; conv => whnf) | ((with_reducible apply Go.Vc.strow); (focus ((repeat (first | with_reducible assumption | with_reducible exact Go.Vc.hset_same _ _ _ | with_reducible refine (Go.Vc.hset_ne _ _ (by omega)).trans ?_)); done)); (focus exact rfl); (focus exact rfl); (focus exact rfl); rintro _ rfl; conv => whnf))
                    refine ⟨.inr ⟨take_no hgood (by first | exact .inl rfl | exact .inr (.inl rfl) | exact .inr (.inr (.inl hR)) | exact .inr (.inr (.inr hts))), rfl⟩, ?_, by omega⟩
                    intro b o hb
                    have := hd b o hb
                    repeat rw [hset_ne _ _ (by omega)]
                    exact eS _ _ hb
                  · conv => whnf
                    repeat (first | ((with_reducible apply Go.Vc.ldrow); (focus ((repeat (first | with_reducible assumption | with_reducible exact Go.Vc.hset_same _ _ _ | with_reducible refine (Go.Vc.hset_ne _ _ (by omega)).trans ?_)); done)); (focus exact rfl); rintro _ rfl; conv => whnf) | ((with_reducible apply Go.Vc.strow); (focus ((repeat (first | with_reducible assumption | with_reducible exact Go.Vc.hset_same _ _ _ | with_reducible refine (Go.Vc.hset_ne _ _ (by omega)).trans ?_)); done)); (focus exact rfl); (focus exact rfl); (focus exact rfl); rintro _ rfl; conv => whnf))
                    refine ⟨.inr ⟨take_no hgood (by first | exact .inl rfl | exact .inr (.inl rfl) | exact .inr (.inr (.inl hR)) | exact .inr (.inr (.inr hts))), rfl⟩, ?_, by omega⟩
                    intro b o hb
                    have := hd b o hb
                    repeat rw [hset_ne _ _ (by omega)]
                    exact eS _ _ hb
            · first
              | have hfin := fun (n : Int) (is : Bool) (hI : TkI i1 n is) (lv ix wd : Int) (hR : RightC lv ix wd) (he : pathS lv ix wd = s) => take_good hC1s hC2 hTk (tkW_num hn2k) hI hR he
              | have hfin := fun (n : Int) (is : Bool) (hI : TkI i1 n is) (lv ix wd : Int) (hR : RightC lv ix wd) (he : pathS lv ix wd = s) => take_good hC1s hC2 hTk (tkW_no (n := n2) (ok := false)) hI hR he
              rw [hwv] at hfin
              conv => whnf
              repeat (first | ((with_reducible apply Go.Vc.st_i); (focus ((repeat (first | with_reducible assumption | with_reducible exact Go.Vc.hset_same _ _ _ | with_reducible refine (Go.Vc.hset_ne _ _ (by omega)).trans ?_)); done)); (focus exact rfl); (focus exact rfl); (focus exact rfl); (conv => whnf); intro cA hcA; (first | (simp only [List.setIfInBounds_toArray, List.set_cons_succ, List.set_cons_zero] at hcA; subst hcA) | subst hcA); conv => whnf) | (intro _ _; conv => whnf))
              rename_i rS hrS
              refine (newreplacer_spec (hset_same _ _ _)).mono ?_
              rintro _ N TN hDN hTN ⟨rr, cc, aa, rfl, hrr, hslo, hcc, hab, hrt, hrt2, hsN⟩
              have n2' : N r2 = some (.cells #[.int .i64 0, .int .i64 0, .int .i64 0] 23 (0, 0)) := hsN _ _ (by
                repeat rw [hset_ne _ _ (by omega)]
                exact hc2)
              have n4' : N r4 = some (.cells #[.int .i64 0, .int .i64 0, .int .i64 0] 23 (0, 0)) := hsN _ _ (by
                repeat rw [hset_ne _ _ (by omega)]
                exact hc4)
              have n8' : N r8 = some (.cells #[.int .i64 lvv, .int .i64 0, .int .i64 wdv] 23 (0, 0)) := hsN _ _ (by
                rw [hset_ne _ _ (by omega), ← hwv]
                first
                | exact hc8
                | exact hset_same _ _ _)
              have nS : Vc.Sub h N := fun b o hb => hsN _ _ (by
                have := hd b o hb
                repeat rw [hset_ne _ _ (by omega)]
                exact hbs _ _ hb)
              conv => whnf
              refine (replace_spec ⟨i1.toArray⟩ (by rw [mk_size]; omega) hrr hslo hcc hab).mono ?_
              rintro _ M TM hDM hTM ⟨rfl, hfM, _⟩
              have m2 := hfM r2 _ (by omega) n2'
              have m4 := hfM r4 _ (by omega) n4'
              have m8 := hfM r8 _ (by omega) n8'
              have mS : Vc.Sub h M := fun b o hb => hfM b o (by have := hd b o hb; omega) (nS b o hb)
              rw [show (⟨i1.toArray⟩ : ByteArray).data.toList = i1 from rfl]
              conv => whnf
              refine (trimleft_spec _ 48 (by decide)).mono ?_
              rintro _ M2 TM2 hDM2 hTM2 ⟨rfl, rfl, rfl⟩
              rw [show (⟨(keptL i1).toArray⟩ : ByteArray).data.toList = keptL i1 from rfl]
              have hDl : (Lib.trimLeftB (keptL i1) 48).length ≤ 1048576 := by
                have h1 := trimLeft_len (s := keptL i1) (c := 48)
                have h2 : (keptL i1).length ≤ i1.length := List.length_filter_le _ _
                omega
              conv => whnf
              refine br (fun hz => ?_) (fun hz => ?_)
              · conv => whnf
                refine (takenumber_spec ⟨#[48]⟩ (by decide)).mono ?_
                rintro _ F TF hDF hTF ⟨n3, is3, rfl, hn30, hn31, hn3k, hsF, _⟩
                have hI : TkI i1 n3 is3 := tkI_zero (congrArg (fun x : ByteArray => x.data.toList) hz) hn3k
                have f2 := hsF _ _ m2
                have f4 := hsF _ _ m4
                have f8 := hsF _ _ m8
                have fS := mS.trans hsF
                have hgood := hfin n3 is3 hI
                conv => whnf
                repeat (first | ((with_reducible apply Go.Vc.ldrow); (focus ((repeat (first | with_reducible assumption | with_reducible exact Go.Vc.hset_same _ _ _ | with_reducible refine (Go.Vc.hset_ne _ _ (by omega)).trans ?_)); done)); (focus exact rfl); rintro _ rfl; conv => whnf) | ((with_reducible apply Go.Vc.st_i); (focus ((repeat (first | with_reducible assumption | with_reducible exact Go.Vc.hset_same _ _ _ | with_reducible refine (Go.Vc.hset_ne _ _ (by omega)).trans ?_)); done)); (focus exact rfl); (focus exact rfl); (focus exact rfl); (conv => whnf); intro cA hcA; (first | (simp only [List.setIfInBounds_toArray, List.set_cons_succ, List.set_cons_zero] at hcA; subst hcA) | subst hcA); conv => whnf))
                by_cases hR : RightC lvv n3 wdv
                · refine (path_spec lvv n3 wdv hR).mono ?_
                  rintro _ E TE hDE hTE ⟨rfl, hsE, _⟩
                  have e2 := hsE r2 _ ((hset_ne _ _ (by omega)).trans f2)
                  have e4 := hsE r4 _ ((hset_ne _ _ (by omega)).trans f4)
                  have e8 := hsE r8 _ (hset_same _ _ _)
                  have eS : Vc.Sub h E := fun b o hb => hsE _ _ (by
                    have := hd b o hb
                    rw [hset_ne _ _ (by omega)]
                    exact fS _ _ hb)
                  cases is3
                  · conv => whnf
                    repeat (first | ((with_reducible apply Go.Vc.ldrow); (focus ((repeat (first | with_reducible assumption | with_reducible exact Go.Vc.hset_same _ _ _ | with_reducible refine (Go.Vc.hset_ne _ _ (by omega)).trans ?_)); done)); (focus exact rfl); rintro _ rfl; conv => whnf) | ((with_reducible apply Go.Vc.strow); (focus ((repeat (first | with_reducible assumption | with_reducible exact Go.Vc.hset_same _ _ _ | with_reducible refine (Go.Vc.hset_ne _ _ (by omega)).trans ?_)); done)); (focus exact rfl); (focus exact rfl); (focus exact rfl); rintro _ rfl; conv => whnf))
                    refine ⟨.inr ⟨take_no hgood (by first | exact .inl rfl | exact .inr (.inl rfl) | exact .inr (.inr (.inl hR)) | exact .inr (.inr (.inr hts))), rfl⟩, ?_, by omega⟩
                    intro b o hb
                    have := hd b o hb
                    repeat rw [hset_ne _ _ (by omega)]
                    exact eS _ _ hb
                  · conv => whnf
                    repeat (first | (refine Go.Vc.br_f ?_ ?_; (focus omega); conv => whnf))
                    first
                    | refine ⟨.inr ⟨take_no hgood (by first | exact .inl rfl | exact .inr (.inl rfl) | exact .inr (.inr (.inl hR)) | exact .inr (.inr (.inr hts))), rfl⟩, ?_, by omega⟩
                      intro b o hb
                      have := hd b o hb
                      repeat rw [hset_ne _ _ (by omega)]
                      exact eS _ _ hb
                    | refine br (fun hts => ?_) (fun hts => ?_)
                      · conv => whnf
                        repeat (first | ((with_reducible apply Go.Vc.ldrow); (focus ((repeat (first | with_reducible assumption | with_reducible exact Go.Vc.hset_same _ _ _ | with_reducible refine (Go.Vc.hset_ne _ _ (by omega)).trans ?_)); done)); (focus exact rfl); rintro _ rfl; conv => whnf) | ((with_reducible apply Go.Vc.strow); (focus ((repeat (first | with_reducible assumption | with_reducible exact Go.Vc.hset_same _ _ _ | with_reducible refine (Go.Vc.hset_ne _ _ (by omega)).trans ?_)); done)); (focus exact rfl); (focus exact rfl); (focus exact rfl); rintro _ rfl; conv => whnf))
                        refine ⟨.inr ⟨take_no hgood (by first | exact .inl rfl | exact .inr (.inl rfl) | exact .inr (.inr (.inl hR)) | exact .inr (.inr (.inr hts))), rfl⟩, ?_, by omega⟩
                        intro b o hb
                        have := hd b o hb
                        repeat rw [hset_ne _ _ (by omega)]
                        exact eS _ _ hb
                      · conv => whnf
                        repeat (first | ((with_reducible apply Go.Vc.ldrow); (focus ((repeat (first | with_reducible assumption | with_reducible exact Go.Vc.hset_same _ _ _ | with_reducible refine (Go.Vc.hset_ne _ _ (by omega)).trans ?_)); done)); (focus exact rfl); rintro _ rfl; conv => whnf) | ((with_reducible apply Go.Vc.strow); (focus ((repeat (first | with_reducible assumption | with_reducible exact Go.Vc.hset_same _ _ _ | with_reducible refine (Go.Vc.hset_ne _ _ (by omega)).trans ?_)); done)); (focus exact rfl); (focus exact rfl); (focus exact rfl); rintro _ rfl; conv => whnf))
                        refine ⟨.inl ⟨lvv, n3, wdv, hR, Classical.not_not.1 hts, rfl⟩, ?_, by omega⟩
                        intro b o hb
                        have := hd b o hb
                        repeat rw [hset_ne _ _ (by omega)]
                        exact eS _ _ hb
                · refine (path_no lvv n3 wdv hR).mono ?_
                  rintro _ E TE hDE hTE ⟨rfl, hsE, _⟩
                  have e2 := hsE r2 _ ((hset_ne _ _ (by omega)).trans f2)
                  have e4 := hsE r4 _ ((hset_ne _ _ (by omega)).trans f4)
                  have e8 := hsE r8 _ (hset_same _ _ _)
                  have eS : Vc.Sub h E := fun b o hb => hsE _ _ (by
                    have := hd b o hb
                    rw [hset_ne _ _ (by omega)]
                    exact fS _ _ hb)
                  cases is3
                  · conv => whnf
                    repeat (first | ((with_reducible apply Go.Vc.ldrow); (focus ((repeat (first | with_reducible assumption | with_reducible exact Go.Vc.hset_same _ _ _ | with_reducible refine (Go.Vc.hset_ne _ _ (by omega)).trans ?_)); done)); (focus exact rfl); rintro _ rfl; conv => whnf) | ((with_reducible apply Go.Vc.strow); (focus ((repeat (first | with_reducible assumption | with_reducible exact Go.Vc.hset_same _ _ _ | with_reducible refine (Go.Vc.hset_ne _ _ (by omega)).trans ?_)); done)); (focus exact rfl); (focus exact rfl); (focus exact rfl); rintro _ rfl; conv => whnf))
                    refine ⟨.inr ⟨take_no hgood (by first | exact .inl rfl | exact .inr (.inl rfl) | exact .inr (.inr (.inl hR)) | exact .inr (.inr (.inr hts))), rfl⟩, ?_, by omega⟩
                    intro b o hb
                    have := hd b o hb
                    repeat rw [hset_ne _ _ (by omega)]
                    exact eS _ _ hb
                  · conv => whnf
                    repeat (first | ((with_reducible apply Go.Vc.ldrow); (focus ((repeat (first | with_reducible assumption | with_reducible exact Go.Vc.hset_same _ _ _ | with_reducible refine (Go.Vc.hset_ne _ _ (by omega)).trans ?_)); done)); (focus exact rfl); rintro _ rfl; conv => whnf) | ((with_reducible apply Go.Vc.strow); (focus ((repeat (first | with_reducible assumption | with_reducible exact Go.Vc.hset_same _ _ _ | with_reducible refine (Go.Vc.hset_ne _ _ (by omega)).trans ?_)); done)); (focus exact rfl); (focus exact rfl); (focus exact rfl); rintro _ rfl; conv => whnf) | (refine Go.Vc.br_t ?_ ?_; (focus omega); conv => whnf))
                    refine ⟨.inr ⟨take_no hgood (by first | exact .inl rfl | exact .inr (.inl rfl) | exact .inr (.inr (.inl hR)) | exact .inr (.inr (.inr hts))), rfl⟩, ?_, by omega⟩
                    intro b o hb
                    have := hd b o hb
                    repeat rw [hset_ne _ _ (by omega)]
                    exact eS _ _ hb
              · conv => whnf
                refine (takenumber_spec ⟨(Lib.trimLeftB (keptL i1) 48).toArray⟩ (by rw [mk_size]; exact hDl)).mono ?_
                rintro _ F TF hDF hTF ⟨n3, is3, rfl, hn30, hn31, hn3k, hsF, _⟩
                have hI : TkI i1 n3 is3 := tkI_num (fun e => hz (by rw [e])) hn3k
                have f2 := hsF _ _ m2
                have f4 := hsF _ _ m4
                have f8 := hsF _ _ m8
                have fS := mS.trans hsF
                have hgood := hfin n3 is3 hI
                conv => whnf
                repeat (first | ((with_reducible apply Go.Vc.ldrow); (focus ((repeat (first | with_reducible assumption | with_reducible exact Go.Vc.hset_same _ _ _ | with_reducible refine (Go.Vc.hset_ne _ _ (by omega)).trans ?_)); done)); (focus exact rfl); rintro _ rfl; conv => whnf) | ((with_reducible apply Go.Vc.st_i); (focus ((repeat (first | with_reducible assumption | with_reducible exact Go.Vc.hset_same _ _ _ | with_reducible refine (Go.Vc.hset_ne _ _ (by omega)).trans ?_)); done)); (focus exact rfl); (focus exact rfl); (focus exact rfl); (conv => whnf); intro cA hcA; (first | (simp only [List.setIfInBounds_toArray, List.set_cons_succ, List.set_cons_zero] at hcA; subst hcA) | subst hcA); conv => whnf))
                by_cases hR : RightC lvv n3 wdv
                · refine (path_spec lvv n3 wdv hR).mono ?_
                  rintro _ E TE hDE hTE ⟨rfl, hsE, _⟩
                  have e2 := hsE r2 _ ((hset_ne _ _ (by omega)).trans f2)
                  have e4 := hsE r4 _ ((hset_ne _ _ (by omega)).trans f4)
                  have e8 := hsE r8 _ (hset_same _ _ _)
                  have eS : Vc.Sub h E := fun b o hb => hsE _ _ (by
                    have := hd b o hb
                    rw [hset_ne _ _ (by omega)]
                    exact fS _ _ hb)
                  cases is3
                  · conv => whnf
                    repeat (first | ((with_reducible apply Go.Vc.ldrow); (focus ((repeat (first | with_reducible assumption | with_reducible exact Go.Vc.hset_same _ _ _ | with_reducible refine (Go.Vc.hset_ne _ _ (by omega)).trans ?_)); done)); (focus exact rfl); rintro _ rfl; conv => whnf) | ((with_reducible apply Go.Vc.strow); (focus ((repeat (first | with_reducible assumption | with_reducible exact Go.Vc.hset_same _ _ _ | with_reducible refine (Go.Vc.hset_ne _ _ (by omega)).trans ?_)); done)); (focus exact rfl); (focus exact rfl); (focus exact rfl); rintro _ rfl; conv => whnf))
                    refine ⟨.inr ⟨take_no hgood (by first | exact .inl rfl | exact .inr (.inl rfl) | exact .inr (.inr (.inl hR)) | exact .inr (.inr (.inr hts))), rfl⟩, ?_, by omega⟩
                    intro b o hb
                    have := hd b o hb
                    repeat rw [hset_ne _ _ (by omega)]
                    exact eS _ _ hb
                  · conv => whnf
                    repeat (first | (refine Go.Vc.br_f ?_ ?_; (focus omega); conv => whnf))
                    first
                    | refine ⟨.inr ⟨take_no hgood (by first | exact .inl rfl | exact .inr (.inl rfl) | exact .inr (.inr (.inl hR)) | exact .inr (.inr (.inr hts))), rfl⟩, ?_, by omega⟩
                      intro b o hb
                      have := hd b o hb
                      repeat rw [hset_ne _ _ (by omega)]
                      exact eS _ _ hb
                    | refine br (fun hts => ?_) (fun hts => ?_)
                      · conv => whnf
                        repeat (first | ((with_reducible apply Go.Vc.ldrow); (focus ((repeat (first | with_reducible assumption | with_reducible exact Go.Vc.hset_same _ _ _ | with_reducible refine (Go.Vc.hset_ne _ _ (by omega)).trans ?_)); done)); (focus exact rfl); rintro _ rfl; conv => whnf) | ((with_reducible apply Go.Vc.strow); (focus ((repeat (first | with_reducible assumption | with_reducible exact Go.Vc.hset_same _ _ _ | with_reducible refine (Go.Vc.hset_ne _ _ (by omega)).trans ?_)); done)); (focus exact rfl); (focus exact rfl); (focus exact rfl); rintro _ rfl; conv => whnf))
                        refine ⟨.inr ⟨take_no hgood (by first | exact .inl rfl | exact .inr (.inl rfl) | exact .inr (.inr (.inl hR)) | exact .inr (.inr (.inr hts))), rfl⟩, ?_, by omega⟩
                        intro b o hb
                        have := hd b o hb
                        repeat rw [hset_ne _ _ (by omega)]
                        exact eS _ _ hb
                      · conv => whnf
                        repeat (first | ((with_reducible apply Go.Vc.ldrow); (focus ((repeat (first | with_reducible assumption | with_reducible exact Go.Vc.hset_same _ _ _ | with_reducible refine (Go.Vc.hset_ne _ _ (by omega)).trans ?_)); done)); (focus exact rfl); rintro _ rfl; conv => whnf) | ((with_reducible apply Go.Vc.strow); (focus ((repeat (first | with_reducible assumption | with_reducible exact Go.Vc.hset_same _ _ _ | with_reducible refine (Go.Vc.hset_ne _ _ (by omega)).trans ?_)); done)); (focus exact rfl); (focus exact rfl); (focus exact rfl); rintro _ rfl; conv => whnf))
                        refine ⟨.inl ⟨lvv, n3, wdv, hR, Classical.not_not.1 hts, rfl⟩, ?_, by omega⟩
                        intro b o hb
                        have := hd b o hb
                        repeat rw [hset_ne _ _ (by omega)]
                        exact eS _ _ hb
                · refine (path_no lvv n3 wdv hR).mono ?_
                  rintro _ E TE hDE hTE ⟨rfl, hsE, _⟩
                  have e2 := hsE r2 _ ((hset_ne _ _ (by omega)).trans f2)
                  have e4 := hsE r4 _ ((hset_ne _ _ (by omega)).trans f4)
                  have e8 := hsE r8 _ (hset_same _ _ _)
                  have eS : Vc.Sub h E := fun b o hb => hsE _ _ (by
                    have := hd b o hb
                    rw [hset_ne _ _ (by omega)]
                    exact fS _ _ hb)
                  cases is3
                  · conv => whnf
                    repeat (first | ((with_reducible apply Go.Vc.ldrow); (focus ((repeat (first | with_reducible assumption | with_reducible exact Go.Vc.hset_same _ _ _ | with_reducible refine (Go.Vc.hset_ne _ _ (by omega)).trans ?_)); done)); (focus exact rfl); rintro _ rfl; conv => whnf) | ((with_reducible apply Go.Vc.strow); (focus ((repeat (first | with_reducible assumption | with_reducible exact Go.Vc.hset_same _ _ _ | with_reducible refine (Go.Vc.hset_ne _ _ (by omega)).trans ?_)); done)); (focus exact rfl); (focus exact rfl); (focus exact rfl); rintro _ rfl; conv => whnf))
                    refine ⟨.inr ⟨take_no hgood (by first | exact .inl rfl | exact .inr (.inl rfl) | exact .inr (.inr (.inl hR)) | exact .inr (.inr (.inr hts))), rfl⟩, ?_, by omega⟩
                    intro b o hb
                    have := hd b o hb
                    repeat rw [hset_ne _ _ (by omega)]
                    exact eS _ _ hb
                  · conv => whnf
                    repeat (first | ((with_reducible apply Go.Vc.ldrow); (focus ((repeat (first | with_reducible assumption | with_reducible exact Go.Vc.hset_same _ _ _ | with_reducible refine (Go.Vc.hset_ne _ _ (by omega)).trans ?_)); done)); (focus exact rfl); rintro _ rfl; conv => whnf) | ((with_reducible apply Go.Vc.strow); (focus ((repeat (first | with_reducible assumption | with_reducible exact Go.Vc.hset_same _ _ _ | with_reducible refine (Go.Vc.hset_ne _ _ (by omega)).trans ?_)); done)); (focus exact rfl); (focus exact rfl); (focus exact rfl); rintro _ rfl; conv => whnf) | (refine Go.Vc.br_t ?_ ?_; (focus omega); conv => whnf))
                    refine ⟨.inr ⟨take_no hgood (by first | exact .inl rfl | exact .inr (.inl rfl) | exact .inr (.inr (.inl hR)) | exact .inr (.inr (.inr hts))), rfl⟩, ?_, by omega⟩
                    intro b o hb
                    have := hd b o hb
                    repeat rw [hset_ne _ _ (by omega)]
                    exact eS _ _ hb
    · have hdt2 : l1 = dataB.data.toList := by
        have := Classical.not_not.1 hdt
        rw [← show (⟨l1.toArray⟩ : ByteArray).data.toList = l1 from rfl, this]
        rfl
      have hb2 := g2
      have hb4 := g4
      have hbase := hsub
      have hTk : TkL l1 b1 (-1) b1 := tkL_data hdt2
      obtain ⟨lvv, hlv⟩ : ∃ x : Int, x = -1 := ⟨_, rfl⟩
      rw [← hlv] at hTk
      cases b1
      · conv => whnf
        refine (cut_spec ⟨l2.toArray⟩ ⟨#[46, 112, 47]⟩ (by rw [mk_size]; omega) (hM.sub (by
          intro b o hb
          have := hd b o hb
          repeat rw [hset_ne _ _ (by omega)]
          exact hbase _ _ hb))).mono ?_
        rintro _ G T hD _ ⟨rfl, hG, rfl⟩
        have G2 : G r2 = some (.cells #[.int .i64 0, .int .i64 0, .int .i64 0] 23 (0, 0)) := by
          rw [hG]
          repeat rw [hset_ne _ _ (by omega)]
          exact hb2
        have G4 : G r4 = some (.cells #[.int .i64 0, .int .i64 0, .int .i64 0] 23 (0, 0)) := by
          rw [hG]
          repeat rw [hset_ne _ _ (by omega)]
          exact hb4
        have G8 : G r8 = some (.cells #[.int .i64 lvv, .int .i64 0, .int .i64 256] 23 (0, 0)) := by
          rw [hG, hset_same, hlv]
          rfl
        have GS : Vc.Sub h G := by
          intro b o hb
          have := hd b o hb
          rw [hG]
          repeat rw [hset_ne _ _ (by omega)]
          exact hbase _ _ hb
        clear hG
        obtain ⟨i1, w1, b2, hC2⟩ : ∃ i1 w1 b2, Lib.cut l2 ppB.data.toList = (i1, w1, b2) := ⟨_, _, _, rfl⟩
        have hC2l := cut_len (s := l2) (p := ppB.data.toList)
        rw [show (⟨l2.toArray⟩ : ByteArray).data.toList = l2 from rfl, show (⟨#[46, 112, 47]⟩ : ByteArray).data.toList = ppB.data.toList from rfl, hC2]
        rw [hC2] at hC2l
        dsimp only at hC2l ⊢
        have hC1s := hP1 ▸ hC1
        cases b2
        · obtain ⟨wdv, hwv⟩ : ∃ x : Int, 256 = x := ⟨_, rfl⟩
          have hfin := fun (n : Int) (is : Bool) (hI : TkI i1 n is) (lv ix wd : Int) (hR : RightC lv ix wd) (he : pathS lv ix wd = s) => take_good hC1s hC2 hTk tkW_none hI hR he
          rw [hwv] at hfin
          have hc2 := G2
          have hc4 := G4
          have hc8 := G8
          have hbs := GS
          conv => whnf
          repeat (first | (intro _ _; conv => whnf))
          rename_i rS hrS
          refine (newreplacer_spec (hset_same _ _ _)).mono ?_
          rintro _ N TN hDN hTN ⟨rr, cc, aa, rfl, hrr, hslo, hcc, hab, hrt, hrt2, hsN⟩
          have n2' : N r2 = some (.cells #[.int .i64 0, .int .i64 0, .int .i64 0] 23 (0, 0)) := hsN _ _ (by
            repeat rw [hset_ne _ _ (by omega)]
            exact hc2)
          have n4' : N r4 = some (.cells #[.int .i64 0, .int .i64 0, .int .i64 0] 23 (0, 0)) := hsN _ _ (by
            repeat rw [hset_ne _ _ (by omega)]
            exact hc4)
          have n8' : N r8 = some (.cells #[.int .i64 lvv, .int .i64 0, .int .i64 wdv] 23 (0, 0)) := hsN _ _ (by
            rw [hset_ne _ _ (by omega), ← hwv]
            first
            | exact hc8
            | exact hset_same _ _ _)
          have nS : Vc.Sub h N := fun b o hb => hsN _ _ (by
            have := hd b o hb
            repeat rw [hset_ne _ _ (by omega)]
            exact hbs _ _ hb)
          conv => whnf
          refine (replace_spec ⟨i1.toArray⟩ (by rw [mk_size]; omega) hrr hslo hcc hab).mono ?_
          rintro _ M TM hDM hTM ⟨rfl, hfM, _⟩
          have m2 := hfM r2 _ (by omega) n2'
          have m4 := hfM r4 _ (by omega) n4'
          have m8 := hfM r8 _ (by omega) n8'
          have mS : Vc.Sub h M := fun b o hb => hfM b o (by have := hd b o hb; omega) (nS b o hb)
          rw [show (⟨i1.toArray⟩ : ByteArray).data.toList = i1 from rfl]
          conv => whnf
          refine (trimleft_spec _ 48 (by decide)).mono ?_
          rintro _ M2 TM2 hDM2 hTM2 ⟨rfl, rfl, rfl⟩
          rw [show (⟨(keptL i1).toArray⟩ : ByteArray).data.toList = keptL i1 from rfl]
          have hDl : (Lib.trimLeftB (keptL i1) 48).length ≤ 1048576 := by
            have h1 := trimLeft_len (s := keptL i1) (c := 48)
            have h2 : (keptL i1).length ≤ i1.length := List.length_filter_le _ _
            omega
          conv => whnf
          refine br (fun hz => ?_) (fun hz => ?_)
          · conv => whnf
            refine (takenumber_spec ⟨#[48]⟩ (by decide)).mono ?_
            rintro _ F TF hDF hTF ⟨n3, is3, rfl, hn30, hn31, hn3k, hsF, _⟩
            have hI : TkI i1 n3 is3 := tkI_zero (congrArg (fun x : ByteArray => x.data.toList) hz) hn3k
            have f2 := hsF _ _ m2
            have f4 := hsF _ _ m4
            have f8 := hsF _ _ m8
            have fS := mS.trans hsF
            have hgood := hfin n3 is3 hI
            conv => whnf
            repeat (first | ((with_reducible apply Go.Vc.ldrow); (focus ((repeat (first | with_reducible assumption | with_reducible exact Go.Vc.hset_same _ _ _ | with_reducible refine (Go.Vc.hset_ne _ _ (by omega)).trans ?_)); done)); (focus exact rfl); rintro _ rfl; conv => whnf) | ((with_reducible apply Go.Vc.st_i); (focus ((repeat (first | with_reducible assumption | with_reducible exact Go.Vc.hset_same _ _ _ | with_reducible refine (Go.Vc.hset_ne _ _ (by omega)).trans ?_)); done)); (focus exact rfl); (focus exact rfl); (focus exact rfl); (conv => whnf); intro cA hcA; (first | (simp only [List.setIfInBounds_toArray, List.set_cons_succ, List.set_cons_zero] at hcA; subst hcA) | subst hcA); conv => whnf))
            by_cases hR : RightC lvv n3 wdv
            · refine (path_spec lvv n3 wdv hR).mono ?_
              rintro _ E TE hDE hTE ⟨rfl, hsE, _⟩
              have e2 := hsE r2 _ ((hset_ne _ _ (by omega)).trans f2)
              have e4 := hsE r4 _ ((hset_ne _ _ (by omega)).trans f4)
              have e8 := hsE r8 _ (hset_same _ _ _)
              have eS : Vc.Sub h E := fun b o hb => hsE _ _ (by
                have := hd b o hb
                rw [hset_ne _ _ (by omega)]
                exact fS _ _ hb)
              cases is3
              · conv => whnf
                repeat (first | ((with_reducible apply Go.Vc.ldrow); (focus ((repeat (first | with_reducible assumption | with_reducible exact Go.Vc.hset_same _ _ _ | with_reducible refine (Go.Vc.hset_ne _ _ (by omega)).trans ?_)); done)); (focus exact rfl); rintro _ rfl; conv => whnf) | ((with_reducible apply Go.Vc.strow); (focus ((repeat (first | with_reducible assumption | with_reducible exact Go.Vc.hset_same _ _ _ | with_reducible refine (Go.Vc.hset_ne _ _ (by omega)).trans ?_)); done)); (focus exact rfl); (focus exact rfl); (focus exact rfl); rintro _ rfl; conv => whnf))
                refine ⟨.inr ⟨take_no hgood (by first | exact .inl rfl | exact .inr (.inl rfl) | exact .inr (.inr (.inl hR)) | exact .inr (.inr (.inr hts))), rfl⟩, ?_, by omega⟩
                intro b o hb
                have := hd b o hb
                repeat rw [hset_ne _ _ (by omega)]
                exact eS _ _ hb
              · conv => whnf
                repeat (first | ((with_reducible apply Go.Vc.ldrow); (focus ((repeat (first | with_reducible assumption | with_reducible exact Go.Vc.hset_same _ _ _ | with_reducible refine (Go.Vc.hset_ne _ _ (by omega)).trans ?_)); done)); (focus exact rfl); rintro _ rfl; conv => whnf) | ((with_reducible apply Go.Vc.strow); (focus ((repeat (first | with_reducible assumption | with_reducible exact Go.Vc.hset_same _ _ _ | with_reducible refine (Go.Vc.hset_ne _ _ (by omega)).trans ?_)); done)); (focus exact rfl); (focus exact rfl); (focus exact rfl); rintro _ rfl; conv => whnf))
                first
                | refine ⟨.inr ⟨take_no hgood (by first | exact .inl rfl | exact .inr (.inl rfl) | exact .inr (.inr (.inl hR)) | exact .inr (.inr (.inr hts))), rfl⟩, ?_, by omega⟩
                  intro b o hb
                  have := hd b o hb
                  repeat rw [hset_ne _ _ (by omega)]
                  exact eS _ _ hb
                | refine br (fun hts => ?_) (fun hts => ?_)
                  · conv => whnf
                    refine ⟨.inr ⟨take_no hgood (by first | exact .inl rfl | exact .inr (.inl rfl) | exact .inr (.inr (.inl hR)) | exact .inr (.inr (.inr hts))), rfl⟩, ?_, by omega⟩
                    intro b o hb
                    have := hd b o hb
                    repeat rw [hset_ne _ _ (by omega)]
                    exact eS _ _ hb
                  · conv => whnf
                    refine ⟨.inl ⟨lvv, n3, wdv, hR, Classical.not_not.1 hts, rfl⟩, ?_, by omega⟩
                    intro b o hb
                    have := hd b o hb
                    repeat rw [hset_ne _ _ (by omega)]
                    exact eS _ _ hb
            · refine (path_no lvv n3 wdv hR).mono ?_
              rintro _ E TE hDE hTE ⟨rfl, hsE, _⟩
              have e2 := hsE r2 _ ((hset_ne _ _ (by omega)).trans f2)
              have e4 := hsE r4 _ ((hset_ne _ _ (by omega)).trans f4)
              have e8 := hsE r8 _ (hset_same _ _ _)
              have eS : Vc.Sub h E := fun b o hb => hsE _ _ (by
                have := hd b o hb
                rw [hset_ne _ _ (by omega)]
                exact fS _ _ hb)
              cases is3
              · conv => whnf
                repeat (first | ((with_reducible apply Go.Vc.ldrow); (focus ((repeat (first | with_reducible assumption | with_reducible exact Go.Vc.hset_same _ _ _ | with_reducible refine (Go.Vc.hset_ne _ _ (by omega)).trans ?_)); done)); (focus exact rfl); rintro _ rfl; conv => whnf) | ((with_reducible apply Go.Vc.strow); (focus ((repeat (first | with_reducible assumption | with_reducible exact Go.Vc.hset_same _ _ _ | with_reducible refine (Go.Vc.hset_ne _ _ (by omega)).trans ?_)); done)); (focus exact rfl); (focus exact rfl); (focus exact rfl); rintro _ rfl; conv => whnf))
                refine ⟨.inr ⟨take_no hgood (by first | exact .inl rfl | exact .inr (.inl rfl) | exact .inr (.inr (.inl hR)) | exact .inr (.inr (.inr hts))), rfl⟩, ?_, by omega⟩
                intro b o hb
                have := hd b o hb
                repeat rw [hset_ne _ _ (by omega)]
                exact eS _ _ hb
              · conv => whnf
                repeat (first | ((with_reducible apply Go.Vc.ldrow); (focus ((repeat (first | with_reducible assumption | with_reducible exact Go.Vc.hset_same _ _ _ | with_reducible refine (Go.Vc.hset_ne _ _ (by omega)).trans ?_)); done)); (focus exact rfl); rintro _ rfl; conv => whnf) | ((with_reducible apply Go.Vc.strow); (focus ((repeat (first | with_reducible assumption | with_reducible exact Go.Vc.hset_same _ _ _ | with_reducible refine (Go.Vc.hset_ne _ _ (by omega)).trans ?_)); done)); (focus exact rfl); (focus exact rfl); (focus exact rfl); rintro _ rfl; conv => whnf))
                refine ⟨.inr ⟨take_no hgood (by first | exact .inl rfl | exact .inr (.inl rfl) | exact .inr (.inr (.inl hR)) | exact .inr (.inr (.inr hts))), rfl⟩, ?_, by omega⟩
                intro b o hb
                have := hd b o hb
                repeat rw [hset_ne _ _ (by omega)]
                exact eS _ _ hb
          · conv => whnf
            refine (takenumber_spec ⟨(Lib.trimLeftB (keptL i1) 48).toArray⟩ (by rw [mk_size]; exact hDl)).mono ?_
            rintro _ F TF hDF hTF ⟨n3, is3, rfl, hn30, hn31, hn3k, hsF, _⟩
            have hI : TkI i1 n3 is3 := tkI_num (fun e => hz (by rw [e])) hn3k
            have f2 := hsF _ _ m2
            have f4 := hsF _ _ m4
            have f8 := hsF _ _ m8
            have fS := mS.trans hsF
            have hgood := hfin n3 is3 hI
            conv => whnf
            repeat (first | ((with_reducible apply Go.Vc.ldrow); (focus ((repeat (first | with_reducible assumption | with_reducible exact Go.Vc.hset_same _ _ _ | with_reducible refine (Go.Vc.hset_ne _ _ (by omega)).trans ?_)); done)); (focus exact rfl); rintro _ rfl; conv => whnf) | ((with_reducible apply Go.Vc.st_i); (focus ((repeat (first | with_reducible assumption | with_reducible exact Go.Vc.hset_same _ _ _ | with_reducible refine (Go.Vc.hset_ne _ _ (by omega)).trans ?_)); done)); (focus exact rfl); (focus exact rfl); (focus exact rfl); (conv => whnf); intro cA hcA; (first | (simp only [List.setIfInBounds_toArray, List.set_cons_succ, List.set_cons_zero] at hcA; subst hcA) | subst hcA); conv => whnf))
            by_cases hR : RightC lvv n3 wdv
            · refine (path_spec lvv n3 wdv hR).mono ?_
              rintro _ E TE hDE hTE ⟨rfl, hsE, _⟩
              have e2 := hsE r2 _ ((hset_ne _ _ (by omega)).trans f2)
              have e4 := hsE r4 _ ((hset_ne _ _ (by omega)).trans f4)
              have e8 := hsE r8 _ (hset_same _ _ _)
              have eS : Vc.Sub h E := fun b o hb => hsE _ _ (by
                have := hd b o hb
                rw [hset_ne _ _ (by omega)]
                exact fS _ _ hb)
              cases is3
              · conv => whnf
                repeat (first | ((with_reducible apply Go.Vc.ldrow); (focus ((repeat (first | with_reducible assumption | with_reducible exact Go.Vc.hset_same _ _ _ | with_reducible refine (Go.Vc.hset_ne _ _ (by omega)).trans ?_)); done)); (focus exact rfl); rintro _ rfl; conv => whnf) | ((with_reducible apply Go.Vc.strow); (focus ((repeat (first | with_reducible assumption | with_reducible exact Go.Vc.hset_same _ _ _ | with_reducible refine (Go.Vc.hset_ne _ _ (by omega)).trans ?_)); done)); (focus exact rfl); (focus exact rfl); (focus exact rfl); rintro _ rfl; conv => whnf))
                refine ⟨.inr ⟨take_no hgood (by first | exact .inl rfl | exact .inr (.inl rfl) | exact .inr (.inr (.inl hR)) | exact .inr (.inr (.inr hts))), rfl⟩, ?_, by omega⟩
                intro b o hb
                have := hd b o hb
                repeat rw [hset_ne _ _ (by omega)]
                exact eS _ _ hb
              · conv => whnf
                repeat (first | ((with_reducible apply Go.Vc.ldrow); (focus ((repeat (first | with_reducible assumption | with_reducible exact Go.Vc.hset_same _ _ _ | with_reducible refine (Go.Vc.hset_ne _ _ (by omega)).trans ?_)); done)); (focus exact rfl); rintro _ rfl; conv => whnf) | ((with_reducible apply Go.Vc.strow); (focus ((repeat (first | with_reducible assumption | with_reducible exact Go.Vc.hset_same _ _ _ | with_reducible refine (Go.Vc.hset_ne _ _ (by omega)).trans ?_)); done)); (focus exact rfl); (focus exact rfl); (focus exact rfl); rintro _ rfl; conv => whnf))
                first
                | refine ⟨.inr ⟨take_no hgood (by first | exact .inl rfl | exact .inr (.inl rfl) | exact .inr (.inr (.inl hR)) | exact .inr (.inr (.inr hts))), rfl⟩, ?_, by omega⟩
                  intro b o hb
                  have := hd b o hb
                  repeat rw [hset_ne _ _ (by omega)]
                  exact eS _ _ hb
                | refine br (fun hts => ?_) (fun hts => ?_)
                  · conv => whnf
                    refine ⟨.inr ⟨take_no hgood (by first | exact .inl rfl | exact .inr (.inl rfl) | exact .inr (.inr (.inl hR)) | exact .inr (.inr (.inr hts))), rfl⟩, ?_, by omega⟩
                    intro b o hb
                    have := hd b o hb
                    repeat rw [hset_ne _ _ (by omega)]
                    exact eS _ _ hb
                  · conv => whnf
                    refine ⟨.inl ⟨lvv, n3, wdv, hR, Classical.not_not.1 hts, rfl⟩, ?_, by omega⟩
                    intro b o hb
                    have := hd b o hb
                    repeat rw [hset_ne _ _ (by omega)]
                    exact eS _ _ hb
            · refine (path_no lvv n3 wdv hR).mono ?_
              rintro _ E TE hDE hTE ⟨rfl, hsE, _⟩
              have e2 := hsE r2 _ ((hset_ne _ _ (by omega)).trans f2)
              have e4 := hsE r4 _ ((hset_ne _ _ (by omega)).trans f4)
              have e8 := hsE r8 _ (hset_same _ _ _)
              have eS : Vc.Sub h E := fun b o hb => hsE _ _ (by
                have := hd b o hb
                rw [hset_ne _ _ (by omega)]
                exact fS _ _ hb)
              cases is3
              · conv => whnf
                repeat (first | ((with_reducible apply Go.Vc.ldrow); (focus ((repeat (first | with_reducible assumption | with_reducible exact Go.Vc.hset_same _ _ _ | with_reducible refine (Go.Vc.hset_ne _ _ (by omega)).trans ?_)); done)); (focus exact rfl); rintro _ rfl; conv => whnf) | ((with_reducible apply Go.Vc.strow); (focus ((repeat (first | with_reducible assumption | with_reducible exact Go.Vc.hset_same _ _ _ | with_reducible refine (Go.Vc.hset_ne _ _ (by omega)).trans ?_)); done)); (focus exact rfl); (focus exact rfl); (focus exact rfl); rintro _ rfl; conv => whnf))
                refine ⟨.inr ⟨take_no hgood (by first | exact .inl rfl | exact .inr (.inl rfl) | exact .inr (.inr (.inl hR)) | exact .inr (.inr (.inr hts))), rfl⟩, ?_, by omega⟩
                intro b o hb
                have := hd b o hb
                repeat rw [hset_ne _ _ (by omega)]
                exact eS _ _ hb
              · conv => whnf
                repeat (first | ((with_reducible apply Go.Vc.ldrow); (focus ((repeat (first | with_reducible assumption | with_reducible exact Go.Vc.hset_same _ _ _ | with_reducible refine (Go.Vc.hset_ne _ _ (by omega)).trans ?_)); done)); (focus exact rfl); rintro _ rfl; conv => whnf) | ((with_reducible apply Go.Vc.strow); (focus ((repeat (first | with_reducible assumption | with_reducible exact Go.Vc.hset_same _ _ _ | with_reducible refine (Go.Vc.hset_ne _ _ (by omega)).trans ?_)); done)); (focus exact rfl); (focus exact rfl); (focus exact rfl); rintro _ rfl; conv => whnf))
                refine ⟨.inr ⟨take_no hgood (by first | exact .inl rfl | exact .inr (.inl rfl) | exact .inr (.inr (.inl hR)) | exact .inr (.inr (.inr hts))), rfl⟩, ?_, by omega⟩
                intro b o hb
                have := hd b o hb
                repeat rw [hset_ne _ _ (by omega)]
                exact eS _ _ hb
        · conv => whnf
          refine (takenumber_spec ⟨w1.toArray⟩ (by rw [mk_size]; omega)).mono ?_
          rintro _ Gc Tc hDc hTc ⟨n2, is2, rfl, hn20, hn21, hn2k, hsc, _⟩
          have hc2 := hsc _ _ G2
          have hc4 := hsc _ _ G4
          have hc8 := hsc _ _ G8
          have hbs := GS.trans hsc
          obtain ⟨wdv, hwv⟩ : ∃ x : Int, n2 = x := ⟨_, rfl⟩
          cases is2
          · first
            | have hfin := fun (n : Int) (is : Bool) (hI : TkI i1 n is) (lv ix wd : Int) (hR : RightC lv ix wd) (he : pathS lv ix wd = s) => take_good hC1s hC2 hTk (tkW_num hn2k) hI hR he
            | have hfin := fun (n : Int) (is : Bool) (hI : TkI i1 n is) (lv ix wd : Int) (hR : RightC lv ix wd) (he : pathS lv ix wd = s) => take_good hC1s hC2 hTk (tkW_no (n := n2) (ok := false)) hI hR he
            rw [hwv] at hfin
            conv => whnf
            repeat (first | ((with_reducible apply Go.Vc.st_i); (focus ((repeat (first | with_reducible assumption | with_reducible exact Go.Vc.hset_same _ _ _ | with_reducible refine (Go.Vc.hset_ne _ _ (by omega)).trans ?_)); done)); (focus exact rfl); (focus exact rfl); (focus exact rfl); (conv => whnf); intro cA hcA; (first | (simp only [List.setIfInBounds_toArray, List.set_cons_succ, List.set_cons_zero] at hcA; subst hcA) | subst hcA); conv => whnf) | (intro _ _; conv => whnf))
            rename_i rS hrS
            refine (newreplacer_spec (hset_same _ _ _)).mono ?_
            rintro _ N TN hDN hTN ⟨rr, cc, aa, rfl, hrr, hslo, hcc, hab, hrt, hrt2, hsN⟩
            have n2' : N r2 = some (.cells #[.int .i64 0, .int .i64 0, .int .i64 0] 23 (0, 0)) := hsN _ _ (by
              repeat rw [hset_ne _ _ (by omega)]
              exact hc2)
            have n4' : N r4 = some (.cells #[.int .i64 0, .int .i64 0, .int .i64 0] 23 (0, 0)) := hsN _ _ (by
              repeat rw [hset_ne _ _ (by omega)]
              exact hc4)
            have n8' : N r8 = some (.cells #[.int .i64 lvv, .int .i64 0, .int .i64 wdv] 23 (0, 0)) := hsN _ _ (by
              rw [hset_ne _ _ (by omega), ← hwv]
              first
              | exact hc8
              | exact hset_same _ _ _)
            have nS : Vc.Sub h N := fun b o hb => hsN _ _ (by
              have := hd b o hb
              repeat rw [hset_ne _ _ (by omega)]
              exact hbs _ _ hb)
            conv => whnf
            refine (replace_spec ⟨i1.toArray⟩ (by rw [mk_size]; omega) hrr hslo hcc hab).mono ?_
            rintro _ M TM hDM hTM ⟨rfl, hfM, _⟩
            have m2 := hfM r2 _ (by omega) n2'
            have m4 := hfM r4 _ (by omega) n4'
            have m8 := hfM r8 _ (by omega) n8'
            have mS : Vc.Sub h M := fun b o hb => hfM b o (by have := hd b o hb; omega) (nS b o hb)
            rw [show (⟨i1.toArray⟩ : ByteArray).data.toList = i1 from rfl]
            conv => whnf
            refine (trimleft_spec _ 48 (by decide)).mono ?_
            rintro _ M2 TM2 hDM2 hTM2 ⟨rfl, rfl, rfl⟩
            rw [show (⟨(keptL i1).toArray⟩ : ByteArray).data.toList = keptL i1 from rfl]
            have hDl : (Lib.trimLeftB (keptL i1) 48).length ≤ 1048576 := by
              have h1 := trimLeft_len (s := keptL i1) (c := 48)
              have h2 : (keptL i1).length ≤ i1.length := List.length_filter_le _ _
              omega
            conv => whnf
            refine br (fun hz => ?_) (fun hz => ?_)
            · conv => whnf
              refine (takenumber_spec ⟨#[48]⟩ (by decide)).mono ?_
              rintro _ F TF hDF hTF ⟨n3, is3, rfl, hn30, hn31, hn3k, hsF, _⟩
              have hI : TkI i1 n3 is3 := tkI_zero (congrArg (fun x : ByteArray => x.data.toList) hz) hn3k
              have f2 := hsF _ _ m2
              have f4 := hsF _ _ m4
              have f8 := hsF _ _ m8
              have fS := mS.trans hsF
              have hgood := hfin n3 is3 hI
              conv => whnf
              repeat (first | ((with_reducible apply Go.Vc.ldrow); (focus ((repeat (first | with_reducible assumption | with_reducible exact Go.Vc.hset_same _ _ _ | with_reducible refine (Go.Vc.hset_ne _ _ (by omega)).trans ?_)); done)); (focus exact rfl); rintro _ rfl; conv => whnf) | ((with_reducible apply Go.Vc.st_i); (focus ((repeat (first | with_reducible assumption | with_reducible exact Go.Vc.hset_same _ _ _ | with_reducible refine (Go.Vc.hset_ne _ _ (by omega)).trans ?_)); done)); (focus exact rfl); (focus exact rfl); (focus exact rfl); (conv => whnf); intro cA hcA; (first | (simp only [List.setIfInBounds_toArray, List.set_cons_succ, List.set_cons_zero] at hcA; subst hcA) | subst hcA); conv => whnf))
              by_cases hR : RightC lvv n3 wdv
              · refine (path_spec lvv n3 wdv hR).mono ?_
                rintro _ E TE hDE hTE ⟨rfl, hsE, _⟩
                have e2 := hsE r2 _ ((hset_ne _ _ (by omega)).trans f2)
                have e4 := hsE r4 _ ((hset_ne _ _ (by omega)).trans f4)
                have e8 := hsE r8 _ (hset_same _ _ _)
                have eS : Vc.Sub h E := fun b o hb => hsE _ _ (by
                  have := hd b o hb
                  rw [hset_ne _ _ (by omega)]
                  exact fS _ _ hb)
                cases is3
                · conv => whnf
                  repeat (first | ((with_reducible apply Go.Vc.ldrow); (focus ((repeat (first | with_reducible assumption | with_reducible exact Go.Vc.hset_same _ _ _ | with_reducible refine (Go.Vc.hset_ne _ _ (by omega)).trans ?_)); done)); (focus exact rfl); rintro _ rfl; conv => whnf) | ((with_reducible apply Go.Vc.strow); (focus ((repeat (first | with_reducible assumption | with_reducible exact Go.Vc.hset_same _ _ _ | with_reducible refine (Go.Vc.hset_ne _ _ (by omega)).trans ?_)); done)); (focus exact rfl); (focus exact rfl); (focus exact rfl); rintro _ rfl; conv => whnf))
                  refine ⟨.inr ⟨take_no hgood (by first | exact .inl rfl | exact .inr (.inl rfl) | exact .inr (.inr (.inl hR)) | exact .inr (.inr (.inr hts))), rfl⟩, ?_, by omega⟩
                  intro b o hb
                  have := hd b o hb
                  repeat rw [hset_ne _ _ (by omega)]
                  exact eS _ _ hb
                · conv => whnf
                  repeat (first | ((with_reducible apply Go.Vc.ldrow); (focus ((repeat (first | with_reducible assumption | with_reducible exact Go.Vc.hset_same _ _ _ | with_reducible refine (Go.Vc.hset_ne _ _ (by omega)).trans ?_)); done)); (focus exact rfl); rintro _ rfl; conv => whnf) | ((with_reducible apply Go.Vc.strow); (focus ((repeat (first | with_reducible assumption | with_reducible exact Go.Vc.hset_same _ _ _ | with_reducible refine (Go.Vc.hset_ne _ _ (by omega)).trans ?_)); done)); (focus exact rfl); (focus exact rfl); (focus exact rfl); rintro _ rfl; conv => whnf))
                  first
                  | refine ⟨.inr ⟨take_no hgood (by first | exact .inl rfl | exact .inr (.inl rfl) | exact .inr (.inr (.inl hR)) | exact .inr (.inr (.inr hts))), rfl⟩, ?_, by omega⟩
                    intro b o hb
                    have := hd b o hb
                    repeat rw [hset_ne _ _ (by omega)]
                    exact eS _ _ hb
                  | refine br (fun hts => ?_) (fun hts => ?_)
                    · conv => whnf
                      refine ⟨.inr ⟨take_no hgood (by first | exact .inl rfl | exact .inr (.inl rfl) | exact .inr (.inr (.inl hR)) | exact .inr (.inr (.inr hts))), rfl⟩, ?_, by omega⟩
                      intro b o hb
                      have := hd b o hb
                      repeat rw [hset_ne _ _ (by omega)]
                      exact eS _ _ hb
                    · conv => whnf
                      refine ⟨.inl ⟨lvv, n3, wdv, hR, Classical.not_not.1 hts, rfl⟩, ?_, by omega⟩
                      intro b o hb
                      have := hd b o hb
                      repeat rw [hset_ne _ _ (by omega)]
                      exact eS _ _ hb
              · refine (path_no lvv n3 wdv hR).mono ?_
                rintro _ E TE hDE hTE ⟨rfl, hsE, _⟩
                have e2 := hsE r2 _ ((hset_ne _ _ (by omega)).trans f2)
                have e4 := hsE r4 _ ((hset_ne _ _ (by omega)).trans f4)
                have e8 := hsE r8 _ (hset_same _ _ _)
                have eS : Vc.Sub h E := fun b o hb => hsE _ _ (by
                  have := hd b o hb
                  rw [hset_ne _ _ (by omega)]
                  exact fS _ _ hb)
                cases is3
                · conv => whnf
                  repeat (first | ((with_reducible apply Go.Vc.ldrow); (focus ((repeat (first | with_reducible assumption | with_reducible exact Go.Vc.hset_same _ _ _ | with_reducible refine (Go.Vc.hset_ne _ _ (by omega)).trans ?_)); done)); (focus exact rfl); rintro _ rfl; conv => whnf) | ((with_reducible apply Go.Vc.strow); (focus ((repeat (first | with_reducible assumption | with_reducible exact Go.Vc.hset_same _ _ _ | with_reducible refine (Go.Vc.hset_ne _ _ (by omega)).trans ?_)); done)); (focus exact rfl); (focus exact rfl); (focus exact rfl); rintro _ rfl; conv => whnf))
                  refine ⟨.inr ⟨take_no hgood (by first | exact .inl rfl | exact .inr (.inl rfl) | exact .inr (.inr (.inl hR)) | exact .inr (.inr (.inr hts))), rfl⟩, ?_, by omega⟩
                  intro b o hb
                  have := hd b o hb
                  repeat rw [hset_ne _ _ (by omega)]
                  exact eS _ _ hb
                · conv => whnf
                  repeat (first | ((with_reducible apply Go.Vc.ldrow); (focus ((repeat (first | with_reducible assumption | with_reducible exact Go.Vc.hset_same _ _ _ | with_reducible refine (Go.Vc.hset_ne _ _ (by omega)).trans ?_)); done)); (focus exact rfl); rintro _ rfl; conv => whnf) | ((with_reducible apply Go.Vc.strow); (focus ((repeat (first | with_reducible assumption | with_reducible exact Go.Vc.hset_same _ _ _ | with_reducible refine (Go.Vc.hset_ne _ _ (by omega)).trans ?_)); done)); (focus exact rfl); (focus exact rfl); (focus exact rfl); rintro _ rfl; conv => whnf))
                  refine ⟨.inr ⟨take_no hgood (by first | exact .inl rfl | exact .inr (.inl rfl) | exact .inr (.inr (.inl hR)) | exact .inr (.inr (.inr hts))), rfl⟩, ?_, by omega⟩
                  intro b o hb
                  have := hd b o hb
                  repeat rw [hset_ne _ _ (by omega)]
                  exact eS _ _ hb
            · conv => whnf
              refine (takenumber_spec ⟨(Lib.trimLeftB (keptL i1) 48).toArray⟩ (by rw [mk_size]; exact hDl)).mono ?_
              rintro _ F TF hDF hTF ⟨n3, is3, rfl, hn30, hn31, hn3k, hsF, _⟩
              have hI : TkI i1 n3 is3 := tkI_num (fun e => hz (by rw [e])) hn3k
              have f2 := hsF _ _ m2
              have f4 := hsF _ _ m4
              have f8 := hsF _ _ m8
              have fS := mS.trans hsF
              have hgood := hfin n3 is3 hI
              conv => whnf
              repeat (first | ((with_reducible apply Go.Vc.ldrow); (focus ((repeat (first | with_reducible assumption | with_reducible exact Go.Vc.hset_same _ _ _ | with_reducible refine (Go.Vc.hset_ne _ _ (by omega)).trans ?_)); done)); (focus exact rfl); rintro _ rfl; conv => whnf) | ((with_reducible apply Go.Vc.st_i); (focus ((repeat (first | with_reducible assumption | with_reducible exact Go.Vc.hset_same _ _ _ | with_reducible refine (Go.Vc.hset_ne _ _ (by omega)).trans ?_)); done)); (focus exact rfl); (focus exact rfl); (focus exact rfl); (conv => whnf); intro cA hcA; (first | (simp only [List.setIfInBounds_toArray, List.set_cons_succ, List.set_cons_zero] at hcA; subst hcA) | subst hcA); conv => whnf))
              by_cases hR : RightC lvv n3 wdv
              · refine (path_spec lvv n3 wdv hR).mono ?_
                rintro _ E TE hDE hTE ⟨rfl, hsE, _⟩
                have e2 := hsE r2 _ ((hset_ne _ _ (by omega)).trans f2)
                have e4 := hsE r4 _ ((hset_ne _ _ (by omega)).trans f4)
                have e8 := hsE r8 _ (hset_same _ _ _)
                have eS : Vc.Sub h E := fun b o hb => hsE _ _ (by
                  have := hd b o hb
                  rw [hset_ne _ _ (by omega)]
                  exact fS _ _ hb)
                cases is3
                · conv => whnf
                  repeat (first | ((with_reducible apply Go.Vc.ldrow); (focus ((repeat (first | with_reducible assumption | with_reducible exact Go.Vc.hset_same _ _ _ | with_reducible refine (Go.Vc.hset_ne _ _ (by omega)).trans ?_)); done)); (focus exact rfl); rintro _ rfl; conv => whnf) | ((with_reducible apply Go.Vc.strow); (focus ((repeat (first | with_reducible assumption | with_reducible exact Go.Vc.hset_same _ _ _ | with_reducible refine (Go.Vc.hset_ne _ _ (by omega)).trans ?_)); done)); (focus exact rfl); (focus exact rfl); (focus exact rfl); rintro _ rfl; conv => whnf))
                  refine ⟨.inr ⟨take_no hgood (by first | exact .inl rfl | exact .inr (.inl rfl) | exact .inr (.inr (.inl hR)) | exact .inr (.inr (.inr hts))), rfl⟩, ?_, by omega⟩
                  intro b o hb
                  have := hd b o hb
                  repeat rw [hset_ne _ _ (by omega)]
                  exact eS _ _ hb
                · conv => whnf
                  repeat (first | ((with_reducible apply Go.Vc.ldrow); (focus ((repeat (first | with_reducible assumption | with_reducible exact Go.Vc.hset_same _ _ _ | with_reducible refine (Go.Vc.hset_ne _ _ (by omega)).trans ?_)); done)); (focus exact rfl); rintro _ rfl; conv => whnf) | ((with_reducible apply Go.Vc.strow); (focus ((repeat (first | with_reducible assumption | with_reducible exact Go.Vc.hset_same _ _ _ | with_reducible refine (Go.Vc.hset_ne _ _ (by omega)).trans ?_)); done)); (focus exact rfl); (focus exact rfl); (focus exact rfl); rintro _ rfl; conv => whnf))
                  first
                  | refine ⟨.inr ⟨take_no hgood (by first | exact .inl rfl | exact .inr (.inl rfl) | exact .inr (.inr (.inl hR)) | exact .inr (.inr (.inr hts))), rfl⟩, ?_, by omega⟩
                    intro b o hb
                    have := hd b o hb
                    repeat rw [hset_ne _ _ (by omega)]
                    exact eS _ _ hb
                  | refine br (fun hts => ?_) (fun hts => ?_)
                    · conv => whnf
                      refine ⟨.inr ⟨take_no hgood (by first | exact .inl rfl | exact .inr (.inl rfl) | exact .inr (.inr (.inl hR)) | exact .inr (.inr (.inr hts))), rfl⟩, ?_, by omega⟩
                      intro b o hb
                      have := hd b o hb
                      repeat rw [hset_ne _ _ (by omega)]
                      exact eS _ _ hb
                    · conv => whnf
                      refine ⟨.inl ⟨lvv, n3, wdv, hR, Classical.not_not.1 hts, rfl⟩, ?_, by omega⟩
                      intro b o hb
                      have := hd b o hb
                      repeat rw [hset_ne _ _ (by omega)]
                      exact eS _ _ hb
              · refine (path_no lvv n3 wdv hR).mono ?_
                rintro _ E TE hDE hTE ⟨rfl, hsE, _⟩
                have e2 := hsE r2 _ ((hset_ne _ _ (by omega)).trans f2)
                have e4 := hsE r4 _ ((hset_ne _ _ (by omega)).trans f4)
                have e8 := hsE r8 _ (hset_same _ _ _)
                have eS : Vc.Sub h E := fun b o hb => hsE _ _ (by
                  have := hd b o hb
                  rw [hset_ne _ _ (by omega)]
                  exact fS _ _ hb)
                cases is3
                · conv => whnf
                  repeat (first | ((with_reducible apply Go.Vc.ldrow); (focus ((repeat (first | with_reducible assumption | with_reducible exact Go.Vc.hset_same _ _ _ | with_reducible refine (Go.Vc.hset_ne _ _ (by omega)).trans ?_)); done)); (focus exact rfl); rintro _ rfl; conv => whnf) | ((with_reducible apply Go.Vc.strow); (focus ((repeat (first | with_reducible assumption | with_reducible exact Go.Vc.hset_same _ _ _ | with_reducible refine (Go.Vc.hset_ne _ _ (by omega)).trans ?_)); done)); (focus exact rfl); (focus exact rfl); (focus exact rfl); rintro _ rfl; conv => whnf))
                  refine ⟨.inr ⟨take_no hgood (by first | exact .inl rfl | exact .inr (.inl rfl) | exact .inr (.inr (.inl hR)) | exact .inr (.inr (.inr hts))), rfl⟩, ?_, by omega⟩
                  intro b o hb
                  have := hd b o hb
                  repeat rw [hset_ne _ _ (by omega)]
                  exact eS _ _ hb
                · conv => whnf
                  repeat (first | ((with_reducible apply Go.Vc.ldrow); (focus ((repeat (first | with_reducible assumption | with_reducible exact Go.Vc.hset_same _ _ _ | with_reducible refine (Go.Vc.hset_ne _ _ (by omega)).trans ?_)); done)); (focus exact rfl); rintro _ rfl; conv => whnf) | ((with_reducible apply Go.Vc.strow); (focus ((repeat (first | with_reducible assumption | with_reducible exact Go.Vc.hset_same _ _ _ | with_reducible refine (Go.Vc.hset_ne _ _ (by omega)).trans ?_)); done)); (focus exact rfl); (focus exact rfl); (focus exact rfl); rintro _ rfl; conv => whnf))
                  refine ⟨.inr ⟨take_no hgood (by first | exact .inl rfl | exact .inr (.inl rfl) | exact .inr (.inr (.inl hR)) | exact .inr (.inr (.inr hts))), rfl⟩, ?_, by omega⟩
                  intro b o hb
                  have := hd b o hb
                  repeat rw [hset_ne _ _ (by omega)]
                  exact eS _ _ hb
          · first
            | have hfin := fun (n : Int) (is : Bool) (hI : TkI i1 n is) (lv ix wd : Int) (hR : RightC lv ix wd) (he : pathS lv ix wd = s) => take_good hC1s hC2 hTk (tkW_num hn2k) hI hR he
            | have hfin := fun (n : Int) (is : Bool) (hI : TkI i1 n is) (lv ix wd : Int) (hR : RightC lv ix wd) (he : pathS lv ix wd = s) => take_good hC1s hC2 hTk (tkW_no (n := n2) (ok := false)) hI hR he
            rw [hwv] at hfin
            conv => whnf
            repeat (first | ((with_reducible apply Go.Vc.st_i); (focus ((repeat (first | with_reducible assumption | with_reducible exact Go.Vc.hset_same _ _ _ | with_reducible refine (Go.Vc.hset_ne _ _ (by omega)).trans ?_)); done)); (focus exact rfl); (focus exact rfl); (focus exact rfl); (conv => whnf); intro cA hcA; (first | (simp only [List.setIfInBounds_toArray, List.set_cons_succ, List.set_cons_zero] at hcA; subst hcA) | subst hcA); conv => whnf) | (intro _ _; conv => whnf))
            rename_i rS hrS
            refine (newreplacer_spec (hset_same _ _ _)).mono ?_
            rintro _ N TN hDN hTN ⟨rr, cc, aa, rfl, hrr, hslo, hcc, hab, hrt, hrt2, hsN⟩
            have n2' : N r2 = some (.cells #[.int .i64 0, .int .i64 0, .int .i64 0] 23 (0, 0)) := hsN _ _ (by
              repeat rw [hset_ne _ _ (by omega)]
              exact hc2)
            have n4' : N r4 = some (.cells #[.int .i64 0, .int .i64 0, .int .i64 0] 23 (0, 0)) := hsN _ _ (by
              repeat rw [hset_ne _ _ (by omega)]
              exact hc4)
            have n8' : N r8 = some (.cells #[.int .i64 lvv, .int .i64 0, .int .i64 wdv] 23 (0, 0)) := hsN _ _ (by
              rw [hset_ne _ _ (by omega), ← hwv]
              first
              | exact hc8
              | exact hset_same _ _ _)
            have nS : Vc.Sub h N := fun b o hb => hsN _ _ (by
              have := hd b o hb
              repeat rw [hset_ne _ _ (by omega)]
              exact hbs _ _ hb)
            conv => whnf
            refine (replace_spec ⟨i1.toArray⟩ (by rw [mk_size]; omega) hrr hslo hcc hab).mono ?_
            rintro _ M TM hDM hTM ⟨rfl, hfM, _⟩
            have m2 := hfM r2 _ (by omega) n2'
            have m4 := hfM r4 _ (by omega) n4'
            have m8 := hfM r8 _ (by omega) n8'
            have mS : Vc.Sub h M := fun b o hb => hfM b o (by have := hd b o hb; omega) (nS b o hb)
            rw [show (⟨i1.toArray⟩ : ByteArray).data.toList = i1 from rfl]
            conv => whnf
            refine (trimleft_spec _ 48 (by decide)).mono ?_
            rintro _ M2 TM2 hDM2 hTM2 ⟨rfl, rfl, rfl⟩
            rw [show (⟨(keptL i1).toArray⟩ : ByteArray).data.toList = keptL i1 from rfl]
            have hDl : (Lib.trimLeftB (keptL i1) 48).length ≤ 1048576 := by
              have h1 := trimLeft_len (s := keptL i1) (c := 48)
              have h2 : (keptL i1).length ≤ i1.length := List.length_filter_le _ _
              omega
            conv => whnf
            refine br (fun hz => ?_) (fun hz => ?_)
            · conv => whnf
              refine (takenumber_spec ⟨#[48]⟩ (by decide)).mono ?_
              rintro _ F TF hDF hTF ⟨n3, is3, rfl, hn30, hn31, hn3k, hsF, _⟩
              have hI : TkI i1 n3 is3 := tkI_zero (congrArg (fun x : ByteArray => x.data.toList) hz) hn3k
              have f2 := hsF _ _ m2
              have f4 := hsF _ _ m4
              have f8 := hsF _ _ m8
              have fS := mS.trans hsF
              have hgood := hfin n3 is3 hI
              conv => whnf
              repeat (first | ((with_reducible apply Go.Vc.ldrow); (focus ((repeat (first | with_reducible assumption | with_reducible exact Go.Vc.hset_same _ _ _ | with_reducible refine (Go.Vc.hset_ne _ _ (by omega)).trans ?_)); done)); (focus exact rfl); rintro _ rfl; conv => whnf) | ((with_reducible apply Go.Vc.st_i); (focus ((repeat (first | with_reducible assumption | with_reducible exact Go.Vc.hset_same _ _ _ | with_reducible refine (Go.Vc.hset_ne _ _ (by omega)).trans ?_)); done)); (focus exact rfl); (focus exact rfl); (focus exact rfl); (conv => whnf); intro cA hcA; (first | (simp only [List.setIfInBounds_toArray, List.set_cons_succ, List.set_cons_zero] at hcA; subst hcA) | subst hcA); conv => whnf))
              by_cases hR : RightC lvv n3 wdv
              · refine (path_spec lvv n3 wdv hR).mono ?_
                rintro _ E TE hDE hTE ⟨rfl, hsE, _⟩
                have e2 := hsE r2 _ ((hset_ne _ _ (by omega)).trans f2)
                have e4 := hsE r4 _ ((hset_ne _ _ (by omega)).trans f4)
                have e8 := hsE r8 _ (hset_same _ _ _)
                have eS : Vc.Sub h E := fun b o hb => hsE _ _ (by
                  have := hd b o hb
                  rw [hset_ne _ _ (by omega)]
                  exact fS _ _ hb)
                cases is3
                · conv => whnf
                  repeat (first | ((with_reducible apply Go.Vc.ldrow); (focus ((repeat (first | with_reducible assumption | with_reducible exact Go.Vc.hset_same _ _ _ | with_reducible refine (Go.Vc.hset_ne _ _ (by omega)).trans ?_)); done)); (focus exact rfl); rintro _ rfl; conv => whnf) | ((with_reducible apply Go.Vc.strow); (focus ((repeat (first | with_reducible assumption | with_reducible exact Go.Vc.hset_same _ _ _ | with_reducible refine (Go.Vc.hset_ne _ _ (by omega)).trans ?_)); done)); (focus exact rfl); (focus exact rfl); (focus exact rfl); rintro _ rfl; conv => whnf))
                  refine ⟨.inr ⟨take_no hgood (by first | exact .inl rfl | exact .inr (.inl rfl) | exact .inr (.inr (.inl hR)) | exact .inr (.inr (.inr hts))), rfl⟩, ?_, by omega⟩
                  intro b o hb
                  have := hd b o hb
                  repeat rw [hset_ne _ _ (by omega)]
                  exact eS _ _ hb
                · conv => whnf
                  repeat (first | ((with_reducible apply Go.Vc.ldrow); (focus ((repeat (first | with_reducible assumption | with_reducible exact Go.Vc.hset_same _ _ _ | with_reducible refine (Go.Vc.hset_ne _ _ (by omega)).trans ?_)); done)); (focus exact rfl); rintro _ rfl; conv => whnf) | ((with_reducible apply Go.Vc.strow); (focus ((repeat (first | with_reducible assumption | with_reducible exact Go.Vc.hset_same _ _ _ | with_reducible refine (Go.Vc.hset_ne _ _ (by omega)).trans ?_)); done)); (focus exact rfl); (focus exact rfl); (focus exact rfl); rintro _ rfl; conv => whnf))
                  first
                  | refine ⟨.inr ⟨take_no hgood (by first | exact .inl rfl | exact .inr (.inl rfl) | exact .inr (.inr (.inl hR)) | exact .inr (.inr (.inr hts))), rfl⟩, ?_, by omega⟩
                    intro b o hb
                    have := hd b o hb
                    repeat rw [hset_ne _ _ (by omega)]
                    exact eS _ _ hb
                  | refine br (fun hts => ?_) (fun hts => ?_)
                    · conv => whnf
                      refine ⟨.inr ⟨take_no hgood (by first | exact .inl rfl | exact .inr (.inl rfl) | exact .inr (.inr (.inl hR)) | exact .inr (.inr (.inr hts))), rfl⟩, ?_, by omega⟩
                      intro b o hb
                      have := hd b o hb
                      repeat rw [hset_ne _ _ (by omega)]
                      exact eS _ _ hb
                    · conv => whnf
                      refine ⟨.inl ⟨lvv, n3, wdv, hR, Classical.not_not.1 hts, rfl⟩, ?_, by omega⟩
                      intro b o hb
                      have := hd b o hb
                      repeat rw [hset_ne _ _ (by omega)]
                      exact eS _ _ hb
              · refine (path_no lvv n3 wdv hR).mono ?_
                rintro _ E TE hDE hTE ⟨rfl, hsE, _⟩
                have e2 := hsE r2 _ ((hset_ne _ _ (by omega)).trans f2)
                have e4 := hsE r4 _ ((hset_ne _ _ (by omega)).trans f4)
                have e8 := hsE r8 _ (hset_same _ _ _)
                have eS : Vc.Sub h E := fun b o hb => hsE _ _ (by
                  have := hd b o hb
                  rw [hset_ne _ _ (by omega)]
                  exact fS _ _ hb)
                cases is3
                · conv => whnf
                  repeat (first | ((with_reducible apply Go.Vc.ldrow); (focus ((repeat (first | with_reducible assumption | with_reducible exact Go.Vc.hset_same _ _ _ | with_reducible refine (Go.Vc.hset_ne _ _ (by omega)).trans ?_)); done)); (focus exact rfl); rintro _ rfl; conv => whnf) | ((with_reducible apply Go.Vc.strow); (focus ((repeat (first | with_reducible assumption | with_reducible exact Go.Vc.hset_same _ _ _ | with_reducible refine (Go.Vc.hset_ne _ _ (by omega)).trans ?_)); done)); (focus exact rfl); (focus exact rfl); (focus exact rfl); rintro _ rfl; conv => whnf))
                  refine ⟨.inr ⟨take_no hgood (by first | exact .inl rfl | exact .inr (.inl rfl) | exact .inr (.inr (.inl hR)) | exact .inr (.inr (.inr hts))), rfl⟩, ?_, by omega⟩
                  intro b o hb
                  have := hd b o hb
                  repeat rw [hset_ne _ _ (by omega)]
                  exact eS _ _ hb
                · conv => whnf
                  repeat (first | ((with_reducible apply Go.Vc.ldrow); (focus ((repeat (first | with_reducible assumption | with_reducible exact Go.Vc.hset_same _ _ _ | with_reducible refine (Go.Vc.hset_ne _ _ (by omega)).trans ?_)); done)); (focus exact rfl); rintro _ rfl; conv => whnf) | ((with_reducible apply Go.Vc.strow); (focus ((repeat (first | with_reducible assumption | with_reducible exact Go.Vc.hset_same _ _ _ | with_reducible refine (Go.Vc.hset_ne _ _ (by omega)).trans ?_)); done)); (focus exact rfl); (focus exact rfl); (focus exact rfl); rintro _ rfl; conv => whnf))
                  refine ⟨.inr ⟨take_no hgood (by first | exact .inl rfl | exact .inr (.inl rfl) | exact .inr (.inr (.inl hR)) | exact .inr (.inr (.inr hts))), rfl⟩, ?_, by omega⟩
                  intro b o hb
                  have := hd b o hb
                  repeat rw [hset_ne _ _ (by omega)]
                  exact eS _ _ hb
            · conv => whnf
              refine (takenumber_spec ⟨(Lib.trimLeftB (keptL i1) 48).toArray⟩ (by rw [mk_size]; exact hDl)).mono ?_
              rintro _ F TF hDF hTF ⟨n3, is3, rfl, hn30, hn31, hn3k, hsF, _⟩
              have hI : TkI i1 n3 is3 := tkI_num (fun e => hz (by rw [e])) hn3k
              have f2 := hsF _ _ m2
              have f4 := hsF _ _ m4
              have f8 := hsF _ _ m8
              have fS := mS.trans hsF
              have hgood := hfin n3 is3 hI
              conv => whnf
              repeat (first | ((with_reducible apply Go.Vc.ldrow); (focus ((repeat (first | with_reducible assumption | with_reducible exact Go.Vc.hset_same _ _ _ | with_reducible refine (Go.Vc.hset_ne _ _ (by omega)).trans ?_)); done)); (focus exact rfl); rintro _ rfl; conv => whnf) | ((with_reducible apply Go.Vc.st_i); (focus ((repeat (first | with_reducible assumption | with_reducible exact Go.Vc.hset_same _ _ _ | with_reducible refine (Go.Vc.hset_ne _ _ (by omega)).trans ?_)); done)); (focus exact rfl); (focus exact rfl); (focus exact rfl); (conv => whnf); intro cA hcA; (first | (simp only [List.setIfInBounds_toArray, List.set_cons_succ, List.set_cons_zero] at hcA; subst hcA) | subst hcA); conv => whnf))
              by_cases hR : RightC lvv n3 wdv
              · refine (path_spec lvv n3 wdv hR).mono ?_
                rintro _ E TE hDE hTE ⟨rfl, hsE, _⟩
                have e2 := hsE r2 _ ((hset_ne _ _ (by omega)).trans f2)
                have e4 := hsE r4 _ ((hset_ne _ _ (by omega)).trans f4)
                have e8 := hsE r8 _ (hset_same _ _ _)
                have eS : Vc.Sub h E := fun b o hb => hsE _ _ (by
                  have := hd b o hb
                  rw [hset_ne _ _ (by omega)]
                  exact fS _ _ hb)
                cases is3
                · conv => whnf
                  repeat (first | ((with_reducible apply Go.Vc.ldrow); (focus ((repeat (first | with_reducible assumption | with_reducible exact Go.Vc.hset_same _ _ _ | with_reducible refine (Go.Vc.hset_ne _ _ (by omega)).trans ?_)); done)); (focus exact rfl); rintro _ rfl; conv => whnf) | ((with_reducible apply Go.Vc.strow); (focus ((repeat (first | with_reducible assumption | with_reducible exact Go.Vc.hset_same _ _ _ | with_reducible refine (Go.Vc.hset_ne _ _ (by omega)).trans ?_)); done)); (focus exact rfl); (focus exact rfl); (focus exact rfl); rintro _ rfl; conv => whnf))
                  refine ⟨.inr ⟨take_no hgood (by first | exact .inl rfl | exact .inr (.inl rfl) | exact .inr (.inr (.inl hR)) | exact .inr (.inr (.inr hts))), rfl⟩, ?_, by omega⟩
                  intro b o hb
                  have := hd b o hb
                  repeat rw [hset_ne _ _ (by omega)]
                  exact eS _ _ hb
                · conv => whnf
                  repeat (first | ((with_reducible apply Go.Vc.ldrow); (focus ((repeat (first | with_reducible assumption | with_reducible exact Go.Vc.hset_same _ _ _ | with_reducible refine (Go.Vc.hset_ne _ _ (by omega)).trans ?_)); done)); (focus exact rfl); rintro _ rfl; conv => whnf) | ((with_reducible apply Go.Vc.strow); (focus ((repeat (first | with_reducible assumption | with_reducible exact Go.Vc.hset_same _ _ _ | with_reducible refine (Go.Vc.hset_ne _ _ (by omega)).trans ?_)); done)); (focus exact rfl); (focus exact rfl); (focus exact rfl); rintro _ rfl; conv => whnf))
                  first
                  | refine ⟨.inr ⟨take_no hgood (by first | exact .inl rfl | exact .inr (.inl rfl) | exact .inr (.inr (.inl hR)) | exact .inr (.inr (.inr hts))), rfl⟩, ?_, by omega⟩
                    intro b o hb
                    have := hd b o hb
                    repeat rw [hset_ne _ _ (by omega)]
                    exact eS _ _ hb
                  | refine br (fun hts => ?_) (fun hts => ?_)
                    · conv => whnf
                      refine ⟨.inr ⟨take_no hgood (by first | exact .inl rfl | exact .inr (.inl rfl) | exact .inr (.inr (.inl hR)) | exact .inr (.inr (.inr hts))), rfl⟩, ?_, by omega⟩
                      intro b o hb
                      have := hd b o hb
                      repeat rw [hset_ne _ _ (by omega)]
                      exact eS _ _ hb
                    · conv => whnf
                      refine ⟨.inl ⟨lvv, n3, wdv, hR, Classical.not_not.1 hts, rfl⟩, ?_, by omega⟩
                      intro b o hb
                      have := hd b o hb
                      repeat rw [hset_ne _ _ (by omega)]
                      exact eS _ _ hb
              · refine (path_no lvv n3 wdv hR).mono ?_
                rintro _ E TE hDE hTE ⟨rfl, hsE, _⟩
                have e2 := hsE r2 _ ((hset_ne _ _ (by omega)).trans f2)
                have e4 := hsE r4 _ ((hset_ne _ _ (by omega)).trans f4)
                have e8 := hsE r8 _ (hset_same _ _ _)
                have eS : Vc.Sub h E := fun b o hb => hsE _ _ (by
                  have := hd b o hb
                  rw [hset_ne _ _ (by omega)]
                  exact fS _ _ hb)
                cases is3
                · conv => whnf
                  repeat (first | ((with_reducible apply Go.Vc.ldrow); (focus ((repeat (first | with_reducible assumption | with_reducible exact Go.Vc.hset_same _ _ _ | with_reducible refine (Go.Vc.hset_ne _ _ (by omega)).trans ?_)); done)); (focus exact rfl); rintro _ rfl; conv => whnf) | ((with_reducible apply Go.Vc.strow); (focus ((repeat (first | with_reducible assumption | with_reducible exact Go.Vc.hset_same _ _ _ | with_reducible refine (Go.Vc.hset_ne _ _ (by omega)).trans ?_)); done)); (focus exact rfl); (focus exact rfl); (focus exact rfl); rintro _ rfl; conv => whnf))
                  refine ⟨.inr ⟨take_no hgood (by first | exact .inl rfl | exact .inr (.inl rfl) | exact .inr (.inr (.inl hR)) | exact .inr (.inr (.inr hts))), rfl⟩, ?_, by omega⟩
                  intro b o hb
                  have := hd b o hb
                  repeat rw [hset_ne _ _ (by omega)]
                  exact eS _ _ hb
                · conv => whnf
                  repeat (first | ((with_reducible apply Go.Vc.ldrow); (focus ((repeat (first | with_reducible assumption | with_reducible exact Go.Vc.hset_same _ _ _ | with_reducible refine (Go.Vc.hset_ne _ _ (by omega)).trans ?_)); done)); (focus exact rfl); rintro _ rfl; conv => whnf) | ((with_reducible apply Go.Vc.strow); (focus ((repeat (first | with_reducible assumption | with_reducible exact Go.Vc.hset_same _ _ _ | with_reducible refine (Go.Vc.hset_ne _ _ (by omega)).trans ?_)); done)); (focus exact rfl); (focus exact rfl); (focus exact rfl); rintro _ rfl; conv => whnf))
                  refine ⟨.inr ⟨take_no hgood (by first | exact .inl rfl | exact .inr (.inl rfl) | exact .inr (.inr (.inl hR)) | exact .inr (.inr (.inr hts))), rfl⟩, ?_, by omega⟩
                  intro b o hb
                  have := hd b o hb
                  repeat rw [hset_ne _ _ (by omega)]
                  exact eS _ _ hb
      · conv => whnf
        refine (cut_spec ⟨l2.toArray⟩ ⟨#[46, 112, 47]⟩ (by rw [mk_size]; omega) (hM.sub (by
          intro b o hb
          have := hd b o hb
          repeat rw [hset_ne _ _ (by omega)]
          exact hbase _ _ hb))).mono ?_
        rintro _ G T hD _ ⟨rfl, hG, rfl⟩
        have G2 : G r2 = some (.cells #[.int .i64 0, .int .i64 0, .int .i64 0] 23 (0, 0)) := by
          rw [hG]
          repeat rw [hset_ne _ _ (by omega)]
          exact hb2
        have G4 : G r4 = some (.cells #[.int .i64 0, .int .i64 0, .int .i64 0] 23 (0, 0)) := by
          rw [hG]
          repeat rw [hset_ne _ _ (by omega)]
          exact hb4
        have G8 : G r8 = some (.cells #[.int .i64 lvv, .int .i64 0, .int .i64 256] 23 (0, 0)) := by
          rw [hG, hset_same, hlv]
          rfl
        have GS : Vc.Sub h G := by
          intro b o hb
          have := hd b o hb
          rw [hG]
          repeat rw [hset_ne _ _ (by omega)]
          exact hbase _ _ hb
        clear hG
        obtain ⟨i1, w1, b2, hC2⟩ : ∃ i1 w1 b2, Lib.cut l2 ppB.data.toList = (i1, w1, b2) := ⟨_, _, _, rfl⟩
        have hC2l := cut_len (s := l2) (p := ppB.data.toList)
        rw [show (⟨l2.toArray⟩ : ByteArray).data.toList = l2 from rfl, show (⟨#[46, 112, 47]⟩ : ByteArray).data.toList = ppB.data.toList from rfl, hC2]
        rw [hC2] at hC2l
        dsimp only at hC2l ⊢
        have hC1s := hP1 ▸ hC1
        cases b2
        · obtain ⟨wdv, hwv⟩ : ∃ x : Int, 256 = x := ⟨_, rfl⟩
          have hfin := fun (n : Int) (is : Bool) (hI : TkI i1 n is) (lv ix wd : Int) (hR : RightC lv ix wd) (he : pathS lv ix wd = s) => take_good hC1s hC2 hTk tkW_none hI hR he
          rw [hwv] at hfin
          have hc2 := G2
          have hc4 := G4
          have hc8 := G8
          have hbs := GS
          conv => whnf
          repeat (first | (intro _ _; conv => whnf))
          rename_i rS hrS
          refine (newreplacer_spec (hset_same _ _ _)).mono ?_
          rintro _ N TN hDN hTN ⟨rr, cc, aa, rfl, hrr, hslo, hcc, hab, hrt, hrt2, hsN⟩
          have n2' : N r2 = some (.cells #[.int .i64 0, .int .i64 0, .int .i64 0] 23 (0, 0)) := hsN _ _ (by
            repeat rw [hset_ne _ _ (by omega)]
            exact hc2)
          have n4' : N r4 = some (.cells #[.int .i64 0, .int .i64 0, .int .i64 0] 23 (0, 0)) := hsN _ _ (by
            repeat rw [hset_ne _ _ (by omega)]
            exact hc4)
          have n8' : N r8 = some (.cells #[.int .i64 lvv, .int .i64 0, .int .i64 wdv] 23 (0, 0)) := hsN _ _ (by
            rw [hset_ne _ _ (by omega), ← hwv]
            first
            | exact hc8
            | exact hset_same _ _ _)
          have nS : Vc.Sub h N := fun b o hb => hsN _ _ (by
            have := hd b o hb
            repeat rw [hset_ne _ _ (by omega)]
            exact hbs _ _ hb)
          conv => whnf
          refine (replace_spec ⟨i1.toArray⟩ (by rw [mk_size]; omega) hrr hslo hcc hab).mono ?_
          rintro _ M TM hDM hTM ⟨rfl, hfM, _⟩
          have m2 := hfM r2 _ (by omega) n2'
          have m4 := hfM r4 _ (by omega) n4'
          have m8 := hfM r8 _ (by omega) n8'
          have mS : Vc.Sub h M := fun b o hb => hfM b o (by have := hd b o hb; omega) (nS b o hb)
          rw [show (⟨i1.toArray⟩ : ByteArray).data.toList = i1 from rfl]
          conv => whnf
          refine (trimleft_spec _ 48 (by decide)).mono ?_
          rintro _ M2 TM2 hDM2 hTM2 ⟨rfl, rfl, rfl⟩
          rw [show (⟨(keptL i1).toArray⟩ : ByteArray).data.toList = keptL i1 from rfl]
          have hDl : (Lib.trimLeftB (keptL i1) 48).length ≤ 1048576 := by
            have h1 := trimLeft_len (s := keptL i1) (c := 48)
            have h2 : (keptL i1).length ≤ i1.length := List.length_filter_le _ _
            omega
          conv => whnf
          refine br (fun hz => ?_) (fun hz => ?_)
          · conv => whnf
            refine (takenumber_spec ⟨#[48]⟩ (by decide)).mono ?_
            rintro _ F TF hDF hTF ⟨n3, is3, rfl, hn30, hn31, hn3k, hsF, _⟩
            have hI : TkI i1 n3 is3 := tkI_zero (congrArg (fun x : ByteArray => x.data.toList) hz) hn3k
            have f2 := hsF _ _ m2
            have f4 := hsF _ _ m4
            have f8 := hsF _ _ m8
            have fS := mS.trans hsF
            have hgood := hfin n3 is3 hI
            conv => whnf
            repeat (first | ((with_reducible apply Go.Vc.ldrow); (focus ((repeat (first | with_reducible assumption | with_reducible exact Go.Vc.hset_same _ _ _ | with_reducible refine (Go.Vc.hset_ne _ _ (by omega)).trans ?_)); done)); (focus exact rfl); rintro _ rfl; conv => whnf) | ((with_reducible apply Go.Vc.st_i); (focus ((repeat (first | with_reducible assumption | with_reducible exact Go.Vc.hset_same _ _ _ | with_reducible refine (Go.Vc.hset_ne _ _ (by omega)).trans ?_)); done)); (focus exact rfl); (focus exact rfl); (focus exact rfl); (conv => whnf); intro cA hcA; (first | (simp only [List.setIfInBounds_toArray, List.set_cons_succ, List.set_cons_zero] at hcA; subst hcA) | subst hcA); conv => whnf))
            by_cases hR : RightC lvv n3 wdv
            · refine (path_spec lvv n3 wdv hR).mono ?_
              rintro _ E TE hDE hTE ⟨rfl, hsE, _⟩
              have e2 := hsE r2 _ ((hset_ne _ _ (by omega)).trans f2)
              have e4 := hsE r4 _ ((hset_ne _ _ (by omega)).trans f4)
              have e8 := hsE r8 _ (hset_same _ _ _)
              have eS : Vc.Sub h E := fun b o hb => hsE _ _ (by
                have := hd b o hb
                rw [hset_ne _ _ (by omega)]
                exact fS _ _ hb)
              cases is3
              · conv => whnf
                repeat (first | ((with_reducible apply Go.Vc.ldrow); (focus ((repeat (first | with_reducible assumption | with_reducible exact Go.Vc.hset_same _ _ _ | with_reducible refine (Go.Vc.hset_ne _ _ (by omega)).trans ?_)); done)); (focus exact rfl); rintro _ rfl; conv => whnf) | ((with_reducible apply Go.Vc.strow); (focus ((repeat (first | with_reducible assumption | with_reducible exact Go.Vc.hset_same _ _ _ | with_reducible refine (Go.Vc.hset_ne _ _ (by omega)).trans ?_)); done)); (focus exact rfl); (focus exact rfl); (focus exact rfl); rintro _ rfl; conv => whnf))
                refine ⟨.inr ⟨take_no hgood (by first | exact .inl rfl | exact .inr (.inl rfl) | exact .inr (.inr (.inl hR)) | exact .inr (.inr (.inr hts))), rfl⟩, ?_, by omega⟩
                intro b o hb
                have := hd b o hb
                repeat rw [hset_ne _ _ (by omega)]
                exact eS _ _ hb
              · conv => whnf
                repeat (first | (refine Go.Vc.br_f ?_ ?_; (focus omega); conv => whnf))
                first
                | refine ⟨.inr ⟨take_no hgood (by first | exact .inl rfl | exact .inr (.inl rfl) | exact .inr (.inr (.inl hR)) | exact .inr (.inr (.inr hts))), rfl⟩, ?_, by omega⟩
                  intro b o hb
                  have := hd b o hb
                  repeat rw [hset_ne _ _ (by omega)]
                  exact eS _ _ hb
                | refine br (fun hts => ?_) (fun hts => ?_)
                  · conv => whnf
                    repeat (first | ((with_reducible apply Go.Vc.ldrow); (focus ((repeat (first | with_reducible assumption | with_reducible exact Go.Vc.hset_same _ _ _ | with_reducible refine (Go.Vc.hset_ne _ _ (by omega)).trans ?_)); done)); (focus exact rfl); rintro _ rfl; conv => whnf) | ((with_reducible apply Go.Vc.strow); (focus ((repeat (first | with_reducible assumption | with_reducible exact Go.Vc.hset_same _ _ _ | with_reducible refine (Go.Vc.hset_ne _ _ (by omega)).trans ?_)); done)); (focus exact rfl); (focus exact rfl); (focus exact rfl); rintro _ rfl; conv => whnf))
                    refine ⟨.inr ⟨take_no hgood (by first | exact .inl rfl | exact .inr (.inl rfl) | exact .inr (.inr (.inl hR)) | exact .inr (.inr (.inr hts))), rfl⟩, ?_, by omega⟩
                    intro b o hb
                    have := hd b o hb
                    repeat rw [hset_ne _ _ (by omega)]
                    exact eS _ _ hb
                  · conv => whnf
                    repeat (first | ((with_reducible apply Go.Vc.ldrow); (focus ((repeat (first | with_reducible assumption | with_reducible exact Go.Vc.hset_same _ _ _ | with_reducible refine (Go.Vc.hset_ne _ _ (by omega)).trans ?_)); done)); (focus exact rfl); rintro _ rfl; conv => whnf) | ((with_reducible apply Go.Vc.strow); (focus ((repeat (first | with_reducible assumption | with_reducible exact Go.Vc.hset_same _ _ _ | with_reducible refine (Go.Vc.hset_ne _ _ (by omega)).trans ?_)); done)); (focus exact rfl); (focus exact rfl); (focus exact rfl); rintro _ rfl; conv => whnf))
                    refine ⟨.inl ⟨lvv, n3, wdv, hR, Classical.not_not.1 hts, rfl⟩, ?_, by omega⟩
                    intro b o hb
                    have := hd b o hb
                    repeat rw [hset_ne _ _ (by omega)]
                    exact eS _ _ hb
            · refine (path_no lvv n3 wdv hR).mono ?_
              rintro _ E TE hDE hTE ⟨rfl, hsE, _⟩
              have e2 := hsE r2 _ ((hset_ne _ _ (by omega)).trans f2)
              have e4 := hsE r4 _ ((hset_ne _ _ (by omega)).trans f4)
              have e8 := hsE r8 _ (hset_same _ _ _)
              have eS : Vc.Sub h E := fun b o hb => hsE _ _ (by
                have := hd b o hb
                rw [hset_ne _ _ (by omega)]
                exact fS _ _ hb)
              cases is3
              · conv => whnf
                repeat (first | ((with_reducible apply Go.Vc.ldrow); (focus ((repeat (first | with_reducible assumption | with_reducible exact Go.Vc.hset_same _ _ _ | with_reducible refine (Go.Vc.hset_ne _ _ (by omega)).trans ?_)); done)); (focus exact rfl); rintro _ rfl; conv => whnf) | ((with_reducible apply Go.Vc.strow); (focus ((repeat (first | with_reducible assumption | with_reducible exact Go.Vc.hset_same _ _ _ | with_reducible refine (Go.Vc.hset_ne _ _ (by omega)).trans ?_)); done)); (focus exact rfl); (focus exact rfl); (focus exact rfl); rintro _ rfl; conv => whnf))
                refine ⟨.inr ⟨take_no hgood (by first | exact .inl rfl | exact .inr (.inl rfl) | exact .inr (.inr (.inl hR)) | exact .inr (.inr (.inr hts))), rfl⟩, ?_, by omega⟩
                intro b o hb
                have := hd b o hb
                repeat rw [hset_ne _ _ (by omega)]
                exact eS _ _ hb
              · conv => whnf
                repeat (first | ((with_reducible apply Go.Vc.ldrow); (focus ((repeat (first | with_reducible assumption | with_reducible exact Go.Vc.hset_same _ _ _ | with_reducible refine (Go.Vc.hset_ne _ _ (by omega)).trans ?_)); done)); (focus exact rfl); rintro _ rfl; conv => whnf) | ((with_reducible apply Go.Vc.strow); (focus ((repeat (first | with_reducible assumption | with_reducible exact Go.Vc.hset_same _ _ _ | with_reducible refine (Go.Vc.hset_ne _ _ (by omega)).trans ?_)); done)); (focus exact rfl); (focus exact rfl); (focus exact rfl); rintro _ rfl; conv => whnf) | (refine Go.Vc.br_t ?_ ?_; (focus omega); conv => whnf))
                refine ⟨.inr ⟨take_no hgood (by first | exact .inl rfl | exact .inr (.inl rfl) | exact .inr (.inr (.inl hR)) | exact .inr (.inr (.inr hts))), rfl⟩, ?_, by omega⟩
                intro b o hb
                have := hd b o hb
                repeat rw [hset_ne _ _ (by omega)]
                exact eS _ _ hb
          · conv => whnf
            refine (takenumber_spec ⟨(Lib.trimLeftB (keptL i1) 48).toArray⟩ (by rw [mk_size]; exact hDl)).mono ?_
            rintro _ F TF hDF hTF ⟨n3, is3, rfl, hn30, hn31, hn3k, hsF, _⟩
            have hI : TkI i1 n3 is3 := tkI_num (fun e => hz (by rw [e])) hn3k
            have f2 := hsF _ _ m2
            have f4 := hsF _ _ m4
            have f8 := hsF _ _ m8
            have fS := mS.trans hsF
            have hgood := hfin n3 is3 hI
            conv => whnf
            repeat (first | ((with_reducible apply Go.Vc.ldrow); (focus ((repeat (first | with_reducible assumption | with_reducible exact Go.Vc.hset_same _ _ _ | with_reducible refine (Go.Vc.hset_ne _ _ (by omega)).trans ?_)); done)); (focus exact rfl); rintro _ rfl; conv => whnf) | ((with_reducible apply Go.Vc.st_i); (focus ((repeat (first | with_reducible assumption | with_reducible exact Go.Vc.hset_same _ _ _ | with_reducible refine (Go.Vc.hset_ne _ _ (by omega)).trans ?_)); done)); (focus exact rfl); (focus exact rfl); (focus exact rfl); (conv => whnf); intro cA hcA; (first | (simp only [List.setIfInBounds_toArray, List.set_cons_succ, List.set_cons_zero] at hcA; subst hcA) | subst hcA); conv => whnf))
            by_cases hR : RightC lvv n3 wdv
            · refine (path_spec lvv n3 wdv hR).mono ?_
              rintro _ E TE hDE hTE ⟨rfl, hsE, _⟩
              have e2 := hsE r2 _ ((hset_ne _ _ (by omega)).trans f2)
              have e4 := hsE r4 _ ((hset_ne _ _ (by omega)).trans f4)
              have e8 := hsE r8 _ (hset_same _ _ _)
              have eS : Vc.Sub h E := fun b o hb => hsE _ _ (by
                have := hd b o hb
                rw [hset_ne _ _ (by omega)]
                exact fS _ _ hb)
              cases is3
              · conv => whnf
                repeat (first | ((with_reducible apply Go.Vc.ldrow); (focus ((repeat (first | with_reducible assumption | with_reducible exact Go.Vc.hset_same _ _ _ | with_reducible refine (Go.Vc.hset_ne _ _ (by omega)).trans ?_)); done)); (focus exact rfl); rintro _ rfl; conv => whnf) | ((with_reducible apply Go.Vc.strow); (focus ((repeat (first | with_reducible assumption | with_reducible exact Go.Vc.hset_same _ _ _ | with_reducible refine (Go.Vc.hset_ne _ _ (by omega)).trans ?_)); done)); (focus exact rfl); (focus exact rfl); (focus exact rfl); rintro _ rfl; conv => whnf))
                refine ⟨.inr ⟨take_no hgood (by first | exact .inl rfl | exact .inr (.inl rfl) | exact .inr (.inr (.inl hR)) | exact .inr (.inr (.inr hts))), rfl⟩, ?_, by omega⟩
                intro b o hb
                have := hd b o hb
                repeat rw [hset_ne _ _ (by omega)]
                exact eS _ _ hb
              · conv => whnf
                repeat (first | (refine Go.Vc.br_f ?_ ?_; (focus omega); conv => whnf))
                first
                | refine ⟨.inr ⟨take_no hgood (by first | exact .inl rfl | exact .inr (.inl rfl) | exact .inr (.inr (.inl hR)) | exact .inr (.inr (.inr hts))), rfl⟩, ?_, by omega⟩
                  intro b o hb
                  have := hd b o hb
                  repeat rw [hset_ne _ _ (by omega)]
                  exact eS _ _ hb
                | refine br (fun hts => ?_) (fun hts => ?_)
                  · conv => whnf
                    repeat (first | ((with_reducible apply Go.Vc.ldrow); (focus ((repeat (first | with_reducible assumption | with_reducible exact Go.Vc.hset_same _ _ _ | with_reducible refine (Go.Vc.hset_ne _ _ (by omega)).trans ?_)); done)); (focus exact rfl); rintro _ rfl; conv => whnf) | ((with_reducible apply Go.Vc.strow); (focus ((repeat (first | with_reducible assumption | with_reducible exact Go.Vc.hset_same _ _ _ | with_reducible refine (Go.Vc.hset_ne _ _ (by omega)).trans ?_)); done)); (focus exact rfl); (focus exact rfl); (focus exact rfl); rintro _ rfl; conv => whnf))
                    refine ⟨.inr ⟨take_no hgood (by first | exact .inl rfl | exact .inr (.inl rfl) | exact .inr (.inr (.inl hR)) | exact .inr (.inr (.inr hts))), rfl⟩, ?_, by omega⟩
                    intro b o hb
                    have := hd b o hb
                    repeat rw [hset_ne _ _ (by omega)]
                    exact eS _ _ hb
                  · conv => whnf
                    repeat (first | ((with_reducible apply Go.Vc.ldrow); (focus ((repeat (first | with_reducible assumption | with_reducible exact Go.Vc.hset_same _ _ _ | with_reducible refine (Go.Vc.hset_ne _ _ (by omega)).trans ?_)); done)); (focus exact rfl); rintro _ rfl; conv => whnf) | ((with_reducible apply Go.Vc.strow); (focus ((repeat (first | with_reducible assumption | with_reducible exact Go.Vc.hset_same _ _ _ | with_reducible refine (Go.Vc.hset_ne _ _ (by omega)).trans ?_)); done)); (focus exact rfl); (focus exact rfl); (focus exact rfl); rintro _ rfl; conv => whnf))
                    refine ⟨.inl ⟨lvv, n3, wdv, hR, Classical.not_not.1 hts, rfl⟩, ?_, by omega⟩
                    intro b o hb
                    have := hd b o hb
                    repeat rw [hset_ne _ _ (by omega)]
                    exact eS _ _ hb
            · refine (path_no lvv n3 wdv hR).mono ?_
              rintro _ E TE hDE hTE ⟨rfl, hsE, _⟩
              have e2 := hsE r2 _ ((hset_ne _ _ (by omega)).trans f2)
              have e4 := hsE r4 _ ((hset_ne _ _ (by omega)).trans f4)
              have e8 := hsE r8 _ (hset_same _ _ _)
              have eS : Vc.Sub h E := fun b o hb => hsE _ _ (by
                have := hd b o hb
                rw [hset_ne _ _ (by omega)]
                exact fS _ _ hb)
              cases is3
              · conv => whnf
                repeat (first | ((with_reducible apply Go.Vc.ldrow); (focus ((repeat (first | with_reducible assumption | with_reducible exact Go.Vc.hset_same _ _ _ | with_reducible refine (Go.Vc.hset_ne _ _ (by omega)).trans ?_)); done)); (focus exact rfl); rintro _ rfl; conv => whnf) | ((with_reducible apply Go.Vc.strow); (focus ((repeat (first | with_reducible assumption | with_reducible exact Go.Vc.hset_same _ _ _ | with_reducible refine (Go.Vc.hset_ne _ _ (by omega)).trans ?_)); done)); (focus exact rfl); (focus exact rfl); (focus exact rfl); rintro _ rfl; conv => whnf))
                refine ⟨.inr ⟨take_no hgood (by first | exact .inl rfl | exact .inr (.inl rfl) | exact .inr (.inr (.inl hR)) | exact .inr (.inr (.inr hts))), rfl⟩, ?_, by omega⟩
                intro b o hb
                have := hd b o hb
                repeat rw [hset_ne _ _ (by omega)]
                exact eS _ _ hb
              · conv => whnf
                repeat (first | ((with_reducible apply Go.Vc.ldrow); (focus ((repeat (first | with_reducible assumption | with_reducible exact Go.Vc.hset_same _ _ _ | with_reducible refine (Go.Vc.hset_ne _ _ (by omega)).trans ?_)); done)); (focus exact rfl); rintro _ rfl; conv => whnf) | ((with_reducible apply Go.Vc.strow); (focus ((repeat (first | with_reducible assumption | with_reducible exact Go.Vc.hset_same _ _ _ | with_reducible refine (Go.Vc.hset_ne _ _ (by omega)).trans ?_)); done)); (focus exact rfl); (focus exact rfl); (focus exact rfl); rintro _ rfl; conv => whnf) | (refine Go.Vc.br_t ?_ ?_; (focus omega); conv => whnf))
                refine ⟨.inr ⟨take_no hgood (by first | exact .inl rfl | exact .inr (.inl rfl) | exact .inr (.inr (.inl hR)) | exact .inr (.inr (.inr hts))), rfl⟩, ?_, by omega⟩
                intro b o hb
                have := hd b o hb
                repeat rw [hset_ne _ _ (by omega)]
                exact eS _ _ hb
        · conv => whnf
          refine (takenumber_spec ⟨w1.toArray⟩ (by rw [mk_size]; omega)).mono ?_
          rintro _ Gc Tc hDc hTc ⟨n2, is2, rfl, hn20, hn21, hn2k, hsc, _⟩
          have hc2 := hsc _ _ G2
          have hc4 := hsc _ _ G4
          have hc8 := hsc _ _ G8
          have hbs := GS.trans hsc
          obtain ⟨wdv, hwv⟩ : ∃ x : Int, n2 = x := ⟨_, rfl⟩
          cases is2
          · first
            | have hfin := fun (n : Int) (is : Bool) (hI : TkI i1 n is) (lv ix wd : Int) (hR : RightC lv ix wd) (he : pathS lv ix wd = s) => take_good hC1s hC2 hTk (tkW_num hn2k) hI hR he
            | have hfin := fun (n : Int) (is : Bool) (hI : TkI i1 n is) (lv ix wd : Int) (hR : RightC lv ix wd) (he : pathS lv ix wd = s) => take_good hC1s hC2 hTk (tkW_no (n := n2) (ok := false)) hI hR he
            rw [hwv] at hfin
            conv => whnf
            repeat (first | ((with_reducible apply Go.Vc.st_i); (focus ((repeat (first | with_reducible assumption | with_reducible exact Go.Vc.hset_same _ _ _ | with_reducible refine (Go.Vc.hset_ne _ _ (by omega)).trans ?_)); done)); (focus exact rfl); (focus exact rfl); (focus exact rfl); (conv => whnf); intro cA hcA; (first | (simp only [List.setIfInBounds_toArray, List.set_cons_succ, List.set_cons_zero] at hcA; subst hcA) | subst hcA); conv => whnf) | (intro _ _; conv => whnf))
            rename_i rS hrS
            refine (newreplacer_spec (hset_same _ _ _)).mono ?_
            rintro _ N TN hDN hTN ⟨rr, cc, aa, rfl, hrr, hslo, hcc, hab, hrt, hrt2, hsN⟩
            have n2' : N r2 = some (.cells #[.int .i64 0, .int .i64 0, .int .i64 0] 23 (0, 0)) := hsN _ _ (by
              repeat rw [hset_ne _ _ (by omega)]
              exact hc2)
            have n4' : N r4 = some (.cells #[.int .i64 0, .int .i64 0, .int .i64 0] 23 (0, 0)) := hsN _ _ (by
              repeat rw [hset_ne _ _ (by omega)]
              exact hc4)
            have n8' : N r8 = some (.cells #[.int .i64 lvv, .int .i64 0, .int .i64 wdv] 23 (0, 0)) := hsN _ _ (by
              rw [hset_ne _ _ (by omega), ← hwv]
              first
              | exact hc8
              | exact hset_same _ _ _)
            have nS : Vc.Sub h N := fun b o hb => hsN _ _ (by
              have := hd b o hb
              repeat rw [hset_ne _ _ (by omega)]
              exact hbs _ _ hb)
            conv => whnf
            refine (replace_spec ⟨i1.toArray⟩ (by rw [mk_size]; omega) hrr hslo hcc hab).mono ?_
            rintro _ M TM hDM hTM ⟨rfl, hfM, _⟩
            have m2 := hfM r2 _ (by omega) n2'
            have m4 := hfM r4 _ (by omega) n4'
            have m8 := hfM r8 _ (by omega) n8'
            have mS : Vc.Sub h M := fun b o hb => hfM b o (by have := hd b o hb; omega) (nS b o hb)
            rw [show (⟨i1.toArray⟩ : ByteArray).data.toList = i1 from rfl]
            conv => whnf
            refine (trimleft_spec _ 48 (by decide)).mono ?_
            rintro _ M2 TM2 hDM2 hTM2 ⟨rfl, rfl, rfl⟩
            rw [show (⟨(keptL i1).toArray⟩ : ByteArray).data.toList = keptL i1 from rfl]
            have hDl : (Lib.trimLeftB (keptL i1) 48).length ≤ 1048576 := by
              have h1 := trimLeft_len (s := keptL i1) (c := 48)
              have h2 : (keptL i1).length ≤ i1.length := List.length_filter_le _ _
              omega
            conv => whnf
            refine br (fun hz => ?_) (fun hz => ?_)
            · conv => whnf
              refine (takenumber_spec ⟨#[48]⟩ (by decide)).mono ?_
              rintro _ F TF hDF hTF ⟨n3, is3, rfl, hn30, hn31, hn3k, hsF, _⟩
              have hI : TkI i1 n3 is3 := tkI_zero (congrArg (fun x : ByteArray => x.data.toList) hz) hn3k
              have f2 := hsF _ _ m2
              have f4 := hsF _ _ m4
              have f8 := hsF _ _ m8
              have fS := mS.trans hsF
              have hgood := hfin n3 is3 hI
              conv => whnf
              repeat (first | ((with_reducible apply Go.Vc.ldrow); (focus ((repeat (first | with_reducible assumption | with_reducible exact Go.Vc.hset_same _ _ _ | with_reducible refine (Go.Vc.hset_ne _ _ (by omega)).trans ?_)); done)); (focus exact rfl); rintro _ rfl; conv => whnf) | ((with_reducible apply Go.Vc.st_i); (focus ((repeat (first | with_reducible assumption | with_reducible exact Go.Vc.hset_same _ _ _ | with_reducible refine (Go.Vc.hset_ne _ _ (by omega)).trans ?_)); done)); (focus exact rfl); (focus exact rfl); (focus exact rfl); (conv => whnf); intro cA hcA; (first | (simp only [List.setIfInBounds_toArray, List.set_cons_succ, List.set_cons_zero] at hcA; subst hcA) | subst hcA); conv => whnf))
              by_cases hR : RightC lvv n3 wdv
              · refine (path_spec lvv n3 wdv hR).mono ?_
                rintro _ E TE hDE hTE ⟨rfl, hsE, _⟩
                have e2 := hsE r2 _ ((hset_ne _ _ (by omega)).trans f2)
                have e4 := hsE r4 _ ((hset_ne _ _ (by omega)).trans f4)
                have e8 := hsE r8 _ (hset_same _ _ _)
                have eS : Vc.Sub h E := fun b o hb => hsE _ _ (by
                  have := hd b o hb
                  rw [hset_ne _ _ (by omega)]
                  exact fS _ _ hb)
                cases is3
                · conv => whnf
                  repeat (first | ((with_reducible apply Go.Vc.ldrow); (focus ((repeat (first | with_reducible assumption | with_reducible exact Go.Vc.hset_same _ _ _ | with_reducible refine (Go.Vc.hset_ne _ _ (by omega)).trans ?_)); done)); (focus exact rfl); rintro _ rfl; conv => whnf) | ((with_reducible apply Go.Vc.strow); (focus ((repeat (first | with_reducible assumption | with_reducible exact Go.Vc.hset_same _ _ _ | with_reducible refine (Go.Vc.hset_ne _ _ (by omega)).trans ?_)); done)); (focus exact rfl); (focus exact rfl); (focus exact rfl); rintro _ rfl; conv => whnf))
                  refine ⟨.inr ⟨take_no hgood (by first | exact .inl rfl | exact .inr (.inl rfl) | exact .inr (.inr (.inl hR)) | exact .inr (.inr (.inr hts))), rfl⟩, ?_, by omega⟩
                  intro b o hb
                  have := hd b o hb
                  repeat rw [hset_ne _ _ (by omega)]
                  exact eS _ _ hb
                · conv => whnf
                  repeat (first | ((with_reducible apply Go.Vc.ldrow); (focus ((repeat (first | with_reducible assumption | with_reducible exact Go.Vc.hset_same _ _ _ | with_reducible refine (Go.Vc.hset_ne _ _ (by omega)).trans ?_)); done)); (focus exact rfl); rintro _ rfl; conv => whnf) | ((with_reducible apply Go.Vc.strow); (focus ((repeat (first | with_reducible assumption | with_reducible exact Go.Vc.hset_same _ _ _ | with_reducible refine (Go.Vc.hset_ne _ _ (by omega)).trans ?_)); done)); (focus exact rfl); (focus exact rfl); (focus exact rfl); rintro _ rfl; conv => whnf))
                  first
                  | refine ⟨.inr ⟨take_no hgood (by first | exact .inl rfl | exact .inr (.inl rfl) | exact .inr (.inr (.inl hR)) | exact .inr (.inr (.inr hts))), rfl⟩, ?_, by omega⟩
                    intro b o hb
                    have := hd b o hb
                    repeat rw [hset_ne _ _ (by omega)]
                    exact eS _ _ hb
                  | refine br (fun hts => ?_) (fun hts => ?_)
                    · conv => whnf
                      refine ⟨.inr ⟨take_no hgood (by first | exact .inl rfl | exact .inr (.inl rfl) | exact .inr (.inr (.inl hR)) | exact .inr (.inr (.inr hts))), rfl⟩, ?_, by omega⟩
                      intro b o hb
                      have := hd b o hb
                      repeat rw [hset_ne _ _ (by omega)]
                      exact eS _ _ hb
                    · conv => whnf
                      refine ⟨.inl ⟨lvv, n3, wdv, hR, Classical.not_not.1 hts, rfl⟩, ?_, by omega⟩
                      intro b o hb
                      have := hd b o hb
                      repeat rw [hset_ne _ _ (by omega)]
                      exact eS _ _ hb
              · refine (path_no lvv n3 wdv hR).mono ?_
                rintro _ E TE hDE hTE ⟨rfl, hsE, _⟩
                have e2 := hsE r2 _ ((hset_ne _ _ (by omega)).trans f2)
                have e4 := hsE r4 _ ((hset_ne _ _ (by omega)).trans f4)
                have e8 := hsE r8 _ (hset_same _ _ _)
                have eS : Vc.Sub h E := fun b o hb => hsE _ _ (by
                  have := hd b o hb
                  rw [hset_ne _ _ (by omega)]
                  exact fS _ _ hb)
                cases is3
                · conv => whnf
                  repeat (first | ((with_reducible apply Go.Vc.ldrow); (focus ((repeat (first | with_reducible assumption | with_reducible exact Go.Vc.hset_same _ _ _ | with_reducible refine (Go.Vc.hset_ne _ _ (by omega)).trans ?_)); done)); (focus exact rfl); rintro _ rfl; conv => whnf) | ((with_reducible apply Go.Vc.strow); (focus ((repeat (first | with_reducible assumption | with_reducible exact Go.Vc.hset_same _ _ _ | with_reducible refine (Go.Vc.hset_ne _ _ (by omega)).trans ?_)); done)); (focus exact rfl); (focus exact rfl); (focus exact rfl); rintro _ rfl; conv => whnf))
                  refine ⟨.inr ⟨take_no hgood (by first | exact .inl rfl | exact .inr (.inl rfl) | exact .inr (.inr (.inl hR)) | exact .inr (.inr (.inr hts))), rfl⟩, ?_, by omega⟩
                  intro b o hb
                  have := hd b o hb
                  repeat rw [hset_ne _ _ (by omega)]
                  exact eS _ _ hb
                · conv => whnf
                  repeat (first | ((with_reducible apply Go.Vc.ldrow); (focus ((repeat (first | with_reducible assumption | with_reducible exact Go.Vc.hset_same _ _ _ | with_reducible refine (Go.Vc.hset_ne _ _ (by omega)).trans ?_)); done)); (focus exact rfl); rintro _ rfl; conv => whnf) | ((with_reducible apply Go.Vc.strow); (focus ((repeat (first | with_reducible assumption | with_reducible exact Go.Vc.hset_same _ _ _ | with_reducible refine (Go.Vc.hset_ne _ _ (by omega)).trans ?_)); done)); (focus exact rfl); (focus exact rfl); (focus exact rfl); rintro _ rfl; conv => whnf))
                  refine ⟨.inr ⟨take_no hgood (by first | exact .inl rfl | exact .inr (.inl rfl) | exact .inr (.inr (.inl hR)) | exact .inr (.inr (.inr hts))), rfl⟩, ?_, by omega⟩
                  intro b o hb
                  have := hd b o hb
                  repeat rw [hset_ne _ _ (by omega)]
                  exact eS _ _ hb
            · conv => whnf
              refine (takenumber_spec ⟨(Lib.trimLeftB (keptL i1) 48).toArray⟩ (by rw [mk_size]; exact hDl)).mono ?_
              rintro _ F TF hDF hTF ⟨n3, is3, rfl, hn30, hn31, hn3k, hsF, _⟩
              have hI : TkI i1 n3 is3 := tkI_num (fun e => hz (by rw [e])) hn3k
              have f2 := hsF _ _ m2
              have f4 := hsF _ _ m4
              have f8 := hsF _ _ m8
              have fS := mS.trans hsF
              have hgood := hfin n3 is3 hI
              conv => whnf
              repeat (first | ((with_reducible apply Go.Vc.ldrow); (focus ((repeat (first | with_reducible assumption | with_reducible exact Go.Vc.hset_same _ _ _ | with_reducible refine (Go.Vc.hset_ne _ _ (by omega)).trans ?_)); done)); (focus exact rfl); rintro _ rfl; conv => whnf) | ((with_reducible apply Go.Vc.st_i); (focus ((repeat (first | with_reducible assumption | with_reducible exact Go.Vc.hset_same _ _ _ | with_reducible refine (Go.Vc.hset_ne _ _ (by omega)).trans ?_)); done)); (focus exact rfl); (focus exact rfl); (focus exact rfl); (conv => whnf); intro cA hcA; (first | (simp only [List.setIfInBounds_toArray, List.set_cons_succ, List.set_cons_zero] at hcA; subst hcA) | subst hcA); conv => whnf))
              by_cases hR : RightC lvv n3 wdv
              · refine (path_spec lvv n3 wdv hR).mono ?_
                rintro _ E TE hDE hTE ⟨rfl, hsE, _⟩
                have e2 := hsE r2 _ ((hset_ne _ _ (by omega)).trans f2)
                have e4 := hsE r4 _ ((hset_ne _ _ (by omega)).trans f4)
                have e8 := hsE r8 _ (hset_same _ _ _)
                have eS : Vc.Sub h E := fun b o hb => hsE _ _ (by
                  have := hd b o hb
                  rw [hset_ne _ _ (by omega)]
                  exact fS _ _ hb)
                cases is3
                · conv => whnf
                  repeat (first | ((with_reducible apply Go.Vc.ldrow); (focus ((repeat (first | with_reducible assumption | with_reducible exact Go.Vc.hset_same _ _ _ | with_reducible refine (Go.Vc.hset_ne _ _ (by omega)).trans ?_)); done)); (focus exact rfl); rintro _ rfl; conv => whnf) | ((with_reducible apply Go.Vc.strow); (focus ((repeat (first | with_reducible assumption | with_reducible exact Go.Vc.hset_same _ _ _ | with_reducible refine (Go.Vc.hset_ne _ _ (by omega)).trans ?_)); done)); (focus exact rfl); (focus exact rfl); (focus exact rfl); rintro _ rfl; conv => whnf))
                  refine ⟨.inr ⟨take_no hgood (by first | exact .inl rfl | exact .inr (.inl rfl) | exact .inr (.inr (.inl hR)) | exact .inr (.inr (.inr hts))), rfl⟩, ?_, by omega⟩
                  intro b o hb
                  have := hd b o hb
                  repeat rw [hset_ne _ _ (by omega)]
                  exact eS _ _ hb
                · conv => whnf
                  repeat (first | ((with_reducible apply Go.Vc.ldrow); (focus ((repeat (first | with_reducible assumption | with_reducible exact Go.Vc.hset_same _ _ _ | with_reducible refine (Go.Vc.hset_ne _ _ (by omega)).trans ?_)); done)); (focus exact rfl); rintro _ rfl; conv => whnf) | ((with_reducible apply Go.Vc.strow); (focus ((repeat (first | with_reducible assumption | with_reducible exact Go.Vc.hset_same _ _ _ | with_reducible refine (Go.Vc.hset_ne _ _ (by omega)).trans ?_)); done)); (focus exact rfl); (focus exact rfl); (focus exact rfl); rintro _ rfl; conv => whnf))
                  first
                  | refine ⟨.inr ⟨take_no hgood (by first | exact .inl rfl | exact .inr (.inl rfl) | exact .inr (.inr (.inl hR)) | exact .inr (.inr (.inr hts))), rfl⟩, ?_, by omega⟩
                    intro b o hb
                    have := hd b o hb
                    repeat rw [hset_ne _ _ (by omega)]
                    exact eS _ _ hb
                  | refine br (fun hts => ?_) (fun hts => ?_)
                    · conv => whnf
                      refine ⟨.inr ⟨take_no hgood (by first | exact .inl rfl | exact .inr (.inl rfl) | exact .inr (.inr (.inl hR)) | exact .inr (.inr (.inr hts))), rfl⟩, ?_, by omega⟩
                      intro b o hb
                      have := hd b o hb
                      repeat rw [hset_ne _ _ (by omega)]
                      exact eS _ _ hb
                    · conv => whnf
                      refine ⟨.inl ⟨lvv, n3, wdv, hR, Classical.not_not.1 hts, rfl⟩, ?_, by omega⟩
                      intro b o hb
                      have := hd b o hb
                      repeat rw [hset_ne _ _ (by omega)]
                      exact eS _ _ hb
              · refine (path_no lvv n3 wdv hR).mono ?_
                rintro _ E TE hDE hTE ⟨rfl, hsE, _⟩
                have e2 := hsE r2 _ ((hset_ne _ _ (by omega)).trans f2)
                have e4 := hsE r4 _ ((hset_ne _ _ (by omega)).trans f4)
                have e8 := hsE r8 _ (hset_same _ _ _)
                have eS : Vc.Sub h E := fun b o hb => hsE _ _ (by
                  have := hd b o hb
                  rw [hset_ne _ _ (by omega)]
                  exact fS _ _ hb)
                cases is3
                · conv => whnf
                  repeat (first | ((with_reducible apply Go.Vc.ldrow); (focus ((repeat (first | with_reducible assumption | with_reducible exact Go.Vc.hset_same _ _ _ | with_reducible refine (Go.Vc.hset_ne _ _ (by omega)).trans ?_)); done)); (focus exact rfl); rintro _ rfl; conv => whnf) | ((with_reducible apply Go.Vc.strow); (focus ((repeat (first | with_reducible assumption | with_reducible exact Go.Vc.hset_same _ _ _ | with_reducible refine (Go.Vc.hset_ne _ _ (by omega)).trans ?_)); done)); (focus exact rfl); (focus exact rfl); (focus exact rfl); rintro _ rfl; conv => whnf))
                  refine ⟨.inr ⟨take_no hgood (by first | exact .inl rfl | exact .inr (.inl rfl) | exact .inr (.inr (.inl hR)) | exact .inr (.inr (.inr hts))), rfl⟩, ?_, by omega⟩
                  intro b o hb
                  have := hd b o hb
                  repeat rw [hset_ne _ _ (by omega)]
                  exact eS _ _ hb
                · conv => whnf
                  repeat (first | ((with_reducible apply Go.Vc.ldrow); (focus ((repeat (first | with_reducible assumption | with_reducible exact Go.Vc.hset_same _ _ _ | with_reducible refine (Go.Vc.hset_ne _ _ (by omega)).trans ?_)); done)); (focus exact rfl); rintro _ rfl; conv => whnf) | ((with_reducible apply Go.Vc.strow); (focus ((repeat (first | with_reducible assumption | with_reducible exact Go.Vc.hset_same _ _ _ | with_reducible refine (Go.Vc.hset_ne _ _ (by omega)).trans ?_)); done)); (focus exact rfl); (focus exact rfl); (focus exact rfl); rintro _ rfl; conv => whnf))
                  refine ⟨.inr ⟨take_no hgood (by first | exact .inl rfl | exact .inr (.inl rfl) | exact .inr (.inr (.inl hR)) | exact .inr (.inr (.inr hts))), rfl⟩, ?_, by omega⟩
                  intro b o hb
                  have := hd b o hb
                  repeat rw [hset_ne _ _ (by omega)]
                  exact eS _ _ hb
          · first
            | have hfin := fun (n : Int) (is : Bool) (hI : TkI i1 n is) (lv ix wd : Int) (hR : RightC lv ix wd) (he : pathS lv ix wd = s) => take_good hC1s hC2 hTk (tkW_num hn2k) hI hR he
            | have hfin := fun (n : Int) (is : Bool) (hI : TkI i1 n is) (lv ix wd : Int) (hR : RightC lv ix wd) (he : pathS lv ix wd = s) => take_good hC1s hC2 hTk (tkW_no (n := n2) (ok := false)) hI hR he
            rw [hwv] at hfin
            conv => whnf
            repeat (first | ((with_reducible apply Go.Vc.st_i); (focus ((repeat (first | with_reducible assumption | with_reducible exact Go.Vc.hset_same _ _ _ | with_reducible refine (Go.Vc.hset_ne _ _ (by omega)).trans ?_)); done)); (focus exact rfl); (focus exact rfl); (focus exact rfl); (conv => whnf); intro cA hcA; (first | (simp only [List.setIfInBounds_toArray, List.set_cons_succ, List.set_cons_zero] at hcA; subst hcA) | subst hcA); conv => whnf) | (intro _ _; conv => whnf))
            rename_i rS hrS
            refine (newreplacer_spec (hset_same _ _ _)).mono ?_
            rintro _ N TN hDN hTN ⟨rr, cc, aa, rfl, hrr, hslo, hcc, hab, hrt, hrt2, hsN⟩
            have n2' : N r2 = some (.cells #[.int .i64 0, .int .i64 0, .int .i64 0] 23 (0, 0)) := hsN _ _ (by
              repeat rw [hset_ne _ _ (by omega)]
              exact hc2)
            have n4' : N r4 = some (.cells #[.int .i64 0, .int .i64 0, .int .i64 0] 23 (0, 0)) := hsN _ _ (by
              repeat rw [hset_ne _ _ (by omega)]
              exact hc4)
            have n8' : N r8 = some (.cells #[.int .i64 lvv, .int .i64 0, .int .i64 wdv] 23 (0, 0)) := hsN _ _ (by
              rw [hset_ne _ _ (by omega), ← hwv]
              first
              | exact hc8
              | exact hset_same _ _ _)
            have nS : Vc.Sub h N := fun b o hb => hsN _ _ (by
              have := hd b o hb
              repeat rw [hset_ne _ _ (by omega)]
              exact hbs _ _ hb)
            conv => whnf
            refine (replace_spec ⟨i1.toArray⟩ (by rw [mk_size]; omega) hrr hslo hcc hab).mono ?_
            rintro _ M TM hDM hTM ⟨rfl, hfM, _⟩
            have m2 := hfM r2 _ (by omega) n2'
            have m4 := hfM r4 _ (by omega) n4'
            have m8 := hfM r8 _ (by omega) n8'
            have mS : Vc.Sub h M := fun b o hb => hfM b o (by have := hd b o hb; omega) (nS b o hb)
            rw [show (⟨i1.toArray⟩ : ByteArray).data.toList = i1 from rfl]
            conv => whnf
            refine (trimleft_spec _ 48 (by decide)).mono ?_
            rintro _ M2 TM2 hDM2 hTM2 ⟨rfl, rfl, rfl⟩
            rw [show (⟨(keptL i1).toArray⟩ : ByteArray).data.toList = keptL i1 from rfl]
            have hDl : (Lib.trimLeftB (keptL i1) 48).length ≤ 1048576 := by
              have h1 := trimLeft_len (s := keptL i1) (c := 48)
              have h2 : (keptL i1).length ≤ i1.length := List.length_filter_le _ _
              omega
            conv => whnf
            refine br (fun hz => ?_) (fun hz => ?_)
            · conv => whnf
              refine (takenumber_spec ⟨#[48]⟩ (by decide)).mono ?_
              rintro _ F TF hDF hTF ⟨n3, is3, rfl, hn30, hn31, hn3k, hsF, _⟩
              have hI : TkI i1 n3 is3 := tkI_zero (congrArg (fun x : ByteArray => x.data.toList) hz) hn3k
              have f2 := hsF _ _ m2
              have f4 := hsF _ _ m4
              have f8 := hsF _ _ m8
              have fS := mS.trans hsF
              have hgood := hfin n3 is3 hI
              conv => whnf
              repeat (first | ((with_reducible apply Go.Vc.ldrow); (focus ((repeat (first | with_reducible assumption | with_reducible exact Go.Vc.hset_same _ _ _ | with_reducible refine (Go.Vc.hset_ne _ _ (by omega)).trans ?_)); done)); (focus exact rfl); rintro _ rfl; conv => whnf) | ((with_reducible apply Go.Vc.st_i); (focus ((repeat (first | with_reducible assumption | with_reducible exact Go.Vc.hset_same _ _ _ | with_reducible refine (Go.Vc.hset_ne _ _ (by omega)).trans ?_)); done)); (focus exact rfl); (focus exact rfl); (focus exact rfl); (conv => whnf); intro cA hcA; (first | (simp only [List.setIfInBounds_toArray, List.set_cons_succ, List.set_cons_zero] at hcA; subst hcA) | subst hcA); conv => whnf))
              by_cases hR : RightC lvv n3 wdv
              · refine (path_spec lvv n3 wdv hR).mono ?_
                rintro _ E TE hDE hTE ⟨rfl, hsE, _⟩
                have e2 := hsE r2 _ ((hset_ne _ _ (by omega)).trans f2)
                have e4 := hsE r4 _ ((hset_ne _ _ (by omega)).trans f4)
                have e8 := hsE r8 _ (hset_same _ _ _)
                have eS : Vc.Sub h E := fun b o hb => hsE _ _ (by
                  have := hd b o hb
                  rw [hset_ne _ _ (by omega)]
                  exact fS _ _ hb)
                cases is3
                · conv => whnf
                  repeat (first | ((with_reducible apply Go.Vc.ldrow); (focus ((repeat (first | with_reducible assumption | with_reducible exact Go.Vc.hset_same _ _ _ | with_reducible refine (Go.Vc.hset_ne _ _ (by omega)).trans ?_)); done)); (focus exact rfl); rintro _ rfl; conv => whnf) | ((with_reducible apply Go.Vc.strow); (focus ((repeat (first | with_reducible assumption | with_reducible exact Go.Vc.hset_same _ _ _ | with_reducible refine (Go.Vc.hset_ne _ _ (by omega)).trans ?_)); done)); (focus exact rfl); (focus exact rfl); (focus exact rfl); rintro _ rfl; conv => whnf))
                  refine ⟨.inr ⟨take_no hgood (by first | exact .inl rfl | exact .inr (.inl rfl) | exact .inr (.inr (.inl hR)) | exact .inr (.inr (.inr hts))), rfl⟩, ?_, by omega⟩
                  intro b o hb
                  have := hd b o hb
                  repeat rw [hset_ne _ _ (by omega)]
                  exact eS _ _ hb
                · conv => whnf
                  repeat (first | (refine Go.Vc.br_f ?_ ?_; (focus omega); conv => whnf))
                  first
                  | refine ⟨.inr ⟨take_no hgood (by first | exact .inl rfl | exact .inr (.inl rfl) | exact .inr (.inr (.inl hR)) | exact .inr (.inr (.inr hts))), rfl⟩, ?_, by omega⟩
                    intro b o hb
                    have := hd b o hb
                    repeat rw [hset_ne _ _ (by omega)]
                    exact eS _ _ hb
                  | refine br (fun hts => ?_) (fun hts => ?_)
                    · conv => whnf
                      repeat (first | ((with_reducible apply Go.Vc.ldrow); (focus ((repeat (first | with_reducible assumption | with_reducible exact Go.Vc.hset_same _ _ _ | with_reducible refine (Go.Vc.hset_ne _ _ (by omega)).trans ?_)); done)); (focus exact rfl); rintro _ rfl; conv => whnf) | ((with_reducible apply Go.Vc.strow); (focus ((repeat (first | with_reducible assumption | with_reducible exact Go.Vc.hset_same _ _ _ | with_reducible refine (Go.Vc.hset_ne _ _ (by omega)).trans ?_)); done)); (focus exact rfl); (focus exact rfl); (focus exact rfl); rintro _ rfl; conv => whnf))
                      refine ⟨.inr ⟨take_no hgood (by first | exact .inl rfl | exact .inr (.inl rfl) | exact .inr (.inr (.inl hR)) | exact .inr (.inr (.inr hts))), rfl⟩, ?_, by omega⟩
                      intro b o hb
                      have := hd b o hb
                      repeat rw [hset_ne _ _ (by omega)]
                      exact eS _ _ hb
                    · conv => whnf
                      repeat (first | ((with_reducible apply Go.Vc.ldrow); (focus ((repeat (first | with_reducible assumption | with_reducible exact Go.Vc.hset_same _ _ _ | with_reducible refine (Go.Vc.hset_ne _ _ (by omega)).trans ?_)); done)); (focus exact rfl); rintro _ rfl; conv => whnf) | ((with_reducible apply Go.Vc.strow); (focus ((repeat (first | with_reducible assumption | with_reducible exact Go.Vc.hset_same _ _ _ | with_reducible refine (Go.Vc.hset_ne _ _ (by omega)).trans ?_)); done)); (focus exact rfl); (focus exact rfl); (focus exact rfl); rintro _ rfl; conv => whnf))
                      refine ⟨.inl ⟨lvv, n3, wdv, hR, Classical.not_not.1 hts, rfl⟩, ?_, by omega⟩
                      intro b o hb
                      have := hd b o hb
                      repeat rw [hset_ne _ _ (by omega)]
                      exact eS _ _ hb
              · refine (path_no lvv n3 wdv hR).mono ?_
                rintro _ E TE hDE hTE ⟨rfl, hsE, _⟩
                have e2 := hsE r2 _ ((hset_ne _ _ (by omega)).trans f2)
                have e4 := hsE r4 _ ((hset_ne _ _ (by omega)).trans f4)
                have e8 := hsE r8 _ (hset_same _ _ _)
                have eS : Vc.Sub h E := fun b o hb => hsE _ _ (by
                  have := hd b o hb
                  rw [hset_ne _ _ (by omega)]
                  exact fS _ _ hb)
                cases is3
                · conv => whnf
                  repeat (first | ((with_reducible apply Go.Vc.ldrow); (focus ((repeat (first | with_reducible assumption | with_reducible exact Go.Vc.hset_same _ _ _ | with_reducible refine (Go.Vc.hset_ne _ _ (by omega)).trans ?_)); done)); (focus exact rfl); rintro _ rfl; conv => whnf) | ((with_reducible apply Go.Vc.strow); (focus ((repeat (first | with_reducible assumption | with_reducible exact Go.Vc.hset_same _ _ _ | with_reducible refine (Go.Vc.hset_ne _ _ (by omega)).trans ?_)); done)); (focus exact rfl); (focus exact rfl); (focus exact rfl); rintro _ rfl; conv => whnf))
                  refine ⟨.inr ⟨take_no hgood (by first | exact .inl rfl | exact .inr (.inl rfl) | exact .inr (.inr (.inl hR)) | exact .inr (.inr (.inr hts))), rfl⟩, ?_, by omega⟩
                  intro b o hb
                  have := hd b o hb
                  repeat rw [hset_ne _ _ (by omega)]
                  exact eS _ _ hb
                · conv => whnf
                  repeat (first | ((with_reducible apply Go.Vc.ldrow); (focus ((repeat (first | with_reducible assumption | with_reducible exact Go.Vc.hset_same _ _ _ | with_reducible refine (Go.Vc.hset_ne _ _ (by omega)).trans ?_)); done)); (focus exact rfl); rintro _ rfl; conv => whnf) | ((with_reducible apply Go.Vc.strow); (focus ((repeat (first | with_reducible assumption | with_reducible exact Go.Vc.hset_same _ _ _ | with_reducible refine (Go.Vc.hset_ne _ _ (by omega)).trans ?_)); done)); (focus exact rfl); (focus exact rfl); (focus exact rfl); rintro _ rfl; conv => whnf) | (refine Go.Vc.br_t ?_ ?_; (focus omega); conv => whnf))
                  refine ⟨.inr ⟨take_no hgood (by first | exact .inl rfl | exact .inr (.inl rfl) | exact .inr (.inr (.inl hR)) | exact .inr (.inr (.inr hts))), rfl⟩, ?_, by omega⟩
                  intro b o hb
                  have := hd b o hb
                  repeat rw [hset_ne _ _ (by omega)]
                  exact eS _ _ hb
            · conv => whnf
              refine (takenumber_spec ⟨(Lib.trimLeftB (keptL i1) 48).toArray⟩ (by rw [mk_size]; exact hDl)).mono ?_
              rintro _ F TF hDF hTF ⟨n3, is3, rfl, hn30, hn31, hn3k, hsF, _⟩
              have hI : TkI i1 n3 is3 := tkI_num (fun e => hz (by rw [e])) hn3k
              have f2 := hsF _ _ m2
              have f4 := hsF _ _ m4
              have f8 := hsF _ _ m8
              have fS := mS.trans hsF
              have hgood := hfin n3 is3 hI
              conv => whnf
              repeat (first | ((with_reducible apply Go.Vc.ldrow); (focus ((repeat (first | with_reducible assumption | with_reducible exact Go.Vc.hset_same _ _ _ | with_reducible refine (Go.Vc.hset_ne _ _ (by omega)).trans ?_)); done)); (focus exact rfl); rintro _ rfl; conv => whnf) | ((with_reducible apply Go.Vc.st_i); (focus ((repeat (first | with_reducible assumption | with_reducible exact Go.Vc.hset_same _ _ _ | with_reducible refine (Go.Vc.hset_ne _ _ (by omega)).trans ?_)); done)); (focus exact rfl); (focus exact rfl); (focus exact rfl); (conv => whnf); intro cA hcA; (first | (simp only [List.setIfInBounds_toArray, List.set_cons_succ, List.set_cons_zero] at hcA; subst hcA) | subst hcA); conv => whnf))
              by_cases hR : RightC lvv n3 wdv
              · refine (path_spec lvv n3 wdv hR).mono ?_
                rintro _ E TE hDE hTE ⟨rfl, hsE, _⟩
                have e2 := hsE r2 _ ((hset_ne _ _ (by omega)).trans f2)
                have e4 := hsE r4 _ ((hset_ne _ _ (by omega)).trans f4)
                have e8 := hsE r8 _ (hset_same _ _ _)
                have eS : Vc.Sub h E := fun b o hb => hsE _ _ (by
                  have := hd b o hb
                  rw [hset_ne _ _ (by omega)]
                  exact fS _ _ hb)
                cases is3
                · conv => whnf
                  repeat (first | ((with_reducible apply Go.Vc.ldrow); (focus ((repeat (first | with_reducible assumption | with_reducible exact Go.Vc.hset_same _ _ _ | with_reducible refine (Go.Vc.hset_ne _ _ (by omega)).trans ?_)); done)); (focus exact rfl); rintro _ rfl; conv => whnf) | ((with_reducible apply Go.Vc.strow); (focus ((repeat (first | with_reducible assumption | with_reducible exact Go.Vc.hset_same _ _ _ | with_reducible refine (Go.Vc.hset_ne _ _ (by omega)).trans ?_)); done)); (focus exact rfl); (focus exact rfl); (focus exact rfl); rintro _ rfl; conv => whnf))
                  refine ⟨.inr ⟨take_no hgood (by first | exact .inl rfl | exact .inr (.inl rfl) | exact .inr (.inr (.inl hR)) | exact .inr (.inr (.inr hts))), rfl⟩, ?_, by omega⟩
                  intro b o hb
                  have := hd b o hb
                  repeat rw [hset_ne _ _ (by omega)]
                  exact eS _ _ hb
                · conv => whnf
                  repeat (first | (refine Go.Vc.br_f ?_ ?_; (focus omega); conv => whnf))
                  first
                  | refine ⟨.inr ⟨take_no hgood (by first | exact .inl rfl | exact .inr (.inl rfl) | exact .inr (.inr (.inl hR)) | exact .inr (.inr (.inr hts))), rfl⟩, ?_, by omega⟩
                    intro b o hb
                    have := hd b o hb
                    repeat rw [hset_ne _ _ (by omega)]
                    exact eS _ _ hb
                  | refine br (fun hts => ?_) (fun hts => ?_)
                    · conv => whnf
                      repeat (first | ((with_reducible apply Go.Vc.ldrow); (focus ((repeat (first | with_reducible assumption | with_reducible exact Go.Vc.hset_same _ _ _ | with_reducible refine (Go.Vc.hset_ne _ _ (by omega)).trans ?_)); done)); (focus exact rfl); rintro _ rfl; conv => whnf) | ((with_reducible apply Go.Vc.strow); (focus ((repeat (first | with_reducible assumption | with_reducible exact Go.Vc.hset_same _ _ _ | with_reducible refine (Go.Vc.hset_ne _ _ (by omega)).trans ?_)); done)); (focus exact rfl); (focus exact rfl); (focus exact rfl); rintro _ rfl; conv => whnf))
                      refine ⟨.inr ⟨take_no hgood (by first | exact .inl rfl | exact .inr (.inl rfl) | exact .inr (.inr (.inl hR)) | exact .inr (.inr (.inr hts))), rfl⟩, ?_, by omega⟩
                      intro b o hb
                      have := hd b o hb
                      repeat rw [hset_ne _ _ (by omega)]
                      exact eS _ _ hb
                    · conv => whnf
                      repeat (first | ((with_reducible apply Go.Vc.ldrow); (focus ((repeat (first | with_reducible assumption | with_reducible exact Go.Vc.hset_same _ _ _ | with_reducible refine (Go.Vc.hset_ne _ _ (by omega)).trans ?_)); done)); (focus exact rfl); rintro _ rfl; conv => whnf) | ((with_reducible apply Go.Vc.strow); (focus ((repeat (first | with_reducible assumption | with_reducible exact Go.Vc.hset_same _ _ _ | with_reducible refine (Go.Vc.hset_ne _ _ (by omega)).trans ?_)); done)); (focus exact rfl); (focus exact rfl); (focus exact rfl); rintro _ rfl; conv => whnf))
                      refine ⟨.inl ⟨lvv, n3, wdv, hR, Classical.not_not.1 hts, rfl⟩, ?_, by omega⟩
                      intro b o hb
                      have := hd b o hb
                      repeat rw [hset_ne _ _ (by omega)]
                      exact eS _ _ hb
              · refine (path_no lvv n3 wdv hR).mono ?_
                rintro _ E TE hDE hTE ⟨rfl, hsE, _⟩
                have e2 := hsE r2 _ ((hset_ne _ _ (by omega)).trans f2)
                have e4 := hsE r4 _ ((hset_ne _ _ (by omega)).trans f4)
                have e8 := hsE r8 _ (hset_same _ _ _)
                have eS : Vc.Sub h E := fun b o hb => hsE _ _ (by
                  have := hd b o hb
                  rw [hset_ne _ _ (by omega)]
                  exact fS _ _ hb)
                cases is3
                · conv => whnf
                  repeat (first | ((with_reducible apply Go.Vc.ldrow); (focus ((repeat (first | with_reducible assumption | with_reducible exact Go.Vc.hset_same _ _ _ | with_reducible refine (Go.Vc.hset_ne _ _ (by omega)).trans ?_)); done)); (focus exact rfl); rintro _ rfl; conv => whnf) | ((with_reducible apply Go.Vc.strow); (focus ((repeat (first | with_reducible assumption | with_reducible exact Go.Vc.hset_same _ _ _ | with_reducible refine (Go.Vc.hset_ne _ _ (by omega)).trans ?_)); done)); (focus exact rfl); (focus exact rfl); (focus exact rfl); rintro _ rfl; conv => whnf))
                  refine ⟨.inr ⟨take_no hgood (by first | exact .inl rfl | exact .inr (.inl rfl) | exact .inr (.inr (.inl hR)) | exact .inr (.inr (.inr hts))), rfl⟩, ?_, by omega⟩
                  intro b o hb
                  have := hd b o hb
                  repeat rw [hset_ne _ _ (by omega)]
                  exact eS _ _ hb
                · conv => whnf
                  repeat (first | ((with_reducible apply Go.Vc.ldrow); (focus ((repeat (first | with_reducible assumption | with_reducible exact Go.Vc.hset_same _ _ _ | with_reducible refine (Go.Vc.hset_ne _ _ (by omega)).trans ?_)); done)); (focus exact rfl); rintro _ rfl; conv => whnf) | ((with_reducible apply Go.Vc.strow); (focus ((repeat (first | with_reducible assumption | with_reducible exact Go.Vc.hset_same _ _ _ | with_reducible refine (Go.Vc.hset_ne _ _ (by omega)).trans ?_)); done)); (focus exact rfl); (focus exact rfl); (focus exact rfl); rintro _ rfl; conv => whnf) | (refine Go.Vc.br_t ?_ ?_; (focus omega); conv => whnf))
                  refine ⟨.inr ⟨take_no hgood (by first | exact .inl rfl | exact .inr (.inl rfl) | exact .inr (.inr (.inl hR)) | exact .inr (.inr (.inr hts))), rfl⟩, ?_, by omega⟩
                  intro b o hb
                  have := hd b o hb
                  repeat rw [hset_ne _ _ (by omega)]
                  exact eS _ _ hb
  · rw [Bool.not_eq_true] at hpre
    rw [hpre]
    conv => whnf
    repeat (first | ((with_reducible apply Go.Vc.ldrow); (focus ((repeat (first | with_reducible assumption | with_reducible exact Go.Vc.hset_same _ _ _ | with_reducible refine (Go.Vc.hset_ne _ _ (by omega)).trans ?_)); done)); (focus exact rfl); rintro _ rfl; conv => whnf) | ((with_reducible apply Go.Vc.strow); (focus ((repeat (first | with_reducible assumption | with_reducible exact Go.Vc.hset_same _ _ _ | with_reducible refine (Go.Vc.hset_ne _ _ (by omega)).trans ?_)); done)); (focus exact rfl); (focus exact rfl); (focus exact rfl); rintro _ rfl; conv => whnf))
    refine ⟨.inr ⟨fun lv ix wd hR => take_nopre hpre hR, rfl⟩, ?_, by omega⟩
    intro b o hb
    have := hd b o hb
    rw [hset_ne _ _ (by omega)]
    exact hsub _ _ hb
end Go.Proofs.YtlkpgjicpjjlcaaGreatDoor
