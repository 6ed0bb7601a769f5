/- Any tile has the path, and any text is that of the tile, that the chapter says. -/
import Derived.Test.YtlkpgjicpjjlcaaGreatDoorTileRTake
import Derived.Test.YtlkpgjicpjjlcaaGreatDoorTileEqQ
set_option linter.unusedSimpArgs false
namespace Go.Proofs.YtlkpgjicpjjlcaaGreatDoor
open Go Go.Vc Go.Tile
set_option maxRecDepth 20000
set_option maxHeartbeats 4000000
set_option linter.unusedVariables false
theorem ref_spec {h : Heap} {t : Nat} (x y z : Int) : CallSpec Tryz.prog 10 #[.agg #[.int .i64 x, .int .i64 y, .int .i64 z]] h t (fun v h' t' => v = .agg #[.int .i64 x, .int .i64 y, .int .i64 z] ∧ Vc.Sub h h' ∧ t ≤ t') := by
  refine Go.Vc.spec_of_vc (fn := Tryz.f10) Tryz.func10 rfl (by kernel_rfl) (by kernel_rfl) (Nat.le_of_ble_eq_true rfl) ?_
  intro hd
  conv => whnf
  repeat (first | ((with_reducible apply Go.Vc.ldrow); (focus ((repeat (first | with_reducible assumption | with_reducible exact Go.Vc.hset_same _ _ _ | with_reducible refine (Go.Vc.hset_ne _ _ (by omega)).trans ?_)); done)); (focus exact rfl); rintro _ rfl; conv => whnf) | ((with_reducible apply Go.Vc.strow); (focus ((repeat (first | with_reducible assumption | with_reducible exact Go.Vc.hset_same _ _ _ | with_reducible refine (Go.Vc.hset_ne _ _ (by omega)).trans ?_)); done)); (focus exact rfl); (focus exact rfl); (focus exact rfl); rintro _ rfl; conv => whnf) | ((with_reducible apply Go.Vc.ld_i); (focus ((repeat (first | with_reducible assumption | with_reducible exact Go.Vc.hset_same _ _ _ | with_reducible refine (Go.Vc.hset_ne _ _ (by omega)).trans ?_)); done)); (focus exact rfl); conv => whnf) | (intro _ _; conv => whnf))
  refine ⟨rfl, ?_, by omega⟩
  intro b o hb
  have := hd _ _ hb
  repeat rw [hset_ne _ _ (by omega)]
  exact hb
theorem rco_eq {a1 a2 a3 b1 b2 b3 : Int} {xo yo : Operand} {K : Value → Prop} {h : Heap} (hK : K (.bool (decide (a1 = b1 ∧ a2 = b2 ∧ a3 = b3)))) :
    AggEqQ Tryz.prog .eql 30 xo yo (.agg #[.int .i64 a1, .int .i64 a2, .int .i64 a3]) (.agg #[.int .i64 b1, .int .i64 b2, .int .i64 b3]) K h :=
  aggeq3R Tryz.underlying30 Tryz.underlying3 (by kernel_rfl) (by kernel_rfl) (by kernel_rfl) rfl rfl rfl rfl rfl rfl (by decide) (by decide) (by decide) hK
theorem res_one {s : ByteArray} {v : Value} (h : TakeRes s v) : ∃ x y z e b, v = .tuple #[.agg #[.int .i64 x, .int .i64 y, .int .i64 z], .int .i64 e] ∧ (∀ v', RTakeRes s v' → v' = .tuple #[.agg #[.int .i64 x, .int .i64 y, .int .i64 z], .bool b]) ∧ (e = 0 ∧ b = true ∨ e = 2 ∧ b = false) := by
  rcases h with ⟨lv, ix, wd, h1, h2, h3⟩ | ⟨h1, h3⟩
  · refine ⟨lv, ix, wd, 0, true, h3, fun v' h' => ?_, .inl ⟨rfl, rfl⟩⟩
    rcases h' with ⟨lv', ix', wd', k1, k2, k3⟩ | ⟨k1, _⟩
    · obtain ⟨e1, e2, e3⟩ := pathS_inj h1 k1 (h2.trans k2.symm)
      rw [k3, e1, e2, e3]
      rfl
    · exact absurd h2 (k1 _ _ _ h1)
  · refine ⟨0, 0, 0, 2, false, h3, fun v' h' => ?_, .inr ⟨rfl, rfl⟩⟩
    rcases h' with ⟨lv', ix', wd', k1, k2, k3⟩ | ⟨_, k3⟩
    · exact absurd k2 (h1 _ _ _ k1)
    · exact k3
theorem TilePaths_spec {h : Heap} {t : Nat} (hM : MaxC h) (a1 a2 a3 : Int) (ha1 : -9223372036854775808 ≤ a1 ∧ a1 ≤ 9223372036854775807) (ha2 : -9223372036854775808 ≤ a2 ∧ a2 ≤ 9223372036854775807) (ha3 : -9223372036854775808 ≤ a3 ∧ a3 ≤ 9223372036854775807)
    (s : ByteArray) (hs : s.size ≤ 1048576) :
    CallSpec Tryz.prog 3 #[.agg #[.int .i64 a1, .int .i64 a2, .int .i64 a3], .string s] h t (fun v h' _ => v = .bool true ∧ Vc.Sub h h') := by
  refine Go.Vc.spec_of_vc (fn := Tryz.f3) Tryz.func3 rfl (by kernel_rfl) (by kernel_rfl) (Nat.le_of_ble_eq_true rfl) ?_
  intro hd
  conv => whnf
  repeat (first | (intro _ _; conv => whnf))
  rename_i r3 hr3
  have hsub0 : Vc.Sub h (hset h r3 (.cells #[.int .i64 a1, .int .i64 a2, .int .i64 a3] 23 (0, 0))) := hd.sub_new hr3 _
  refine (examples_spec (hM.sub hsub0)).mono ?_
  rintro _ g t1 hd1 ht1 ⟨rfl, hs1, _⟩
  have g3 : g r3 = some (.cells #[.int .i64 a1, .int .i64 a2, .int .i64 a3] 23 (0, 0)) := hs1 _ _ (hset_same _ _ _)
  have gS := hsub0.trans hs1
  clear hs1 hsub0
  conv => whnf
  repeat (first | ((with_reducible apply Go.Vc.ldrow); (focus ((repeat (first | with_reducible assumption | with_reducible exact Go.Vc.hset_same _ _ _ | with_reducible refine (Go.Vc.hset_ne _ _ (by omega)).trans ?_)); done)); (focus exact rfl); rintro _ rfl; conv => whnf))
  by_cases hR : RightC a1 a2 a3
  · refine (path_spec a1 a2 a3 hR).mono ?_
    rintro _ g1 w1 hw1 hv1 ⟨rfl, hsg1, _⟩
    have g31 := hsg1 _ _ g3
    conv => whnf
    repeat (first | ((with_reducible apply Go.Vc.ldrow); (focus ((repeat (first | with_reducible assumption | with_reducible exact Go.Vc.hset_same _ _ _ | with_reducible refine (Go.Vc.hset_ne _ _ (by omega)).trans ?_)); done)); (focus exact rfl); rintro _ rfl; conv => whnf))
    refine (ref_spec a1 a2 a3).mono ?_
    rintro _ g2 w2 hw2 hv2 ⟨rfl, hsg2, _⟩
    conv => whnf
    refine (rpath_spec a1 a2 a3 hR).mono ?_
    rintro _ g4 w4 hw4 hv4 ⟨rfl, hsg4, _⟩
    have pS := ((gS.trans hsg1).trans hsg2).trans hsg4
    conv => whnf
    refine (takepath_spec s hs (hM.sub pS)).mono ?_
    rintro _ q1 u1 hq1 hu1 ⟨hres1, hsq1, _⟩
    have qS1 := pS.trans hsq1
    obtain ⟨x, y, z, e, b, rfl, hrs, heb⟩ := res_one hres1
    conv => whnf
    repeat (first | ((with_reducible apply Go.Vc.strow); (focus ((repeat (first | with_reducible assumption | with_reducible exact Go.Vc.hset_same _ _ _ | with_reducible refine (Go.Vc.hset_ne _ _ (by omega)).trans ?_)); done)); (focus exact rfl); (focus exact rfl); (focus exact rfl); rintro _ rfl; conv => whnf) | (intro _ _; conv => whnf))
    rename_i r10 hr10
    refine (rtakepath_spec s hs).mono ?_
    rintro _ q2 u2 hq2 hu2 ⟨hres2, hsq2, _⟩
    have k10 : q2 r10 = some (.cells #[.int .i64 x, .int .i64 y, .int .i64 z] 23 (0, 0)) := hsq2 _ _ (hset_same _ _ _)
    have qS3 : Vc.Sub h q2 := fun b o hb => hsq2 _ _ (by
      have h1 := qS1 _ _ hb
      have h2 := hq1 _ _ h1
      repeat rw [hset_ne _ _ (by omega)]
      exact h1)
    obtain rfl := hrs _ hres2
    conv => whnf
    repeat (first | ((with_reducible apply Go.Vc.strow); (focus ((repeat (first | with_reducible assumption | with_reducible exact Go.Vc.hset_same _ _ _ | with_reducible refine (Go.Vc.hset_ne _ _ (by omega)).trans ?_)); done)); (focus exact rfl); (focus exact rfl); (focus exact rfl); rintro _ rfl; conv => whnf) | (intro _ _; conv => whnf))
    rename_i r12 hr12
    have hq2t : r10 < u2 := by omega
    generalize hG : hset (hset q2 r12 _) r12 _ = G
    have m12 : G r12 = some (.cells #[.int .i64 x, .int .i64 y, .int .i64 z] 30 (0, 0)) := by
      rw [← hG, hset_same]
      rfl
    have m10 : G r10 = some (.cells #[.int .i64 x, .int .i64 y, .int .i64 z] 23 (0, 0)) := by
      rw [← hG, hset_ne _ _ (by omega), hset_ne _ _ (by omega)]
      exact k10
    have qS4 : Vc.Sub h G := fun b o hb => by
      have h1 := qS3 _ _ hb
      have h2 := hq2 _ _ h1
      rw [← hG, hset_ne _ _ (by omega), hset_ne _ _ (by omega)]
      exact h1
    rcases heb with ⟨rfl, rfl⟩ | ⟨rfl, rfl⟩
    · refine Go.Vc.draw_intro [⟨0, false, false, false, 0⟩, ⟨1, false, false, false, 1⟩, ⟨2, false, false, false, 3⟩, ⟨3, false, false, false, 3⟩, ⟨4, false, false, false, 15⟩, ⟨5, false, false, false, 31⟩, ⟨6, false, false, false, 63⟩, ⟨7, false, false, false, 127⟩, ⟨8, false, false, false, 255⟩, ⟨9, false, false, false, 511⟩, ⟨10, false, false, false, 1023⟩, ⟨11, false, false, false, 2047⟩, ⟨12, false, false, false, 4095⟩, ⟨13, false, false, false, 8191⟩, ⟨14, false, false, false, 16383⟩, ⟨15, false, false, false, 32767⟩, ⟨16, false, false, false, 65535⟩, ⟨17, false, false, false, 131071⟩, ⟨18, false, false, false, 262143⟩, ⟨19, false, false, false, 524287⟩, ⟨20, false, false, false, 1048575⟩, ⟨21, false, false, false, 2097151⟩, ⟨22, false, false, false, 4194303⟩, ⟨24, false, true, false, 4194303⟩, ⟨23, true, false, true, 8388607⟩, ⟨25, false, false, false, 33554431⟩, ⟨26, false, false, false, 67108863⟩, ⟨27, false, false, false, 134217727⟩, ⟨28, false, false, false, 268435455⟩, ⟨29, false, false, false, 536870911⟩, ⟨30, false, false, false, 1073741823⟩, ⟨31, false, false, false, 2147483647⟩, ⟨32, false, false, false, 4294967295⟩, ⟨33, false, false, false, 8589934591⟩, ⟨34, false, false, false, 17179869183⟩, ⟨35, false, false, false, 34359738367⟩, ⟨36, false, false, false, 68719476735⟩, ⟨37, false, false, false, 137438953471⟩, ⟨38, false, false, false, 274877906943⟩, ⟨39, false, false, false, 549755813887⟩, ⟨40, false, false, false, 1099511627775⟩, ⟨41, false, false, false, 2199023255551⟩, ⟨42, false, false, false, 4398046511103⟩] (hs := G) (hsub := (Sub.refl _)) (hm := by kernel_rfl) (hpl := by kernel_rfl) ?_
      conv => whnf
      conv => whnf
      refine br_t rfl ?_
      conv => whnf
      repeat (first | ((with_reducible apply Go.Vc.ldrow); (focus ((repeat (first | with_reducible assumption | with_reducible exact Go.Vc.hset_same _ _ _ | with_reducible refine (Go.Vc.hset_ne _ _ (by omega)).trans ?_)); done)); (focus exact rfl); rintro _ rfl; conv => whnf) | (refine Go.Vc.br_t ?_ ?_; (focus omega); conv => whnf))
      refine (ref_spec x y z).mono ?_
      rintro _ q5 u5 hq5 hu5 ⟨rfl, hs5, _⟩
      have n12 := hs5 _ _ m12
      refine ⟨hs5, ?_⟩
      conv => whnf
      refine rco_eq ?_
      rw [decide_eq_true (p := x = x ∧ y = y ∧ z = z) ⟨rfl, rfl, rfl⟩]
      conv => whnf
      repeat (first | (refine Go.Vc.br_t ?_ ?_; (focus omega); conv => whnf))
      refine ⟨?_, qS4.trans hs5⟩
      first
      | rfl
      | (rw [opq_eq]; rfl)
    · refine Go.Vc.draw_intro [⟨0, false, false, false, 0⟩, ⟨1, false, false, false, 1⟩, ⟨2, false, false, false, 3⟩, ⟨3, false, false, false, 3⟩, ⟨4, false, false, false, 15⟩, ⟨5, false, false, false, 31⟩, ⟨6, false, false, false, 63⟩, ⟨7, false, false, false, 127⟩, ⟨8, false, false, false, 255⟩, ⟨9, false, false, false, 511⟩, ⟨10, false, false, false, 1023⟩, ⟨11, false, false, false, 2047⟩, ⟨12, false, false, false, 4095⟩, ⟨13, false, false, false, 8191⟩, ⟨14, false, false, false, 16383⟩, ⟨15, false, false, false, 32767⟩, ⟨16, false, false, false, 65535⟩, ⟨17, false, false, false, 131071⟩, ⟨18, false, false, false, 262143⟩, ⟨19, false, false, false, 524287⟩, ⟨20, false, false, false, 1048575⟩, ⟨21, false, false, false, 2097151⟩, ⟨22, false, false, false, 4194303⟩, ⟨24, false, true, false, 4194303⟩, ⟨23, true, false, true, 8388607⟩, ⟨25, false, false, false, 33554431⟩, ⟨26, false, false, false, 67108863⟩, ⟨27, false, false, false, 134217727⟩, ⟨28, false, false, false, 268435455⟩, ⟨29, false, false, false, 536870911⟩, ⟨30, false, false, false, 1073741823⟩, ⟨31, false, false, false, 2147483647⟩, ⟨32, false, false, false, 4294967295⟩, ⟨33, false, false, false, 8589934591⟩, ⟨34, false, false, false, 17179869183⟩, ⟨35, false, false, false, 34359738367⟩, ⟨36, false, false, false, 68719476735⟩, ⟨37, false, false, false, 137438953471⟩, ⟨38, false, false, false, 274877906943⟩, ⟨39, false, false, false, 549755813887⟩, ⟨40, false, false, false, 1099511627775⟩, ⟨41, false, false, false, 2199023255551⟩, ⟨42, false, false, false, 4398046511103⟩] (hs := G) (hsub := (Sub.refl _)) (hm := by kernel_rfl) (hpl := by kernel_rfl) ?_
      conv => whnf
      conv => whnf
      refine br_t rfl ?_
      conv => whnf
      repeat (first | ((with_reducible apply Go.Vc.ldrow); (focus ((repeat (first | with_reducible assumption | with_reducible exact Go.Vc.hset_same _ _ _ | with_reducible refine (Go.Vc.hset_ne _ _ (by omega)).trans ?_)); done)); (focus exact rfl); rintro _ rfl; conv => whnf) | (refine Go.Vc.br_t ?_ ?_; (focus omega); conv => whnf))
      refine (ref_spec x y z).mono ?_
      rintro _ q5 u5 hq5 hu5 ⟨rfl, hs5, _⟩
      have n12 := hs5 _ _ m12
      refine ⟨hs5, ?_⟩
      conv => whnf
      refine rco_eq ?_
      rw [decide_eq_true (p := x = x ∧ y = y ∧ z = z) ⟨rfl, rfl, rfl⟩]
      conv => whnf
      refine ⟨?_, qS4.trans hs5⟩
      first
      | rfl
      | (rw [opq_eq]; rfl)
  · refine (path_no a1 a2 a3 hR).mono ?_
    rintro _ g1 w1 hw1 hv1 ⟨rfl, hsg1, _⟩
    have g31 := hsg1 _ _ g3
    conv => whnf
    repeat (first | ((with_reducible apply Go.Vc.ldrow); (focus ((repeat (first | with_reducible assumption | with_reducible exact Go.Vc.hset_same _ _ _ | with_reducible refine (Go.Vc.hset_ne _ _ (by omega)).trans ?_)); done)); (focus exact rfl); rintro _ rfl; conv => whnf))
    refine (ref_spec a1 a2 a3).mono ?_
    rintro _ g2 w2 hw2 hv2 ⟨rfl, hsg2, _⟩
    conv => whnf
    refine (rpath_no a1 a2 a3 hR).mono ?_
    rintro _ g4 w4 hw4 hv4 ⟨rfl, hsg4, _⟩
    have pS := ((gS.trans hsg1).trans hsg2).trans hsg4
    conv => whnf
    refine (takepath_spec s hs (hM.sub pS)).mono ?_
    rintro _ q1 u1 hq1 hu1 ⟨hres1, hsq1, _⟩
    have qS1 := pS.trans hsq1
    obtain ⟨x, y, z, e, b, rfl, hrs, heb⟩ := res_one hres1
    conv => whnf
    repeat (first | ((with_reducible apply Go.Vc.strow); (focus ((repeat (first | with_reducible assumption | with_reducible exact Go.Vc.hset_same _ _ _ | with_reducible refine (Go.Vc.hset_ne _ _ (by omega)).trans ?_)); done)); (focus exact rfl); (focus exact rfl); (focus exact rfl); rintro _ rfl; conv => whnf) | (intro _ _; conv => whnf))
    rename_i r10 hr10
    refine (rtakepath_spec s hs).mono ?_
    rintro _ q2 u2 hq2 hu2 ⟨hres2, hsq2, _⟩
    have k10 : q2 r10 = some (.cells #[.int .i64 x, .int .i64 y, .int .i64 z] 23 (0, 0)) := hsq2 _ _ (hset_same _ _ _)
    have qS3 : Vc.Sub h q2 := fun b o hb => hsq2 _ _ (by
      have h1 := qS1 _ _ hb
      have h2 := hq1 _ _ h1
      repeat rw [hset_ne _ _ (by omega)]
      exact h1)
    obtain rfl := hrs _ hres2
    conv => whnf
    repeat (first | ((with_reducible apply Go.Vc.strow); (focus ((repeat (first | with_reducible assumption | with_reducible exact Go.Vc.hset_same _ _ _ | with_reducible refine (Go.Vc.hset_ne _ _ (by omega)).trans ?_)); done)); (focus exact rfl); (focus exact rfl); (focus exact rfl); rintro _ rfl; conv => whnf) | (intro _ _; conv => whnf))
    rename_i r12 hr12
    have hq2t : r10 < u2 := by omega
    generalize hG : hset (hset q2 r12 _) r12 _ = G
    have m12 : G r12 = some (.cells #[.int .i64 x, .int .i64 y, .int .i64 z] 30 (0, 0)) := by
      rw [← hG, hset_same]
      rfl
    have m10 : G r10 = some (.cells #[.int .i64 x, .int .i64 y, .int .i64 z] 23 (0, 0)) := by
      rw [← hG, hset_ne _ _ (by omega), hset_ne _ _ (by omega)]
      exact k10
    have qS4 : Vc.Sub h G := fun b o hb => by
      have h1 := qS3 _ _ hb
      have h2 := hq2 _ _ h1
      rw [← hG, hset_ne _ _ (by omega), hset_ne _ _ (by omega)]
      exact h1
    rcases heb with ⟨rfl, rfl⟩ | ⟨rfl, rfl⟩
    · refine Go.Vc.draw_intro [⟨0, false, false, false, 0⟩, ⟨1, false, false, false, 1⟩, ⟨2, false, false, false, 3⟩, ⟨3, false, false, false, 3⟩, ⟨4, false, false, false, 15⟩, ⟨5, false, false, false, 31⟩, ⟨6, false, false, false, 63⟩, ⟨7, false, false, false, 127⟩, ⟨8, false, false, false, 255⟩, ⟨9, false, false, false, 511⟩, ⟨10, false, false, false, 1023⟩, ⟨11, false, false, false, 2047⟩, ⟨12, false, false, false, 4095⟩, ⟨13, false, false, false, 8191⟩, ⟨14, false, false, false, 16383⟩, ⟨15, false, false, false, 32767⟩, ⟨16, false, false, false, 65535⟩, ⟨17, false, false, false, 131071⟩, ⟨18, false, false, false, 262143⟩, ⟨19, false, false, false, 524287⟩, ⟨20, false, false, false, 1048575⟩, ⟨21, false, false, false, 2097151⟩, ⟨22, false, false, false, 4194303⟩, ⟨24, false, true, false, 4194303⟩, ⟨23, true, false, true, 8388607⟩, ⟨25, false, false, false, 33554431⟩, ⟨26, false, false, false, 67108863⟩, ⟨27, false, false, false, 134217727⟩, ⟨28, false, false, false, 268435455⟩, ⟨29, false, false, false, 536870911⟩, ⟨30, false, false, false, 1073741823⟩, ⟨31, false, false, false, 2147483647⟩, ⟨32, false, false, false, 4294967295⟩, ⟨33, false, false, false, 8589934591⟩, ⟨34, false, false, false, 17179869183⟩, ⟨35, false, false, false, 34359738367⟩, ⟨36, false, false, false, 68719476735⟩, ⟨37, false, false, false, 137438953471⟩, ⟨38, false, false, false, 274877906943⟩, ⟨39, false, false, false, 549755813887⟩, ⟨40, false, false, false, 1099511627775⟩, ⟨41, false, false, false, 2199023255551⟩, ⟨42, false, false, false, 4398046511103⟩] (hs := G) (hsub := (Sub.refl _)) (hm := by kernel_rfl) (hpl := by kernel_rfl) ?_
      conv => whnf
      conv => whnf
      refine br_t rfl ?_
      conv => whnf
      repeat (first | ((with_reducible apply Go.Vc.ldrow); (focus ((repeat (first | with_reducible assumption | with_reducible exact Go.Vc.hset_same _ _ _ | with_reducible refine (Go.Vc.hset_ne _ _ (by omega)).trans ?_)); done)); (focus exact rfl); rintro _ rfl; conv => whnf) | (refine Go.Vc.br_t ?_ ?_; (focus omega); conv => whnf))
      refine (ref_spec x y z).mono ?_
      rintro _ q5 u5 hq5 hu5 ⟨rfl, hs5, _⟩
      have n12 := hs5 _ _ m12
      refine ⟨hs5, ?_⟩
      conv => whnf
      refine rco_eq ?_
      rw [decide_eq_true (p := x = x ∧ y = y ∧ z = z) ⟨rfl, rfl, rfl⟩]
      conv => whnf
      repeat (first | (refine Go.Vc.br_t ?_ ?_; (focus omega); conv => whnf))
      refine ⟨?_, qS4.trans hs5⟩
      first
      | rfl
      | (rw [opq_eq]; rfl)
    · refine Go.Vc.draw_intro [⟨0, false, false, false, 0⟩, ⟨1, false, false, false, 1⟩, ⟨2, false, false, false, 3⟩, ⟨3, false, false, false, 3⟩, ⟨4, false, false, false, 15⟩, ⟨5, false, false, false, 31⟩, ⟨6, false, false, false, 63⟩, ⟨7, false, false, false, 127⟩, ⟨8, false, false, false, 255⟩, ⟨9, false, false, false, 511⟩, ⟨10, false, false, false, 1023⟩, ⟨11, false, false, false, 2047⟩, ⟨12, false, false, false, 4095⟩, ⟨13, false, false, false, 8191⟩, ⟨14, false, false, false, 16383⟩, ⟨15, false, false, false, 32767⟩, ⟨16, false, false, false, 65535⟩, ⟨17, false, false, false, 131071⟩, ⟨18, false, false, false, 262143⟩, ⟨19, false, false, false, 524287⟩, ⟨20, false, false, false, 1048575⟩, ⟨21, false, false, false, 2097151⟩, ⟨22, false, false, false, 4194303⟩, ⟨24, false, true, false, 4194303⟩, ⟨23, true, false, true, 8388607⟩, ⟨25, false, false, false, 33554431⟩, ⟨26, false, false, false, 67108863⟩, ⟨27, false, false, false, 134217727⟩, ⟨28, false, false, false, 268435455⟩, ⟨29, false, false, false, 536870911⟩, ⟨30, false, false, false, 1073741823⟩, ⟨31, false, false, false, 2147483647⟩, ⟨32, false, false, false, 4294967295⟩, ⟨33, false, false, false, 8589934591⟩, ⟨34, false, false, false, 17179869183⟩, ⟨35, false, false, false, 34359738367⟩, ⟨36, false, false, false, 68719476735⟩, ⟨37, false, false, false, 137438953471⟩, ⟨38, false, false, false, 274877906943⟩, ⟨39, false, false, false, 549755813887⟩, ⟨40, false, false, false, 1099511627775⟩, ⟨41, false, false, false, 2199023255551⟩, ⟨42, false, false, false, 4398046511103⟩] (hs := G) (hsub := (Sub.refl _)) (hm := by kernel_rfl) (hpl := by kernel_rfl) ?_
      conv => whnf
      conv => whnf
      refine br_t rfl ?_
      conv => whnf
      repeat (first | ((with_reducible apply Go.Vc.ldrow); (focus ((repeat (first | with_reducible assumption | with_reducible exact Go.Vc.hset_same _ _ _ | with_reducible refine (Go.Vc.hset_ne _ _ (by omega)).trans ?_)); done)); (focus exact rfl); rintro _ rfl; conv => whnf) | (refine Go.Vc.br_t ?_ ?_; (focus omega); conv => whnf))
      refine (ref_spec x y z).mono ?_
      rintro _ q5 u5 hq5 hu5 ⟨rfl, hs5, _⟩
      have n12 := hs5 _ _ m12
      refine ⟨hs5, ?_⟩
      conv => whnf
      refine rco_eq ?_
      rw [decide_eq_true (p := x = x ∧ y = y ∧ z = z) ⟨rfl, rfl, rfl⟩]
      conv => whnf
      refine ⟨?_, qS4.trans hs5⟩
      first
      | rfl
      | (rw [opq_eq]; rfl)
end Go.Proofs.YtlkpgjicpjjlcaaGreatDoor
