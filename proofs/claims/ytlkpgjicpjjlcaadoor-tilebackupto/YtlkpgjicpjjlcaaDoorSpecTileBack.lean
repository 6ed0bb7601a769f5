/- A tile's path is read as it. -/
import Derived.Test.YtlkpgjicpjjlcaaDoorTileEx
set_option linter.unusedSimpArgs false
namespace Go.Proofs.YtlkpgjicpjjlcaaDoor
open Go Go.Vc Go.Tile
set_option maxRecDepth 20000
set_option maxHeartbeats 4000000
set_option linter.unusedVariables false
theorem numS_le20 (lv ix wd : Int) : (pathS lv ix wd).size ≤ 1048576 := by
  have a1 := levelS_le lv
  have a2 := idxS_le ix.toNat
  have a3 := widthS_le wd
  unfold pathS
  rw [ByteArray.size_append, ByteArray.size_append, ByteArray.size_append, ByteArray.size_append, show tileB.size = 5 from rfl, show slB.size = 1 from rfl]
  omega
theorem pair_eq {a1 a2 a3 b1 b2 b3 : Int} (hA : RightC a1 a2 a3) (hB : RightC b1 b2 b3) : (opq (decide (pathS a1 a2 a3 = pathS b1 b2 b3)) == decide (a1 = b1 ∧ a2 = b2 ∧ a3 = b3)) = true := by
  rw [opq_eq]
  by_cases h : pathS a1 a2 a3 = pathS b1 b2 b3
  · rw [decide_eq_true h, decide_eq_true (pathS_inj hA hB h)]
    rfl
  · rw [decide_eq_false h, decide_eq_false]
    · rfl
    · rintro ⟨rfl, rfl, rfl⟩
      exact h rfl
theorem TileBack_spec {h : Heap} {t : Nat} (hM : MaxC h) (a1 a2 a3 : Int) (ha1 : -9223372036854775808 ≤ a1 ∧ a1 ≤ 9223372036854775807) (ha2 : -9223372036854775808 ≤ a2 ∧ a2 ≤ 9223372036854775807) (ha3 : -9223372036854775808 ≤ a3 ∧ a3 ≤ 9223372036854775807)
    (b1 b2 b3 : Int) (hb1 : -9223372036854775808 ≤ b1 ∧ b1 ≤ 9223372036854775807) (hb2 : -9223372036854775808 ≤ b2 ∧ b2 ≤ 9223372036854775807) (hb3 : -9223372036854775808 ≤ b3 ∧ b3 ≤ 9223372036854775807) (s : ByteArray) (hs : s.size ≤ 1048576) :
    CallSpec Tryd.prog 3 #[.agg #[.int .i64 a1, .int .i64 a2, .int .i64 a3], .agg #[.int .i64 b1, .int .i64 b2, .int .i64 b3], .string s] h t (fun v h' _ => v = .bool true ∧ Vc.Sub h h') := by
  refine Go.Vc.spec_of_vc (fn := Tryd.f3) Tryd.func3 rfl (by kernel_rfl) (by kernel_rfl) (Nat.le_of_ble_eq_true rfl) ?_
  intro hd
  conv => whnf
  repeat (first | (intro _ _; conv => whnf))
  rename_i r3 hr3 r4 hr4
  have hsub0 : Vc.Sub h (hset (hset h r3 (.cells #[.int .i64 a1, .int .i64 a2, .int .i64 a3] 23 (0, 0))) r4 (.cells #[.int .i64 b1, .int .i64 b2, .int .i64 b3] 23 (0, 0))) := fun o x ho => by
    have := hd _ _ ho
    rw [hset_ne _ _ (by omega), hset_ne _ _ (by omega)]
    exact ho
  refine (examples_spec (hM.sub hsub0)).mono ?_
  rintro _ g t1 hd1 ht1 ⟨rfl, hs1, _⟩
  have g3 : g r3 = some (.cells #[.int .i64 a1, .int .i64 a2, .int .i64 a3] 23 (0, 0)) := hs1 _ _ (by rw [hset_ne _ _ (by omega)]; exact hset_same _ _ _)
  have g4 : g r4 = some (.cells #[.int .i64 b1, .int .i64 b2, .int .i64 b3] 23 (0, 0)) := hs1 _ _ (hset_same _ _ _)
  have gS := hsub0.trans hs1
  clear hs1 hsub0
  conv => whnf
  repeat (first | ((with_reducible apply Go.Vc.ldrow); (focus ((repeat (first | with_reducible assumption | with_reducible exact Go.Vc.hset_same _ _ _ | with_reducible refine (Go.Vc.hset_ne _ _ (by omega)).trans ?_)); done)); (focus exact rfl); rintro _ rfl; conv => whnf))
  by_cases hA : RightC a1 a2 a3
  · refine (path_spec a1 a2 a3 hA).mono ?_
    rintro _ g5 t5 hd5 ht5 ⟨rfl, hs5, _⟩
    have g3' := hs5 _ _ g3
    have g4' := hs5 _ _ g4
    have gS5 := gS.trans hs5
    have hA' := hA
    unfold RightC at hA'
    conv => whnf
    repeat (first | ((with_reducible apply Go.Vc.ldrow); (focus ((repeat (first | with_reducible assumption | with_reducible exact Go.Vc.hset_same _ _ _ | with_reducible refine (Go.Vc.hset_ne _ _ (by omega)).trans ?_)); done)); (focus exact rfl); rintro _ rfl; conv => whnf))
    by_cases hB : RightC b1 b2 b3
    · refine (path_spec b1 b2 b3 hB).mono ?_
      rintro _ g6 t6 hd6 ht6 ⟨rfl, hs6, _⟩
      have k3 := hs6 _ _ g3'
      have k4 := hs6 _ _ g4'
      have kS := gS5.trans hs6
      conv => whnf
      repeat (first | (refine Go.Vc.br_t ?_ ?_; (focus omega); conv => whnf))
      refine (takepath_spec (pathS a1 a2 a3) (numS_le20 _ _ _) (hM.sub kS)).mono ?_
      rintro _ g7 t7 hd7 ht7 ⟨hres, hs7, _⟩
      obtain rfl := takeRes_good hA rfl hres
      have l3 := hs7 _ _ k3
      have l4 := hs7 _ _ k4
      have lS := kS.trans hs7
      conv => whnf
      repeat (first | ((with_reducible apply Go.Vc.ldrow); (focus ((repeat (first | with_reducible assumption | with_reducible exact Go.Vc.hset_same _ _ _ | with_reducible refine (Go.Vc.hset_ne _ _ (by omega)).trans ?_)); done)); (focus exact rfl); rintro _ rfl; conv => whnf) | ((with_reducible apply Go.Vc.strow); (focus ((repeat (first | with_reducible assumption | with_reducible exact Go.Vc.hset_same _ _ _ | with_reducible refine (Go.Vc.hset_ne _ _ (by omega)).trans ?_)); done)); (focus exact rfl); (focus exact rfl); (focus exact rfl); rintro _ rfl; conv => whnf) | (intro _ _; conv => whnf))
      refine co_ne ?_
      conv => whnf
      refine bsel_f (by simp) ?_
      conv => whnf
      repeat (first | (refine Go.Vc.br_f ?_ ?_; (focus omega); conv => whnf))
      refine (takepath_spec s hs (hM.sub (fun o x ho => by
        have := hd _ _ ho
        repeat rw [hset_ne _ _ (by omega)]
        exact lS _ _ ho))).mono ?_
      rintro _ g8 t8 hd8 ht8 ⟨hres2, hs8, _⟩
      have m3 : g8 r3 = some (.cells #[.int .i64 a1, .int .i64 a2, .int .i64 a3] 23 (0, 0)) := hs8 _ _ (by
        repeat rw [hset_ne _ _ (by omega)]
        exact l3)
      have m4 : g8 r4 = some (.cells #[.int .i64 b1, .int .i64 b2, .int .i64 b3] 23 (0, 0)) := hs8 _ _ (by
        repeat rw [hset_ne _ _ (by omega)]
        exact l4)
      have mS : Vc.Sub h g8 := fun o x ho => hs8 _ _ (by
        have := hd _ _ ho
        repeat rw [hset_ne _ _ (by omega)]
        exact lS _ _ ho)
      rcases hres2 with ⟨lv, ix, wd, hR2, hp2, rfl⟩ | ⟨hno2, rfl⟩
      · conv => whnf
        repeat (first | ((with_reducible apply Go.Vc.ldrow); (focus ((repeat (first | with_reducible assumption | with_reducible exact Go.Vc.hset_same _ _ _ | with_reducible refine (Go.Vc.hset_ne _ _ (by omega)).trans ?_)); done)); (focus exact rfl); rintro _ rfl; conv => whnf) | ((with_reducible apply Go.Vc.strow); (focus ((repeat (first | with_reducible assumption | with_reducible exact Go.Vc.hset_same _ _ _ | with_reducible refine (Go.Vc.hset_ne _ _ (by omega)).trans ?_)); done)); (focus exact rfl); (focus exact rfl); (focus exact rfl); rintro _ rfl; conv => whnf) | (intro _ _; conv => whnf))
        refine (path_spec lv ix wd hR2).mono ?_
        rintro _ g9 t9 hd9 ht9 ⟨rfl, hs9, _⟩
        have n3 := hs9 r3 _ ((hset_ne _ _ (by omega)).trans ((hset_ne _ _ (by omega)).trans m3))
        have n4 := hs9 r4 _ ((hset_ne _ _ (by omega)).trans ((hset_ne _ _ (by omega)).trans m4))
        have nS : Vc.Sub h g9 := fun o x ho => hs9 _ _ (by
          have := hd _ _ ho
          repeat rw [hset_ne _ _ (by omega)]
          exact mS _ _ ho)
        by_cases hA2 : RightC a1 a2 a3
        · first
          | exact absurd hA2 hA
          | unfold RightC at hA2
            conv => whnf
            repeat (first | ((with_reducible apply Go.Vc.ld_i); (focus ((repeat (first | with_reducible assumption | with_reducible exact Go.Vc.hset_same _ _ _ | with_reducible refine (Go.Vc.hset_ne _ _ (by omega)).trans ?_)); done)); (focus exact rfl); conv => whnf) | (refine Go.Vc.br_t ?_ ?_; (focus omega); conv => whnf))
            refine bsel_t (by first | (rw [opq_eq, opq_eq, beq_iff_eq, decide_eq_decide]; omega) | (rw [opq_eq, decide_eq_false (by omega)]; rfl)) ?_
            conv => whnf
            repeat (first | ((with_reducible apply Go.Vc.ldrow); (focus ((repeat (first | with_reducible assumption | with_reducible exact Go.Vc.hset_same _ _ _ | with_reducible refine (Go.Vc.hset_ne _ _ (by omega)).trans ?_)); done)); (focus exact rfl); rintro _ rfl; conv => whnf) | (refine Go.Vc.br_t ?_ ?_; (focus omega); conv => whnf) | (refine Go.Vc.br_f ?_ ?_; (focus omega); conv => whnf))
            first
            | refine br_t hp2 ?_
              conv => whnf
            | skip
            first
            | exact ⟨rfl, nS⟩
            | (refine co_eq ?_
               conv => whnf
               exact ⟨congrArg Value.bool (pair_eq hA hB), nS⟩)
        · first
          | exact absurd hA hA2
          | unfold RightC at hA2
            conv => whnf
            refine br (fun q1 => ?_) (fun q1 => ?_)
            · conv => whnf
              refine br (fun q2 => ?_) (fun q2 => ?_)
              · conv => whnf
                refine br (fun q3 => ?_) (fun q3 => ?_)
                · conv => whnf
                  refine br (fun q4 => ?_) (fun q4 => ?_)
                  · conv => whnf
                    refine br (fun q5 => ?_) (fun q5 => ?_)
                    · conv => whnf
                      refine bsel_t (by first | (rw [opq_eq, opq_eq, beq_iff_eq, decide_eq_decide]; omega) | (rw [opq_eq, decide_eq_false (by omega)]; rfl)) ?_
                      conv => whnf
                      first
                      | refine br_t hp2 ?_
                        conv => whnf
                      | skip
                      first
                      | exact ⟨rfl, nS⟩
                      | (refine co_eq ?_
                         conv => whnf
                         exact ⟨congrArg Value.bool (pair_eq hA hB), nS⟩)
                    · conv => whnf
                      refine bsel_t (by first | (rw [opq_eq, opq_eq, beq_iff_eq, decide_eq_decide]; omega) | (rw [opq_eq, decide_eq_false (by omega)]; rfl)) ?_
                      conv => whnf
                      first
                      | refine br_t hp2 ?_
                        conv => whnf
                      | skip
                      first
                      | exact ⟨rfl, nS⟩
                      | (refine co_eq ?_
                         conv => whnf
                         exact ⟨congrArg Value.bool (pair_eq hA hB), nS⟩)
                  · conv => whnf
                    refine bsel_t (by first | (rw [opq_eq, opq_eq, beq_iff_eq, decide_eq_decide]; omega) | (rw [opq_eq, decide_eq_false (by omega)]; rfl)) ?_
                    conv => whnf
                    first
                    | refine br_t hp2 ?_
                      conv => whnf
                    | skip
                    first
                    | exact ⟨rfl, nS⟩
                    | (refine co_eq ?_
                       conv => whnf
                       exact ⟨congrArg Value.bool (pair_eq hA hB), nS⟩)
                · conv => whnf
                  refine bsel_t (by first | (rw [opq_eq, opq_eq, beq_iff_eq, decide_eq_decide]; omega) | (rw [opq_eq, decide_eq_false (by omega)]; rfl)) ?_
                  conv => whnf
                  first
                  | refine br_t hp2 ?_
                    conv => whnf
                  | skip
                  first
                  | exact ⟨rfl, nS⟩
                  | (refine co_eq ?_
                     conv => whnf
                     exact ⟨congrArg Value.bool (pair_eq hA hB), nS⟩)
              · conv => whnf
                refine bsel_t (by first | (rw [opq_eq, opq_eq, beq_iff_eq, decide_eq_decide]; omega) | (rw [opq_eq, decide_eq_false (by omega)]; rfl)) ?_
                conv => whnf
                first
                | refine br_t hp2 ?_
                  conv => whnf
                | skip
                first
                | exact ⟨rfl, nS⟩
                | (refine co_eq ?_
                   conv => whnf
                   exact ⟨congrArg Value.bool (pair_eq hA hB), nS⟩)
            · conv => whnf
              refine bsel_t (by first | (rw [opq_eq, opq_eq, beq_iff_eq, decide_eq_decide]; omega) | (rw [opq_eq, decide_eq_false (by omega)]; rfl)) ?_
              conv => whnf
              first
              | refine br_t hp2 ?_
                conv => whnf
              | skip
              first
              | exact ⟨rfl, nS⟩
              | (refine co_eq ?_
                 conv => whnf
                 exact ⟨congrArg Value.bool (pair_eq hA hB), nS⟩)
      · conv => whnf
        repeat (first | ((with_reducible apply Go.Vc.ldrow); (focus ((repeat (first | with_reducible assumption | with_reducible exact Go.Vc.hset_same _ _ _ | with_reducible refine (Go.Vc.hset_ne _ _ (by omega)).trans ?_)); done)); (focus exact rfl); rintro _ rfl; conv => whnf) | ((with_reducible apply Go.Vc.strow); (focus ((repeat (first | with_reducible assumption | with_reducible exact Go.Vc.hset_same _ _ _ | with_reducible refine (Go.Vc.hset_ne _ _ (by omega)).trans ?_)); done)); (focus exact rfl); (focus exact rfl); (focus exact rfl); rintro _ rfl; conv => whnf) | (intro _ _; conv => whnf))
        refine (path_no 0 0 0 (by decide)).mono ?_
        rintro _ g9 t9 hd9 ht9 ⟨rfl, hs9, _⟩
        have n3 := hs9 r3 _ ((hset_ne _ _ (by omega)).trans ((hset_ne _ _ (by omega)).trans m3))
        have n4 := hs9 r4 _ ((hset_ne _ _ (by omega)).trans ((hset_ne _ _ (by omega)).trans m4))
        have nS : Vc.Sub h g9 := fun o x ho => hs9 _ _ (by
          have := hd _ _ ho
          repeat rw [hset_ne _ _ (by omega)]
          exact mS _ _ ho)
        by_cases hA2 : RightC a1 a2 a3
        · first
          | exact absurd hA2 hA
          | unfold RightC at hA2
            conv => whnf
            repeat (first | ((with_reducible apply Go.Vc.ld_i); (focus ((repeat (first | with_reducible assumption | with_reducible exact Go.Vc.hset_same _ _ _ | with_reducible refine (Go.Vc.hset_ne _ _ (by omega)).trans ?_)); done)); (focus exact rfl); conv => whnf) | (refine Go.Vc.br_t ?_ ?_; (focus omega); conv => whnf))
            refine bsel_t (by first | (rw [opq_eq, opq_eq, beq_iff_eq, decide_eq_decide]; omega) | (rw [opq_eq, decide_eq_false (by omega)]; rfl)) ?_
            conv => whnf
            repeat (first | ((with_reducible apply Go.Vc.ldrow); (focus ((repeat (first | with_reducible assumption | with_reducible exact Go.Vc.hset_same _ _ _ | with_reducible refine (Go.Vc.hset_ne _ _ (by omega)).trans ?_)); done)); (focus exact rfl); rintro _ rfl; conv => whnf) | (refine Go.Vc.br_t ?_ ?_; (focus omega); conv => whnf) | (refine Go.Vc.br_f ?_ ?_; (focus omega); conv => whnf))
            first
            | exact ⟨rfl, nS⟩
            | (refine co_eq ?_
               conv => whnf
               exact ⟨congrArg Value.bool (pair_eq hA hB), nS⟩)
        · first
          | exact absurd hA hA2
          | unfold RightC at hA2
            conv => whnf
            refine br (fun q1 => ?_) (fun q1 => ?_)
            · conv => whnf
              refine br (fun q2 => ?_) (fun q2 => ?_)
              · conv => whnf
                refine br (fun q3 => ?_) (fun q3 => ?_)
                · conv => whnf
                  refine br (fun q4 => ?_) (fun q4 => ?_)
                  · conv => whnf
                    refine br (fun q5 => ?_) (fun q5 => ?_)
                    · conv => whnf
                      refine bsel_t (by first | (rw [opq_eq, opq_eq, beq_iff_eq, decide_eq_decide]; omega) | (rw [opq_eq, decide_eq_false (by omega)]; rfl)) ?_
                      conv => whnf
                      first
                      | exact ⟨rfl, nS⟩
                      | (refine co_eq ?_
                         conv => whnf
                         exact ⟨congrArg Value.bool (pair_eq hA hB), nS⟩)
                    · conv => whnf
                      refine bsel_t (by first | (rw [opq_eq, opq_eq, beq_iff_eq, decide_eq_decide]; omega) | (rw [opq_eq, decide_eq_false (by omega)]; rfl)) ?_
                      conv => whnf
                      first
                      | exact ⟨rfl, nS⟩
                      | (refine co_eq ?_
                         conv => whnf
                         exact ⟨congrArg Value.bool (pair_eq hA hB), nS⟩)
                  · conv => whnf
                    refine bsel_t (by first | (rw [opq_eq, opq_eq, beq_iff_eq, decide_eq_decide]; omega) | (rw [opq_eq, decide_eq_false (by omega)]; rfl)) ?_
                    conv => whnf
                    first
                    | exact ⟨rfl, nS⟩
                    | (refine co_eq ?_
                       conv => whnf
                       exact ⟨congrArg Value.bool (pair_eq hA hB), nS⟩)
                · conv => whnf
                  refine bsel_t (by first | (rw [opq_eq, opq_eq, beq_iff_eq, decide_eq_decide]; omega) | (rw [opq_eq, decide_eq_false (by omega)]; rfl)) ?_
                  conv => whnf
                  first
                  | exact ⟨rfl, nS⟩
                  | (refine co_eq ?_
                     conv => whnf
                     exact ⟨congrArg Value.bool (pair_eq hA hB), nS⟩)
              · conv => whnf
                refine bsel_t (by first | (rw [opq_eq, opq_eq, beq_iff_eq, decide_eq_decide]; omega) | (rw [opq_eq, decide_eq_false (by omega)]; rfl)) ?_
                conv => whnf
                first
                | exact ⟨rfl, nS⟩
                | (refine co_eq ?_
                   conv => whnf
                   exact ⟨congrArg Value.bool (pair_eq hA hB), nS⟩)
            · conv => whnf
              refine bsel_t (by first | (rw [opq_eq, opq_eq, beq_iff_eq, decide_eq_decide]; omega) | (rw [opq_eq, decide_eq_false (by omega)]; rfl)) ?_
              conv => whnf
              first
              | exact ⟨rfl, nS⟩
              | (refine co_eq ?_
                 conv => whnf
                 exact ⟨congrArg Value.bool (pair_eq hA hB), nS⟩)
    · refine (path_no b1 b2 b3 hB).mono ?_
      rintro _ g6 t6 hd6 ht6 ⟨rfl, hs6, _⟩
      have k3 := hs6 _ _ g3'
      have k4 := hs6 _ _ g4'
      have kS := gS5.trans hs6
      conv => whnf
      repeat (first | (refine Go.Vc.br_t ?_ ?_; (focus omega); conv => whnf))
      refine (takepath_spec (pathS a1 a2 a3) (numS_le20 _ _ _) (hM.sub kS)).mono ?_
      rintro _ g7 t7 hd7 ht7 ⟨hres, hs7, _⟩
      obtain rfl := takeRes_good hA rfl hres
      have l3 := hs7 _ _ k3
      have l4 := hs7 _ _ k4
      have lS := kS.trans hs7
      conv => whnf
      repeat (first | ((with_reducible apply Go.Vc.ldrow); (focus ((repeat (first | with_reducible assumption | with_reducible exact Go.Vc.hset_same _ _ _ | with_reducible refine (Go.Vc.hset_ne _ _ (by omega)).trans ?_)); done)); (focus exact rfl); rintro _ rfl; conv => whnf) | ((with_reducible apply Go.Vc.strow); (focus ((repeat (first | with_reducible assumption | with_reducible exact Go.Vc.hset_same _ _ _ | with_reducible refine (Go.Vc.hset_ne _ _ (by omega)).trans ?_)); done)); (focus exact rfl); (focus exact rfl); (focus exact rfl); rintro _ rfl; conv => whnf) | (intro _ _; conv => whnf))
      refine co_ne ?_
      conv => whnf
      refine bsel_f (by simp) ?_
      conv => whnf
      repeat (first | (refine Go.Vc.br_f ?_ ?_; (focus omega); conv => whnf))
      refine (takepath_spec s hs (hM.sub (fun o x ho => by
        have := hd _ _ ho
        repeat rw [hset_ne _ _ (by omega)]
        exact lS _ _ ho))).mono ?_
      rintro _ g8 t8 hd8 ht8 ⟨hres2, hs8, _⟩
      have m3 : g8 r3 = some (.cells #[.int .i64 a1, .int .i64 a2, .int .i64 a3] 23 (0, 0)) := hs8 _ _ (by
        repeat rw [hset_ne _ _ (by omega)]
        exact l3)
      have m4 : g8 r4 = some (.cells #[.int .i64 b1, .int .i64 b2, .int .i64 b3] 23 (0, 0)) := hs8 _ _ (by
        repeat rw [hset_ne _ _ (by omega)]
        exact l4)
      have mS : Vc.Sub h g8 := fun o x ho => hs8 _ _ (by
        have := hd _ _ ho
        repeat rw [hset_ne _ _ (by omega)]
        exact lS _ _ ho)
      rcases hres2 with ⟨lv, ix, wd, hR2, hp2, rfl⟩ | ⟨hno2, rfl⟩
      · conv => whnf
        repeat (first | ((with_reducible apply Go.Vc.ldrow); (focus ((repeat (first | with_reducible assumption | with_reducible exact Go.Vc.hset_same _ _ _ | with_reducible refine (Go.Vc.hset_ne _ _ (by omega)).trans ?_)); done)); (focus exact rfl); rintro _ rfl; conv => whnf) | ((with_reducible apply Go.Vc.strow); (focus ((repeat (first | with_reducible assumption | with_reducible exact Go.Vc.hset_same _ _ _ | with_reducible refine (Go.Vc.hset_ne _ _ (by omega)).trans ?_)); done)); (focus exact rfl); (focus exact rfl); (focus exact rfl); rintro _ rfl; conv => whnf) | (intro _ _; conv => whnf))
        refine (path_spec lv ix wd hR2).mono ?_
        rintro _ g9 t9 hd9 ht9 ⟨rfl, hs9, _⟩
        have n3 := hs9 r3 _ ((hset_ne _ _ (by omega)).trans ((hset_ne _ _ (by omega)).trans m3))
        have n4 := hs9 r4 _ ((hset_ne _ _ (by omega)).trans ((hset_ne _ _ (by omega)).trans m4))
        have nS : Vc.Sub h g9 := fun o x ho => hs9 _ _ (by
          have := hd _ _ ho
          repeat rw [hset_ne _ _ (by omega)]
          exact mS _ _ ho)
        by_cases hA2 : RightC a1 a2 a3
        · first
          | exact absurd hA2 hA
          | unfold RightC at hA2
            conv => whnf
            repeat (first | ((with_reducible apply Go.Vc.ld_i); (focus ((repeat (first | with_reducible assumption | with_reducible exact Go.Vc.hset_same _ _ _ | with_reducible refine (Go.Vc.hset_ne _ _ (by omega)).trans ?_)); done)); (focus exact rfl); conv => whnf) | (refine Go.Vc.br_t ?_ ?_; (focus omega); conv => whnf))
            refine bsel_t (by first | (rw [opq_eq, opq_eq, beq_iff_eq, decide_eq_decide]; omega) | (rw [opq_eq, decide_eq_false (by omega)]; rfl)) ?_
            conv => whnf
            repeat (first | (refine Go.Vc.br_t ?_ ?_; (focus omega); conv => whnf) | (refine Go.Vc.br_f ?_ ?_; (focus omega); conv => whnf))
            first
            | refine br_t hp2 ?_
              conv => whnf
            | skip
            first
            | exact ⟨rfl, nS⟩
            | (refine co_eq ?_
               conv => whnf
               exact ⟨congrArg Value.bool (pair_eq hA hB), nS⟩)
        · first
          | exact absurd hA hA2
          | unfold RightC at hA2
            conv => whnf
            refine br (fun q1 => ?_) (fun q1 => ?_)
            · conv => whnf
              refine br (fun q2 => ?_) (fun q2 => ?_)
              · conv => whnf
                refine br (fun q3 => ?_) (fun q3 => ?_)
                · conv => whnf
                  refine br (fun q4 => ?_) (fun q4 => ?_)
                  · conv => whnf
                    refine br (fun q5 => ?_) (fun q5 => ?_)
                    · conv => whnf
                      refine bsel_t (by first | (rw [opq_eq, opq_eq, beq_iff_eq, decide_eq_decide]; omega) | (rw [opq_eq, decide_eq_false (by omega)]; rfl)) ?_
                      conv => whnf
                      first
                      | refine br_t hp2 ?_
                        conv => whnf
                      | skip
                      first
                      | exact ⟨rfl, nS⟩
                      | (refine co_eq ?_
                         conv => whnf
                         exact ⟨congrArg Value.bool (pair_eq hA hB), nS⟩)
                    · conv => whnf
                      refine bsel_t (by first | (rw [opq_eq, opq_eq, beq_iff_eq, decide_eq_decide]; omega) | (rw [opq_eq, decide_eq_false (by omega)]; rfl)) ?_
                      conv => whnf
                      first
                      | refine br_t hp2 ?_
                        conv => whnf
                      | skip
                      first
                      | exact ⟨rfl, nS⟩
                      | (refine co_eq ?_
                         conv => whnf
                         exact ⟨congrArg Value.bool (pair_eq hA hB), nS⟩)
                  · conv => whnf
                    refine bsel_t (by first | (rw [opq_eq, opq_eq, beq_iff_eq, decide_eq_decide]; omega) | (rw [opq_eq, decide_eq_false (by omega)]; rfl)) ?_
                    conv => whnf
                    first
                    | refine br_t hp2 ?_
                      conv => whnf
                    | skip
                    first
                    | exact ⟨rfl, nS⟩
                    | (refine co_eq ?_
                       conv => whnf
                       exact ⟨congrArg Value.bool (pair_eq hA hB), nS⟩)
                · conv => whnf
                  refine bsel_t (by first | (rw [opq_eq, opq_eq, beq_iff_eq, decide_eq_decide]; omega) | (rw [opq_eq, decide_eq_false (by omega)]; rfl)) ?_
                  conv => whnf
                  first
                  | refine br_t hp2 ?_
                    conv => whnf
                  | skip
                  first
                  | exact ⟨rfl, nS⟩
                  | (refine co_eq ?_
                     conv => whnf
                     exact ⟨congrArg Value.bool (pair_eq hA hB), nS⟩)
              · conv => whnf
                refine bsel_t (by first | (rw [opq_eq, opq_eq, beq_iff_eq, decide_eq_decide]; omega) | (rw [opq_eq, decide_eq_false (by omega)]; rfl)) ?_
                conv => whnf
                first
                | refine br_t hp2 ?_
                  conv => whnf
                | skip
                first
                | exact ⟨rfl, nS⟩
                | (refine co_eq ?_
                   conv => whnf
                   exact ⟨congrArg Value.bool (pair_eq hA hB), nS⟩)
            · conv => whnf
              refine bsel_t (by first | (rw [opq_eq, opq_eq, beq_iff_eq, decide_eq_decide]; omega) | (rw [opq_eq, decide_eq_false (by omega)]; rfl)) ?_
              conv => whnf
              first
              | refine br_t hp2 ?_
                conv => whnf
              | skip
              first
              | exact ⟨rfl, nS⟩
              | (refine co_eq ?_
                 conv => whnf
                 exact ⟨congrArg Value.bool (pair_eq hA hB), nS⟩)
      · conv => whnf
        repeat (first | ((with_reducible apply Go.Vc.ldrow); (focus ((repeat (first | with_reducible assumption | with_reducible exact Go.Vc.hset_same _ _ _ | with_reducible refine (Go.Vc.hset_ne _ _ (by omega)).trans ?_)); done)); (focus exact rfl); rintro _ rfl; conv => whnf) | ((with_reducible apply Go.Vc.strow); (focus ((repeat (first | with_reducible assumption | with_reducible exact Go.Vc.hset_same _ _ _ | with_reducible refine (Go.Vc.hset_ne _ _ (by omega)).trans ?_)); done)); (focus exact rfl); (focus exact rfl); (focus exact rfl); rintro _ rfl; conv => whnf) | (intro _ _; conv => whnf))
        refine (path_no 0 0 0 (by decide)).mono ?_
        rintro _ g9 t9 hd9 ht9 ⟨rfl, hs9, _⟩
        have n3 := hs9 r3 _ ((hset_ne _ _ (by omega)).trans ((hset_ne _ _ (by omega)).trans m3))
        have n4 := hs9 r4 _ ((hset_ne _ _ (by omega)).trans ((hset_ne _ _ (by omega)).trans m4))
        have nS : Vc.Sub h g9 := fun o x ho => hs9 _ _ (by
          have := hd _ _ ho
          repeat rw [hset_ne _ _ (by omega)]
          exact mS _ _ ho)
        by_cases hA2 : RightC a1 a2 a3
        · first
          | exact absurd hA2 hA
          | unfold RightC at hA2
            conv => whnf
            repeat (first | ((with_reducible apply Go.Vc.ld_i); (focus ((repeat (first | with_reducible assumption | with_reducible exact Go.Vc.hset_same _ _ _ | with_reducible refine (Go.Vc.hset_ne _ _ (by omega)).trans ?_)); done)); (focus exact rfl); conv => whnf) | (refine Go.Vc.br_t ?_ ?_; (focus omega); conv => whnf))
            refine bsel_t (by first | (rw [opq_eq, opq_eq, beq_iff_eq, decide_eq_decide]; omega) | (rw [opq_eq, decide_eq_false (by omega)]; rfl)) ?_
            conv => whnf
            repeat (first | (refine Go.Vc.br_t ?_ ?_; (focus omega); conv => whnf) | (refine Go.Vc.br_f ?_ ?_; (focus omega); conv => whnf))
            first
            | exact ⟨rfl, nS⟩
            | (refine co_eq ?_
               conv => whnf
               exact ⟨congrArg Value.bool (pair_eq hA hB), nS⟩)
        · first
          | exact absurd hA hA2
          | unfold RightC at hA2
            conv => whnf
            refine br (fun q1 => ?_) (fun q1 => ?_)
            · conv => whnf
              refine br (fun q2 => ?_) (fun q2 => ?_)
              · conv => whnf
                refine br (fun q3 => ?_) (fun q3 => ?_)
                · conv => whnf
                  refine br (fun q4 => ?_) (fun q4 => ?_)
                  · conv => whnf
                    refine br (fun q5 => ?_) (fun q5 => ?_)
                    · conv => whnf
                      refine bsel_t (by first | (rw [opq_eq, opq_eq, beq_iff_eq, decide_eq_decide]; omega) | (rw [opq_eq, decide_eq_false (by omega)]; rfl)) ?_
                      conv => whnf
                      first
                      | exact ⟨rfl, nS⟩
                      | (refine co_eq ?_
                         conv => whnf
                         exact ⟨congrArg Value.bool (pair_eq hA hB), nS⟩)
                    · conv => whnf
                      refine bsel_t (by first | (rw [opq_eq, opq_eq, beq_iff_eq, decide_eq_decide]; omega) | (rw [opq_eq, decide_eq_false (by omega)]; rfl)) ?_
                      conv => whnf
                      first
                      | exact ⟨rfl, nS⟩
                      | (refine co_eq ?_
                         conv => whnf
                         exact ⟨congrArg Value.bool (pair_eq hA hB), nS⟩)
                  · conv => whnf
                    refine bsel_t (by first | (rw [opq_eq, opq_eq, beq_iff_eq, decide_eq_decide]; omega) | (rw [opq_eq, decide_eq_false (by omega)]; rfl)) ?_
                    conv => whnf
                    first
                    | exact ⟨rfl, nS⟩
                    | (refine co_eq ?_
                       conv => whnf
                       exact ⟨congrArg Value.bool (pair_eq hA hB), nS⟩)
                · conv => whnf
                  refine bsel_t (by first | (rw [opq_eq, opq_eq, beq_iff_eq, decide_eq_decide]; omega) | (rw [opq_eq, decide_eq_false (by omega)]; rfl)) ?_
                  conv => whnf
                  first
                  | exact ⟨rfl, nS⟩
                  | (refine co_eq ?_
                     conv => whnf
                     exact ⟨congrArg Value.bool (pair_eq hA hB), nS⟩)
              · conv => whnf
                refine bsel_t (by first | (rw [opq_eq, opq_eq, beq_iff_eq, decide_eq_decide]; omega) | (rw [opq_eq, decide_eq_false (by omega)]; rfl)) ?_
                conv => whnf
                first
                | exact ⟨rfl, nS⟩
                | (refine co_eq ?_
                   conv => whnf
                   exact ⟨congrArg Value.bool (pair_eq hA hB), nS⟩)
            · conv => whnf
              refine bsel_t (by first | (rw [opq_eq, opq_eq, beq_iff_eq, decide_eq_decide]; omega) | (rw [opq_eq, decide_eq_false (by omega)]; rfl)) ?_
              conv => whnf
              first
              | exact ⟨rfl, nS⟩
              | (refine co_eq ?_
                 conv => whnf
                 exact ⟨congrArg Value.bool (pair_eq hA hB), nS⟩)
  · refine (path_no a1 a2 a3 hA).mono ?_
    rintro _ g5 t5 hd5 ht5 ⟨rfl, hs5, _⟩
    have g3' := hs5 _ _ g3
    have g4' := hs5 _ _ g4
    have gS5 := gS.trans hs5
    conv => whnf
    repeat (first | ((with_reducible apply Go.Vc.ldrow); (focus ((repeat (first | with_reducible assumption | with_reducible exact Go.Vc.hset_same _ _ _ | with_reducible refine (Go.Vc.hset_ne _ _ (by omega)).trans ?_)); done)); (focus exact rfl); rintro _ rfl; conv => whnf))
    by_cases hB : RightC b1 b2 b3
    · refine (path_spec b1 b2 b3 hB).mono ?_
      rintro _ g6 t6 hd6 ht6 ⟨rfl, hs6, _⟩
      have l3 := hs6 _ _ g3'
      have l4 := hs6 _ _ g4'
      have lS := gS5.trans hs6
      conv => whnf
      repeat (first | (refine Go.Vc.br_f ?_ ?_; (focus omega); conv => whnf))
      refine (takepath_spec s hs (hM.sub (fun o x ho => by
        have := hd _ _ ho
        repeat rw [hset_ne _ _ (by omega)]
        exact lS _ _ ho))).mono ?_
      rintro _ g8 t8 hd8 ht8 ⟨hres2, hs8, _⟩
      have m3 : g8 r3 = some (.cells #[.int .i64 a1, .int .i64 a2, .int .i64 a3] 23 (0, 0)) := hs8 _ _ (by
        repeat rw [hset_ne _ _ (by omega)]
        exact l3)
      have m4 : g8 r4 = some (.cells #[.int .i64 b1, .int .i64 b2, .int .i64 b3] 23 (0, 0)) := hs8 _ _ (by
        repeat rw [hset_ne _ _ (by omega)]
        exact l4)
      have mS : Vc.Sub h g8 := fun o x ho => hs8 _ _ (by
        have := hd _ _ ho
        repeat rw [hset_ne _ _ (by omega)]
        exact lS _ _ ho)
      rcases hres2 with ⟨lv, ix, wd, hR2, hp2, rfl⟩ | ⟨hno2, rfl⟩
      · conv => whnf
        repeat (first | ((with_reducible apply Go.Vc.ldrow); (focus ((repeat (first | with_reducible assumption | with_reducible exact Go.Vc.hset_same _ _ _ | with_reducible refine (Go.Vc.hset_ne _ _ (by omega)).trans ?_)); done)); (focus exact rfl); rintro _ rfl; conv => whnf) | ((with_reducible apply Go.Vc.strow); (focus ((repeat (first | with_reducible assumption | with_reducible exact Go.Vc.hset_same _ _ _ | with_reducible refine (Go.Vc.hset_ne _ _ (by omega)).trans ?_)); done)); (focus exact rfl); (focus exact rfl); (focus exact rfl); rintro _ rfl; conv => whnf) | (intro _ _; conv => whnf))
        refine (path_spec lv ix wd hR2).mono ?_
        rintro _ g9 t9 hd9 ht9 ⟨rfl, hs9, _⟩
        have n3 := hs9 r3 _ ((hset_ne _ _ (by omega)).trans ((hset_ne _ _ (by omega)).trans m3))
        have n4 := hs9 r4 _ ((hset_ne _ _ (by omega)).trans ((hset_ne _ _ (by omega)).trans m4))
        have nS : Vc.Sub h g9 := fun o x ho => hs9 _ _ (by
          have := hd _ _ ho
          repeat rw [hset_ne _ _ (by omega)]
          exact mS _ _ ho)
        by_cases hA2 : RightC a1 a2 a3
        · first
          | exact absurd hA2 hA
          | unfold RightC at hA2
            conv => whnf
            refine bsel_t (by first | (rw [opq_eq, opq_eq, beq_iff_eq, decide_eq_decide]; omega) | (rw [opq_eq, decide_eq_false (by omega)]; rfl)) ?_
            conv => whnf
            first
            | refine br_t hp2 ?_
              conv => whnf
            | skip
            first
            | exact ⟨rfl, nS⟩
            | (refine co_eq ?_
               conv => whnf
               exact ⟨congrArg Value.bool (pair_eq hA hB), nS⟩)
        · first
          | exact absurd hA hA2
          | unfold RightC at hA2
            conv => whnf
            repeat (first | ((with_reducible apply Go.Vc.ld_i); (focus ((repeat (first | with_reducible assumption | with_reducible exact Go.Vc.hset_same _ _ _ | with_reducible refine (Go.Vc.hset_ne _ _ (by omega)).trans ?_)); done)); (focus exact rfl); conv => whnf))
            refine br (fun q1 => ?_) (fun q1 => ?_)
            · conv => whnf
              repeat (first | ((with_reducible apply Go.Vc.ld_i); (focus ((repeat (first | with_reducible assumption | with_reducible exact Go.Vc.hset_same _ _ _ | with_reducible refine (Go.Vc.hset_ne _ _ (by omega)).trans ?_)); done)); (focus exact rfl); conv => whnf))
              refine br (fun q2 => ?_) (fun q2 => ?_)
              · conv => whnf
                repeat (first | ((with_reducible apply Go.Vc.ld_i); (focus ((repeat (first | with_reducible assumption | with_reducible exact Go.Vc.hset_same _ _ _ | with_reducible refine (Go.Vc.hset_ne _ _ (by omega)).trans ?_)); done)); (focus exact rfl); conv => whnf))
                refine br (fun q3 => ?_) (fun q3 => ?_)
                · conv => whnf
                  repeat (first | ((with_reducible apply Go.Vc.ld_i); (focus ((repeat (first | with_reducible assumption | with_reducible exact Go.Vc.hset_same _ _ _ | with_reducible refine (Go.Vc.hset_ne _ _ (by omega)).trans ?_)); done)); (focus exact rfl); conv => whnf))
                  refine br (fun q4 => ?_) (fun q4 => ?_)
                  · conv => whnf
                    repeat (first | ((with_reducible apply Go.Vc.ld_i); (focus ((repeat (first | with_reducible assumption | with_reducible exact Go.Vc.hset_same _ _ _ | with_reducible refine (Go.Vc.hset_ne _ _ (by omega)).trans ?_)); done)); (focus exact rfl); conv => whnf))
                    refine br (fun q5 => ?_) (fun q5 => ?_)
                    · conv => whnf
                      repeat (first | ((with_reducible apply Go.Vc.ld_i); (focus ((repeat (first | with_reducible assumption | with_reducible exact Go.Vc.hset_same _ _ _ | with_reducible refine (Go.Vc.hset_ne _ _ (by omega)).trans ?_)); done)); (focus exact rfl); conv => whnf))
                      refine bsel_t (by first | (rw [opq_eq, opq_eq, beq_iff_eq, decide_eq_decide]; omega) | (rw [opq_eq, decide_eq_false (by omega)]; rfl)) ?_
                      conv => whnf
                      repeat (first | (refine Go.Vc.br_t ?_ ?_; (focus omega); conv => whnf) | (refine Go.Vc.br_f ?_ ?_; (focus omega); conv => whnf))
                      first
                      | refine br_t hp2 ?_
                        conv => whnf
                      | skip
                      first
                      | exact ⟨rfl, nS⟩
                      | (refine co_eq ?_
                         conv => whnf
                         exact ⟨congrArg Value.bool (pair_eq hA hB), nS⟩)
                    · conv => whnf
                      refine bsel_t (by first | (rw [opq_eq, opq_eq, beq_iff_eq, decide_eq_decide]; omega) | (rw [opq_eq, decide_eq_false (by omega)]; rfl)) ?_
                      conv => whnf
                      repeat (first | (refine Go.Vc.br_t ?_ ?_; (focus omega); conv => whnf) | (refine Go.Vc.br_f ?_ ?_; (focus omega); conv => whnf))
                      first
                      | refine br_t hp2 ?_
                        conv => whnf
                      | skip
                      first
                      | exact ⟨rfl, nS⟩
                      | (refine co_eq ?_
                         conv => whnf
                         exact ⟨congrArg Value.bool (pair_eq hA hB), nS⟩)
                  · conv => whnf
                    refine bsel_t (by first | (rw [opq_eq, opq_eq, beq_iff_eq, decide_eq_decide]; omega) | (rw [opq_eq, decide_eq_false (by omega)]; rfl)) ?_
                    conv => whnf
                    repeat (first | (refine Go.Vc.br_t ?_ ?_; (focus omega); conv => whnf) | (refine Go.Vc.br_f ?_ ?_; (focus omega); conv => whnf))
                    first
                    | refine br_t hp2 ?_
                      conv => whnf
                    | skip
                    first
                    | exact ⟨rfl, nS⟩
                    | (refine co_eq ?_
                       conv => whnf
                       exact ⟨congrArg Value.bool (pair_eq hA hB), nS⟩)
                · conv => whnf
                  refine bsel_t (by first | (rw [opq_eq, opq_eq, beq_iff_eq, decide_eq_decide]; omega) | (rw [opq_eq, decide_eq_false (by omega)]; rfl)) ?_
                  conv => whnf
                  repeat (first | (refine Go.Vc.br_t ?_ ?_; (focus omega); conv => whnf) | (refine Go.Vc.br_f ?_ ?_; (focus omega); conv => whnf))
                  first
                  | refine br_t hp2 ?_
                    conv => whnf
                  | skip
                  first
                  | exact ⟨rfl, nS⟩
                  | (refine co_eq ?_
                     conv => whnf
                     exact ⟨congrArg Value.bool (pair_eq hA hB), nS⟩)
              · conv => whnf
                refine bsel_t (by first | (rw [opq_eq, opq_eq, beq_iff_eq, decide_eq_decide]; omega) | (rw [opq_eq, decide_eq_false (by omega)]; rfl)) ?_
                conv => whnf
                repeat (first | (refine Go.Vc.br_t ?_ ?_; (focus omega); conv => whnf) | (refine Go.Vc.br_f ?_ ?_; (focus omega); conv => whnf))
                first
                | refine br_t hp2 ?_
                  conv => whnf
                | skip
                first
                | exact ⟨rfl, nS⟩
                | (refine co_eq ?_
                   conv => whnf
                   exact ⟨congrArg Value.bool (pair_eq hA hB), nS⟩)
            · conv => whnf
              refine bsel_t (by first | (rw [opq_eq, opq_eq, beq_iff_eq, decide_eq_decide]; omega) | (rw [opq_eq, decide_eq_false (by omega)]; rfl)) ?_
              conv => whnf
              repeat (first | (refine Go.Vc.br_t ?_ ?_; (focus omega); conv => whnf) | (refine Go.Vc.br_f ?_ ?_; (focus omega); conv => whnf))
              first
              | refine br_t hp2 ?_
                conv => whnf
              | skip
              first
              | exact ⟨rfl, nS⟩
              | (refine co_eq ?_
                 conv => whnf
                 exact ⟨congrArg Value.bool (pair_eq hA hB), nS⟩)
      · conv => whnf
        repeat (first | ((with_reducible apply Go.Vc.ldrow); (focus ((repeat (first | with_reducible assumption | with_reducible exact Go.Vc.hset_same _ _ _ | with_reducible refine (Go.Vc.hset_ne _ _ (by omega)).trans ?_)); done)); (focus exact rfl); rintro _ rfl; conv => whnf) | ((with_reducible apply Go.Vc.strow); (focus ((repeat (first | with_reducible assumption | with_reducible exact Go.Vc.hset_same _ _ _ | with_reducible refine (Go.Vc.hset_ne _ _ (by omega)).trans ?_)); done)); (focus exact rfl); (focus exact rfl); (focus exact rfl); rintro _ rfl; conv => whnf) | (intro _ _; conv => whnf))
        refine (path_no 0 0 0 (by decide)).mono ?_
        rintro _ g9 t9 hd9 ht9 ⟨rfl, hs9, _⟩
        have n3 := hs9 r3 _ ((hset_ne _ _ (by omega)).trans ((hset_ne _ _ (by omega)).trans m3))
        have n4 := hs9 r4 _ ((hset_ne _ _ (by omega)).trans ((hset_ne _ _ (by omega)).trans m4))
        have nS : Vc.Sub h g9 := fun o x ho => hs9 _ _ (by
          have := hd _ _ ho
          repeat rw [hset_ne _ _ (by omega)]
          exact mS _ _ ho)
        by_cases hA2 : RightC a1 a2 a3
        · first
          | exact absurd hA2 hA
          | unfold RightC at hA2
            conv => whnf
            refine bsel_t (by first | (rw [opq_eq, opq_eq, beq_iff_eq, decide_eq_decide]; omega) | (rw [opq_eq, decide_eq_false (by omega)]; rfl)) ?_
            conv => whnf
            first
            | exact ⟨rfl, nS⟩
            | (refine co_eq ?_
               conv => whnf
               exact ⟨congrArg Value.bool (pair_eq hA hB), nS⟩)
        · first
          | exact absurd hA hA2
          | unfold RightC at hA2
            conv => whnf
            repeat (first | ((with_reducible apply Go.Vc.ld_i); (focus ((repeat (first | with_reducible assumption | with_reducible exact Go.Vc.hset_same _ _ _ | with_reducible refine (Go.Vc.hset_ne _ _ (by omega)).trans ?_)); done)); (focus exact rfl); conv => whnf))
            refine br (fun q1 => ?_) (fun q1 => ?_)
            · conv => whnf
              repeat (first | ((with_reducible apply Go.Vc.ld_i); (focus ((repeat (first | with_reducible assumption | with_reducible exact Go.Vc.hset_same _ _ _ | with_reducible refine (Go.Vc.hset_ne _ _ (by omega)).trans ?_)); done)); (focus exact rfl); conv => whnf))
              refine br (fun q2 => ?_) (fun q2 => ?_)
              · conv => whnf
                repeat (first | ((with_reducible apply Go.Vc.ld_i); (focus ((repeat (first | with_reducible assumption | with_reducible exact Go.Vc.hset_same _ _ _ | with_reducible refine (Go.Vc.hset_ne _ _ (by omega)).trans ?_)); done)); (focus exact rfl); conv => whnf))
                refine br (fun q3 => ?_) (fun q3 => ?_)
                · conv => whnf
                  repeat (first | ((with_reducible apply Go.Vc.ld_i); (focus ((repeat (first | with_reducible assumption | with_reducible exact Go.Vc.hset_same _ _ _ | with_reducible refine (Go.Vc.hset_ne _ _ (by omega)).trans ?_)); done)); (focus exact rfl); conv => whnf))
                  refine br (fun q4 => ?_) (fun q4 => ?_)
                  · conv => whnf
                    repeat (first | ((with_reducible apply Go.Vc.ld_i); (focus ((repeat (first | with_reducible assumption | with_reducible exact Go.Vc.hset_same _ _ _ | with_reducible refine (Go.Vc.hset_ne _ _ (by omega)).trans ?_)); done)); (focus exact rfl); conv => whnf))
                    refine br (fun q5 => ?_) (fun q5 => ?_)
                    · conv => whnf
                      repeat (first | ((with_reducible apply Go.Vc.ld_i); (focus ((repeat (first | with_reducible assumption | with_reducible exact Go.Vc.hset_same _ _ _ | with_reducible refine (Go.Vc.hset_ne _ _ (by omega)).trans ?_)); done)); (focus exact rfl); conv => whnf))
                      refine bsel_t (by first | (rw [opq_eq, opq_eq, beq_iff_eq, decide_eq_decide]; omega) | (rw [opq_eq, decide_eq_false (by omega)]; rfl)) ?_
                      conv => whnf
                      repeat (first | (refine Go.Vc.br_t ?_ ?_; (focus omega); conv => whnf))
                      first
                      | exact ⟨rfl, nS⟩
                      | (refine co_eq ?_
                         conv => whnf
                         exact ⟨congrArg Value.bool (pair_eq hA hB), nS⟩)
                    · conv => whnf
                      refine bsel_t (by first | (rw [opq_eq, opq_eq, beq_iff_eq, decide_eq_decide]; omega) | (rw [opq_eq, decide_eq_false (by omega)]; rfl)) ?_
                      conv => whnf
                      repeat (first | (refine Go.Vc.br_t ?_ ?_; (focus omega); conv => whnf))
                      first
                      | exact ⟨rfl, nS⟩
                      | (refine co_eq ?_
                         conv => whnf
                         exact ⟨congrArg Value.bool (pair_eq hA hB), nS⟩)
                  · conv => whnf
                    refine bsel_t (by first | (rw [opq_eq, opq_eq, beq_iff_eq, decide_eq_decide]; omega) | (rw [opq_eq, decide_eq_false (by omega)]; rfl)) ?_
                    conv => whnf
                    repeat (first | (refine Go.Vc.br_t ?_ ?_; (focus omega); conv => whnf))
                    first
                    | exact ⟨rfl, nS⟩
                    | (refine co_eq ?_
                       conv => whnf
                       exact ⟨congrArg Value.bool (pair_eq hA hB), nS⟩)
                · conv => whnf
                  refine bsel_t (by first | (rw [opq_eq, opq_eq, beq_iff_eq, decide_eq_decide]; omega) | (rw [opq_eq, decide_eq_false (by omega)]; rfl)) ?_
                  conv => whnf
                  repeat (first | (refine Go.Vc.br_t ?_ ?_; (focus omega); conv => whnf))
                  first
                  | exact ⟨rfl, nS⟩
                  | (refine co_eq ?_
                     conv => whnf
                     exact ⟨congrArg Value.bool (pair_eq hA hB), nS⟩)
              · conv => whnf
                refine bsel_t (by first | (rw [opq_eq, opq_eq, beq_iff_eq, decide_eq_decide]; omega) | (rw [opq_eq, decide_eq_false (by omega)]; rfl)) ?_
                conv => whnf
                repeat (first | (refine Go.Vc.br_t ?_ ?_; (focus omega); conv => whnf))
                first
                | exact ⟨rfl, nS⟩
                | (refine co_eq ?_
                   conv => whnf
                   exact ⟨congrArg Value.bool (pair_eq hA hB), nS⟩)
            · conv => whnf
              refine bsel_t (by first | (rw [opq_eq, opq_eq, beq_iff_eq, decide_eq_decide]; omega) | (rw [opq_eq, decide_eq_false (by omega)]; rfl)) ?_
              conv => whnf
              repeat (first | (refine Go.Vc.br_t ?_ ?_; (focus omega); conv => whnf))
              first
              | exact ⟨rfl, nS⟩
              | (refine co_eq ?_
                 conv => whnf
                 exact ⟨congrArg Value.bool (pair_eq hA hB), nS⟩)
    · refine (path_no b1 b2 b3 hB).mono ?_
      rintro _ g6 t6 hd6 ht6 ⟨rfl, hs6, _⟩
      have l3 := hs6 _ _ g3'
      have l4 := hs6 _ _ g4'
      have lS := gS5.trans hs6
      conv => whnf
      repeat (first | (refine Go.Vc.br_f ?_ ?_; (focus omega); conv => whnf))
      refine (takepath_spec s hs (hM.sub (fun o x ho => by
        have := hd _ _ ho
        repeat rw [hset_ne _ _ (by omega)]
        exact lS _ _ ho))).mono ?_
      rintro _ g8 t8 hd8 ht8 ⟨hres2, hs8, _⟩
      have m3 : g8 r3 = some (.cells #[.int .i64 a1, .int .i64 a2, .int .i64 a3] 23 (0, 0)) := hs8 _ _ (by
        repeat rw [hset_ne _ _ (by omega)]
        exact l3)
      have m4 : g8 r4 = some (.cells #[.int .i64 b1, .int .i64 b2, .int .i64 b3] 23 (0, 0)) := hs8 _ _ (by
        repeat rw [hset_ne _ _ (by omega)]
        exact l4)
      have mS : Vc.Sub h g8 := fun o x ho => hs8 _ _ (by
        have := hd _ _ ho
        repeat rw [hset_ne _ _ (by omega)]
        exact lS _ _ ho)
      rcases hres2 with ⟨lv, ix, wd, hR2, hp2, rfl⟩ | ⟨hno2, rfl⟩
      · conv => whnf
        repeat (first | ((with_reducible apply Go.Vc.ldrow); (focus ((repeat (first | with_reducible assumption | with_reducible exact Go.Vc.hset_same _ _ _ | with_reducible refine (Go.Vc.hset_ne _ _ (by omega)).trans ?_)); done)); (focus exact rfl); rintro _ rfl; conv => whnf) | ((with_reducible apply Go.Vc.strow); (focus ((repeat (first | with_reducible assumption | with_reducible exact Go.Vc.hset_same _ _ _ | with_reducible refine (Go.Vc.hset_ne _ _ (by omega)).trans ?_)); done)); (focus exact rfl); (focus exact rfl); (focus exact rfl); rintro _ rfl; conv => whnf) | (intro _ _; conv => whnf))
        refine (path_spec lv ix wd hR2).mono ?_
        rintro _ g9 t9 hd9 ht9 ⟨rfl, hs9, _⟩
        have n3 := hs9 r3 _ ((hset_ne _ _ (by omega)).trans ((hset_ne _ _ (by omega)).trans m3))
        have n4 := hs9 r4 _ ((hset_ne _ _ (by omega)).trans ((hset_ne _ _ (by omega)).trans m4))
        have nS : Vc.Sub h g9 := fun o x ho => hs9 _ _ (by
          have := hd _ _ ho
          repeat rw [hset_ne _ _ (by omega)]
          exact mS _ _ ho)
        by_cases hA2 : RightC a1 a2 a3
        · first
          | exact absurd hA2 hA
          | unfold RightC at hA2
            conv => whnf
            refine bsel_t (by first | (rw [opq_eq, opq_eq, beq_iff_eq, decide_eq_decide]; omega) | (rw [opq_eq, decide_eq_false (by omega)]; rfl)) ?_
            conv => whnf
            first
            | refine br_t hp2 ?_
              conv => whnf
            | skip
            first
            | exact ⟨rfl, nS⟩
            | (refine co_eq ?_
               conv => whnf
               exact ⟨congrArg Value.bool (pair_eq hA hB), nS⟩)
        · first
          | exact absurd hA hA2
          | unfold RightC at hA2
            conv => whnf
            repeat (first | ((with_reducible apply Go.Vc.ld_i); (focus ((repeat (first | with_reducible assumption | with_reducible exact Go.Vc.hset_same _ _ _ | with_reducible refine (Go.Vc.hset_ne _ _ (by omega)).trans ?_)); done)); (focus exact rfl); conv => whnf))
            refine br (fun q1 => ?_) (fun q1 => ?_)
            · conv => whnf
              repeat (first | ((with_reducible apply Go.Vc.ld_i); (focus ((repeat (first | with_reducible assumption | with_reducible exact Go.Vc.hset_same _ _ _ | with_reducible refine (Go.Vc.hset_ne _ _ (by omega)).trans ?_)); done)); (focus exact rfl); conv => whnf))
              refine br (fun q2 => ?_) (fun q2 => ?_)
              · conv => whnf
                repeat (first | ((with_reducible apply Go.Vc.ld_i); (focus ((repeat (first | with_reducible assumption | with_reducible exact Go.Vc.hset_same _ _ _ | with_reducible refine (Go.Vc.hset_ne _ _ (by omega)).trans ?_)); done)); (focus exact rfl); conv => whnf))
                refine br (fun q3 => ?_) (fun q3 => ?_)
                · conv => whnf
                  repeat (first | ((with_reducible apply Go.Vc.ld_i); (focus ((repeat (first | with_reducible assumption | with_reducible exact Go.Vc.hset_same _ _ _ | with_reducible refine (Go.Vc.hset_ne _ _ (by omega)).trans ?_)); done)); (focus exact rfl); conv => whnf))
                  refine br (fun q4 => ?_) (fun q4 => ?_)
                  · conv => whnf
                    repeat (first | ((with_reducible apply Go.Vc.ld_i); (focus ((repeat (first | with_reducible assumption | with_reducible exact Go.Vc.hset_same _ _ _ | with_reducible refine (Go.Vc.hset_ne _ _ (by omega)).trans ?_)); done)); (focus exact rfl); conv => whnf))
                    refine br (fun q5 => ?_) (fun q5 => ?_)
                    · conv => whnf
                      repeat (first | ((with_reducible apply Go.Vc.ld_i); (focus ((repeat (first | with_reducible assumption | with_reducible exact Go.Vc.hset_same _ _ _ | with_reducible refine (Go.Vc.hset_ne _ _ (by omega)).trans ?_)); done)); (focus exact rfl); conv => whnf))
                      refine bsel_t (by first | (rw [opq_eq, opq_eq, beq_iff_eq, decide_eq_decide]; omega) | (rw [opq_eq, decide_eq_false (by omega)]; rfl)) ?_
                      conv => whnf
                      repeat (first | (refine Go.Vc.br_t ?_ ?_; (focus omega); conv => whnf) | (refine Go.Vc.br_f ?_ ?_; (focus omega); conv => whnf))
                      first
                      | refine br_t hp2 ?_
                        conv => whnf
                      | skip
                      first
                      | exact ⟨rfl, nS⟩
                      | (refine co_eq ?_
                         conv => whnf
                         exact ⟨congrArg Value.bool (pair_eq hA hB), nS⟩)
                    · conv => whnf
                      refine bsel_t (by first | (rw [opq_eq, opq_eq, beq_iff_eq, decide_eq_decide]; omega) | (rw [opq_eq, decide_eq_false (by omega)]; rfl)) ?_
                      conv => whnf
                      repeat (first | (refine Go.Vc.br_t ?_ ?_; (focus omega); conv => whnf) | (refine Go.Vc.br_f ?_ ?_; (focus omega); conv => whnf))
                      first
                      | refine br_t hp2 ?_
                        conv => whnf
                      | skip
                      first
                      | exact ⟨rfl, nS⟩
                      | (refine co_eq ?_
                         conv => whnf
                         exact ⟨congrArg Value.bool (pair_eq hA hB), nS⟩)
                  · conv => whnf
                    refine bsel_t (by first | (rw [opq_eq, opq_eq, beq_iff_eq, decide_eq_decide]; omega) | (rw [opq_eq, decide_eq_false (by omega)]; rfl)) ?_
                    conv => whnf
                    repeat (first | (refine Go.Vc.br_t ?_ ?_; (focus omega); conv => whnf) | (refine Go.Vc.br_f ?_ ?_; (focus omega); conv => whnf))
                    first
                    | refine br_t hp2 ?_
                      conv => whnf
                    | skip
                    first
                    | exact ⟨rfl, nS⟩
                    | (refine co_eq ?_
                       conv => whnf
                       exact ⟨congrArg Value.bool (pair_eq hA hB), nS⟩)
                · conv => whnf
                  refine bsel_t (by first | (rw [opq_eq, opq_eq, beq_iff_eq, decide_eq_decide]; omega) | (rw [opq_eq, decide_eq_false (by omega)]; rfl)) ?_
                  conv => whnf
                  repeat (first | (refine Go.Vc.br_t ?_ ?_; (focus omega); conv => whnf) | (refine Go.Vc.br_f ?_ ?_; (focus omega); conv => whnf))
                  first
                  | refine br_t hp2 ?_
                    conv => whnf
                  | skip
                  first
                  | exact ⟨rfl, nS⟩
                  | (refine co_eq ?_
                     conv => whnf
                     exact ⟨congrArg Value.bool (pair_eq hA hB), nS⟩)
              · conv => whnf
                refine bsel_t (by first | (rw [opq_eq, opq_eq, beq_iff_eq, decide_eq_decide]; omega) | (rw [opq_eq, decide_eq_false (by omega)]; rfl)) ?_
                conv => whnf
                repeat (first | (refine Go.Vc.br_t ?_ ?_; (focus omega); conv => whnf) | (refine Go.Vc.br_f ?_ ?_; (focus omega); conv => whnf))
                first
                | refine br_t hp2 ?_
                  conv => whnf
                | skip
                first
                | exact ⟨rfl, nS⟩
                | (refine co_eq ?_
                   conv => whnf
                   exact ⟨congrArg Value.bool (pair_eq hA hB), nS⟩)
            · conv => whnf
              refine bsel_t (by first | (rw [opq_eq, opq_eq, beq_iff_eq, decide_eq_decide]; omega) | (rw [opq_eq, decide_eq_false (by omega)]; rfl)) ?_
              conv => whnf
              repeat (first | (refine Go.Vc.br_t ?_ ?_; (focus omega); conv => whnf) | (refine Go.Vc.br_f ?_ ?_; (focus omega); conv => whnf))
              first
              | refine br_t hp2 ?_
                conv => whnf
              | skip
              first
              | exact ⟨rfl, nS⟩
              | (refine co_eq ?_
                 conv => whnf
                 exact ⟨congrArg Value.bool (pair_eq hA hB), nS⟩)
      · conv => whnf
        repeat (first | ((with_reducible apply Go.Vc.ldrow); (focus ((repeat (first | with_reducible assumption | with_reducible exact Go.Vc.hset_same _ _ _ | with_reducible refine (Go.Vc.hset_ne _ _ (by omega)).trans ?_)); done)); (focus exact rfl); rintro _ rfl; conv => whnf) | ((with_reducible apply Go.Vc.strow); (focus ((repeat (first | with_reducible assumption | with_reducible exact Go.Vc.hset_same _ _ _ | with_reducible refine (Go.Vc.hset_ne _ _ (by omega)).trans ?_)); done)); (focus exact rfl); (focus exact rfl); (focus exact rfl); rintro _ rfl; conv => whnf) | (intro _ _; conv => whnf))
        refine (path_no 0 0 0 (by decide)).mono ?_
        rintro _ g9 t9 hd9 ht9 ⟨rfl, hs9, _⟩
        have n3 := hs9 r3 _ ((hset_ne _ _ (by omega)).trans ((hset_ne _ _ (by omega)).trans m3))
        have n4 := hs9 r4 _ ((hset_ne _ _ (by omega)).trans ((hset_ne _ _ (by omega)).trans m4))
        have nS : Vc.Sub h g9 := fun o x ho => hs9 _ _ (by
          have := hd _ _ ho
          repeat rw [hset_ne _ _ (by omega)]
          exact mS _ _ ho)
        by_cases hA2 : RightC a1 a2 a3
        · first
          | exact absurd hA2 hA
          | unfold RightC at hA2
            conv => whnf
            refine bsel_t (by first | (rw [opq_eq, opq_eq, beq_iff_eq, decide_eq_decide]; omega) | (rw [opq_eq, decide_eq_false (by omega)]; rfl)) ?_
            conv => whnf
            first
            | exact ⟨rfl, nS⟩
            | (refine co_eq ?_
               conv => whnf
               exact ⟨congrArg Value.bool (pair_eq hA hB), nS⟩)
        · first
          | exact absurd hA hA2
          | unfold RightC at hA2
            conv => whnf
            repeat (first | ((with_reducible apply Go.Vc.ld_i); (focus ((repeat (first | with_reducible assumption | with_reducible exact Go.Vc.hset_same _ _ _ | with_reducible refine (Go.Vc.hset_ne _ _ (by omega)).trans ?_)); done)); (focus exact rfl); conv => whnf))
            refine br (fun q1 => ?_) (fun q1 => ?_)
            · conv => whnf
              repeat (first | ((with_reducible apply Go.Vc.ld_i); (focus ((repeat (first | with_reducible assumption | with_reducible exact Go.Vc.hset_same _ _ _ | with_reducible refine (Go.Vc.hset_ne _ _ (by omega)).trans ?_)); done)); (focus exact rfl); conv => whnf))
              refine br (fun q2 => ?_) (fun q2 => ?_)
              · conv => whnf
                repeat (first | ((with_reducible apply Go.Vc.ld_i); (focus ((repeat (first | with_reducible assumption | with_reducible exact Go.Vc.hset_same _ _ _ | with_reducible refine (Go.Vc.hset_ne _ _ (by omega)).trans ?_)); done)); (focus exact rfl); conv => whnf))
                refine br (fun q3 => ?_) (fun q3 => ?_)
                · conv => whnf
                  repeat (first | ((with_reducible apply Go.Vc.ld_i); (focus ((repeat (first | with_reducible assumption | with_reducible exact Go.Vc.hset_same _ _ _ | with_reducible refine (Go.Vc.hset_ne _ _ (by omega)).trans ?_)); done)); (focus exact rfl); conv => whnf))
                  refine br (fun q4 => ?_) (fun q4 => ?_)
                  · conv => whnf
                    repeat (first | ((with_reducible apply Go.Vc.ld_i); (focus ((repeat (first | with_reducible assumption | with_reducible exact Go.Vc.hset_same _ _ _ | with_reducible refine (Go.Vc.hset_ne _ _ (by omega)).trans ?_)); done)); (focus exact rfl); conv => whnf))
                    refine br (fun q5 => ?_) (fun q5 => ?_)
                    · conv => whnf
                      repeat (first | ((with_reducible apply Go.Vc.ld_i); (focus ((repeat (first | with_reducible assumption | with_reducible exact Go.Vc.hset_same _ _ _ | with_reducible refine (Go.Vc.hset_ne _ _ (by omega)).trans ?_)); done)); (focus exact rfl); conv => whnf))
                      refine bsel_t (by first | (rw [opq_eq, opq_eq, beq_iff_eq, decide_eq_decide]; omega) | (rw [opq_eq, decide_eq_false (by omega)]; rfl)) ?_
                      conv => whnf
                      repeat (first | (refine Go.Vc.br_t ?_ ?_; (focus omega); conv => whnf))
                      first
                      | exact ⟨rfl, nS⟩
                      | (refine co_eq ?_
                         conv => whnf
                         exact ⟨congrArg Value.bool (pair_eq hA hB), nS⟩)
                    · conv => whnf
                      refine bsel_t (by first | (rw [opq_eq, opq_eq, beq_iff_eq, decide_eq_decide]; omega) | (rw [opq_eq, decide_eq_false (by omega)]; rfl)) ?_
                      conv => whnf
                      repeat (first | (refine Go.Vc.br_t ?_ ?_; (focus omega); conv => whnf))
                      first
                      | exact ⟨rfl, nS⟩
                      | (refine co_eq ?_
                         conv => whnf
                         exact ⟨congrArg Value.bool (pair_eq hA hB), nS⟩)
                  · conv => whnf
                    refine bsel_t (by first | (rw [opq_eq, opq_eq, beq_iff_eq, decide_eq_decide]; omega) | (rw [opq_eq, decide_eq_false (by omega)]; rfl)) ?_
                    conv => whnf
                    repeat (first | (refine Go.Vc.br_t ?_ ?_; (focus omega); conv => whnf))
                    first
                    | exact ⟨rfl, nS⟩
                    | (refine co_eq ?_
                       conv => whnf
                       exact ⟨congrArg Value.bool (pair_eq hA hB), nS⟩)
                · conv => whnf
                  refine bsel_t (by first | (rw [opq_eq, opq_eq, beq_iff_eq, decide_eq_decide]; omega) | (rw [opq_eq, decide_eq_false (by omega)]; rfl)) ?_
                  conv => whnf
                  repeat (first | (refine Go.Vc.br_t ?_ ?_; (focus omega); conv => whnf))
                  first
                  | exact ⟨rfl, nS⟩
                  | (refine co_eq ?_
                     conv => whnf
                     exact ⟨congrArg Value.bool (pair_eq hA hB), nS⟩)
              · conv => whnf
                refine bsel_t (by first | (rw [opq_eq, opq_eq, beq_iff_eq, decide_eq_decide]; omega) | (rw [opq_eq, decide_eq_false (by omega)]; rfl)) ?_
                conv => whnf
                repeat (first | (refine Go.Vc.br_t ?_ ?_; (focus omega); conv => whnf))
                first
                | exact ⟨rfl, nS⟩
                | (refine co_eq ?_
                   conv => whnf
                   exact ⟨congrArg Value.bool (pair_eq hA hB), nS⟩)
            · conv => whnf
              refine bsel_t (by first | (rw [opq_eq, opq_eq, beq_iff_eq, decide_eq_decide]; omega) | (rw [opq_eq, decide_eq_false (by omega)]; rfl)) ?_
              conv => whnf
              repeat (first | (refine Go.Vc.br_t ?_ ?_; (focus omega); conv => whnf))
              first
              | exact ⟨rfl, nS⟩
              | (refine co_eq ?_
                 conv => whnf
                 exact ⟨congrArg Value.bool (pair_eq hA hB), nS⟩)
end Go.Proofs.YtlkpgjicpjjlcaaDoor
