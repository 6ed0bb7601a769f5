import Derived.Test.YtlkpgjicpjjlcaaGreatDoorTileTkp
/- The levels, handed on. -/
set_option linter.unusedSimpArgs false
namespace Go.Proofs.YtlkpgjicpjjlcaaGreatDoor
open Go Go.Vc Go.Tile
set_option maxRecDepth 20000
set_option linter.unusedVariables false
def lvAt (k : Nat) : Int × Nat := lvls.getD k (0, 0)
theorem all_spec {h : Heap} {t l : Nat} (I : Nat → Heap → Nat → Prop) (I0 : I 0 h t)
    (step : ∀ k h' t', k < 5 → t ≤ t' → Dom h' t' → I k h' t' → YieldSpec Tryz.prog l #[.int .i64 (lvAt k).1, .int .i64 ((lvAt k).2 : Nat)] h' t' (fun b h'' t'' => b = .bool true ∧ I (k + 1) h'' t'')) :
    CallSpec Tryz.prog 69 #[.func (.yield l) #[] #[]] h t (fun _ h' t' => I 5 h' t') := by
  refine Go.Vc.spec_of_vcI (fn := Tryz.f69) Tryz.func69 rfl (by kernel_rfl) (by kernel_rfl) (Nat.le_of_ble_eq_true rfl) ?_
  intro hd
  conv => whnf
  refine loop_introI (fun (k : Nat) => [(0, .func (.yield l) #[] #[]), (3, .int .i64 (k : Nat))])
    (fun k h' t' => k ≤ 4 ∧ t ≤ t' ∧ I k h' t') (fun k => 4 - k) 0 ⟨rfl, rfl, trivial⟩ ⟨by omega, by omega, I0⟩ ?_
  rintro k e1 g t1 hd1 ⟨hk, ht1, hI⟩
  conv => whnf
  refine br (fun hb => ?_) (fun hb => ?_)
  · rcases (show k = 0 ∨ k = 1 ∨ k = 2 ∨ k = 3 by omega) with rfl | rfl | rfl | rfl
    · conv => whnf
      repeat (first | ((with_reducible apply Go.Vc.wr_i64); (focus exact And.intro (by omega) (by omega)); conv => whnf) | ((with_reducible apply Go.Vc.one_shl); (focus exact And.intro (by omega) (by omega)); intro zP hzP hzP0 hzP1; conv => whnf) | ((with_reducible apply Go.Vc.and_leI); (focus omega); conv => whnf))
      obtain rfl : zP = (lvAt 0).2 := hzP.trans (by decide)
      refine (step 0 g t1 (by omega) ht1 hd1 hI).mono ?_
      rintro _ g2 t2 hd2 ht2 ⟨rfl, hI2⟩
      conv => whnf
      repeat (first | ((with_reducible apply Go.Vc.wr_i64); (focus exact And.intro (by omega) (by omega)); conv => whnf))
      exact ⟨rfl, round_end 1 (by omega) ⟨rfl, rfl, trivial⟩ ⟨by omega, by omega, hI2⟩⟩
    · conv => whnf
      repeat (first | ((with_reducible apply Go.Vc.wr_i64); (focus exact And.intro (by omega) (by omega)); conv => whnf) | ((with_reducible apply Go.Vc.one_shl); (focus exact And.intro (by omega) (by omega)); intro zP hzP hzP0 hzP1; conv => whnf) | ((with_reducible apply Go.Vc.and_leI); (focus omega); conv => whnf))
      obtain rfl : zP = (lvAt 1).2 := hzP.trans (by decide)
      refine (step 1 g t1 (by omega) ht1 hd1 hI).mono ?_
      rintro _ g2 t2 hd2 ht2 ⟨rfl, hI2⟩
      conv => whnf
      repeat (first | ((with_reducible apply Go.Vc.wr_i64); (focus exact And.intro (by omega) (by omega)); conv => whnf))
      exact ⟨rfl, round_end 2 (by omega) ⟨rfl, rfl, trivial⟩ ⟨by omega, by omega, hI2⟩⟩
    · conv => whnf
      repeat (first | ((with_reducible apply Go.Vc.wr_i64); (focus exact And.intro (by omega) (by omega)); conv => whnf) | ((with_reducible apply Go.Vc.one_shl); (focus exact And.intro (by omega) (by omega)); intro zP hzP hzP0 hzP1; conv => whnf) | ((with_reducible apply Go.Vc.and_leI); (focus omega); conv => whnf))
      obtain rfl : zP = (lvAt 2).2 := hzP.trans (by decide)
      refine (step 2 g t1 (by omega) ht1 hd1 hI).mono ?_
      rintro _ g2 t2 hd2 ht2 ⟨rfl, hI2⟩
      conv => whnf
      repeat (first | ((with_reducible apply Go.Vc.wr_i64); (focus exact And.intro (by omega) (by omega)); conv => whnf))
      exact ⟨rfl, round_end 3 (by omega) ⟨rfl, rfl, trivial⟩ ⟨by omega, by omega, hI2⟩⟩
    · conv => whnf
      repeat (first | ((with_reducible apply Go.Vc.wr_i64); (focus exact And.intro (by omega) (by omega)); conv => whnf) | ((with_reducible apply Go.Vc.one_shl); (focus exact And.intro (by omega) (by omega)); intro zP hzP hzP0 hzP1; conv => whnf) | ((with_reducible apply Go.Vc.and_leI); (focus omega); conv => whnf))
      obtain rfl : zP = (lvAt 3).2 := hzP.trans (by decide)
      refine (step 3 g t1 (by omega) ht1 hd1 hI).mono ?_
      rintro _ g2 t2 hd2 ht2 ⟨rfl, hI2⟩
      conv => whnf
      repeat (first | ((with_reducible apply Go.Vc.wr_i64); (focus exact And.intro (by omega) (by omega)); conv => whnf))
      exact ⟨rfl, round_end 4 (by omega) ⟨rfl, rfl, trivial⟩ ⟨by omega, by omega, hI2⟩⟩
  · obtain rfl : k = 4 := by omega
    conv => whnf
    refine (step 4 g t1 (by omega) ht1 hd1 hI).mono ?_
    rintro _ g2 t2 hd2 ht2 ⟨rfl, hI2⟩
    conv => whnf
    exact hI2
end Go.Proofs.YtlkpgjicpjjlcaaGreatDoor
