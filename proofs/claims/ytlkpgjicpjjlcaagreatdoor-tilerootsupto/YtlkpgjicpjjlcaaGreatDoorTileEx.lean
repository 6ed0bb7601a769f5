import Derived.Test.YtlkpgjicpjjlcaaGreatDoorTileGr
import Derived.Test.YtlkpgjicpjjlcaaGreatDoorTileEq
/- The examples. -/
set_option linter.unusedSimpArgs false
namespace Go.Proofs.YtlkpgjicpjjlcaaGreatDoor
open Go Go.Vc Go.Tile
set_option maxRecDepth 20000
set_option linter.unusedVariables false
theorem grown_no {h : Heap} {t : Nat} (old n : Int) (hno : old < 0 ∨ old > n ∨ n > 1073741824) :
    CallSpec Tryz.prog 13 #[.int .i64 old, .int .i64 n] h t (fun v h' t' => v = .slice none 0 0 ∧ Vc.Sub h h' ∧ t ≤ t') := by
  refine Go.Vc.spec_of_vcI (fn := Tryz.f13) Tryz.func13 rfl (by kernel_rfl) (by kernel_rfl) (Nat.le_of_ble_eq_true rfl) ?_
  intro hd
  conv => whnf
  repeat (first | ((with_reducible apply Go.Vc.ld_i); (focus ((repeat (first | with_reducible assumption | with_reducible exact Go.Vc.hset_same _ _ _ | with_reducible refine (Go.Vc.hset_ne _ _ (by omega)).trans ?_)); done)); (focus exact rfl); conv => whnf) | (intro _ _; conv => whnf))
  refine br (fun h1 => ?_) (fun h1 => ?_)
  · conv => whnf
    repeat (first | ((with_reducible apply Go.Vc.ld_i); (focus ((repeat (first | with_reducible assumption | with_reducible exact Go.Vc.hset_same _ _ _ | with_reducible refine (Go.Vc.hset_ne _ _ (by omega)).trans ?_)); done)); (focus exact rfl); conv => whnf) | ((with_reducible apply Go.Vc.st_i); (focus ((repeat (first | with_reducible assumption | with_reducible exact Go.Vc.hset_same _ _ _ | with_reducible refine (Go.Vc.hset_ne _ _ (by omega)).trans ?_)); done)); (focus exact rfl); (focus exact rfl); (focus exact rfl); (conv => whnf); intro cA hcA; (first | (simp only [List.setIfInBounds_toArray, List.set_cons_succ, List.set_cons_zero] at hcA; subst hcA) | subst hcA); conv => whnf))
    refine ⟨rfl, ?_, by omega⟩
    intro b o hb
    have := hd _ _ hb
    repeat rw [hset_ne _ _ (by omega)]
    exact hb
  · conv => whnf
    repeat (first | ((with_reducible apply Go.Vc.ld_i); (focus ((repeat (first | with_reducible assumption | with_reducible exact Go.Vc.hset_same _ _ _ | with_reducible refine (Go.Vc.hset_ne _ _ (by omega)).trans ?_)); done)); (focus exact rfl); conv => whnf))
    refine br (fun h2 => ?_) (fun h2 => ?_)
    · conv => whnf
      repeat (first | ((with_reducible apply Go.Vc.ld_i); (focus ((repeat (first | with_reducible assumption | with_reducible exact Go.Vc.hset_same _ _ _ | with_reducible refine (Go.Vc.hset_ne _ _ (by omega)).trans ?_)); done)); (focus exact rfl); conv => whnf) | ((with_reducible apply Go.Vc.st_i); (focus ((repeat (first | with_reducible assumption | with_reducible exact Go.Vc.hset_same _ _ _ | with_reducible refine (Go.Vc.hset_ne _ _ (by omega)).trans ?_)); done)); (focus exact rfl); (focus exact rfl); (focus exact rfl); (conv => whnf); intro cA hcA; (first | (simp only [List.setIfInBounds_toArray, List.set_cons_succ, List.set_cons_zero] at hcA; subst hcA) | subst hcA); conv => whnf))
      refine ⟨rfl, ?_, by omega⟩
      intro b o hb
      have := hd _ _ hb
      repeat rw [hset_ne _ _ (by omega)]
      exact hb
    · conv => whnf
      repeat (first | ((with_reducible apply Go.Vc.ld_i); (focus ((repeat (first | with_reducible assumption | with_reducible exact Go.Vc.hset_same _ _ _ | with_reducible refine (Go.Vc.hset_ne _ _ (by omega)).trans ?_)); done)); (focus exact rfl); conv => whnf) | ((with_reducible apply Go.Vc.st_i); (focus ((repeat (first | with_reducible assumption | with_reducible exact Go.Vc.hset_same _ _ _ | with_reducible refine (Go.Vc.hset_ne _ _ (by omega)).trans ?_)); done)); (focus exact rfl); (focus exact rfl); (focus exact rfl); (conv => whnf); intro cA hcA; (first | (simp only [List.setIfInBounds_toArray, List.set_cons_succ, List.set_cons_zero] at hcA; subst hcA) | subst hcA); conv => whnf) | (refine Go.Vc.br_t ?_ ?_; (focus omega); conv => whnf))
      refine ⟨rfl, ?_, by omega⟩
      intro b o hb
      have := hd _ _ hb
      repeat rw [hset_ne _ _ (by omega)]
      exact hb
theorem takeRes_good {s : ByteArray} {v : Value} {lv ix wd : Int} (hR : RightC lv ix wd) (hp : pathS lv ix wd = s) (h : TakeRes s v) : v = .tuple #[coordV lv ix wd, .int .i64 0] := by
  rcases h with ⟨lv', ix', wd', h1, h2, h3⟩ | ⟨h1, _⟩
  · obtain ⟨e1, e2, e3⟩ := pathS_inj hR h1 (hp.trans h2.symm)
    rw [h3, e1, e2, e3]
  · exact absurd hp (h1 _ _ _ hR)
theorem examples_spec {h : Heap} {t : Nat} (hM : MaxC h) :
    CallSpec Tryz.prog 7 #[] h t (fun v h' t' => v = .bool true ∧ Vc.Sub h h' ∧ t ≤ t') := by
  refine Go.Vc.spec_of_vc (fn := Tryz.f7) Tryz.func7 rfl (by kernel_rfl) (by kernel_rfl) (Nat.le_of_ble_eq_true rfl) ?_
  intro hd
  conv => whnf
  refine (path_spec 0 1234067 5 (by decide)).mono ?_
  rintro _ g t1 hd1 ht1 ⟨rfl, hs1, _⟩
  conv => whnf
  refine (takepath_spec _ (by decide) (hM.sub hs1)).mono ?_
  rintro _ g2 t2 hd2 ht2 ⟨hres, hs2, _⟩
  have hp : pathS (-1) 0 256 = ⟨#[116, 105, 108, 101, 47, 100, 97, 116, 97, 47, 48, 48, 48]⟩ := by decide
  obtain rfl := takeRes_good (by decide) hp hres
  conv => whnf
  repeat (first | ((with_reducible apply Go.Vc.strow); (focus ((repeat (first | with_reducible assumption | with_reducible exact Go.Vc.hset_same _ _ _ | with_reducible refine (Go.Vc.hset_ne _ _ (by omega)).trans ?_)); done)); (focus exact rfl); (focus exact rfl); (focus exact rfl); rintro _ rfl; conv => whnf) | (intro _ _; conv => whnf))
  rename_i r3 hr3
  refine (grown_spec 0 257 (by omega) (by omega)).mono ?_
  rintro _ g3 t3 hd3 ht3 ⟨a, c, rfl, hown, hw, hs3, _⟩
  have e257 : grownL 0 257 = [(0, 0, 256), (0, 1, 1), (1, 0, 1), (-1, 0, 256), (-1, 1, 1)] := by decide
  rw [e257] at hown
  have el : (grownL 0 257).length = 5 := by rw [e257]; rfl
  rw [el]
  change Vc.Own g3 23 a (5 * 3) (c * 3) id _ at hown
  have hsl := hown.sl
  have h3 := hs3 _ _ (hset_same _ _ _)
  conv => whnf
  refine br_t (by decide) ?_
  conv => whnf
  repeat (first | ((with_reducible apply Go.Vc.ldrow); (focus ((repeat (first | with_reducible assumption | with_reducible exact Go.Vc.hset_same _ _ _ | with_reducible refine (Go.Vc.hset_ne _ _ (by omega)).trans ?_)); done)); (focus exact rfl); rintro _ rfl; conv => whnf) | (refine Go.Vc.br_t ?_ ?_; (focus omega); conv => whnf))
  refine co_eq ?_
  conv => whnf
  repeat (first | ((with_reducible refine And.intro (And.intro ?_ ?_) ?_); (focus omega); (focus omega); conv => whnf) | (refine Go.Vc.br_t ?_ ?_; (focus omega); conv => whnf))
  refine (slW_ix (i := 1) (n := 5) hsl co_len (by decide) ⟨by decide, by decide⟩ ?_).2
  intro x1 b1 off1 hx1 ha1 hrow1
  obtain rfl : ((0, 1, 1) : Co) = x1 := Option.some.inj hx1
  conv => whnf
  refine hrow1.row rfl (by decide) ?_
  conv => whnf
  refine co_eq ?_
  conv => whnf
  repeat (first | ((with_reducible refine And.intro (And.intro ?_ ?_) ?_); (focus omega); (focus omega); conv => whnf))
  refine (slW_ix (i := 2) (n := 5) hsl co_len (by decide) ⟨by decide, by decide⟩ ?_).2
  intro x2 b2 off2 hx2 ha2 hrow2
  obtain rfl : ((1, 0, 1) : Co) = x2 := Option.some.inj hx2
  conv => whnf
  refine hrow2.row rfl (by decide) ?_
  conv => whnf
  refine co_eq ?_
  conv => whnf
  refine ⟨rfl, ?_, by omega⟩
  intro b o hb
  have h1 := hs2 _ _ (hs1 _ _ hb)
  have h2 := hd2 _ _ h1
  refine hs3 _ _ ?_
  repeat rw [hset_ne _ _ (by omega)]
  exact h1
end Go.Proofs.YtlkpgjicpjjlcaaGreatDoor
