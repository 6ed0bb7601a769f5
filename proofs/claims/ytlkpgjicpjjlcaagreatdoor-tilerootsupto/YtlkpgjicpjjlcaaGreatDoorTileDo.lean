import Derived.Test.YtlkpgjicpjjlcaaGreatDoorTileSlow
/- Do, as a contract. -/
set_option linter.unusedSimpArgs false
namespace Go.Proofs.YtlkpgjicpjjlcaaGreatDoor
open Go Go.Vc Go.Tile
set_option maxRecDepth 20000
set_option linter.unusedVariables false
theorem frozen_no {g w : World} {h : Heap} {t b i : Nat} {c : Array Value} {T : TypeId} (hr : Rel g h t w) (hb : h b = some (.cells c T (0, 0))) : w.frozen? ⟨b, i, none⟩ = false := by
  have := hr.blk _ _ hb
  simp [World.frozen?, this]
theorem do_spec {h : Heap} {t b : Nat} {c : Array Value} {T : TypeId} {K : Array Value → Heap → Nat → Prop} (hb : h b = some (.cells c T (0, 0))) (hc0 : c[0]? = some (.int .u32 0)) (hc1 : c[1]? = some (.int .i32 0))
    (build : CallSpec Tryz.prog 64 #[.pointer (some ⟨b, 0, none⟩)] (hset h b (.cells (c.setIfInBounds 1 (.int .i32 1)) T (0, 0))) t (fun v h' t' => v = .tuple #[] ∧ ∃ c' : Array Value, h' b = some (.cells c' T (0, 0)) ∧ c'[0]? = some (.int .u32 0) ∧ c'[1]? = some (.int .i32 1) ∧ K c' h' t')) :
    CallSpec Tryz.prog 63 #[.pointer (some ⟨b, 0, none⟩), .func (.func 64) #[.pointer (some ⟨b, 0, none⟩)] #[]] h t
      (fun v h'' t' => v = .tuple #[] ∧ ∃ (h' : Heap) (c' : Array Value), h' b = some (.cells c' T (0, 0)) ∧ K c' h' t' ∧ h'' = hset h' b (.cells ((c'.setIfInBounds 0 (.int .u32 1)).setIfInBounds 1 (.int .i32 0)) T (0, 0))) := by
  refine ⟨callable_of Tryz.func63 rfl (by kernel_rfl), fun g w hr => ?_⟩
  have e0 : w.cell? ⟨b, 0, none⟩ = some (.int .u32 0) := (cell_of_rel hr hb rfl).trans hc0
  have e1 : w.cell? ⟨b, 1, none⟩ = some (.int .i32 0) := (cell_of_rel hr hb rfl).trans hc1
  have hr1 := hr.setCell (i := 1) (.int .i32 1) hb
  refine (do_world b w e0 e1 (frozen_no hr hb) (R := fun w' => ∃ (h' : Heap) (t' : Nat) (c' : Array Value), Rel g h' t' w' ∧ t ≤ t' ∧ h' b = some (.cells c' T (0, 0)) ∧ c'[0]? = some (.int .u32 0) ∧ c'[1]? = some (.int .i32 1) ∧ K c' h' t') (build.callable _ _) ?_ ?_).mono ?_
  · refine (build.runs g _ hr1).mono ?_
    rintro e w' ⟨v, h', t', rfl, hr', ht', rfl, c', k1, k2, k3, k4⟩
    exact ⟨rfl, h', t', c', hr', ht', k1, k2, k3, k4⟩
  · rintro w' ⟨h', t', c', hr', ht', k1, k2, k3, k4⟩
    exact ⟨(cell_of_rel hr' k1 rfl).trans k2, (cell_of_rel hr' k1 rfl).trans k3, frozen_no hr' k1, frozen_no hr' k1⟩
  · rintro e w'' ⟨rfl, w', ⟨h', t', c', hr', ht', k1, k2, k3, k4⟩, rfl⟩
    have hra := hr'.drew.setCell (i := 0) (.int .u32 1) k1
    have hrb := hra.setCell (i := 1) (.int .i32 0) (hset_same _ _ _)
    refine ⟨_, _, t', rfl, hrb, ht', rfl, h', c', k1, k4, ?_⟩
    funext k
    unfold hset
    split <;> rfl
end Go.Proofs.YtlkpgjicpjjlcaaGreatDoor
