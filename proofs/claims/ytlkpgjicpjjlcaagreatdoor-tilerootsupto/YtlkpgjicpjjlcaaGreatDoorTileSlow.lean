import Derived.Test.YtlkpgjicpjjlcaaGreatDoorTileOnce
/- A Once's first call, and Do. -/
set_option linter.unusedVariables false
set_option linter.unusedSimpArgs false
namespace Go.Vc
open Go
theorem Rel.setCell {g w : World} {h : Heap} {t b i : Nat} {c : Array Value} {T : TypeId} {fr : Nat × Nat} (v : Value) (hr : Rel g h t w) (hb : h b = some (.cells c T fr)) : Rel g (hset h b (.cells (c.setIfInBounds i v) T fr)) t (w.setCell ⟨b, i, none⟩ v) := by
  have hblk := hr.blk _ _ hb
  refine hr.setBlock rfl rfl rfl (by simp [World.setCell]) ?_ (hr.dom _ _ hb) ?_
  · simp [World.setCell, Array.getElem?_modify, hblk]
  · intro k hk; simp only [World.setCell, Array.getElem?_modify]; rw [if_neg (fun e => hk e.symm)]
theorem Rel.drew {g w : World} {h : Heap} {t : Nat} (hr : Rel g h t w) : Rel g h t w.drew := ⟨hr.os, hr.tape, hr.output, hr.blk, hr.dom, hr.top⟩
end Go.Vc
namespace Go.Proofs.YtlkpgjicpjjlcaaGreatDoor
open Go
set_option maxRecDepth 100000
set_option maxHeartbeats 4000000
theorem slow_world (b : Nat) (w : World) (h0 : w.cell? ⟨b, 0, none⟩ = some (.int .u32 0)) (h1 : w.cell? ⟨b, 1, none⟩ = some (.int .i32 0))
    (f1 : w.frozen? ⟨b, 1, none⟩ = false) {R : World → Prop}
    (hfn : (callFunc 64 #[.pointer (some ⟨b, 0, none⟩)]).run Tryz.prog (w.setCell ⟨b, 1, none⟩ (.int .i32 1)) = .ok (.enter 64 #[.pointer (some ⟨b, 0, none⟩)]) (w.setCell ⟨b, 1, none⟩ (.int .i32 1)))
    (hf : Calls Tryz.prog 64 #[.pointer (some ⟨b, 0, none⟩)] (w.setCell ⟨b, 1, none⟩ (.int .i32 1)) fun e w' => e = .returned (.tuple #[]) ∧ R w')
    (hR : ∀ w', R w' → w'.cell? ⟨b, 0, none⟩ = some (.int .u32 0) ∧ w'.cell? ⟨b, 1, none⟩ = some (.int .i32 1) ∧ w'.frozen? ⟨b, 0, none⟩ = false ∧ w'.frozen? ⟨b, 1, none⟩ = false) :
    Calls Tryz.prog 85 #[.pointer (some ⟨b, 0, none⟩), .func (.func 64) #[.pointer (some ⟨b, 0, none⟩)] #[]] w fun e w'' => e = .returned (.tuple #[]) ∧ ∃ w', R w' ∧ w'' = (w'.drew.setCell ⟨b, 0, none⟩ (.int .u32 1)).setCell ⟨b, 1, none⟩ (.int .i32 0) := by
  have hl := run_call_load (P := Tryz.prog) Tryz.func106 (by kernel_rfl) (by kernel_rfl) (by kernel_rfl) .u32 (by kernel_rfl) (w := w.setCell ⟨b, 1, none⟩ (.int .i32 1)) (a := ⟨b, 0, none⟩) (x := 0) ((World.cell?_setCell_other _ ⟨b, 1, none⟩ ⟨b, 0, none⟩ _ (by simp)).trans h0)
  have hnot : ∀ (x : Bool) (w : World), (Op.unary .not (.bool x)).run Tryz.prog w = .ok (.bool (!x)) w := fun _ _ => rfl
  go_enter_defers Tryz.func85, Tryz.ntmps85
  go_wp2_with (first | (go_at_call 107; refine (lock_free ⟨b, 1, none⟩ _ h1 f1).mono ?_; rintro e w' ⟨rfl, rfl⟩) | (go_at_call 84; go_in) | (go_at_call 64; refine hf.mono ?_; rintro e w1 ⟨rfl, hw1⟩))
  obtain ⟨r0, r1, z0, z1⟩ := hR _ hw1
  refine leaves_cons (f := 109) (args := #[.pointer (some ⟨b, 0, none⟩), .bool true]) (by simp) (by simp [go_sem]) ?_
  refine (store_deferred ⟨b, 0, none⟩ (.int .u32 0) .returning _ r0 z0).mono ?_
  rintro e u' w'' ⟨rfl, rfl, rfl⟩
  refine leaves_cons (f := 108) (args := #[.pointer (some ⟨b, 1, none⟩)]) (by simp [settle]) (by simp [go_sem]) ?_
  refine (unlock_deferred ⟨b, 1, none⟩ _ _ ?_ (by simp [z1])).mono ?_
  · refine (World.cell?_setCell_other _ ⟨b, 0, none⟩ ⟨b, 1, none⟩ _ (by simp)).trans ?_
    rw [World.cell?_drew]
    exact r1
  rintro e u' w'' ⟨rfl, rfl, rfl⟩
  simp [Leaves, settle, results, Tryz.results85]
  exact ⟨_, hw1, rfl⟩
theorem do_world (b : Nat) (w : World) (h0 : w.cell? ⟨b, 0, none⟩ = some (.int .u32 0)) (h1 : w.cell? ⟨b, 1, none⟩ = some (.int .i32 0))
    (f1 : w.frozen? ⟨b, 1, none⟩ = false) {R : World → Prop}
    (hfn : (callFunc 64 #[.pointer (some ⟨b, 0, none⟩)]).run Tryz.prog (w.setCell ⟨b, 1, none⟩ (.int .i32 1)) = .ok (.enter 64 #[.pointer (some ⟨b, 0, none⟩)]) (w.setCell ⟨b, 1, none⟩ (.int .i32 1)))
    (hf : Calls Tryz.prog 64 #[.pointer (some ⟨b, 0, none⟩)] (w.setCell ⟨b, 1, none⟩ (.int .i32 1)) fun e w' => e = .returned (.tuple #[]) ∧ R w')
    (hR : ∀ w', R w' → w'.cell? ⟨b, 0, none⟩ = some (.int .u32 0) ∧ w'.cell? ⟨b, 1, none⟩ = some (.int .i32 1) ∧ w'.frozen? ⟨b, 0, none⟩ = false ∧ w'.frozen? ⟨b, 1, none⟩ = false) :
    Calls Tryz.prog 63 #[.pointer (some ⟨b, 0, none⟩), .func (.func 64) #[.pointer (some ⟨b, 0, none⟩)] #[]] w fun e w'' => e = .returned (.tuple #[]) ∧ ∃ w', R w' ∧ w'' = (w'.drew.setCell ⟨b, 0, none⟩ (.int .u32 1)).setCell ⟨b, 1, none⟩ (.int .i32 0) := by
  have hl := run_call_load (P := Tryz.prog) Tryz.func106 (by kernel_rfl) (by kernel_rfl) (by kernel_rfl) .u32 (by kernel_rfl) h0
  have hnot : ∀ (x : Bool) (w : World), (Op.unary .not (.bool x)).run Tryz.prog w = .ok (.bool (!x)) w := fun _ _ => rfl
  go_enter Tryz.func63, Tryz.ntmps63
  go_wp2_with (first | (go_at_call 85; refine (slow_world b _ h0 h1 f1 hfn hf hR).mono ?_; rintro e w' ⟨rfl, hw1⟩) | (go_at_call 84; go_in))
  go_end0
  exact ⟨rfl, hw1⟩
end Go.Proofs.YtlkpgjicpjjlcaaGreatDoor
