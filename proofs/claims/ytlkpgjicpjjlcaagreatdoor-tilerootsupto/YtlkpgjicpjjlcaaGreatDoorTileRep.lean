import Derived.Test.YtlkpgjicpjjlcaaGreatDoorTileBuild
/- A replacer: made, built once. -/
set_option linter.unusedSimpArgs false
namespace Go.Proofs.YtlkpgjicpjjlcaaGreatDoor
open Go Go.Vc Go.Tile
set_option maxRecDepth 20000
set_option linter.unusedVariables false
theorem RepObj.fr {h h' : Heap} {q : Nat} (ho : RepObj h q) (hs : Vc.Sub h h') : RepObj h' q := by
  obtain ⟨A, a2, c2, h1, h2, h3, h4, h5⟩ := ho
  exact ⟨A, a2, c2, hs _ _ h1, h2, h3, h4.sub hs, h5⟩
theorem buildonce_spec {h : Heap} {t r c : Nat} {a : Option Addr} {T : TypeId} (hr : h r = some (.cells #[.int .u32 0, .int .i32 1, .int .u32 0, .nilIface, .slice a 4 c] T (0, 0))) (hsl : Sl h a 4 Value.string oldL) (hc : 4 ≤ c) :
    CallSpec Tryz.prog 64 #[.pointer (some ⟨r, 0, none⟩)] h t (fun v h' t' => v = .tuple #[] ∧ ∃ (q : Nat) (h1 : Heap), RepObj h1 q ∧ t ≤ q ∧ q < t' ∧ Vc.Sub h h1 ∧ h' = hset h1 r (.cells #[.int .u32 0, .int .i32 1, .int .u32 0, .iface 194 (.pointer (some ⟨q, 0, none⟩)), .slice none 0 0] T (0, 0))) := by
  refine Go.Vc.spec_of_vc (fn := Tryz.f64) Tryz.func64 rfl (by kernel_rfl) (by kernel_rfl) (Nat.le_of_ble_eq_true rfl) ?_
  intro hd
  conv => whnf
  refine (build_spec hr hsl hc).mono ?_
  rintro _ g t1 hd1 ht1 ⟨q, rfl, hq, hq1, hq2, hs1⟩
  have hr1 := hs1 _ _ hr
  conv => whnf
  repeat (first | ((with_reducible apply Go.Vc.st_i); (focus ((repeat (first | with_reducible assumption | with_reducible exact Go.Vc.hset_same _ _ _ | with_reducible refine (Go.Vc.hset_ne _ _ (by omega)).trans ?_)); done)); (focus exact rfl); (focus exact rfl); (focus exact rfl); (conv => whnf); intro cA hcA; (first | (simp only [List.setIfInBounds_toArray, List.set_cons_succ, List.set_cons_zero] at hcA; subst hcA) | subst hcA); conv => whnf))
  refine ⟨rfl, q, g, hq, hq1, hq2, hs1, ?_⟩
  funext k
  unfold hset
  split <;> rfl
theorem newreplacer_spec {h : Heap} {t q : Nat} {T : TypeId} (hq : h q = some (.cells (oldL.map Value.string).toArray T (0, 0))) :
    CallSpec Tryz.prog 37 #[.slice (some ⟨q, 0, none⟩) 4 4] h t (fun v h' t' => ∃ (r c : Nat) (a : Option Addr), v = .pointer (some ⟨r, 0, none⟩) ∧ h' r = some (.cells #[.int .u32 0, .int .i32 0, .int .u32 0, .nilIface, .slice a 4 c] 129 (0, 0)) ∧ Sl h' a 4 Value.string oldL ∧ 4 ≤ c ∧ (∀ b, owner a = some b → b ≠ r) ∧ t ≤ r ∧ r < t' ∧ Vc.Sub h h') := by
  refine Go.Vc.spec_of_vc (fn := Tryz.f37) Tryz.func37 rfl (by kernel_rfl) (by kernel_rfl) (Nat.le_of_ble_eq_true rfl) ?_
  intro hd
  conv => whnf
  repeat (first | ((with_reducible apply Go.Vc.rem_i); (focus omega); conv => whnf) | (refine Go.Vc.br_f ?_ ?_; (focus omega); conv => whnf) | ((with_reducible refine And.intro ?_ (And.intro ?_ ?_)); (focus exact rfl); (focus omega); conv => whnf))
  refine app_strs (m := 4) (l2 := oldL) (Vc.Own.nil _ _ _) (ar_sl hq rfl) (by omega) hd ?_
  intro a7 c7 h7 t7 ho7 ht7 hd7 hk7 how7
  conv => whnf
  repeat (first | (intro _ _; conv => whnf))
  rename_i r hr
  have hw7 : ∀ b, owner a7 = some b → b < t7 := by
    intro b hb
    rcases ho7.2 with ⟨e, _⟩ | ⟨b', off, cs, fr, e, _, hb', _⟩
    · rw [e] at hb; cases hb
    · rw [e] at hb
      obtain rfl : b' = b := Option.some.inj hb
      exact hd7 _ _ hb'
  refine ⟨r, c7, a7, rfl, hset_same _ _ _, ho7.sl.sub (hd7.sub_new hr _), ?_, fun b hb => by have := hw7 b hb; omega, by omega, by omega, ?_⟩
  · rcases ho7.2 with ⟨_, h0, _⟩ | ⟨_, _, _, _, _, h0, _⟩
    · exact absurd h0 (by decide)
    · omega
  · intro b o hb
    have := hd b o hb
    rw [hset_ne _ _ (by omega), hk7 b (by omega) (fun e => by cases e)]
    exact hb
end Go.Proofs.YtlkpgjicpjjlcaaGreatDoor
