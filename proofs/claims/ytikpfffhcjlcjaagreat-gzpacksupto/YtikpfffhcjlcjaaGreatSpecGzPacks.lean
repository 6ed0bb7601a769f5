import Derived.Test.YtikpfffhcjlcjaaGreatGzRef
set_option linter.unusedSimpArgs false
namespace Go.Proofs.YtikpfffhcjlcjaaGreat
open Go Go.Vc Go.Huf Go.Dfl Go.Gz
set_option maxRecDepth 10000
set_option linter.unusedVariables false
theorem GzPacks_spec (h : Heap) (t : Nat) (s : ByteArray) (hs : s.size ≤ 1048576) :
    CallSpec Tryz.prog 3 #[.string s] h t (fun v h' _ => v = .bool true ∧ Vc.Sub h h') := by
  refine Go.Vc.spec_of_vc (fn := Tryz.f3) Tryz.func3 rfl (by kernel_rfl) (by kernel_rfl) (Nat.le_of_ble_eq_true rfl) ?_
  intro hd
  conv => whnf
  refine (zexamples_spec h t).mono ?_
  rintro _ h1 t1 hd1 ht1 ⟨rfl, hs1, _⟩
  conv => whnf
  repeat (first | ((with_reducible refine And.intro (And.intro ?_ ?_) ?_); (focus omega); (focus omega); conv => whnf))
  have hS : (s.extract 0 (if (1000 : Int) < (s.size : Nat) then (1000 : Int) else (s.size : Nat)).toNat).size ≤ 1000 := by
    rw [ByteArray.size_extract]; split <;> omega
  generalize s.extract 0 (if (1000 : Int) < (s.size : Nat) then (1000 : Int) else (s.size : Nat)).toNat = S at hS ⊢
  refine (gpack_spec S (by omega)).mono ?_
  rintro _ h2 t2 hd2 ht2 ⟨rfl, hs2, _⟩
  conv => whnf
  refine (zrpack_spec S (by omega)).mono ?_
  rintro _ h3 t3 hd3 ht3 ⟨rfl, hs3, _⟩
  conv => whnf
  exact ⟨by rw [opq_eq, decide_eq_true rfl], fun b o hb' => hs3 _ _ (hs2 _ _ (hs1 _ _ hb'))⟩
end Go.Proofs.YtikpfffhcjlcjaaGreat
