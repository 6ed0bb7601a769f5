/- HuffCodes answers true, by its contract. -/
import Derived.Test.YtlnibgkdjmkekaaHuff3
namespace Go.Proofs.Ytlnibgkdjmkekaa
open Go Go.Vc Go.Huf
set_option maxRecDepth 10000
set_option linter.unusedVariables false

theorem HuffCodes_spec (h : Heap) (t : Nat) (a0 : Option Addr) (n0 c0 : Nat) (l0 : List Int) (s0 : Sl h a0 n0 (Value.int .i64) l0) (hn0 : n0 ≤ 1048576) (hc0 : n0 ≤ c0) (hb0 : ∀ z ∈ l0, IntKind.min .i64 ≤ z ∧ z ≤ IntKind.max .i64) :
    CallSpec Try.prog 3 #[.slice a0 n0 c0] h t (fun v h' _ => v = .bool true ∧ Sub h h') := by
  refine Go.Vc.spec_of_vc (fn := Try.f3) Try.func3 rfl (by kernel_rfl) (by kernel_rfl) (Nat.le_of_ble_eq_true rfl) ?_
  intro hd
  conv => whnf
  refine (examples_spec h t).mono ?_
  rintro _ h1 t1 hd1 ht1 ⟨rfl, hs1⟩
  conv => whnf
  refine (codes_spec (s0.sub hs1) hn0).mono ?_
  rintro _ h2 t2 hd2 ht2 ⟨a2, n2, rfl, hs2, ho2, hf2⟩
  conv => whnf
  refine (refCodes_spec ((s0.sub hs1).sub hs2) hn0).mono ?_
  rintro _ h3 t3 hd3 ht3 ⟨a3, n3, rfl, hs3, ho3, hf3⟩
  have hn2 : n2 ≤ 1048576 := by
    have h1 := ho2.1
    have h2 := s0.1
    by_cases h3 : err l0 = 0
    · rw [if_pos h3, codes_length] at h1; omega
    · rw [if_neg h3] at h1; simp at h1; omega
  conv => whnf
  refine (numbers_spec (ho2.sl.sub hs3) ho3.sl hn2).mono ?_
  rintro v _ _ _ _ ⟨rfl, rfl, rfl⟩
  rw [decide_eq_true rfl]
  conv => whnf
  exact ⟨by rw [opq_eq, decide_eq_true rfl], hs1.trans (hs2.trans hs3)⟩
end Go.Proofs.Ytlnibgkdjmkekaa
