/- DeflateRuns answers true, by its contract. -/
import Derived.Test.YtikpfffhcjlcjaaDef9
namespace Go.Proofs.Ytikpfffhcjlcjaa
open Go Go.Vc Go.Huf Go.Dfl
set_option maxRecDepth 10000
set_option linter.unusedVariables false

theorem DeflateRuns_spec (h : Heap) (t : Nat) (a0 : Option Addr) (n0 c0 : Nat) (l0 : List Int) (s0 : Sl h a0 n0 (Value.int .i64) l0) (hn0 : n0 ≤ 1048576) (hc0 : n0 ≤ c0) (hb0 : ∀ z ∈ l0, IntKind.min .i64 ≤ z ∧ z ≤ IntKind.max .i64) :
    CallSpec Try.prog 4 #[.slice a0 n0 c0] h t (fun v h' _ => v = .bool true ∧ Vc.Sub h h') := by
  refine Go.Vc.spec_of_vc (fn := Try.f4) Try.func4 rfl (by kernel_rfl) (by kernel_rfl) (Nat.le_of_ble_eq_true rfl) ?_
  intro hd
  conv => whnf
  refine (examples_spec h t).mono ?_
  rintro _ h1 t1 hd1 ht1 ⟨rfl, hs1, _⟩
  conv => whnf
  have s1 := s0.sub hs1
  refine (runs_spec s1 (by omega) hc0).mono ?_
  rintro _ h2 t2 hd2 ht2 ⟨a1, c1, a2, c2, rfl, sa, sb, _, hs2, _, _⟩
  conv => whnf
  refine (refruns_spec (s1.sub hs2) (by omega)).mono ?_
  rintro _ h3 t3 hd3 ht3 ⟨a3, c3, a4, c4, rfl, sc, sd, _, hs3⟩
  have hle := runs_len _ l0 (Nat.le_refl _)
  have hl0 := s0.1
  conv => whnf
  refine (numbers_spec (sa.sub hs3) sc (by omega)).mono ?_
  rintro _ h4 t4 hd4 ht4 ⟨rfl, rfl, rfl⟩
  conv => whnf
  refine (numbers_spec (sb.sub hs3) sd (by omega)).mono ?_
  rintro _ h5 t5 hd5 ht5 ⟨rfl, rfl, rfl⟩
  simp only [decide_true]
  conv => whnf
  exact ⟨rfl, hs1.trans (hs2.trans hs3)⟩
end Go.Proofs.Ytikpfffhcjlcjaa
