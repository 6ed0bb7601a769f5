/- HuffLengths answers true, by its contract. -/
import Derived.Test.YtlnibgkdjmkekaaHuff9
namespace Go.Proofs.Ytlnibgkdjmkekaa
open Go Go.Vc Go.Huf
set_option maxRecDepth 10000
set_option linter.unusedVariables false

theorem lengthsF_len (l : List Int) (m : Int) : (lengthsF l m).1.length ≤ l.length := by
  unfold lengthsF
  split
  · show (lenF 40 l m).length ≤ _; rw [lenF_len]; omega
  · simp
theorem HuffLengths_spec (h : Heap) (t : Nat) (a0 : Option Addr) (n0 c0 : Nat) (l0 : List Int) (s0 : Sl h a0 n0 (Value.int .i64) l0) (hn0 : n0 ≤ 1048576) (hc0 : n0 ≤ c0) (hb0 : ∀ z ∈ l0, IntKind.min .i64 ≤ z ∧ z ≤ IntKind.max .i64) (m : Int) (hm : IntKind.min .i64 ≤ m ∧ m ≤ IntKind.max .i64) :
    CallSpec Try.prog 5 #[.slice a0 n0 c0, .int .i64 m] h t (fun v h' _ => v = .bool true ∧ Vc.Sub h h') := by
  refine Go.Vc.spec_of_vc (fn := Try.f5) Try.func5 rfl (by kernel_rfl) (by kernel_rfl) (Nat.le_of_ble_eq_true rfl) ?_
  intro hd
  conv => whnf
  refine (examples_spec h t).mono ?_
  rintro _ h1 t1 hd1 ht1 ⟨rfl, hs1⟩
  have s1 := s0.sub hs1
  conv => whnf
  repeat (first | ((with_reducible refine And.intro (And.intro ?_ ?_) ?_); (focus omega); (focus omega); conv => whnf))
  obtain ⟨k, hk⟩ : ∃ k : Nat, k = (if (60 : Int) < (n0 : Int) then (60 : Int) else (n0 : Int)).toNat := ⟨_, rfl⟩
  rw [← hk]
  have hk2 : k ≤ n0 ∧ k ≤ 60 := by rw [hk]; split <;> omega
  have s2 := s1.take (m := k) hk2.1
  refine app_int (Own.nil _ _ _) s2 (by omega) hd1 ?_
  intro a2 c2 h2 t2 ho2 ht2 hd2 hk3 hown2
  rw [Nat.zero_add, List.nil_append] at ho2
  rw [Nat.zero_add]
  have hs12 : Vc.Sub h1 h2 := fun b o hb => by rw [hk3 b (hd1 b o hb) (by simp [owner])]; exact hb
  have s3 := s2.sub hs12
  conv => whnf
  refine (lengths_spec s3 (by omega)).mono ?_
  rintro _ h4 t4 hd4 ht4 ⟨a4, n4, c4, rfl, s4, hc4, _, hs4⟩
  conv => whnf
  refine (reflengths2_spec (ho2.sl.sub hs4) (by omega)).mono ?_
  rintro _ h5 t5 hd5 ht5 ⟨a5, n5, c5, rfl, s5, hc5, _, hs5⟩
  have hn4 : n4 ≤ 1048576 := by
    have e1 := s4.1
    have e2 := lengthsF_len (l0.take k) m
    rw [List.length_take] at e2
    omega
  conv => whnf
  refine (numbers_spec (s4.sub hs5) s5 hn4).mono ?_
  rintro v _ _ _ _ ⟨rfl, rfl, rfl⟩
  rw [decide_eq_true rfl]
  conv => whnf
  refine (numbers_spec ((s3.sub hs4).sub hs5) ((ho2.sl.sub hs4).sub hs5) (by omega)).mono ?_
  rintro v _ _ _ _ ⟨rfl, rfl, rfl⟩
  rw [decide_eq_true rfl]
  conv => whnf
  refine bsel_t (by simp) ?_
  conv => whnf
  exact ⟨rfl, hs1.trans (hs12.trans (hs4.trans hs5))⟩
end Go.Proofs.Ytlnibgkdjmkekaa
