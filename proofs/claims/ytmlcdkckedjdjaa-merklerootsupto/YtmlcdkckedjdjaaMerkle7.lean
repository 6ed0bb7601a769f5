/- Grown. -/
import Derived.Test.YtmlcdkckedjdjaaMerkle6
namespace Go.Proofs.Ytmlcdkckedjdjaa
open Go Go.Vc Go.Sha Go.Mk
set_option maxRecDepth 10000
set_option linter.unusedVariables false

def endS (old : ByteArray) (m n : Nat) (P : List ByteArray) : CS := climb ndB n m true ⟨old, old, P, true⟩
def grwd (old : ByteArray) (m : Int) (root : ByteArray) (n : Int) (P : List ByteArray) : Bool :=
  decide (1 ≤ m ∧ m ≤ n) && ((endS old m.toNat n.toNat P).fits && (decide ((endS old m.toNat n.toNat P).rest = []) && (decide ((endS old m.toNat n.toNat P).before = old) && decide ((endS old m.toNat n.toNat P).now = root))))
theorem grown_spec (old : ByteArray) (hold : old.size ≤ 274877906944) (m : Int) (hm : -9223372036854775808 ≤ m ∧ m ≤ 9223372036854775807) (root : ByteArray) (n : Int) (hn : -9223372036854775808 ≤ n ∧ n ≤ 65536)
    {h : Heap} {t : Nat} {a : Option Addr} {l c : Nat} {P : List ByteArray} (s : Sl h a l Value.string P) (hl : l ≤ 1000000000) (hlc : l ≤ c) (hx : ∀ x ∈ P, x.size ≤ 274877906944) :
    CallSpec Try.prog 26 #[.string old, .int .i64 m, .string root, .int .i64 n, .slice a l c] h t (fun v h' t' => v = .bool (grwd old m root n P) ∧ Sub h h') := by
  have hPl := s.1
  refine Go.Vc.spec_of_vc (fn := Try.f26) Try.func26 rfl (by kernel_rfl) (by kernel_rfl) (Nat.le_of_ble_eq_true rfl) ?_
  intro hd
  by_cases hok : 1 ≤ m ∧ m ≤ n
  · obtain ⟨m0, rfl⟩ : ∃ i0 : Nat, m = i0 := ⟨m.toNat, by omega⟩
    obtain ⟨n0, rfl⟩ : ∃ n0 : Nat, n = n0 := ⟨n.toNat, by omega⟩
    unfold grwd
    rw [decide_eq_true hok, Bool.true_and, Int.toNat_natCast, Int.toNat_natCast]
    conv => whnf
    repeat (first | ((with_reducible apply Go.Vc.ld_i); (focus ((repeat (first | with_reducible assumption | with_reducible exact Go.Vc.hset_same _ _ _ | with_reducible refine (Go.Vc.hset_ne _ _ (by omega)).trans ?_)); done)); (focus exact rfl); conv => whnf) | ((with_reducible apply Go.Vc.st_i); (focus ((repeat (first | with_reducible assumption | with_reducible exact Go.Vc.hset_same _ _ _ | with_reducible refine (Go.Vc.hset_ne _ _ (by omega)).trans ?_)); done)); (focus exact rfl); (focus exact rfl); (focus exact rfl); (conv => whnf); intro cA hcA; (first | (simp only [List.setIfInBounds_toArray, List.set_cons_succ, List.set_cons_zero] at hcA; subst hcA) | subst hcA); conv => whnf) | (intro _ _; conv => whnf) | (refine Go.Vc.br_f ?_ ?_; (focus omega); conv => whnf))
    rename_i B hB N hN R hR F hF C hC
    refine CallSpec.mono (climb_spec (h0 := h) (t0 := t) (B := B) (N := N) (R := R) (F := F) (C := C) n0 m0 true ⟨old, old, P, true⟩ _ _ (by omega) (by omega) (by omega) ?_) ?_
    · refine ⟨by omega, ?_, ⟨a, l, c, ?_, s, hlc⟩, ?_, ?_, hset_same _ _ _, hd, ?_, hold, hold, by show P.length ≤ _; omega, hx⟩
      · (repeat (first | exact hset_same _ _ _ | refine (hset_ne _ _ (by omega)).trans ?_)); done
      · (repeat (first | exact hset_same _ _ _ | refine (hset_ne _ _ (by omega)).trans ?_)); done
      · (repeat (first | exact hset_same _ _ _ | refine (hset_ne _ _ (by omega)).trans ?_)); done
      · (repeat (first | exact hset_same _ _ _ | refine (hset_ne _ _ (by omega)).trans ?_)); done
      · intro k o hk
        have hkt := hd k o hk
        (repeat (first | exact hk | refine (hset_ne _ _ (by omega)).trans ?_)); done
    rintro _ h1 t1 hd1 ht1 ⟨rfl, X1⟩
    have hF1 := X1.hF
    have hB1 := X1.hB
    have hN1 := X1.hN
    obtain ⟨a1, n1, c1, hR1, s1, _⟩ := X1.hR
    have hsub := X1.sub
    have hrl := s1.1
    generalize hS : climb ndB n0 m0 true ⟨old, old, P, true⟩ = S at *
    have hE : endS old m0 n0 P = S := hS
    rw [hE]
    obtain ⟨sb, sn, sr, sf⟩ := S
    simp only at hF1 hB1 hN1 s1 hrl ⊢
    cases sf with
    | false =>
      conv => whnf
      repeat (first | ((with_reducible apply Go.Vc.ld_i); (focus ((repeat (first | with_reducible assumption | with_reducible exact Go.Vc.hset_same _ _ _ | with_reducible refine (Go.Vc.hset_ne _ _ (by omega)).trans ?_)); done)); (focus exact rfl); conv => whnf))
      exact ⟨rfl, hsub⟩
    | true =>
      conv => whnf
      repeat (first | ((with_reducible apply Go.Vc.ld_i); (focus ((repeat (first | with_reducible assumption | with_reducible exact Go.Vc.hset_same _ _ _ | with_reducible refine (Go.Vc.hset_ne _ _ (by omega)).trans ?_)); done)); (focus exact rfl); conv => whnf))
      refine br (fun hb1 => ?_) (fun hb1 => ?_)
      · have hr : sr = [] := List.length_eq_zero_iff.1 (by omega)
        rw [hr, decide_eq_true rfl]
        conv => whnf
        repeat (first | ((with_reducible apply Go.Vc.ld_i); (focus ((repeat (first | with_reducible assumption | with_reducible exact Go.Vc.hset_same _ _ _ | with_reducible refine (Go.Vc.hset_ne _ _ (by omega)).trans ?_)); done)); (focus exact rfl); conv => whnf))
        refine br (fun hb2 => ?_) (fun hb2 => ?_)
        · rw [decide_eq_true hb2]
          conv => whnf
          repeat (first | ((with_reducible apply Go.Vc.ld_i); (focus ((repeat (first | with_reducible assumption | with_reducible exact Go.Vc.hset_same _ _ _ | with_reducible refine (Go.Vc.hset_ne _ _ (by omega)).trans ?_)); done)); (focus exact rfl); conv => whnf))
          exact ⟨by rw [opq_eq]; rfl, hsub⟩
        · rw [decide_eq_false hb2]
          conv => whnf
          exact ⟨rfl, hsub⟩
      · have hr : ¬ sr = [] := by intro e; subst e; simp at hrl; omega
        rw [decide_eq_false hr]
        conv => whnf
        exact ⟨rfl, hsub⟩
  · have e : grwd old m root n P = false := by unfold grwd; rw [decide_eq_false hok]; rfl
    rw [e]
    by_cases hneg : m < 1
    · conv => whnf
      repeat (first | (refine Go.Vc.br_t ?_ ?_; (focus omega); conv => whnf))
      exact ⟨rfl, Sub.refl _⟩
    · conv => whnf
      repeat (first | (refine Go.Vc.br_t ?_ ?_; (focus omega); conv => whnf) | (refine Go.Vc.br_f ?_ ?_; (focus omega); conv => whnf))
      exact ⟨rfl, Sub.refl _⟩
end Go.Proofs.Ytmlcdkckedjdjaa
