import Derived.Test.YtikpfffhcjlcjaaDefRef7
/- DeflatePacks answers true, by its contract. -/
set_option linter.unusedSimpArgs false
namespace Go.Proofs.Ytikpfffhcjlcjaa
open Go Go.Vc Go.Huf Go.Dfl
set_option maxRecDepth 10000
set_option linter.unusedVariables false

theorem DeflatePacks_spec (h : Heap) (t : Nat) (s : ByteArray) (hs : s.size ≤ 1048576) (often : Bool) :
    CallSpec Try.prog 5 #[.string s, .bool often] h t (fun v h' _ => v = .bool true ∧ Vc.Sub h h') := by
  refine Go.Vc.spec_of_vc (fn := Try.f5) Try.func5 rfl (by kernel_rfl) (by kernel_rfl) (Nat.le_of_ble_eq_true rfl) ?_
  intro hd
  conv => whnf
  refine (examples_spec h t).mono ?_
  rintro _ h1 t1 hd1 ht1 ⟨rfl, hs1, _⟩
  conv => whnf
  repeat (first | ((with_reducible refine And.intro (And.intro ?_ ?_) ?_); (focus omega); (focus omega); conv => whnf))
  have hS : (s.extract 0 (if (1200 : Int) < (s.size : Nat) then (1200 : Int) else (s.size : Nat)).toNat).size ≤ 1200 := by
    rw [ByteArray.size_extract]; split <;> omega
  generalize s.extract 0 (if (1200 : Int) < (s.size : Nat) then (1200 : Int) else (s.size : Nat)).toNat = S at hS ⊢
  cases often with
  | false =>
    obtain ⟨X, hX⟩ : ∃ X, X = S := ⟨_, rfl⟩
    have hXs : X.size ≤ 33000 := by rw [hX]; omega
    have HG := hs1
    conv => whnf
    rw [← hX]
    refine (pack_spec X (by omega)).mono ?_
    rintro _ h2 t2 hd2 ht2 ⟨rfl, hs2, _⟩
    conv => whnf
    refine (rpack_spec X (by omega)).mono ?_
    rintro _ h3 t3 hd3 ht3 ⟨rfl, hs3, _⟩
    conv => whnf
    exact ⟨by rw [opq_eq, decide_eq_true rfl], fun b o hb' => hs3 _ _ (hs2 _ _ (HG _ _ hb'))⟩
  | true =>
    conv => whnf
    refine br (fun hne => ?_) (fun hne => ?_)
    · have hS0 : 0 < S.size := by
        rcases Nat.eq_zero_or_pos S.size with h0 | h0
        · exfalso
          apply hne
          apply ByteArray.ext
          exact Array.eq_empty_of_size_eq_zero h0
        · exact h0
      conv => whnf
      repeat (first | ((with_reducible refine And.intro (And.intro ?_ ?_) ?_); (focus omega); (focus omega); conv => whnf))
      have hP : (S.extract 0 (if (200 : Int) < (S.size : Nat) then (200 : Int) else (S.size : Nat)).toNat).size = min 200 S.size := by
        rw [ByteArray.size_extract]; split <;> omega
      generalize S.extract 0 (if (200 : Int) < (S.size : Nat) then (200 : Int) else (S.size : Nat)).toNat = P at hP ⊢
      refine loop_intro (fun T : ByteArray => [(0, .string P), (5, .bool true), (6, .string T)]) (fun T h' t' => T.size ≤ 33600 ∧ h1 = h' ∧ t1 = t') (fun T => 33600 - T.size) ByteArray.empty ⟨rfl, rfl, rfl, trivial⟩ ⟨by decide, rfl, rfl⟩ ?_
      rintro T e2 _ _ hd2 ⟨hT, rfl, rfl⟩
      have hTP : (T ++ P).size = T.size + P.size := ByteArray.size_append
      conv => whnf
      refine br (fun hb => ?_) (fun hb => ?_)
      · have hQ : (P.extract 0 ((P.size : Int) / 2).toNat).size ≤ 200 := by
          rw [ByteArray.size_extract]; omega
        conv => whnf
        repeat (first | ((with_reducible refine And.intro (And.intro ?_ ?_) ?_); (focus omega); (focus omega); conv => whnf) | ((with_reducible apply Go.Vc.quo_i64); (focus exact And.intro (by omega) (And.intro (by omega) (by omega))); conv => whnf) | ((with_reducible apply Go.Vc.and_leN); (focus (first | omega | (simp only [ByteArray.size, List.size_toArray, List.length_cons, List.length_nil] at *; omega))); conv => whnf) | ((with_reducible refine And.intro ?_ (And.intro ?_ ?_)); (focus exact rfl); (focus omega); conv => whnf))
        have hR : (T ++ P ++ P.extract 0 ((P.size : Int) / 2).toNat).size = T.size + P.size + (P.extract 0 ((P.size : Int) / 2).toNat).size := by rw [ByteArray.size_append, hTP]
        exact round_end (T ++ P ++ P.extract 0 ((P.size : Int) / 2).toNat) (by omega) ⟨rfl, rfl, rfl, trivial⟩ ⟨by omega, rfl, rfl⟩
      · conv => whnf
        repeat (first | ((with_reducible refine And.intro (And.intro ?_ ?_) ?_); (focus omega); (focus omega); conv => whnf) | ((with_reducible apply Go.Vc.wr_i64); (focus exact And.intro (by omega) (by omega)); conv => whnf) | ((with_reducible apply Go.Vc.rem_i); (focus omega); conv => whnf) | ((with_reducible refine And.intro ?_ (And.intro ?_ ?_)); (focus exact rfl); (focus omega); conv => whnf))
        obtain ⟨X, hX⟩ : ∃ X, X = T.extract 0 (33000 - ((P.size : Int)) % 200).toNat := ⟨_, rfl⟩
        have hXs : X.size ≤ 33000 := by rw [hX, ByteArray.size_extract]; omega
        have HG := hs1
        rw [← hX]
        refine (pack_spec X (by omega)).mono ?_
        rintro _ h2 t2 hd2 ht2 ⟨rfl, hs2, _⟩
        conv => whnf
        refine (rpack_spec X (by omega)).mono ?_
        rintro _ h3 t3 hd3 ht3 ⟨rfl, hs3, _⟩
        conv => whnf
        exact ⟨by rw [opq_eq, decide_eq_true rfl], fun b o hb' => hs3 _ _ (hs2 _ _ (HG _ _ hb'))⟩
    · conv => whnf
      obtain ⟨X, hX⟩ : ∃ X, X = S := ⟨_, rfl⟩
      have hXs : X.size ≤ 33000 := by rw [hX]; omega
      have HG := hs1
      rw [← hX]
      refine (pack_spec X (by omega)).mono ?_
      rintro _ h2 t2 hd2 ht2 ⟨rfl, hs2, _⟩
      conv => whnf
      refine (rpack_spec X (by omega)).mono ?_
      rintro _ h3 t3 hd3 ht3 ⟨rfl, hs3, _⟩
      conv => whnf
      exact ⟨by rw [opq_eq, decide_eq_true rfl], fun b o hb' => hs3 _ _ (hs2 _ _ (HG _ _ hb'))⟩
end Go.Proofs.Ytikpfffhcjlcjaa
