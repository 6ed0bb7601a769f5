import Derived.Test.YtikpfffhcjlcjaaGreatDefC
import Derived.Test.YtikpfffhcjlcjaaGreatDefRef1
set_option linter.unusedSimpArgs false
namespace Go.Proofs.YtikpfffhcjlcjaaGreat
open Go Go.Vc Go.Huf Go.Dfl
set_option maxRecDepth 20000
set_option linter.unusedVariables false
set_option maxHeartbeats 1000000
theorem fixed_at : ∀ i : Fin 288, fixedL[i.val]? = some (if 143 < i.val ∧ i.val < 256 then 9 else if 255 < i.val ∧ i.val < 280 then 7 else 8) := by decide +kernel
theorem rfixed_spec {h : Heap} {t : Nat} :
    CallSpec Tryz.prog 53 #[] h t (fun v h' t' => ∃ a1 c1 a2, v = .tuple #[.slice a1 288 c1, .slice a2 32 32] ∧ Sl h' a1 288 (Value.int .i64) fixedL ∧ Sl h' a2 32 (Value.int .i64) fixedB ∧ (∀ b, owner a1 = some b → t ≤ b) ∧ (∀ b, owner a2 = some b → t ≤ b) ∧ Vc.Sub h h' ∧ t ≤ t') := by
  have hlF : fixedL.length = 288 := by decide +kernel
  refine Go.Vc.spec_of_vc (fn := Tryz.f53) Tryz.func53 rfl (by kernel_rfl) (by kernel_rfl) (Nat.le_of_ble_eq_true rfl) ?_
  intro hd
  conv => whnf
  refine loop_intro3 (fun (i : Nat) (a : Option Addr) (c : Nat) => [(2, .slice a i c), (3, .int .i64 (i : Nat))])
    (fun i a c h' t' => i ≤ 288 ∧ Vc.Own h' 3 a i c (Value.int .i64) (fixedL.take i) ∧ (∀ b, owner a = some b → t ≤ b) ∧ Vc.Sub h h' ∧ t ≤ t') (fun i _ _ => 288 - i) 0 none 0 ⟨rfl, rfl, trivial⟩
    ⟨by omega, Own.nil _ _ _, (fun b hb => by cases hb), Sub.refl _, Nat.le_refl _⟩ ?_
  rintro i a c e1 g t1 hd1 ⟨hi, ho, hw, hs1, ht1⟩
  conv => whnf
  refine br (fun hb => ?_) (fun hb => ?_)
  · have hat := fixed_at ⟨i, by omega⟩
    simp only at hat
    rcases Nat.lt_or_ge 143 i with h1 | h1
    · rcases Nat.lt_or_ge i 256 with h2 | h2
      · rw [if_pos ⟨h1, h2⟩] at hat
        conv => whnf
        repeat (first | (intro _ _; conv => whnf) | (refine Go.Vc.br_t ?_ ?_; (focus omega); conv => whnf))
        rename_i r1 hr1
        refine own_app1 hd ht1 hs1 hw hd1 hr1 ho (by omega) ?_
        intro a' c' g2 t2 ho' ht2 hd2 hs2 hw' hk2 hown2
        conv => whnf
        repeat (first | ((with_reducible apply Go.Vc.wr_i64); (focus exact And.intro (by omega) (by omega)); conv => whnf))
        refine round_end3 (i + 1) a' c' (by omega) ⟨rfl, rfl, trivial⟩ ⟨by omega, ?_, hw', hs2, by omega⟩
        rw [List.take_add_one, hat]
        exact ho'
      · rw [if_neg (by omega)] at hat
        rcases Nat.lt_or_ge i 280 with h3 | h3
        · rw [if_pos ⟨by omega, h3⟩] at hat
          conv => whnf
          repeat (first | (intro _ _; conv => whnf) | (refine Go.Vc.br_t ?_ ?_; (focus omega); conv => whnf) | (refine Go.Vc.br_f ?_ ?_; (focus omega); conv => whnf))
          rename_i r1 hr1
          refine own_app1 hd ht1 hs1 hw hd1 hr1 ho (by omega) ?_
          intro a' c' g2 t2 ho' ht2 hd2 hs2 hw' hk2 hown2
          conv => whnf
          repeat (first | ((with_reducible apply Go.Vc.wr_i64); (focus exact And.intro (by omega) (by omega)); conv => whnf))
          refine round_end3 (i + 1) a' c' (by omega) ⟨rfl, rfl, trivial⟩ ⟨by omega, ?_, hw', hs2, by omega⟩
          rw [List.take_add_one, hat]
          exact ho'
        · rw [if_neg (by omega)] at hat
          conv => whnf
          repeat (first | (intro _ _; conv => whnf) | (refine Go.Vc.br_t ?_ ?_; (focus omega); conv => whnf) | (refine Go.Vc.br_f ?_ ?_; (focus omega); conv => whnf))
          rename_i r1 hr1
          refine own_app1 hd ht1 hs1 hw hd1 hr1 ho (by omega) ?_
          intro a' c' g2 t2 ho' ht2 hd2 hs2 hw' hk2 hown2
          conv => whnf
          repeat (first | ((with_reducible apply Go.Vc.wr_i64); (focus exact And.intro (by omega) (by omega)); conv => whnf))
          refine round_end3 (i + 1) a' c' (by omega) ⟨rfl, rfl, trivial⟩ ⟨by omega, ?_, hw', hs2, by omega⟩
          rw [List.take_add_one, hat]
          exact ho'
    · rw [if_neg (by omega), if_neg (by omega)] at hat
      conv => whnf
      repeat (first | (intro _ _; conv => whnf) | (refine Go.Vc.br_f ?_ ?_; (focus omega); conv => whnf))
      rename_i r1 hr1
      refine own_app1 hd ht1 hs1 hw hd1 hr1 ho (by omega) ?_
      intro a' c' g2 t2 ho' ht2 hd2 hs2 hw' hk2 hown2
      conv => whnf
      repeat (first | ((with_reducible apply Go.Vc.wr_i64); (focus exact And.intro (by omega) (by omega)); conv => whnf))
      refine round_end3 (i + 1) a' c' (by omega) ⟨rfl, rfl, trivial⟩ ⟨by omega, ?_, hw', hs2, by omega⟩
      rw [List.take_add_one, hat]
      exact ho'
  · obtain rfl : i = 288 := by omega
    rw [List.take_of_length_le (by omega)] at ho
    conv => whnf
    repeat (first | ((with_reducible apply Go.Vc.mk_b); (focus exact And.intro (by omega) (by omega)); (focus exact rfl); (focus omega); intro rM csM hrM hcsM; (first | (replace hcsM := hcsM.trans (Go.Vc.zc (Value.int .i64) 0 _)) | (replace hcsM := hcsM.trans (Go.Vc.zc Go.Vc.bv 0 _)) | (replace hcsM := hcsM.trans (Go.Vc.zc Value.string ByteArray.empty _))); subst hcsM; conv => whnf))
    have kM := hd1.sub_new hrM (.cells ((List.replicate 32 (0 : Int)).map (Value.int .i64)).toArray 3)
    have s1 := ho.sl.sub kM
    refine loop_intro (fun j : Nat => [(2, .slice a 288 c), (4, .slice (some ⟨rM, 0, none⟩) 32 32), (5, .int .i64 (j : Nat))])
      (fun j h' t' => j ≤ 32 ∧ h' rM = some (.cells ((List.replicate j (5 : Int) ++ List.replicate (32 - j) 0).map (Value.int .i64)).toArray 3 (0, 0)) ∧ Sl h' a 288 (Value.int .i64) fixedL ∧ Vc.Sub h h' ∧ rM < t') (fun j => 32 - j) 0 ⟨rfl, rfl, rfl, trivial⟩
      ⟨by omega, by rw [List.replicate_zero, List.nil_append]; exact hset_same _ _ _, s1, hs1.trans kM, by omega⟩ ?_
    rintro j e3 g3 t3 hd3 ⟨hj, hb3, s3, hs3, ht3⟩
    have hlen : (List.replicate j (5 : Int) ++ List.replicate (32 - j) (0 : Int)).length = 32 := by simp; omega
    conv => whnf
    refine br (fun hj1 => ?_) (fun hj1 => ?_)
    · conv => whnf
      repeat (first | ((with_reducible apply Go.Vc.own_ix); (focus exact And.intro (by omega) (by omega)); conv => whnf) | ((with_reducible apply Go.Vc.ar_st); (focus ((repeat (first | with_reducible assumption | with_reducible exact Go.Vc.hset_same _ _ _ | with_reducible refine (Go.Vc.hset_ne _ _ (by omega)).trans ?_)); done)); (focus exact rfl); (focus exact rfl); (focus (first | omega | (simp; done) | (simp; omega))); (focus exact rfl); intro heqA; (conv => whnf); intro cA hcA; rw [heqA] at hcA; clear heqA; subst hcA; conv => whnf) | ((with_reducible apply Go.Vc.wr_i64); (focus exact And.intro (by omega) (by omega)); conv => whnf))
      have e : (List.replicate j (5 : Int) ++ List.replicate (32 - j) (0 : Int)).set j 5 = List.replicate (j + 1) 5 ++ List.replicate (32 - (j + 1)) 0 := by
        obtain ⟨m, hm⟩ : ∃ m, 32 - j = m + 1 := ⟨32 - j - 1, by omega⟩
        rw [hm, show 32 - (j + 1) = m by omega, List.set_append_right _ _ (by simp), List.length_replicate, Nat.sub_self, List.replicate_succ, List.set_cons_zero, List.replicate_succ', List.append_assoc]
        rfl
      have hne : ∀ b, owner a = some b → b ≠ rM := fun b hb => by
        have := sl_dom ho.sl (by omega) hd1 b hb
        omega
      refine round_end (j + 1) (by omega) ⟨rfl, rfl, rfl, trivial⟩ ⟨by omega, (hset_same _ _ _).trans (by rw [Int.toNat_natCast, e]), ?_, fun b o hb' => ?_, by omega⟩
      · refine ⟨s3.1, fun hn => ?_⟩
        obtain ⟨b, off, cs, T, fr, h1, h2, h3⟩ := s3.2 hn
        exact ⟨b, off, cs, T, fr, h1, (hset_ne _ _ (hne b (by rw [h1]; rfl))).trans h2, h3⟩
      · have := hd _ _ hb'
        rw [hset_ne _ _ (by omega)]
        exact hs3 b o hb'
    · obtain rfl : j = 32 := by omega
      rw [Nat.sub_self, List.replicate_zero, List.append_nil] at hb3
      conv => whnf
      refine ⟨_, _, _, rfl, s3, ar_sl (l := fixedB) hb3 rfl, hw, fun b hb => ?_, hs3, by omega⟩
      have e : rM = b := Option.some.inj hb
      omega
end Go.Proofs.YtikpfffhcjlcjaaGreat
