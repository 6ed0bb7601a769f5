import Derived.Test.YtikpfffhcjlcjaaGzEx
/- GzBack answers true, by its contract. -/
set_option linter.unusedSimpArgs false
namespace Go.Proofs.Ytikpfffhcjlcjaa
open Go Go.Vc Go.Huf Go.Dfl Go.Gz
set_option maxRecDepth 10000
set_option linter.unusedVariables false

theorem GzBack_spec (h : Heap) (t : Nat) (s : ByteArray) (hs : s.size ≤ 1048576) (more : ByteArray) (hmo : more.size ≤ 1048576) :
    CallSpec Try.prog 10 #[.string s, .string more] h t (fun v h' _ => v = .bool true ∧ Vc.Sub h h') := by
  refine Go.Vc.spec_of_vc (fn := Try.f10) Try.func10 rfl (by kernel_rfl) (by kernel_rfl) (Nat.le_of_ble_eq_true rfl) ?_
  intro hd
  conv => whnf
  refine (zexamples_spec h t).mono ?_
  rintro _ h1 t1 hd1 ht1 ⟨rfl, hs1, _⟩
  conv => whnf
  repeat (first | ((with_reducible refine And.intro (And.intro ?_ ?_) ?_); (focus omega); (focus omega); conv => whnf))
  have hS : (s.extract 0 (if (1000 : Int) < (s.size : Nat) then (1000 : Int) else (s.size : Nat)).toNat).size ≤ 1000 := by
    rw [ByteArray.size_extract]; split <;> omega
  generalize s.extract 0 (if (1000 : Int) < (s.size : Nat) then (1000 : Int) else (s.size : Nat)).toNat = S at hS ⊢
  refine (gpack_spec S (by omega)).mono ?_
  rintro _ h2 t2 hd2 ht2 ⟨rfl, hs2, _⟩
  have hz := pack_size S
  have hl := packL_le S (by omega)
  have hzs := packS_size2 S
  have hes := end_size S
  conv => whnf
  rw [pack_split]
  refine (gopen_pack (s := S) (rest := endF S) (most := S.size) (by omega) (by omega) (by omega)).mono ?_
  rintro _ h3 t3 hd3 ht3 ⟨rfl, hs3, _⟩
  rw [go_ok (Nat.le_refl _)]
  have hzz : (aheadB ++ (packS S ++ endF S)).size = 10 + (packL S).length + 8 := by rw [← pack_split]; exact hz
  conv => whnf
  repeat (first | ((with_reducible apply Go.Vc.and_leN); (focus (first | omega | (simp only [ByteArray.size, List.size_toArray, List.length_cons, List.length_nil] at *; omega))); conv => whnf))
  obtain ⟨x2, e2, hg2, hi2⟩ := go_more S (most := S.size) more (Nat.le_refl _)
  obtain ⟨x4, e4, hg4, hi4⟩ := go_less S (most := S.size - 1) rfl
  rw [ByteArray.append_assoc, ByteArray.append_assoc]
  refine (gopen_pack (s := S) (rest := endF S ++ more) (most := S.size) (by omega) (by omega) (by rw [ByteArray.size_append]; omega)).mono ?_
  rintro _ h4 t4 hd4 ht4 ⟨rfl, hs4, _⟩
  rw [hg2]
  have ha : aheadB.size = 10 := rfl
  conv => whnf
  repeat (first | ((with_reducible refine And.intro (And.intro ?_ ?_) ?_); (focus omega); (focus omega); conv => whnf) | ((with_reducible apply Go.Vc.wr_i64); (focus exact And.intro (by omega) (by omega)); conv => whnf))
  rw [cut_three (A := aheadB) (B := packS S) (C := endF S) (m := 7) (by rw [hzz, hzs, ha]; split <;> omega)]
  have h7 : ((endF S).extract 0 7).size = 7 := by rw [ByteArray.size_extract, hes]; omega
  refine (gopen_pack (s := S) (rest := (endF S).extract 0 7) (most := S.size) (by omega) (by omega) (by omega)).mono ?_
  rintro _ h5 t5 hd5 ht5 ⟨rfl, hs5, _⟩
  rw [go_size _ _ (Nat.le_refl _) (by omega)]
  conv => whnf
  repeat (first | ((with_reducible apply Go.Vc.wr_i64); (focus exact And.intro (by omega) (by omega)); conv => whnf))
  rw [show (if (0 : Int) > (S.size : Int) - 1 then (0 : Int) else (S.size : Int) - 1) = ((S.size - 1 : Nat) : Int) by split <;> omega]
  refine (gopen_pack (s := S) (rest := endF S) (most := S.size - 1) (by omega) (by omega) (by omega)).mono ?_
  rintro _ h6 t6 hd6 ht6 ⟨rfl, hs6, _⟩
  rw [hg4]
  conv => whnf
  rw [opq_eq, decide_eq_true rfl]
  conv => whnf
  repeat (first | (refine Go.Vc.br_t ?_ ?_; (focus omega); conv => whnf))
  have q2 : (opq (decide (e2 = 0)) == opq (decide (more = ({ data := #[] } : ByteArray)))) = true := by
    rw [opq_eq, opq_eq, decide_eq_decide.2 hi2]
    exact beq_self_eq_true _
  have q4 : (opq (decide (e4 = 9)) == opq (decide (S ≠ ({ data := #[] } : ByteArray)))) = true := by
    rw [opq_eq, opq_eq, decide_eq_decide.2 hi4]
    exact beq_self_eq_true _
  rw [q2]
  conv => whnf
  repeat (first | (refine Go.Vc.br_t ?_ ?_; (focus omega); conv => whnf))
  refine ⟨?_, fun z o hz' => hs6 _ _ (hs5 _ _ (hs4 _ _ (hs3 _ _ (hs2 _ _ (hs1 _ _ hz')))))⟩
  rw [q4]
end Go.Proofs.Ytikpfffhcjlcjaa
