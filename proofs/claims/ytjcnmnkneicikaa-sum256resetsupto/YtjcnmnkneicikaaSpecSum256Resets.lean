/- Sum256Resets answers true, by its contract. -/
import Derived.Test.YtjcnmnkneicikaaSha9
namespace Go.Proofs.Ytjcnmnkneicikaa
open Go Go.Vc Go.Sha
set_option maxRecDepth 10000
set_option linter.unusedVariables false

theorem Sum256Resets_spec (h : Heap) (t : Nat) (s : ByteArray) (hs : s.size ≤ 1048576) (u : ByteArray) (hu : u.size ≤ 1048576) :
    CallSpec Try.prog 7 #[.string s, .string u] h t (fun v h' _ => v = .bool true ∧ Sub h h') := by
  refine Go.Vc.spec_of_vc (fn := Try.f7) Try.func7 rfl (by kernel_rfl) (by kernel_rfl) (Nat.le_of_ble_eq_true rfl) ?_
  intro hd
  conv => whnf
  refine (examples_spec h t).mono ?_
  rintro _ h1 t1 hd1 ht1 ⟨rfl, hs1⟩
  conv => whnf
  repeat (first | ((with_reducible apply Go.Vc.mk_b); (focus exact And.intro (by omega) (by omega)); (focus exact rfl); (focus omega); intro rM csM hrM hcsM; (first | (replace hcsM := hcsM.trans (Go.Vc.zc (Value.int .i64) 0 _)) | (replace hcsM := hcsM.trans (Go.Vc.zc Go.Vc.bv 0 _)) | (replace hcsM := hcsM.trans (Go.Vc.zc Value.string ByteArray.empty _))); subst hcsM; conv => whnf) | ((with_reducible apply Go.Vc.own_ix); (focus exact And.intro (by omega) (by omega)); conv => whnf) | ((with_reducible apply Go.Vc.sl_ix); (focus with_reducible assumption); (focus exact And.intro (by omega) (by omega)); intro xI bI offI hxI hcI; conv => whnf) | ((with_reducible refine And.intro (And.intro ?_ ?_) ?_); (focus omega); (focus omega); conv => whnf) | ((with_reducible refine And.intro (And.intro ?_ (And.intro ?_ ?_)) ?_); (focus omega); (focus omega); (focus omega); conv => whnf) | ((with_reducible apply Go.Vc.ldrow); (focus ((repeat (first | with_reducible assumption | with_reducible exact Go.Vc.hset_same _ _ _ | with_reducible refine (Go.Vc.hset_ne _ _ (by omega)).trans ?_)); done)); (focus exact rfl); rintro _ rfl; conv => whnf) | ((with_reducible apply Go.Vc.strow); (focus ((repeat (first | with_reducible assumption | with_reducible exact Go.Vc.hset_same _ _ _ | with_reducible refine (Go.Vc.hset_ne _ _ (by omega)).trans ?_)); done)); (focus exact rfl); (focus exact rfl); (focus exact rfl); rintro _ rfl; conv => whnf) | ((with_reducible apply Go.Vc.agg_ld); (focus exact rfl); (focus (first | omega | (simp; done) | (simp; omega))); intro xA hxA; conv => whnf) | ((with_reducible apply Go.Vc.ld_i); (focus ((repeat (first | with_reducible assumption | with_reducible exact Go.Vc.hset_same _ _ _ | with_reducible refine (Go.Vc.hset_ne _ _ (by omega)).trans ?_)); done)); (focus exact rfl); conv => whnf) | ((with_reducible apply Go.Vc.ar_ld); (focus ((repeat (first | with_reducible assumption | with_reducible exact Go.Vc.hset_same _ _ _ | with_reducible refine (Go.Vc.hset_ne _ _ (by omega)).trans ?_)); done)); (focus exact rfl); (focus (first | omega | (simp; done) | (simp; omega))); intro xA hxA; conv => whnf) | ((with_reducible apply Go.Vc.ar_st); (focus ((repeat (first | with_reducible assumption | with_reducible exact Go.Vc.hset_same _ _ _ | with_reducible refine (Go.Vc.hset_ne _ _ (by omega)).trans ?_)); done)); (focus exact rfl); (focus exact rfl); (focus (first | omega | (simp; done) | (simp; omega))); (focus exact rfl); intro heqA; (conv => whnf); intro cA hcA; rw [heqA] at hcA; clear heqA; subst hcA; conv => whnf) | ((with_reducible apply Go.Vc.st_i); (focus ((repeat (first | with_reducible assumption | with_reducible exact Go.Vc.hset_same _ _ _ | with_reducible refine (Go.Vc.hset_ne _ _ (by omega)).trans ?_)); done)); (focus exact rfl); (focus exact rfl); (focus exact rfl); (conv => whnf); intro cA hcA; (first | (simp only [List.setIfInBounds_toArray, List.set_cons_succ, List.set_cons_zero] at hcA; subst hcA) | subst hcA); conv => whnf) | ((with_reducible apply Go.Vc.cell_i); (focus assumption); conv => whnf) | (intro _ _; conv => whnf) | ((with_reducible apply Go.Vc.wr_i64); (focus exact And.intro (by omega) (by omega)); conv => whnf) | ((with_reducible apply Go.Vc.wr_u8); (focus exact And.intro (by omega) (by omega)); conv => whnf) | ((with_reducible apply Go.Vc.wr_u16); (focus exact And.intro (by omega) (by omega)); conv => whnf) | ((with_reducible apply Go.Vc.wr_u32); (focus exact And.intro (by omega) (by omega)); conv => whnf) | ((with_reducible apply Go.Vc.wr_u64); (focus exact And.intro (by omega) (by omega)); conv => whnf) | ((with_reducible apply Go.Vc.wr_i32); (focus exact And.intro (by omega) (by omega)); conv => whnf) | ((with_reducible apply Go.Vc.shl1_i64); (focus exact And.intro (by omega) (by omega)); conv => whnf) | ((with_reducible apply Go.Vc.and1_i64); (focus exact And.intro (by omega) (by omega)); conv => whnf) | ((with_reducible apply Go.Vc.or1_i64); (focus exact And.intro (by omega) (by omega)); (focus exact And.intro (by omega) (by omega)); conv => whnf) | ((with_reducible apply Go.Vc.shr_u8); (focus exact And.intro (by omega) (by omega)); intro zS hzS hzS0 hzS1; conv => whnf) | ((with_reducible apply Go.Vc.shr_i64); (focus exact And.intro (by omega) (by omega)); intro zS hzS hzS0 hzS1; conv => whnf) | ((with_reducible apply Go.Vc.quo_i64); (focus exact And.intro (by omega) (And.intro (by omega) (by omega))); conv => whnf) | ((with_reducible apply Go.Vc.rem_i); (focus omega); conv => whnf) | (refine Go.Vc.br_t ?_ ?_; (focus omega); conv => whnf) | (refine Go.Vc.br_f ?_ ?_; (focus omega); conv => whnf) | (refine Go.Vc.brn_t ?_ ?_; (focus omega); conv => whnf) | (refine Go.Vc.brn_f ?_ ?_; (focus omega); conv => whnf) | ((with_reducible refine And.intro (Go.Vc.Sub.refl _) ?_); conv => whnf) | ((with_reducible apply Go.Vc.and_leI); (focus omega); conv => whnf) | ((with_reducible apply Go.Vc.and_leN); (focus (first | omega | (simp only [ByteArray.size, List.size_toArray, List.length_cons, List.length_nil] at *; omega))); conv => whnf) | ((with_reducible refine And.intro ?_ (And.intro ?_ ?_)); (focus exact rfl); (focus omega); conv => whnf))
  generalize hm : (if (300 : Int) < (s.size : Int) then (300 : Int) else (s.size : Int)).toNat = m
  have hm1 := cut_range s 300 hm
  have hc := extract_size (i := 0) (by omega) hm1.2
  generalize s.extract 0 m = c at *
  generalize hm' : (if (300 : Int) < (u.size : Int) then (300 : Int) else (u.size : Int)).toNat = m'
  have hm1' := cut_range u 300 hm'
  have hc' := extract_size (i := 0) (by omega) hm1'.2
  generalize u.extract 0 m' = e at *
  have hcl := toList_length c
  have hel := toList_length e
  refine (new_spec _ _).mono ?_
  rintro _ h2 t2 hd2 ht2 ⟨b, rfl, hb, hbt, hb2, hs2⟩
  conv => whnf
  refine (new_spec _ _).mono ?_
  rintro _ h3 t3 hd3 ht3 ⟨k, rfl, hk, hkt, hk3, hs3⟩
  have x3 := (newAt hb2).sub hs3
  have y3 := newAt hk3
  conv => whnf
  repeat (first | ((with_reducible apply Go.Vc.mk_b); (focus exact And.intro (by omega) (by omega)); (focus exact rfl); (focus omega); intro rM csM hrM hcsM; (first | (replace hcsM := hcsM.trans (Go.Vc.zc (Value.int .i64) 0 _)) | (replace hcsM := hcsM.trans (Go.Vc.zc Go.Vc.bv 0 _)) | (replace hcsM := hcsM.trans (Go.Vc.zc Value.string ByteArray.empty _))); subst hcsM; conv => whnf) | ((with_reducible apply Go.Vc.own_ix); (focus exact And.intro (by omega) (by omega)); conv => whnf) | ((with_reducible apply Go.Vc.sl_ix); (focus with_reducible assumption); (focus exact And.intro (by omega) (by omega)); intro xI bI offI hxI hcI; conv => whnf) | ((with_reducible refine And.intro (And.intro ?_ ?_) ?_); (focus omega); (focus omega); conv => whnf) | ((with_reducible refine And.intro (And.intro ?_ (And.intro ?_ ?_)) ?_); (focus omega); (focus omega); (focus omega); conv => whnf) | ((with_reducible apply Go.Vc.ldrow); (focus ((repeat (first | with_reducible assumption | with_reducible exact Go.Vc.hset_same _ _ _ | with_reducible refine (Go.Vc.hset_ne _ _ (by omega)).trans ?_)); done)); (focus exact rfl); rintro _ rfl; conv => whnf) | ((with_reducible apply Go.Vc.strow); (focus ((repeat (first | with_reducible assumption | with_reducible exact Go.Vc.hset_same _ _ _ | with_reducible refine (Go.Vc.hset_ne _ _ (by omega)).trans ?_)); done)); (focus exact rfl); (focus exact rfl); (focus exact rfl); rintro _ rfl; conv => whnf) | ((with_reducible apply Go.Vc.agg_ld); (focus exact rfl); (focus (first | omega | (simp; done) | (simp; omega))); intro xA hxA; conv => whnf) | ((with_reducible apply Go.Vc.ld_i); (focus ((repeat (first | with_reducible assumption | with_reducible exact Go.Vc.hset_same _ _ _ | with_reducible refine (Go.Vc.hset_ne _ _ (by omega)).trans ?_)); done)); (focus exact rfl); conv => whnf) | ((with_reducible apply Go.Vc.ar_ld); (focus ((repeat (first | with_reducible assumption | with_reducible exact Go.Vc.hset_same _ _ _ | with_reducible refine (Go.Vc.hset_ne _ _ (by omega)).trans ?_)); done)); (focus exact rfl); (focus (first | omega | (simp; done) | (simp; omega))); intro xA hxA; conv => whnf) | ((with_reducible apply Go.Vc.ar_st); (focus ((repeat (first | with_reducible assumption | with_reducible exact Go.Vc.hset_same _ _ _ | with_reducible refine (Go.Vc.hset_ne _ _ (by omega)).trans ?_)); done)); (focus exact rfl); (focus exact rfl); (focus (first | omega | (simp; done) | (simp; omega))); (focus exact rfl); intro heqA; (conv => whnf); intro cA hcA; rw [heqA] at hcA; clear heqA; subst hcA; conv => whnf) | ((with_reducible apply Go.Vc.st_i); (focus ((repeat (first | with_reducible assumption | with_reducible exact Go.Vc.hset_same _ _ _ | with_reducible refine (Go.Vc.hset_ne _ _ (by omega)).trans ?_)); done)); (focus exact rfl); (focus exact rfl); (focus exact rfl); (conv => whnf); intro cA hcA; (first | (simp only [List.setIfInBounds_toArray, List.set_cons_succ, List.set_cons_zero] at hcA; subst hcA) | subst hcA); conv => whnf) | ((with_reducible apply Go.Vc.cell_i); (focus assumption); conv => whnf) | (intro _ _; conv => whnf) | ((with_reducible apply Go.Vc.wr_i64); (focus exact And.intro (by omega) (by omega)); conv => whnf) | ((with_reducible apply Go.Vc.wr_u8); (focus exact And.intro (by omega) (by omega)); conv => whnf) | ((with_reducible apply Go.Vc.wr_u16); (focus exact And.intro (by omega) (by omega)); conv => whnf) | ((with_reducible apply Go.Vc.wr_u32); (focus exact And.intro (by omega) (by omega)); conv => whnf) | ((with_reducible apply Go.Vc.wr_u64); (focus exact And.intro (by omega) (by omega)); conv => whnf) | ((with_reducible apply Go.Vc.wr_i32); (focus exact And.intro (by omega) (by omega)); conv => whnf) | ((with_reducible apply Go.Vc.shl1_i64); (focus exact And.intro (by omega) (by omega)); conv => whnf) | ((with_reducible apply Go.Vc.and1_i64); (focus exact And.intro (by omega) (by omega)); conv => whnf) | ((with_reducible apply Go.Vc.or1_i64); (focus exact And.intro (by omega) (by omega)); (focus exact And.intro (by omega) (by omega)); conv => whnf) | ((with_reducible apply Go.Vc.shr_u8); (focus exact And.intro (by omega) (by omega)); intro zS hzS hzS0 hzS1; conv => whnf) | ((with_reducible apply Go.Vc.shr_i64); (focus exact And.intro (by omega) (by omega)); intro zS hzS hzS0 hzS1; conv => whnf) | ((with_reducible apply Go.Vc.quo_i64); (focus exact And.intro (by omega) (And.intro (by omega) (by omega))); conv => whnf) | ((with_reducible apply Go.Vc.rem_i); (focus omega); conv => whnf) | (refine Go.Vc.br_t ?_ ?_; (focus omega); conv => whnf) | (refine Go.Vc.br_f ?_ ?_; (focus omega); conv => whnf) | (refine Go.Vc.brn_t ?_ ?_; (focus omega); conv => whnf) | (refine Go.Vc.brn_f ?_ ?_; (focus omega); conv => whnf) | ((with_reducible refine And.intro (Go.Vc.Sub.refl _) ?_); conv => whnf) | ((with_reducible apply Go.Vc.and_leI); (focus omega); conv => whnf) | ((with_reducible apply Go.Vc.and_leN); (focus (first | omega | (simp only [ByteArray.size, List.size_toArray, List.length_cons, List.length_nil] at *; omega))); conv => whnf) | ((with_reducible refine And.intro ?_ (And.intro ?_ ?_)); (focus exact rfl); (focus omega); conv => whnf))
  refine (write_spec x3 c (by simp; omega)).mono ?_
  rintro _ h4 t4 hd4 ht4 ⟨rfl, d4, x4, hd4', hf4⟩
  rw [List.nil_append] at x4
  have y4 := y3.fr (fun q o hq ho => hf4 q o (by rcases hq with rfl | hq; omega; cases hq) (by simp) ho)
  conv => whnf
  refine (write_spec y4 e (by simp; omega)).mono ?_
  rintro _ h5 t5 hd5 ht5 ⟨rfl, d5, y5, hd5', hf5⟩
  rw [List.nil_append] at y5
  have hne4 : ∀ q, d4 = some q → q ≠ k := by
    intro q hq
    rcases hd4' with rfl | ⟨z, rfl, hz, _⟩
    · cases hq
    · cases hq; omega
  have hne5 : ∀ q, d5 = some q → q ≠ b ∧ t4 ≤ q := by
    intro q hq
    rcases hd5' with rfl | ⟨z, rfl, hz, _⟩
    · cases hq
    · cases hq; omega
  have x5 := x4.fr (fun q o hq ho => hf5 q o (by rcases hq with rfl | hq; omega; exact hne4 q hq) (by simp) ho)
  have hk5 : Sub h h5 := by
    intro q o ho
    have := hd q o ho
    exact hf5 q o (by omega) (by simp) (hf4 q o (by omega) (by simp) (hs3 q o (hs2 q o (hs1 q o ho))))
  conv => whnf
  refine (reset_spec x5.gen).mono ?_
  rintro _ h6 t6 hd6 ht6 ⟨rfl, x6, hf6⟩
  have y6 := y5.fr (fun q o hq ho => hf6 q o (by rcases hq with rfl | hq; omega; exact (hne5 q hq).1) ho)
  have hk6 : Sub h h6 := fun q o ho => hf6 q o (by have := hd q o ho; omega) (hk5 q o ho)
  conv => whnf
  refine (len_spec x6).mono ?_
  rintro _ _ _ _ _ ⟨rfl, rfl, rfl⟩
  conv => whnf
  refine (sum_spec x6 (by simp)).mono ?_
  rintro _ h7 t7 hd7 ht7 ⟨rfl, hs7⟩
  have x7 := x6.sub hs7
  have y7 := y6.sub hs7
  conv => whnf
  refine (write_spec x7 e (by simp; omega)).mono ?_
  rintro _ h8 t8 hd8 ht8 ⟨rfl, d8, x8, hd8', hf8⟩
  rw [List.nil_append] at x8
  have y8 := y7.fr (fun q o hq ho => hf8 q o (by rcases hq with rfl | hq; omega; exact (hne5 q hq).1) (by simp) ho)
  have hk8 : Sub h h8 := fun q o ho => hf8 q o (by have := hd q o ho; omega) (by simp) (hs7 q o (hk6 q o ho))
  conv => whnf
  refine br_t rfl ?_
  conv => whnf
  refine (one_spec ByteArray.empty (by decide) _ _).mono ?_
  rintro _ h9 t9 hd9 ht9 ⟨rfl, hs9⟩
  conv => whnf
  refine br_t rfl ?_
  conv => whnf
  refine (sum_spec (x8.sub hs9) (by omega)).mono ?_
  rintro _ h10 t10 hd10 ht10 ⟨rfl, hs10⟩
  conv => whnf
  refine (sum_spec ((y8.sub hs9).sub hs10) (by omega)).mono ?_
  rintro _ h11 t11 hd11 ht11 ⟨rfl, hs11⟩
  conv => whnf
  refine br_t rfl ?_
  conv => whnf
  refine (len_spec (((x8.sub hs9).sub hs10).sub hs11)).mono ?_
  rintro _ _ _ _ _ ⟨rfl, rfl, rfl⟩
  conv => whnf
  refine (len_spec (((y8.sub hs9).sub hs10).sub hs11)).mono ?_
  rintro _ _ _ _ _ ⟨rfl, rfl, rfl⟩
  conv => whnf
  exact ⟨by rw [opq_eq]; simp, hk8.trans (hs9.trans (hs10.trans hs11))⟩
end Go.Proofs.Ytjcnmnkneicikaa
