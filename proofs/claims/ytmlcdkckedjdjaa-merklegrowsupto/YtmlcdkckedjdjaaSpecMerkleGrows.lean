/- MerkleGrows answers true, by its contract. -/
import Derived.Test.YtmlcdkckedjdjaaMerkle13
namespace Go.Proofs.Ytmlcdkckedjdjaa
open Go Go.Vc Go.Sha Go.Mk
set_option maxRecDepth 10000
set_option linter.unusedVariables false

theorem grwd_len {old : ByteArray} {m : Int} {root : ByteArray} {n : Int} {P : List ByteArray} (h : P.length ≠ many n.toNat m.toNat true) : grwd old m root n P = false := by
  rw [grwd_eq, decide_eq_false h]; simp
theorem grwd_out {old : ByteArray} {m : Int} {root : ByteArray} {n : Int} {P : List ByteArray} (h : ¬ (1 ≤ m ∧ m ≤ n)) : grwd old m root n P = false := by
  rw [grwd_eq, decide_eq_false h]; rfl
theorem grwd_true {l : List ByteArray} {m : Nat} (h1 : 1 ≤ m) (h2 : m ≤ l.length) : grwd (rt ndB emB (l.take m)) ((m : Nat) : Int) (rt ndB emB l) ((l.length : Nat) : Int) (con ndB emB l m true) = true := by
  rw [grwd_eq, decide_eq_true (by omega), Int.toNat_natCast, Int.toNat_natCast, decide_eq_true (con_many ndB emB _ l m true rfl), both_con ndB emB _ l m true _ rfl h1 h2 (fun _ => rfl)]
  simp
theorem many_zero {n m : Nat} (h1 : 1 ≤ m) (h2 : m ≤ n) : many n m true = 0 ↔ m = n := by
  by_cases h : n ≤ m
  · rw [many_ge h]; simp; omega
  · have h3 := sp_lt (n := n) (by omega)
    by_cases hk : m ≤ sp n
    · rw [many_lo (by omega) (by omega) hk]; omega
    · rw [many_hi (by omega) (by omega) hk]; omega
theorem MerkleGrows_spec (h : Heap) (t : Nat) (n : Int) (hn : IntKind.min .u16 ≤ n ∧ n ≤ IntKind.max .u16) (i : Int) (hi : IntKind.min .i64 ≤ i ∧ i ≤ IntKind.max .i64) (s : ByteArray) (hs : s.size ≤ 1048576) :
    CallSpec Try.prog 8 #[.int .u16 n, .int .i64 i, .string s] h t (fun v h' _ => v = .bool true ∧ Sub h h') := by
  have hn : 0 ≤ n ∧ n ≤ 65535 := hn
  have hi : -9223372036854775808 ≤ i ∧ i ≤ 9223372036854775807 := hi
  refine Go.Vc.spec_of_vc (fn := Try.f8) Try.func8 rfl (by kernel_rfl) (by kernel_rfl) (Nat.le_of_ble_eq_true rfl) ?_
  intro hd
  conv => whnf
  refine (examples_spec h t).mono ?_
  rintro _ h1 t1 hd1 ht1 ⟨rfl, hs1⟩
  conv => whnf
  repeat (first | ((with_reducible refine And.intro (And.intro ?_ ?_) ?_); (focus omega); (focus omega); conv => whnf) | ((with_reducible apply Go.Vc.wr_i64); (focus exact And.intro (by omega) (by omega)); conv => whnf) | ((with_reducible apply Go.Vc.rem_i); (focus omega); conv => whnf) | ((with_reducible refine And.intro ?_ (And.intro ?_ ?_)); (focus exact rfl); (focus omega); conv => whnf))
  generalize hk : (if (20 : Int) < (s.size : Int) then (20 : Int) else (s.size : Int)).toNat = k
  have hk1 := cut_range s 20 hk
  have hcs := extract_size (i := 0) (by omega) hk1.2
  generalize s.extract 0 k = x at *
  obtain ⟨N, hN⟩ : ∃ N : Nat, 1 + n % 300 = N := ⟨(1 + n % 300).toNat, by omega⟩
  rw [hN]
  have hN1 : 1 ≤ N ∧ N ≤ 300 := by omega
  conv => whnf
  refine (list_spec N (by omega) x (by omega) _ _).mono ?_
  rintro _ h2 t2 hd2 ht2 ⟨a2, c2, rfl, o2, hw2, hs2⟩
  have hL := listL_bd x N
  have hLl := listL_len x N
  generalize listL x N = L at *
  have S2 := hs1.trans hs2
  have s2 := o2.sl
  have hcap := o2.cap
  conv => whnf
  refine br (fun hb1 => ?_) (fun hb1 => ?_)
  · conv => whnf
    repeat (first | ((with_reducible apply Go.Vc.wr_i64); (focus exact And.intro (by omega) (by omega)); conv => whnf) | ((with_reducible apply Go.Vc.rem_i); (focus omega); conv => whnf) | ((with_reducible refine And.intro ?_ (And.intro ?_ ?_)); (focus exact rfl); (focus omega); conv => whnf))
    obtain ⟨I, hI⟩ : ∃ I : Nat, (0 - (i + 1)) % (N : Int) = I := ⟨((0 - (i + 1)) % (N : Int)).toNat, by have := Int.emod_nonneg (0 - (i + 1)) (b := (N : Int)) (by omega); omega⟩
    have hI2 : (I : Int) < N := by rw [← hI]; exact Int.emod_lt_of_pos _ (by omega)
    rw [hI]
    conv => whnf
    repeat (first | ((with_reducible apply Go.Vc.wr_i64); (focus exact And.intro (by omega) (by omega)); conv => whnf))
    obtain ⟨M, hM⟩ : ∃ M : Nat, 1 + (I : Int) = M := ⟨I + 1, by omega⟩
    rw [hM]
    have hM1 : 1 ≤ M ∧ M ≤ N := by omega
    refine (consistency_spec s2 (by omega) hcap hL (M : Nat) (by omega)).mono ?_
    rintro _ h3 t3 hd3 ht3 ⟨a3, m3, c3, rfl, o3, hw3, hs3⟩
    rw [decide_eq_true (show 1 ≤ ((M : Nat) : Int) ∧ ((M : Nat) : Int) ≤ (N : Nat) by omega)]
    rw [if_pos (by omega), Int.toNat_natCast] at o3
    have hcm := con_many ndB emB _ L M true hLl
    have htr := grwd_true (l := L) (m := M) hM1.1 (by omega)
    have hmz := many_zero hM1.1 hM1.2
    rw [hLl] at htr
    have hP3 := o3.1
    have hx3 : ∀ x ∈ con ndB emB L M true, x.size ≤ 274877906944 := con_bd hL
    have hT : ∀ x ∈ L.take M, x.size ≤ 274877906944 := fun x hx => hL x (List.mem_of_mem_take hx)
    have hm3 : m3 ≤ 300 := by have := many_le N M true hM1.1 hM1.2; omega
    have so3 := o3.sl
    generalize con ndB emB L M true = P at *
    conv => whnf
    refine (consistency_spec (s2.sub hs3) (by omega) hcap hL 0 (by omega)).mono ?_
    rintro _ h4 t4 hd4 ht4 ⟨a4, m4, c4, rfl, o4, hw4, hs4⟩
    rw [decide_eq_false (show ¬ (1 ≤ (0 : Int) ∧ (0 : Int) ≤ (N : Nat)) by omega)]
    conv => whnf
    repeat (first | ((with_reducible apply Go.Vc.wr_i64); (focus exact And.intro (by omega) (by omega)); conv => whnf))
    refine (consistency_spec ((s2.sub hs3).sub hs4) (by omega) hcap hL _ (by omega)).mono ?_
    rintro _ h5 t5 hd5 ht5 ⟨a5, m5, c5, rfl, o5, hw5, hs5⟩
    rw [decide_eq_false (show ¬ (1 ≤ (N : Int) + 1 ∧ (N : Int) + 1 ≤ (N : Nat)) by omega)]
    have S5 := hs3.trans (hs4.trans hs5)
    conv => whnf
    repeat (first | ((with_reducible refine And.intro (And.intro ?_ ?_) ?_); (focus omega); (focus omega); conv => whnf))
    rw [Int.toNat_natCast]
    refine (root_spec ((s2.sub S5).take (m := M) (by omega)) (by omega) hT).mono ?_
    rintro _ h6 t6 hd6 ht6 ⟨rfl, hs6⟩
    conv => whnf
    refine (root_spec ((s2.sub S5).sub hs6) (by omega) hL).mono ?_
    rintro _ h7 t7 hd7 ht7 ⟨rfl, hs7⟩
    have hR := rt_bd hL
    have hRT := rt_bd hT
    generalize rt ndB emB L = R at *
    generalize rt ndB emB (L.take M) = RT at *
    have so7 := so3.sub (hs4.trans (hs5.trans (hs6.trans hs7)))
    have hc3 := o3.cap
    conv => whnf
    refine app_new hd7 so7 (by omega) ?_
    intro a8 c8 h8 t8 o8 ht8 hd8 hs8 hw8
    conv => whnf
    repeat (first | (intro _ _; conv => whnf))
    rename_i r hr
    refine app_one hd7 ht8 hs8 hw8 hd8 hr o8 (by omega) ?_
    intro a9 c9 h9 t9 o9 ht9 hd9 hs9 hw9 _
    have so9 := so7.sub hs9
    have hx9 : ∀ x ∈ P ++ [s], x.size ≤ 274877906944 := fun x hx => (List.mem_append.1 hx).elim (hx3 x) (fun h => by rw [List.mem_singleton.1 h]; omega)
    conv => whnf
    refine (grown_spec RT (by omega) (M : Nat) (by omega) R (N : Nat) (by omega) so9 (by omega) hc3 hx3).mono ?_
    rintro _ hA tA hdA htA ⟨rfl, hsA⟩
    rw [htr]
    have hcond : (opq (decide ((M : Int) < (N : Int))) == opq (decide ((m3 : Int) > 0))) = true := by
      rw [opq_eq, opq_eq]
      by_cases hMN : M = N
      · have h0 : m3 = 0 := by rw [← hP3, hcm]; exact hmz.2 hMN
        rw [decide_eq_false (by omega), decide_eq_false (by omega)]; rfl
      · have h0 : m3 ≠ 0 := by rw [← hP3, hcm]; exact fun e => hMN (hmz.1 e)
        rw [decide_eq_true (by omega), decide_eq_true (by omega)]; rfl
    conv => whnf
    rw [hcond]
    conv => whnf
    refine (grown_spec RT (by omega) (M : Nat) (by omega) R (N : Nat) (by omega) (o9.sl.sub hsA) (by omega) o9.cap hx9).mono ?_
    rintro _ hB tB hdB htB ⟨rfl, hsB⟩
    rw [grwd_len (by rw [Int.toNat_natCast, Int.toNat_natCast, List.length_append, hcm]; simp)]
    conv => whnf
    refine (grown_spec RT (by omega) 0 (by omega) R (N : Nat) (by omega) ((so9.sub hsA).sub hsB) (by omega) hc3 hx3).mono ?_
    rintro _ hC tC hdC htC ⟨rfl, hsC⟩
    rw [grwd_out (by omega)]
    conv => whnf
    repeat (first | ((with_reducible apply Go.Vc.wr_i64); (focus exact And.intro (by omega) (by omega)); conv => whnf))
    refine (grown_spec RT (by omega) ((N : Int) + 1) (by omega) R (N : Nat) (by omega) (((so9.sub hsA).sub hsB).sub hsC) (by omega) hc3 hx3).mono ?_
    rintro _ hD tD hdD htD ⟨rfl, hsD⟩
    rw [grwd_out (by omega)]
    conv => whnf
    exact ⟨rfl, S2.trans (S5.trans (hs6.trans (hs7.trans (hs9.trans (hsA.trans (hsB.trans (hsC.trans hsD)))))))⟩
  · conv => whnf
    repeat (first | ((with_reducible apply Go.Vc.rem_i); (focus omega); conv => whnf) | ((with_reducible refine And.intro ?_ (And.intro ?_ ?_)); (focus exact rfl); (focus omega); conv => whnf))
    obtain ⟨I, hI⟩ : ∃ I : Nat, i % (N : Int) = I := ⟨(i % (N : Int)).toNat, by have := Int.emod_nonneg i (b := (N : Int)) (by omega); omega⟩
    have hI2 : (I : Int) < N := by rw [← hI]; exact Int.emod_lt_of_pos _ (by omega)
    rw [hI]
    conv => whnf
    repeat (first | ((with_reducible apply Go.Vc.wr_i64); (focus exact And.intro (by omega) (by omega)); conv => whnf))
    obtain ⟨M, hM⟩ : ∃ M : Nat, 1 + (I : Int) = M := ⟨I + 1, by omega⟩
    rw [hM]
    have hM1 : 1 ≤ M ∧ M ≤ N := by omega
    refine (consistency_spec s2 (by omega) hcap hL (M : Nat) (by omega)).mono ?_
    rintro _ h3 t3 hd3 ht3 ⟨a3, m3, c3, rfl, o3, hw3, hs3⟩
    rw [decide_eq_true (show 1 ≤ ((M : Nat) : Int) ∧ ((M : Nat) : Int) ≤ (N : Nat) by omega)]
    rw [if_pos (by omega), Int.toNat_natCast] at o3
    have hcm := con_many ndB emB _ L M true hLl
    have htr := grwd_true (l := L) (m := M) hM1.1 (by omega)
    have hmz := many_zero hM1.1 hM1.2
    rw [hLl] at htr
    have hP3 := o3.1
    have hx3 : ∀ x ∈ con ndB emB L M true, x.size ≤ 274877906944 := con_bd hL
    have hT : ∀ x ∈ L.take M, x.size ≤ 274877906944 := fun x hx => hL x (List.mem_of_mem_take hx)
    have hm3 : m3 ≤ 300 := by have := many_le N M true hM1.1 hM1.2; omega
    have so3 := o3.sl
    generalize con ndB emB L M true = P at *
    conv => whnf
    refine (consistency_spec (s2.sub hs3) (by omega) hcap hL 0 (by omega)).mono ?_
    rintro _ h4 t4 hd4 ht4 ⟨a4, m4, c4, rfl, o4, hw4, hs4⟩
    rw [decide_eq_false (show ¬ (1 ≤ (0 : Int) ∧ (0 : Int) ≤ (N : Nat)) by omega)]
    conv => whnf
    repeat (first | ((with_reducible apply Go.Vc.wr_i64); (focus exact And.intro (by omega) (by omega)); conv => whnf))
    refine (consistency_spec ((s2.sub hs3).sub hs4) (by omega) hcap hL _ (by omega)).mono ?_
    rintro _ h5 t5 hd5 ht5 ⟨a5, m5, c5, rfl, o5, hw5, hs5⟩
    rw [decide_eq_false (show ¬ (1 ≤ (N : Int) + 1 ∧ (N : Int) + 1 ≤ (N : Nat)) by omega)]
    have S5 := hs3.trans (hs4.trans hs5)
    conv => whnf
    repeat (first | ((with_reducible refine And.intro (And.intro ?_ ?_) ?_); (focus omega); (focus omega); conv => whnf))
    rw [Int.toNat_natCast]
    refine (root_spec ((s2.sub S5).take (m := M) (by omega)) (by omega) hT).mono ?_
    rintro _ h6 t6 hd6 ht6 ⟨rfl, hs6⟩
    conv => whnf
    refine (root_spec ((s2.sub S5).sub hs6) (by omega) hL).mono ?_
    rintro _ h7 t7 hd7 ht7 ⟨rfl, hs7⟩
    have hR := rt_bd hL
    have hRT := rt_bd hT
    generalize rt ndB emB L = R at *
    generalize rt ndB emB (L.take M) = RT at *
    have so7 := so3.sub (hs4.trans (hs5.trans (hs6.trans hs7)))
    have hc3 := o3.cap
    conv => whnf
    refine app_new hd7 so7 (by omega) ?_
    intro a8 c8 h8 t8 o8 ht8 hd8 hs8 hw8
    conv => whnf
    repeat (first | (intro _ _; conv => whnf))
    rename_i r hr
    refine app_one hd7 ht8 hs8 hw8 hd8 hr o8 (by omega) ?_
    intro a9 c9 h9 t9 o9 ht9 hd9 hs9 hw9 _
    have so9 := so7.sub hs9
    have hx9 : ∀ x ∈ P ++ [s], x.size ≤ 274877906944 := fun x hx => (List.mem_append.1 hx).elim (hx3 x) (fun h => by rw [List.mem_singleton.1 h]; omega)
    conv => whnf
    refine (grown_spec RT (by omega) (M : Nat) (by omega) R (N : Nat) (by omega) so9 (by omega) hc3 hx3).mono ?_
    rintro _ hA tA hdA htA ⟨rfl, hsA⟩
    rw [htr]
    have hcond : (opq (decide ((M : Int) < (N : Int))) == opq (decide ((m3 : Int) > 0))) = true := by
      rw [opq_eq, opq_eq]
      by_cases hMN : M = N
      · have h0 : m3 = 0 := by rw [← hP3, hcm]; exact hmz.2 hMN
        rw [decide_eq_false (by omega), decide_eq_false (by omega)]; rfl
      · have h0 : m3 ≠ 0 := by rw [← hP3, hcm]; exact fun e => hMN (hmz.1 e)
        rw [decide_eq_true (by omega), decide_eq_true (by omega)]; rfl
    conv => whnf
    rw [hcond]
    conv => whnf
    refine (grown_spec RT (by omega) (M : Nat) (by omega) R (N : Nat) (by omega) (o9.sl.sub hsA) (by omega) o9.cap hx9).mono ?_
    rintro _ hB tB hdB htB ⟨rfl, hsB⟩
    rw [grwd_len (by rw [Int.toNat_natCast, Int.toNat_natCast, List.length_append, hcm]; simp)]
    conv => whnf
    refine (grown_spec RT (by omega) 0 (by omega) R (N : Nat) (by omega) ((so9.sub hsA).sub hsB) (by omega) hc3 hx3).mono ?_
    rintro _ hC tC hdC htC ⟨rfl, hsC⟩
    rw [grwd_out (by omega)]
    conv => whnf
    repeat (first | ((with_reducible apply Go.Vc.wr_i64); (focus exact And.intro (by omega) (by omega)); conv => whnf))
    refine (grown_spec RT (by omega) ((N : Int) + 1) (by omega) R (N : Nat) (by omega) (((so9.sub hsA).sub hsB).sub hsC) (by omega) hc3 hx3).mono ?_
    rintro _ hD tD hdD htD ⟨rfl, hsD⟩
    rw [grwd_out (by omega)]
    conv => whnf
    exact ⟨rfl, S2.trans (S5.trans (hs6.trans (hs7.trans (hs9.trans (hsA.trans (hsB.trans (hsC.trans hsD)))))))⟩
end Go.Proofs.Ytmlcdkckedjdjaa
