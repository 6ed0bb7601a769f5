/- MerkleIncludes answers true, by its contract. -/
import Derived.Test.YtmlcdkckedjdjaaMerkle13
namespace Go.Proofs.Ytmlcdkckedjdjaa
open Go Go.Vc Go.Sha Go.Mk
set_option maxRecDepth 10000
set_option linter.unusedVariables false

theorem incd_len {root : ByteArray} {n i : Int} {hash : ByteArray} {P : List ByteArray} (h : (way n.toNat i.toNat).length ≠ P.length) : incd root n i hash P = false := by
  unfold incd; rw [decide_eq_false h]; simp
theorem incd_out {root : ByteArray} {n i : Int} {hash : ByteArray} {P : List ByteArray} (h : ¬ (0 ≤ i ∧ i < n)) : incd root n i hash P = false := by
  unfold incd; rw [decide_eq_false h]; rfl
theorem MerkleIncludes_spec (h : Heap) (t : Nat) (n : Int) (hn : IntKind.min .u16 ≤ n ∧ n ≤ IntKind.max .u16) (i : Int) (hi : IntKind.min .i64 ≤ i ∧ i ≤ IntKind.max .i64) (s : ByteArray) (hs : s.size ≤ 1048576) :
    CallSpec Try.prog 3 #[.int .u16 n, .int .i64 i, .string s] h t (fun v h' _ => v = .bool true ∧ Sub h h') := by
  have hn : 0 ≤ n ∧ n ≤ 65535 := hn
  have hi : -9223372036854775808 ≤ i ∧ i ≤ 9223372036854775807 := hi
  refine Go.Vc.spec_of_vc (fn := Try.f3) Try.func3 rfl (by kernel_rfl) (by kernel_rfl) (Nat.le_of_ble_eq_true rfl) ?_
  intro hd
  conv => whnf
  refine (examples_spec h t).mono ?_
  rintro _ h1 t1 hd1 ht1 ⟨rfl, hs1⟩
  conv => whnf
  repeat (first | ((with_reducible refine And.intro (And.intro ?_ ?_) ?_); (focus omega); (focus omega); conv => whnf) | ((with_reducible apply Go.Vc.wr_i64); (focus exact And.intro (by omega) (by omega)); conv => whnf) | ((with_reducible apply Go.Vc.rem_i); (focus omega); conv => whnf) | ((with_reducible refine And.intro ?_ (And.intro ?_ ?_)); (focus exact rfl); (focus omega); conv => whnf))
  generalize hk : (if (20 : Int) < (s.size : Int) then (20 : Int) else (s.size : Int)).toNat = k
  have hk1 := cut_range s 20 hk
  have hcs := extract_size (i := 0) (by omega) hk1.2
  generalize s.extract 0 k = x at *
  obtain ⟨N, hN⟩ : ∃ N : Nat, 1 + n % 300 = N := ⟨(1 + n % 300).toNat, by omega⟩
  rw [hN]
  have hN1 : 1 ≤ N ∧ N ≤ 300 := by omega
  conv => whnf
  refine (list_spec N (by omega) x (by omega) _ _).mono ?_
  rintro _ h2 t2 hd2 ht2 ⟨a2, c2, rfl, o2, hw2, hs2⟩
  have hL := listL_bd x N
  have hLl := listL_len x N
  generalize listL x N = L at *
  have S2 := hs1.trans hs2
  have s2 := o2.sl
  have hcap := o2.cap
  conv => whnf
  refine br (fun hb1 => ?_) (fun hb1 => ?_)
  · conv => whnf
    repeat (first | ((with_reducible apply Go.Vc.wr_i64); (focus exact And.intro (by omega) (by omega)); conv => whnf) | ((with_reducible apply Go.Vc.rem_i); (focus omega); conv => whnf) | ((with_reducible refine And.intro ?_ (And.intro ?_ ?_)); (focus exact rfl); (focus omega); conv => whnf))
    obtain ⟨I, hI⟩ : ∃ I : Nat, (0 - (i + 1)) % (N : Int) = I := ⟨((0 - (i + 1)) % (N : Int)).toNat, by have := Int.emod_nonneg (0 - (i + 1)) (b := (N : Int)) (by omega); omega⟩
    have hI2 : (I : Int) < N := by rw [← hI]; exact Int.emod_lt_of_pos _ (by omega)
    rw [hI]
    have hI1 : I < N := by omega
    have hIL : I < L.length := by omega
    refine (root_spec s2 (by omega) hL).mono ?_
    rintro _ h3 t3 hd3 ht3 ⟨rfl, hs3⟩
    conv => whnf
    refine (inclusion_spec (s2.sub hs3) (by omega) hcap hL (I : Nat) (by omega)).mono ?_
    rintro _ h4 t4 hd4 ht4 ⟨a4, m4, c4, rfl, o4, hw4, hs4⟩
    rw [decide_eq_true (show 0 ≤ ((I : Nat) : Int) ∧ ((I : Nat) : Int) < (N : Nat) by omega)]
    rw [if_pos (by omega), Int.toNat_natCast] at o4
    have hwl := inc_way_length ndB emB _ L I hLl
    have hinc := incd_true (l := L) (i := I) hIL
    rw [hLl] at hinc
    have hP4 := o4.1
    have hx4 : ∀ x ∈ inc ndB emB L I, x.size ≤ 274877906944 := inc_bd hL
    generalize inc ndB emB L I = P at *
    generalize rt ndB emB L = R at *
    have S4 := S2.trans (hs3.trans hs4)
    have s4 := (s2.sub hs3).sub hs4
    have so4 := o4.sl
    have hc4 := o4.cap
    have hgI : L[I]? = some L[I] := List.getElem?_eq_getElem hIL
    have hgs : L[I].size ≤ 274877906944 := hL _ (List.getElem_mem hIL)
    generalize L[I] = g at *
    have hm4 : m4 ≤ 9 := by
      have := way_le 9 N I (by omega)
      omega
    conv => whnf
    refine loop_intro (fun (d : Nat) => [(1, .int .i64 (I : Nat)), (2, .string s), (7, .bool true), (8, .int .i64 (N : Nat)), (9, .slice a2 N c2), (10, .string R), (11, .slice a4 m4 c4), (12, .bool true), (13, .int .i64 (d : Nat))])
      (fun d h' t' => h' = h4 ∧ t' = t4 ∧ d ≤ 9) (fun d => 9 - d) 0 ⟨rfl, rfl, rfl, rfl, rfl, rfl, rfl, rfl, rfl, trivial⟩ ⟨rfl, rfl, by omega⟩ ?_
    rintro d ge h5 t5 hd5 ⟨rfl, rfl, hd9⟩
    conv => whnf
    repeat (first | ((with_reducible apply Go.Vc.one_shl); (focus exact And.intro (by omega) (by omega)); intro zP hzP hzP0 hzP1; conv => whnf) | ((with_reducible apply Go.Vc.and_leI); (focus omega); conv => whnf))
    have hz : zP = 2 ^ d := by rw [hzP, Int.toNat_natCast]
    refine br (fun hb2 => ?_) (fun hb2 => ?_)
    · have hd8 : d < 9 := by
        by_cases h9 : d = 9
        · rw [h9] at hz; omega
        · omega
      conv => whnf
      repeat (first | ((with_reducible apply Go.Vc.wr_i64); (focus exact And.intro (by omega) (by omega)); conv => whnf))
      exact round_end (d + 1) (by omega) ⟨rfl, rfl, rfl, rfl, rfl, rfl, rfl, rfl, rfl, trivial⟩ ⟨rfl, rfl, by omega⟩
    have hmd : m4 ≤ d := by
      have := way_le d N I (by omega)
      omega
    conv => whnf
    repeat (first | ((with_reducible apply Go.Vc.sl_ix); (focus with_reducible assumption); (focus exact And.intro (by omega) (by omega)); intro xI bI offI hxI hcI; conv => whnf) | ((with_reducible apply Go.Vc.cell_i); (focus assumption); conv => whnf) | (refine Go.Vc.br_f ?_ ?_; (focus omega); conv => whnf))
    have ex : g = xI := Option.some.inj (hgI.symm.trans hxI)
    subst ex
    clear hxI
    refine (included_spec R (N : Nat) (I : Nat) (by omega) (by omega) g hgs so4 (by omega) hx4).mono ?_
    rintro _ h6 t6 hd6 ht6 ⟨rfl, hs6⟩
    rw [hinc]
    conv => whnf
    refine app_new hd6 (so4.sub hs6) (by omega) ?_
    intro a7 c7 h7 t7 o7 ht7 hd7 hs7 hw7
    conv => whnf
    repeat (first | (intro _ _; conv => whnf))
    rename_i r hr
    refine app_one hd6 ht7 hs7 hw7 hd7 hr o7 (by omega) ?_
    intro a8 c8 h8 t8 o8 ht8 hd8 hs8 hw8 _
    have S8 := S4.trans (hs6.trans hs8)
    have s8 := (s4.sub hs6).sub hs8
    have so8 := (so4.sub hs6).sub hs8
    have hx8 : ∀ x ∈ P ++ [s], x.size ≤ 274877906944 := fun x hx => (List.mem_append.1 hx).elim (hx4 x) (fun h => by rw [List.mem_singleton.1 h]; omega)
    conv => whnf
    refine Go.Vc.draw_intro [⟨0, false, false, false, 0⟩, ⟨1, false, false, false, 1⟩, ⟨2, false, false, false, 3⟩, ⟨3, false, false, false, 3⟩, ⟨4, false, false, false, 3⟩, ⟨5, false, false, false, 3⟩, ⟨6, false, false, false, 3⟩, ⟨7, false, false, false, 99⟩, ⟨8, false, false, false, 227⟩, ⟨9, false, false, false, 3⟩, ⟨10, true, false, false, 1023⟩, ⟨11, false, false, false, 2047⟩, ⟨12, false, false, false, 4095⟩, ⟨13, false, false, false, 8191⟩, ⟨14, false, false, false, 16383⟩, ⟨15, false, false, false, 32767⟩, ⟨16, false, false, false, 65535⟩, ⟨17, false, false, false, 131071⟩, ⟨18, false, false, false, 262143⟩, ⟨19, false, false, false, 262143⟩, ⟨20, false, false, false, 262143⟩, ⟨21, false, false, false, 262143⟩, ⟨22, false, false, false, 262143⟩, ⟨23, false, false, false, 6553599⟩, ⟨24, false, false, false, 14942207⟩, ⟨25, false, false, false, 262143⟩, ⟨26, false, false, false, 262143⟩, ⟨27, false, false, false, 67371007⟩, ⟨28, false, false, false, 201588735⟩, ⟨29, false, false, false, 503578623⟩, ⟨30, true, false, false, 1073741823⟩, ⟨31, false, false, false, 2147483647⟩, ⟨32, false, false, false, 4294967295⟩, ⟨33, false, false, false, 8589934591⟩, ⟨34, false, false, false, 17179869183⟩, ⟨35, false, false, false, 34359738367⟩, ⟨36, false, false, false, 34359738367⟩, ⟨37, false, false, false, 34359738367⟩, ⟨38, false, false, false, 34359738367⟩, ⟨39, false, false, false, 34359738367⟩, ⟨40, false, false, false, 858993459199⟩, ⟨41, false, false, false, 1958505086975⟩, ⟨42, false, false, false, 34359738367⟩, ⟨43, true, false, false, 8796093022207⟩, ⟨44, false, false, false, 17592186044415⟩, ⟨45, false, false, false, 35184372088831⟩, ⟨46, false, false, false, 70368744177663⟩, ⟨47, false, false, false, 140737488355327⟩, ⟨48, false, false, false, 140737488355327⟩, ⟨49, false, false, false, 140737488355327⟩, ⟨50, false, false, false, 140737488355327⟩, ⟨51, false, false, false, 1829587348619263⟩, ⟨52, false, false, false, 4081387162304511⟩, ⟨53, false, false, false, 140737488355327⟩, ⟨54, true, false, false, 18014398509481983⟩, ⟨55, false, false, false, 36028797018963967⟩, ⟨56, false, false, false, 72057594037927935⟩, ⟨57, false, false, false, 144115188075855871⟩] (hs := h8) (hsub := (Sub.refl _)) (hm := by kernel_rfl) (hpl := by kernel_rfl) ?_
    conv => whnf
    conv => whnf
    repeat (first | ((with_reducible apply Go.Vc.sl_ix); (focus with_reducible assumption); (focus exact And.intro (by omega) (by omega)); intro xI bI offI hxI hcI; conv => whnf) | ((with_reducible apply Go.Vc.cell_i); (focus assumption); conv => whnf))
    have ex : g = xI := Option.some.inj (hgI.symm.trans hxI)
    subst ex
    clear hxI
    refine (included_spec R (N : Nat) (I : Nat) (by omega) (by omega) g hgs o8.sl (by omega) hx8).mono ?_
    rintro _ h9 t9 hd9 ht9 ⟨rfl, hs9⟩
    rw [incd_len (by rw [Int.toNat_natCast, Int.toNat_natCast, List.length_append, ← hwl]; simp)]
    have s9 := s8.sub hs9
    have so9 := so8.sub hs9
    have hy8 : Sub h h9 := S8.trans hs9
    conv => whnf
    refine br (fun hb3 => ?_) (fun hb3 => ?_)
    · conv => whnf
      repeat (first | ((with_reducible apply Go.Vc.sl_ix); (focus with_reducible assumption); (focus exact And.intro (by omega) (by omega)); intro xI bI offI hxI hcI; conv => whnf) | ((with_reducible apply Go.Vc.cell_i); (focus assumption); conv => whnf))
      have ex : g = xI := Option.some.inj (hgI.symm.trans hxI)
      subst ex
      clear hxI
      refine (included_spec R (N : Nat) (N : Nat) (by omega) (by omega) g hgs so9 (by omega) hx4).mono ?_
      rintro _ hB tB hdB htB ⟨rfl, hsB⟩
      rw [incd_out (by omega)]
      have sB := s9.sub hsB
      conv => whnf
      repeat (first | ((with_reducible apply Go.Vc.sl_ix); (focus with_reducible assumption); (focus exact And.intro (by omega) (by omega)); intro xI bI offI hxI hcI; conv => whnf) | ((with_reducible apply Go.Vc.cell_i); (focus assumption); conv => whnf))
      have ex : g = xI := Option.some.inj (hgI.symm.trans hxI)
      subst ex
      clear hxI
      refine (included_spec R (N : Nat) (-1) (by omega) (by omega) g hgs (so9.sub hsB) (by omega) hx4).mono ?_
      rintro _ hC tC hdC htC ⟨rfl, hsC⟩
      rw [incd_out (by omega)]
      conv => whnf
      exact ⟨rfl, hy8.trans (hsB.trans hsC)⟩
    · have hmi : ((m4 : Int) - 1).toNat = m4 - 1 := by omega
      conv => whnf
      repeat (first | ((with_reducible apply Go.Vc.sl_ix); (focus with_reducible assumption); (focus exact And.intro (by omega) (by omega)); intro xI bI offI hxI hcI; conv => whnf) | ((with_reducible refine And.intro (And.intro ?_ ?_) ?_); (focus omega); (focus omega); conv => whnf) | ((with_reducible apply Go.Vc.cell_i); (focus assumption); conv => whnf) | ((with_reducible apply Go.Vc.wr_i64); (focus exact And.intro (by omega) (by omega)); conv => whnf))
      have ex : g = xI := Option.some.inj (hgI.symm.trans hxI)
      subst ex
      clear hxI
      rw [hmi]
      refine (included_spec R (N : Nat) (I : Nat) (by omega) (by omega) g hgs (so9.take (m := m4 - 1) (by omega)) (by omega) (fun x hx => hx4 x (List.mem_of_mem_take hx))).mono ?_
      rintro _ hA tA hdA htA ⟨rfl, hsA⟩
      rw [incd_len (by rw [Int.toNat_natCast, Int.toNat_natCast, List.length_take, ← hwl]; omega)]
      have s9 := s9.sub hsA
      have so9 := so9.sub hsA
      conv => whnf
      repeat (first | ((with_reducible apply Go.Vc.sl_ix); (focus with_reducible assumption); (focus exact And.intro (by omega) (by omega)); intro xI bI offI hxI hcI; conv => whnf) | ((with_reducible apply Go.Vc.cell_i); (focus assumption); conv => whnf))
      have ex : g = xI := Option.some.inj (hgI.symm.trans hxI)
      subst ex
      clear hxI
      refine (included_spec R (N : Nat) (N : Nat) (by omega) (by omega) g hgs so9 (by omega) hx4).mono ?_
      rintro _ hB tB hdB htB ⟨rfl, hsB⟩
      rw [incd_out (by omega)]
      have sB := s9.sub hsB
      conv => whnf
      repeat (first | ((with_reducible apply Go.Vc.sl_ix); (focus with_reducible assumption); (focus exact And.intro (by omega) (by omega)); intro xI bI offI hxI hcI; conv => whnf) | ((with_reducible apply Go.Vc.cell_i); (focus assumption); conv => whnf))
      have ex : g = xI := Option.some.inj (hgI.symm.trans hxI)
      subst ex
      clear hxI
      refine (included_spec R (N : Nat) (-1) (by omega) (by omega) g hgs (so9.sub hsB) (by omega) hx4).mono ?_
      rintro _ hC tC hdC htC ⟨rfl, hsC⟩
      rw [incd_out (by omega)]
      conv => whnf
      exact ⟨rfl, hy8.trans (hsA.trans (hsB.trans hsC))⟩
  · conv => whnf
    repeat (first | ((with_reducible apply Go.Vc.rem_i); (focus omega); conv => whnf) | ((with_reducible refine And.intro ?_ (And.intro ?_ ?_)); (focus exact rfl); (focus omega); conv => whnf))
    obtain ⟨I, hI⟩ : ∃ I : Nat, i % (N : Int) = I := ⟨(i % (N : Int)).toNat, by have := Int.emod_nonneg i (b := (N : Int)) (by omega); omega⟩
    have hI2 : (I : Int) < N := by rw [← hI]; exact Int.emod_lt_of_pos _ (by omega)
    rw [hI]
    have hI1 : I < N := by omega
    have hIL : I < L.length := by omega
    refine (root_spec s2 (by omega) hL).mono ?_
    rintro _ h3 t3 hd3 ht3 ⟨rfl, hs3⟩
    conv => whnf
    refine (inclusion_spec (s2.sub hs3) (by omega) hcap hL (I : Nat) (by omega)).mono ?_
    rintro _ h4 t4 hd4 ht4 ⟨a4, m4, c4, rfl, o4, hw4, hs4⟩
    rw [decide_eq_true (show 0 ≤ ((I : Nat) : Int) ∧ ((I : Nat) : Int) < (N : Nat) by omega)]
    rw [if_pos (by omega), Int.toNat_natCast] at o4
    have hwl := inc_way_length ndB emB _ L I hLl
    have hinc := incd_true (l := L) (i := I) hIL
    rw [hLl] at hinc
    have hP4 := o4.1
    have hx4 : ∀ x ∈ inc ndB emB L I, x.size ≤ 274877906944 := inc_bd hL
    generalize inc ndB emB L I = P at *
    generalize rt ndB emB L = R at *
    have S4 := S2.trans (hs3.trans hs4)
    have s4 := (s2.sub hs3).sub hs4
    have so4 := o4.sl
    have hc4 := o4.cap
    have hgI : L[I]? = some L[I] := List.getElem?_eq_getElem hIL
    have hgs : L[I].size ≤ 274877906944 := hL _ (List.getElem_mem hIL)
    generalize L[I] = g at *
    have hm4 : m4 ≤ 9 := by
      have := way_le 9 N I (by omega)
      omega
    conv => whnf
    refine loop_intro (fun (d : Nat) => [(1, .int .i64 (I : Nat)), (2, .string s), (7, .bool true), (8, .int .i64 (N : Nat)), (9, .slice a2 N c2), (10, .string R), (11, .slice a4 m4 c4), (12, .bool true), (13, .int .i64 (d : Nat))])
      (fun d h' t' => h' = h4 ∧ t' = t4 ∧ d ≤ 9) (fun d => 9 - d) 0 ⟨rfl, rfl, rfl, rfl, rfl, rfl, rfl, rfl, rfl, trivial⟩ ⟨rfl, rfl, by omega⟩ ?_
    rintro d ge h5 t5 hd5 ⟨rfl, rfl, hd9⟩
    conv => whnf
    repeat (first | ((with_reducible apply Go.Vc.one_shl); (focus exact And.intro (by omega) (by omega)); intro zP hzP hzP0 hzP1; conv => whnf) | ((with_reducible apply Go.Vc.and_leI); (focus omega); conv => whnf))
    have hz : zP = 2 ^ d := by rw [hzP, Int.toNat_natCast]
    refine br (fun hb2 => ?_) (fun hb2 => ?_)
    · have hd8 : d < 9 := by
        by_cases h9 : d = 9
        · rw [h9] at hz; omega
        · omega
      conv => whnf
      repeat (first | ((with_reducible apply Go.Vc.wr_i64); (focus exact And.intro (by omega) (by omega)); conv => whnf))
      exact round_end (d + 1) (by omega) ⟨rfl, rfl, rfl, rfl, rfl, rfl, rfl, rfl, rfl, trivial⟩ ⟨rfl, rfl, by omega⟩
    have hmd : m4 ≤ d := by
      have := way_le d N I (by omega)
      omega
    conv => whnf
    repeat (first | ((with_reducible apply Go.Vc.sl_ix); (focus with_reducible assumption); (focus exact And.intro (by omega) (by omega)); intro xI bI offI hxI hcI; conv => whnf) | ((with_reducible apply Go.Vc.cell_i); (focus assumption); conv => whnf) | (refine Go.Vc.br_f ?_ ?_; (focus omega); conv => whnf))
    have ex : g = xI := Option.some.inj (hgI.symm.trans hxI)
    subst ex
    clear hxI
    refine (included_spec R (N : Nat) (I : Nat) (by omega) (by omega) g hgs so4 (by omega) hx4).mono ?_
    rintro _ h6 t6 hd6 ht6 ⟨rfl, hs6⟩
    rw [hinc]
    conv => whnf
    refine app_new hd6 (so4.sub hs6) (by omega) ?_
    intro a7 c7 h7 t7 o7 ht7 hd7 hs7 hw7
    conv => whnf
    repeat (first | (intro _ _; conv => whnf))
    rename_i r hr
    refine app_one hd6 ht7 hs7 hw7 hd7 hr o7 (by omega) ?_
    intro a8 c8 h8 t8 o8 ht8 hd8 hs8 hw8 _
    have S8 := S4.trans (hs6.trans hs8)
    have s8 := (s4.sub hs6).sub hs8
    have so8 := (so4.sub hs6).sub hs8
    have hx8 : ∀ x ∈ P ++ [s], x.size ≤ 274877906944 := fun x hx => (List.mem_append.1 hx).elim (hx4 x) (fun h => by rw [List.mem_singleton.1 h]; omega)
    conv => whnf
    refine Go.Vc.draw_intro [⟨0, false, false, false, 0⟩, ⟨1, false, false, false, 1⟩, ⟨2, false, false, false, 3⟩, ⟨3, false, false, false, 3⟩, ⟨4, false, false, false, 3⟩, ⟨5, false, false, false, 3⟩, ⟨6, false, false, false, 3⟩, ⟨7, false, false, false, 99⟩, ⟨8, false, false, false, 227⟩, ⟨9, false, false, false, 3⟩, ⟨10, true, false, false, 1023⟩, ⟨11, false, false, false, 2047⟩, ⟨12, false, false, false, 4095⟩, ⟨13, false, false, false, 8191⟩, ⟨14, false, false, false, 16383⟩, ⟨15, false, false, false, 32767⟩, ⟨16, false, false, false, 65535⟩, ⟨17, false, false, false, 131071⟩, ⟨18, false, false, false, 262143⟩, ⟨19, false, false, false, 262143⟩, ⟨20, false, false, false, 262143⟩, ⟨21, false, false, false, 262143⟩, ⟨22, false, false, false, 262143⟩, ⟨23, false, false, false, 6553599⟩, ⟨24, false, false, false, 14942207⟩, ⟨25, false, false, false, 262143⟩, ⟨26, false, false, false, 262143⟩, ⟨27, false, false, false, 67371007⟩, ⟨28, false, false, false, 201588735⟩, ⟨29, false, false, false, 503578623⟩, ⟨30, true, false, false, 1073741823⟩, ⟨31, false, false, false, 2147483647⟩, ⟨32, false, false, false, 4294967295⟩, ⟨33, false, false, false, 8589934591⟩, ⟨34, false, false, false, 17179869183⟩, ⟨35, false, false, false, 34359738367⟩, ⟨36, false, false, false, 34359738367⟩, ⟨37, false, false, false, 34359738367⟩, ⟨38, false, false, false, 34359738367⟩, ⟨39, false, false, false, 34359738367⟩, ⟨40, false, false, false, 858993459199⟩, ⟨41, false, false, false, 1958505086975⟩, ⟨42, false, false, false, 34359738367⟩, ⟨43, true, false, false, 8796093022207⟩, ⟨44, false, false, false, 17592186044415⟩, ⟨45, false, false, false, 35184372088831⟩, ⟨46, false, false, false, 70368744177663⟩, ⟨47, false, false, false, 140737488355327⟩, ⟨48, false, false, false, 140737488355327⟩, ⟨49, false, false, false, 140737488355327⟩, ⟨50, false, false, false, 140737488355327⟩, ⟨51, false, false, false, 1829587348619263⟩, ⟨52, false, false, false, 4081387162304511⟩, ⟨53, false, false, false, 140737488355327⟩, ⟨54, true, false, false, 18014398509481983⟩, ⟨55, false, false, false, 36028797018963967⟩, ⟨56, false, false, false, 72057594037927935⟩, ⟨57, false, false, false, 144115188075855871⟩] (hs := h8) (hsub := (Sub.refl _)) (hm := by kernel_rfl) (hpl := by kernel_rfl) ?_
    conv => whnf
    conv => whnf
    repeat (first | ((with_reducible apply Go.Vc.sl_ix); (focus with_reducible assumption); (focus exact And.intro (by omega) (by omega)); intro xI bI offI hxI hcI; conv => whnf) | ((with_reducible apply Go.Vc.cell_i); (focus assumption); conv => whnf))
    have ex : g = xI := Option.some.inj (hgI.symm.trans hxI)
    subst ex
    clear hxI
    refine (included_spec R (N : Nat) (I : Nat) (by omega) (by omega) g hgs o8.sl (by omega) hx8).mono ?_
    rintro _ h9 t9 hd9 ht9 ⟨rfl, hs9⟩
    rw [incd_len (by rw [Int.toNat_natCast, Int.toNat_natCast, List.length_append, ← hwl]; simp)]
    have s9 := s8.sub hs9
    have so9 := so8.sub hs9
    have hy8 : Sub h h9 := S8.trans hs9
    conv => whnf
    refine br (fun hb3 => ?_) (fun hb3 => ?_)
    · conv => whnf
      repeat (first | ((with_reducible apply Go.Vc.sl_ix); (focus with_reducible assumption); (focus exact And.intro (by omega) (by omega)); intro xI bI offI hxI hcI; conv => whnf) | ((with_reducible apply Go.Vc.cell_i); (focus assumption); conv => whnf))
      have ex : g = xI := Option.some.inj (hgI.symm.trans hxI)
      subst ex
      clear hxI
      refine (included_spec R (N : Nat) (N : Nat) (by omega) (by omega) g hgs so9 (by omega) hx4).mono ?_
      rintro _ hB tB hdB htB ⟨rfl, hsB⟩
      rw [incd_out (by omega)]
      have sB := s9.sub hsB
      conv => whnf
      repeat (first | ((with_reducible apply Go.Vc.sl_ix); (focus with_reducible assumption); (focus exact And.intro (by omega) (by omega)); intro xI bI offI hxI hcI; conv => whnf) | ((with_reducible apply Go.Vc.cell_i); (focus assumption); conv => whnf))
      have ex : g = xI := Option.some.inj (hgI.symm.trans hxI)
      subst ex
      clear hxI
      refine (included_spec R (N : Nat) (-1) (by omega) (by omega) g hgs (so9.sub hsB) (by omega) hx4).mono ?_
      rintro _ hC tC hdC htC ⟨rfl, hsC⟩
      rw [incd_out (by omega)]
      conv => whnf
      exact ⟨rfl, hy8.trans (hsB.trans hsC)⟩
    · have hmi : ((m4 : Int) - 1).toNat = m4 - 1 := by omega
      conv => whnf
      repeat (first | ((with_reducible apply Go.Vc.sl_ix); (focus with_reducible assumption); (focus exact And.intro (by omega) (by omega)); intro xI bI offI hxI hcI; conv => whnf) | ((with_reducible refine And.intro (And.intro ?_ ?_) ?_); (focus omega); (focus omega); conv => whnf) | ((with_reducible apply Go.Vc.cell_i); (focus assumption); conv => whnf) | ((with_reducible apply Go.Vc.wr_i64); (focus exact And.intro (by omega) (by omega)); conv => whnf))
      have ex : g = xI := Option.some.inj (hgI.symm.trans hxI)
      subst ex
      clear hxI
      rw [hmi]
      refine (included_spec R (N : Nat) (I : Nat) (by omega) (by omega) g hgs (so9.take (m := m4 - 1) (by omega)) (by omega) (fun x hx => hx4 x (List.mem_of_mem_take hx))).mono ?_
      rintro _ hA tA hdA htA ⟨rfl, hsA⟩
      rw [incd_len (by rw [Int.toNat_natCast, Int.toNat_natCast, List.length_take, ← hwl]; omega)]
      have s9 := s9.sub hsA
      have so9 := so9.sub hsA
      conv => whnf
      repeat (first | ((with_reducible apply Go.Vc.sl_ix); (focus with_reducible assumption); (focus exact And.intro (by omega) (by omega)); intro xI bI offI hxI hcI; conv => whnf) | ((with_reducible apply Go.Vc.cell_i); (focus assumption); conv => whnf))
      have ex : g = xI := Option.some.inj (hgI.symm.trans hxI)
      subst ex
      clear hxI
      refine (included_spec R (N : Nat) (N : Nat) (by omega) (by omega) g hgs so9 (by omega) hx4).mono ?_
      rintro _ hB tB hdB htB ⟨rfl, hsB⟩
      rw [incd_out (by omega)]
      have sB := s9.sub hsB
      conv => whnf
      repeat (first | ((with_reducible apply Go.Vc.sl_ix); (focus with_reducible assumption); (focus exact And.intro (by omega) (by omega)); intro xI bI offI hxI hcI; conv => whnf) | ((with_reducible apply Go.Vc.cell_i); (focus assumption); conv => whnf))
      have ex : g = xI := Option.some.inj (hgI.symm.trans hxI)
      subst ex
      clear hxI
      refine (included_spec R (N : Nat) (-1) (by omega) (by omega) g hgs (so9.sub hsB) (by omega) hx4).mono ?_
      rintro _ hC tC hdC htC ⟨rfl, hsC⟩
      rw [incd_out (by omega)]
      conv => whnf
      exact ⟨rfl, hy8.trans (hsA.trans (hsB.trans hsC))⟩
end Go.Proofs.Ytmlcdkckedjdjaa
