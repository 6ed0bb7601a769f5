import Derived.Test.YtlkpgjicpjjlcaaGreatDoorTileTAll
import Derived.Test.YtlkpgjicpjjlcaaGreatDoorTileSt
import Derived.Test.YtlkpgjicpjjlcaaGreatDoorTileList
import Derived.Test.YtlkpgjicpjjlcaaGreatDoorTMkAll
/- Of the tiles of a tree the root and the proofs are those of its entries. -/
set_option linter.unusedVariables false
set_option linter.unusedSimpArgs false
namespace Go.Proofs.YtlkpgjicpjjlcaaGreatDoor
open Go Go.Vc Go.Tile Go.Sha Go.Mk
set_option maxRecDepth 20000
set_option maxHeartbeats 4000000
set_option linter.unusedVariables false
theorem cut30 (s : ByteArray) : ∃ x : ByteArray, s.extract 0 (if (30 : Int) < (s.size : Int) then (30 : Int) else (s.size : Int)).toNat = x ∧ x.size ≤ 30 := by
  refine ⟨_, rfl, ?_⟩
  rw [ByteArray.size_extract]
  split <;> omega
theorem TileRoots_spec {h : Heap} {t : Nat} (hM : MaxC h) (x : Int) (hx : 0 ≤ x ∧ x ≤ 65535) (y : Int) (hy : -9223372036854775808 ≤ y ∧ y ≤ 9223372036854775807) (z : Int) (hz : -9223372036854775808 ≤ z ∧ z ≤ 9223372036854775807) (s : ByteArray) (hs : s.size ≤ 1048576) :
    CallSpec Tryz.prog 6 #[.int .u16 x, .int .i64 y, .int .i64 z, .string s] h t (fun v h' _ => v = .bool true ∧ Vc.Sub h h') := by
  refine Go.Vc.spec_of_vc (fn := Tryz.f6) Tryz.func6 rfl (by kernel_rfl) (by kernel_rfl) (Nat.le_of_ble_eq_true rfl) ?_
  intro hd
  conv => whnf
  refine (examples_spec hM).mono ?_
  rintro _ g1 t1 hd1 ht1 ⟨rfl, hs1, _⟩
  conv => whnf
  repeat (first | ((with_reducible refine And.intro (And.intro ?_ ?_) ?_); (focus omega); (focus omega); conv => whnf) | ((with_reducible apply Go.Vc.wr_i64); (focus exact And.intro (by omega) (by omega)); conv => whnf) | ((with_reducible apply Go.Vc.rem_i); (focus omega); conv => whnf) | ((with_reducible refine And.intro ?_ (And.intro ?_ ?_)); (focus exact rfl); (focus omega); conv => whnf))
  obtain ⟨N, hN⟩ : ∃ N : Nat, 1 + x % 600 = N := ⟨(1 + x % 600).toNat, by omega⟩
  rw [hN]
  have hN1 : 1 ≤ N ∧ N ≤ 600 := by omega
  obtain ⟨s', hs', hs30⟩ := cut30 s
  rw [hs']
  refine (list_spec N (by omega) s' hs30).mono ?_
  rintro _ g2 t2 hd2 ht2 ⟨a2, c2, L, rfl, o2, hw2, hL32, hs2, _⟩
  have hLl : L.length = N := o2.1
  have s2 := o2.sl
  have hcap := o2.cap
  have hLb : ∀ x ∈ L, x.size ≤ 274877906944 := fun x hx => by rw [hL32 x hx]; decide
  have S2 := hs1.trans hs2
  conv => whnf
  refine br (fun hb1 => ?_) (fun hb1 => ?_)
  · conv => whnf
    repeat (first | ((with_reducible apply Go.Vc.wr_i64); (focus exact And.intro (by omega) (by omega)); conv => whnf))
    obtain ⟨y', hy'⟩ : ∃ y' : Int, y' = 0 - (y + 1) := ⟨_, rfl⟩
    rw [← hy']
    have hy0 : 0 ≤ y' ∧ y' ≤ 9223372036854775807 := by omega
    refine br (fun hb2 => ?_) (fun hb2 => ?_)
    · conv => whnf
      repeat (first | ((with_reducible apply Go.Vc.wr_i64); (focus exact And.intro (by omega) (by omega)); conv => whnf))
      obtain ⟨z', hz'⟩ : ∃ z' : Int, z' = 0 - (z + 1) := ⟨_, rfl⟩
      rw [← hz']
      have hz0 : 0 ≤ z' ∧ z' ≤ 9223372036854775807 := by omega
      obtain ⟨I, hI⟩ : ∃ I : Nat, y' % (N : Int) = I := ⟨(y' % (N : Int)).toNat, by have := Int.emod_nonneg y' (b := (N : Int)) (by omega); omega⟩
      have hI2 : (I : Int) < N := by rw [← hI]; exact Int.emod_lt_of_pos _ (by omega)
      obtain ⟨J, hJ⟩ : ∃ J : Nat, z' % (N : Int) = J := ⟨(z' % (N : Int)).toNat, by have := Int.emod_nonneg z' (b := (N : Int)) (by omega); omega⟩
      have hJ2 : (J : Int) < N := by rw [← hJ]; exact Int.emod_lt_of_pos _ (by omega)
      obtain ⟨M, hM1⟩ : ∃ M : Nat, M = J + 1 := ⟨_, rfl⟩
      have hJM : 1 + (J : Int) = (M : Nat) := by omega
      conv => whnf
      refine (store_spec s2 (by omega) hcap (fun x hx => by rw [hL32 x hx]; decide)).mono ?_
      rintro _ g3 t3 hd3 ht3 ⟨mb, mo, D, rfl, hmo, hmg, hH, hmt, hmt2, hs3⟩
      conv => whnf
      refine read_spec.mono ?_
      rintro _ g4 t4 hd4 ht4 ⟨bx, rfl, hbx, hbt, hbt2, hs4⟩
      have hTM : TMap g4 bx mb D := ⟨hbx, mo, hs4 _ _ hmo, hmg⟩
      have S4 := hs3.trans hs4
      conv => whnf
      refine (tRoot_spec hTM hH hL32 (by omega) (by omega)).mono ?_
      rintro _ g5 t5 hd5 ht5 ⟨rfl, hs5, _⟩
      rw [show L.take N = L by rw [← hLl, List.take_length]]
      conv => whnf
      repeat (first | ((with_reducible apply Go.Vc.rem_i); (focus omega); conv => whnf) | ((with_reducible refine And.intro ?_ (And.intro ?_ ?_)); (focus exact rfl); (focus omega); conv => whnf))
      rw [hI]
      rw [← hLl] at hH
      have hinc := tinc_spec (h := g5) (t := t5) (i := I) (hTM.sub hs5) hH hL32 (by omega) (by omega)
      rw [hLl] at hinc
      refine hinc.mono ?_
      rintro _ g6 t6 hd6 ht6 ⟨a6, n6, c6, rfl, o6, hw6, hs6, _⟩
      conv => whnf
      repeat (first | ((with_reducible apply Go.Vc.wr_i64); (focus exact And.intro (by omega) (by omega)); conv => whnf) | ((with_reducible apply Go.Vc.rem_i); (focus omega); conv => whnf) | ((with_reducible refine And.intro ?_ (And.intro ?_ ?_)); (focus exact rfl); (focus omega); conv => whnf))
      rw [hJ]
      rw [hJM]
      have hcon := tcon_spec (h := g6) (t := t6) (i := M) ((hTM.sub hs5).sub hs6) hH hL32 (by omega) (by omega) (by omega)
      rw [hLl] at hcon
      refine hcon.mono ?_
      rintro _ g7 t7 hd7 ht7 ⟨a7, n7, c7, rfl, o7, hw7, hs7, _⟩
      have S7 := ((S4.trans hs5).trans hs6).trans hs7
      conv => whnf
      repeat (first | ((with_reducible apply Go.Vc.rem_i); (focus omega); conv => whnf) | ((with_reducible refine And.intro ?_ (And.intro ?_ ?_)); (focus exact rfl); (focus omega); conv => whnf))
      rw [hI]
      refine (inclusion_spec (s2.sub S7) (by omega) hcap hLb (I : Nat) (by omega)).mono ?_
      rintro _ g8 t8 hd8 ht8 ⟨a8, n8, c8, rfl, o8, hw8, hs8⟩
      rw [decide_eq_true (show 0 ≤ ((I : Nat) : Int) ∧ ((I : Nat) : Int) < (N : Nat) by omega)]
      rw [if_pos (by omega), Int.toNat_natCast] at o8
      conv => whnf
      repeat (first | ((with_reducible apply Go.Vc.wr_i64); (focus exact And.intro (by omega) (by omega)); conv => whnf) | ((with_reducible apply Go.Vc.rem_i); (focus omega); conv => whnf) | ((with_reducible refine And.intro ?_ (And.intro ?_ ?_)); (focus exact rfl); (focus omega); conv => whnf))
      rw [hJ]
      rw [hJM]
      refine (consistency_spec (s2.sub (S7.trans hs8)) (by omega) hcap hLb (M : Nat) (by omega)).mono ?_
      rintro _ g9 t9 hd9 ht9 ⟨a9, n9, c9, rfl, o9, hw9, hs9⟩
      rw [decide_eq_true (show 1 ≤ ((M : Nat) : Int) ∧ ((M : Nat) : Int) ≤ (N : Nat) by omega)]
      rw [if_pos (by omega), Int.toNat_natCast] at o9
      have hil : (inc ndB emB L I).length ≤ 1000000 := by rw [inc_way_length ndB emB _ L I hLl]; have := way_le 16 N I (by omega); omega
      have hcl : (con ndB emB L M true).length ≤ 1000000 := by rw [con_many ndB emB _ L M true hLl]; have := many_le N M true (by omega) (by omega); omega
      have e6 : (inc ndB emB L I).length = n6 := o6.1
      have e7 : (con ndB emB L M true).length = n7 := o7.1
      have e8 : (inc ndB emB L I).length = n8 := o8.1
      have e9 : (con ndB emB L M true).length = n9 := o9.1
      have cap6 := o6.cap
      have cap7 := o7.cap
      have u6 := o6.sl.sub ((hs7.trans hs8).trans hs9)
      have u7 := o7.sl.sub (hs8.trans hs9)
      have u8 := o8.sl.sub hs9
      have u9 := o9.sl
      have u2 := s2.sub ((S7.trans hs8).trans hs9)
      have S9 := S2.trans ((S7.trans hs8).trans hs9)
      conv => whnf
      refine (words_spec u6 u8 (by omega) (by omega)).mono ?_
      rintro _ g10 t10 hd10 ht10 ⟨rfl, hs10⟩
      rw [decide_eq_true rfl]
      conv => whnf
      refine (words_spec (u7.sub hs10) (u9.sub hs10) (by omega) (by omega)).mono ?_
      rintro _ g11 t11 hd11 ht11 ⟨rfl, hs11⟩
      rw [decide_eq_true rfl]
      have v2 := (u2.sub hs10).sub hs11
      have v6 := (u6.sub hs10).sub hs11
      have v7 := (u7.sub hs10).sub hs11
      have S11 := (S9.trans hs10).trans hs11
      have hIL : I < L.length := by omega
      have htr1 := incd_true (l := L) (i := I) hIL
      have htr2 := grwd_true (l := L) (m := M) (by omega) (by omega)
      rw [hLl] at htr1 htr2
      have hib : ∀ x ∈ inc ndB emB L I, x.size ≤ 274877906944 := inc_bd hLb
      have hcb : ∀ x ∈ con ndB emB L M true, x.size ≤ 274877906944 := con_bd hLb
      have hRb := rt_bd hLb
      have hTb : ∀ x ∈ L.take M, x.size ≤ 274877906944 := fun x hx => hLb x (List.mem_of_mem_take hx)
      have hRTb := rt_bd hTb
      have hgI : L[I]? = some L[I] := List.getElem?_eq_getElem hIL
      have hgs : L[I].size ≤ 274877906944 := hLb _ (List.getElem_mem hIL)
      generalize L[I] = gI at *
      generalize inc ndB emB L I = P1 at *
      generalize con ndB emB L M true = P2 at *
      refine Go.Vc.draw_intro [⟨0, false, false, false, 0⟩, ⟨1, false, false, false, 1⟩, ⟨2, false, false, false, 3⟩, ⟨3, false, false, false, 7⟩, ⟨4, false, false, false, 15⟩, ⟨5, false, false, false, 31⟩, ⟨6, false, false, false, 63⟩, ⟨7, false, false, false, 127⟩, ⟨8, false, false, false, 255⟩, ⟨9, false, false, false, 511⟩, ⟨10, false, false, false, 1023⟩, ⟨11, false, false, false, 2047⟩, ⟨12, false, false, false, 4095⟩, ⟨13, false, false, false, 8191⟩, ⟨14, false, true, false, 16383⟩, ⟨15, false, false, false, 16383⟩, ⟨16, true, false, true, 49151⟩, ⟨17, false, false, false, 131071⟩, ⟨18, false, false, false, 262143⟩, ⟨19, false, false, false, 524287⟩, ⟨20, false, false, false, 1048575⟩, ⟨21, false, false, false, 2097151⟩, ⟨22, false, false, false, 4194303⟩, ⟨23, false, false, false, 8388607⟩, ⟨24, false, false, false, 16777215⟩, ⟨25, false, false, false, 33554431⟩, ⟨26, false, false, false, 67108863⟩, ⟨27, false, false, false, 134217727⟩, ⟨28, false, false, false, 268435455⟩, ⟨29, false, false, false, 536870911⟩, ⟨30, false, false, false, 1073741823⟩, ⟨31, false, false, false, 2147483647⟩, ⟨32, false, false, false, 4294967295⟩, ⟨33, false, false, false, 4294967295⟩, ⟨34, false, false, false, 4294967295⟩, ⟨35, false, false, false, 4294967295⟩, ⟨36, false, false, false, 55834574847⟩, ⟨37, false, false, false, 4294967295⟩, ⟨38, false, false, false, 4294967295⟩, ⟨39, false, false, false, 4294967295⟩, ⟨40, false, false, false, 828928688127⟩, ⟨41, false, false, false, 2065879269375⟩, ⟨42, false, false, false, 4264902524927⟩, ⟨43, false, false, false, 4294967295⟩, ⟨44, true, false, true, 17592186044415⟩, ⟨45, false, false, false, 35184372088831⟩, ⟨46, false, false, false, 70368744177663⟩, ⟨47, false, false, false, 140737488355327⟩, ⟨48, false, false, false, 140737488355327⟩, ⟨49, false, false, false, 140737488355327⟩, ⟨50, false, false, false, 985162418487295⟩, ⟨51, false, false, false, 2111062325329919⟩, ⟨52, false, false, false, 4503599627370495⟩, ⟨54, false, true, false, 140737488355327⟩, ⟨55, false, true, false, 140737488355327⟩, ⟨56, false, true, false, 54183933016801279⟩, ⟨57, false, true, false, 126241527054729215⟩, ⟨58, false, true, false, 140737488355327⟩, ⟨59, false, true, false, 140737488355327⟩, ⟨60, false, true, false, 140737488355327⟩, ⟨53, true, false, true, 9007199254740991⟩, ⟨61, true, false, false, 2305843009213693951⟩, ⟨62, false, false, false, 4611686018427387903⟩, ⟨63, false, false, false, 9223372036854775807⟩] (hs := g11) (hsub := (Sub.refl _)) (hm := by kernel_rfl) (hpl := by kernel_rfl) ?_
      conv => whnf
      conv => whnf
      repeat (first | (refine Go.Vc.br_t ?_ ?_; (focus omega); conv => whnf))
      refine (root_spec v2 (by omega) hLb).mono ?_
      rintro _ g12 t12 hd12 ht12 ⟨rfl, hs12⟩
      conv => whnf
      refine ⟨hs12, ?_⟩
      have w2 := v2.sub hs12
      have w6 := v6.sub hs12
      have w7 := v7.sub hs12
      have S12 := S11.trans hs12
      conv => whnf
      refine br_t rfl ?_
      conv => whnf
      repeat (first | ((with_reducible apply Go.Vc.sl_ix); (focus with_reducible assumption); (focus exact And.intro (by omega) (by omega)); intro xI bI offI hxI hcI; conv => whnf) | ((with_reducible apply Go.Vc.cell_i); (focus assumption); conv => whnf) | ((with_reducible apply Go.Vc.rem_i); (focus omega); conv => whnf) | ((with_reducible refine And.intro ?_ (And.intro ?_ ?_)); (focus exact rfl); (focus omega); conv => whnf))
      rw [hI] at hxI ⊢
      rw [Int.toNat_natCast] at hxI
      have ex : gI = xI := Option.some.inj (hgI.symm.trans hxI)
      subst ex
      clear hxI
      refine (included_spec (rt ndB emB L) (N : Nat) (I : Nat) (by omega) (by omega) gI hgs w6 (by omega) hib).mono ?_
      rintro _ g13 t13 hd13 ht13 ⟨rfl, hs13⟩
      rw [htr1]
      conv => whnf
      refine ⟨hs12.trans hs13, ?_⟩
      conv => whnf
      repeat (first | ((with_reducible refine And.intro (And.intro ?_ ?_) ?_); (focus omega); (focus omega); conv => whnf) | ((with_reducible apply Go.Vc.wr_i64); (focus exact And.intro (by omega) (by omega)); conv => whnf) | ((with_reducible apply Go.Vc.rem_i); (focus omega); conv => whnf) | ((with_reducible refine And.intro ?_ (And.intro ?_ ?_)); (focus exact rfl); (focus omega); conv => whnf))
      rw [hJ, hJM, Int.toNat_natCast]
      refine (root_spec ((w2.sub hs13).take (m := M) (by omega)) (by omega) hTb).mono ?_
      rintro _ g14 t14 hd14 ht14 ⟨rfl, hs14⟩
      conv => whnf
      refine ⟨(hs12.trans hs13).trans hs14, ?_⟩
      conv => whnf
      first
      | rw [hJ, hJM]
      | rw [hJ]
      | skip
      refine (mgrown_spec (rt ndB emB (L.take M)) hRTb (M : Nat) (by omega) (rt ndB emB L) (N : Nat) (by omega) ((w7.sub hs13).sub hs14) (by omega) cap7 hcb).mono ?_
      rintro _ g15 t15 hd15 ht15 ⟨rfl, hs15⟩
      rw [htr2]
      conv => whnf
      exact ⟨rfl, (((S12.trans hs13).trans hs14).trans hs15)⟩
    · obtain ⟨z', hz'⟩ : ∃ z' : Int, z' = z := ⟨_, rfl⟩
      have hz0 : 0 ≤ z' ∧ z' ≤ 9223372036854775807 := by omega
      rw [← hz']
      obtain ⟨I, hI⟩ : ∃ I : Nat, y' % (N : Int) = I := ⟨(y' % (N : Int)).toNat, by have := Int.emod_nonneg y' (b := (N : Int)) (by omega); omega⟩
      have hI2 : (I : Int) < N := by rw [← hI]; exact Int.emod_lt_of_pos _ (by omega)
      obtain ⟨J, hJ⟩ : ∃ J : Nat, z' % (N : Int) = J := ⟨(z' % (N : Int)).toNat, by have := Int.emod_nonneg z' (b := (N : Int)) (by omega); omega⟩
      have hJ2 : (J : Int) < N := by rw [← hJ]; exact Int.emod_lt_of_pos _ (by omega)
      obtain ⟨M, hM1⟩ : ∃ M : Nat, M = J + 1 := ⟨_, rfl⟩
      have hJM : 1 + (J : Int) = (M : Nat) := by omega
      conv => whnf
      refine (store_spec s2 (by omega) hcap (fun x hx => by rw [hL32 x hx]; decide)).mono ?_
      rintro _ g3 t3 hd3 ht3 ⟨mb, mo, D, rfl, hmo, hmg, hH, hmt, hmt2, hs3⟩
      conv => whnf
      refine read_spec.mono ?_
      rintro _ g4 t4 hd4 ht4 ⟨bx, rfl, hbx, hbt, hbt2, hs4⟩
      have hTM : TMap g4 bx mb D := ⟨hbx, mo, hs4 _ _ hmo, hmg⟩
      have S4 := hs3.trans hs4
      conv => whnf
      refine (tRoot_spec hTM hH hL32 (by omega) (by omega)).mono ?_
      rintro _ g5 t5 hd5 ht5 ⟨rfl, hs5, _⟩
      rw [show L.take N = L by rw [← hLl, List.take_length]]
      conv => whnf
      repeat (first | ((with_reducible apply Go.Vc.rem_i); (focus omega); conv => whnf) | ((with_reducible refine And.intro ?_ (And.intro ?_ ?_)); (focus exact rfl); (focus omega); conv => whnf))
      rw [hI]
      rw [← hLl] at hH
      have hinc := tinc_spec (h := g5) (t := t5) (i := I) (hTM.sub hs5) hH hL32 (by omega) (by omega)
      rw [hLl] at hinc
      refine hinc.mono ?_
      rintro _ g6 t6 hd6 ht6 ⟨a6, n6, c6, rfl, o6, hw6, hs6, _⟩
      conv => whnf
      repeat (first | ((with_reducible apply Go.Vc.wr_i64); (focus exact And.intro (by omega) (by omega)); conv => whnf) | ((with_reducible apply Go.Vc.rem_i); (focus omega); conv => whnf) | ((with_reducible refine And.intro ?_ (And.intro ?_ ?_)); (focus exact rfl); (focus omega); conv => whnf))
      rw [hJ]
      rw [hJM]
      have hcon := tcon_spec (h := g6) (t := t6) (i := M) ((hTM.sub hs5).sub hs6) hH hL32 (by omega) (by omega) (by omega)
      rw [hLl] at hcon
      refine hcon.mono ?_
      rintro _ g7 t7 hd7 ht7 ⟨a7, n7, c7, rfl, o7, hw7, hs7, _⟩
      have S7 := ((S4.trans hs5).trans hs6).trans hs7
      conv => whnf
      repeat (first | ((with_reducible apply Go.Vc.rem_i); (focus omega); conv => whnf) | ((with_reducible refine And.intro ?_ (And.intro ?_ ?_)); (focus exact rfl); (focus omega); conv => whnf))
      rw [hI]
      refine (inclusion_spec (s2.sub S7) (by omega) hcap hLb (I : Nat) (by omega)).mono ?_
      rintro _ g8 t8 hd8 ht8 ⟨a8, n8, c8, rfl, o8, hw8, hs8⟩
      rw [decide_eq_true (show 0 ≤ ((I : Nat) : Int) ∧ ((I : Nat) : Int) < (N : Nat) by omega)]
      rw [if_pos (by omega), Int.toNat_natCast] at o8
      conv => whnf
      repeat (first | ((with_reducible apply Go.Vc.wr_i64); (focus exact And.intro (by omega) (by omega)); conv => whnf) | ((with_reducible apply Go.Vc.rem_i); (focus omega); conv => whnf) | ((with_reducible refine And.intro ?_ (And.intro ?_ ?_)); (focus exact rfl); (focus omega); conv => whnf))
      rw [hJ]
      rw [hJM]
      refine (consistency_spec (s2.sub (S7.trans hs8)) (by omega) hcap hLb (M : Nat) (by omega)).mono ?_
      rintro _ g9 t9 hd9 ht9 ⟨a9, n9, c9, rfl, o9, hw9, hs9⟩
      rw [decide_eq_true (show 1 ≤ ((M : Nat) : Int) ∧ ((M : Nat) : Int) ≤ (N : Nat) by omega)]
      rw [if_pos (by omega), Int.toNat_natCast] at o9
      have hil : (inc ndB emB L I).length ≤ 1000000 := by rw [inc_way_length ndB emB _ L I hLl]; have := way_le 16 N I (by omega); omega
      have hcl : (con ndB emB L M true).length ≤ 1000000 := by rw [con_many ndB emB _ L M true hLl]; have := many_le N M true (by omega) (by omega); omega
      have e6 : (inc ndB emB L I).length = n6 := o6.1
      have e7 : (con ndB emB L M true).length = n7 := o7.1
      have e8 : (inc ndB emB L I).length = n8 := o8.1
      have e9 : (con ndB emB L M true).length = n9 := o9.1
      have cap6 := o6.cap
      have cap7 := o7.cap
      have u6 := o6.sl.sub ((hs7.trans hs8).trans hs9)
      have u7 := o7.sl.sub (hs8.trans hs9)
      have u8 := o8.sl.sub hs9
      have u9 := o9.sl
      have u2 := s2.sub ((S7.trans hs8).trans hs9)
      have S9 := S2.trans ((S7.trans hs8).trans hs9)
      conv => whnf
      refine (words_spec u6 u8 (by omega) (by omega)).mono ?_
      rintro _ g10 t10 hd10 ht10 ⟨rfl, hs10⟩
      rw [decide_eq_true rfl]
      conv => whnf
      refine (words_spec (u7.sub hs10) (u9.sub hs10) (by omega) (by omega)).mono ?_
      rintro _ g11 t11 hd11 ht11 ⟨rfl, hs11⟩
      rw [decide_eq_true rfl]
      have v2 := (u2.sub hs10).sub hs11
      have v6 := (u6.sub hs10).sub hs11
      have v7 := (u7.sub hs10).sub hs11
      have S11 := (S9.trans hs10).trans hs11
      have hIL : I < L.length := by omega
      have htr1 := incd_true (l := L) (i := I) hIL
      have htr2 := grwd_true (l := L) (m := M) (by omega) (by omega)
      rw [hLl] at htr1 htr2
      have hib : ∀ x ∈ inc ndB emB L I, x.size ≤ 274877906944 := inc_bd hLb
      have hcb : ∀ x ∈ con ndB emB L M true, x.size ≤ 274877906944 := con_bd hLb
      have hRb := rt_bd hLb
      have hTb : ∀ x ∈ L.take M, x.size ≤ 274877906944 := fun x hx => hLb x (List.mem_of_mem_take hx)
      have hRTb := rt_bd hTb
      have hgI : L[I]? = some L[I] := List.getElem?_eq_getElem hIL
      have hgs : L[I].size ≤ 274877906944 := hLb _ (List.getElem_mem hIL)
      generalize L[I] = gI at *
      generalize inc ndB emB L I = P1 at *
      generalize con ndB emB L M true = P2 at *
      refine Go.Vc.draw_intro [⟨0, false, false, false, 0⟩, ⟨1, false, false, false, 1⟩, ⟨2, false, false, false, 3⟩, ⟨3, false, false, false, 7⟩, ⟨4, false, false, false, 15⟩, ⟨5, false, false, false, 31⟩, ⟨6, false, false, false, 63⟩, ⟨7, false, false, false, 127⟩, ⟨8, false, false, false, 255⟩, ⟨9, false, false, false, 511⟩, ⟨10, false, false, false, 1023⟩, ⟨11, false, false, false, 2047⟩, ⟨12, false, false, false, 4095⟩, ⟨13, false, false, false, 8191⟩, ⟨14, false, true, false, 16383⟩, ⟨15, false, false, false, 16383⟩, ⟨16, true, false, true, 49151⟩, ⟨17, false, false, false, 131071⟩, ⟨18, false, false, false, 262143⟩, ⟨19, false, false, false, 524287⟩, ⟨20, false, false, false, 1048575⟩, ⟨21, false, false, false, 2097151⟩, ⟨22, false, false, false, 4194303⟩, ⟨23, false, false, false, 8388607⟩, ⟨24, false, false, false, 16777215⟩, ⟨25, false, false, false, 33554431⟩, ⟨26, false, false, false, 67108863⟩, ⟨27, false, false, false, 134217727⟩, ⟨28, false, false, false, 268435455⟩, ⟨29, false, false, false, 536870911⟩, ⟨30, false, false, false, 1073741823⟩, ⟨31, false, false, false, 2147483647⟩, ⟨32, false, false, false, 4294967295⟩, ⟨33, false, false, false, 4294967295⟩, ⟨34, false, false, false, 4294967295⟩, ⟨35, false, false, false, 4294967295⟩, ⟨36, false, false, false, 55834574847⟩, ⟨37, false, false, false, 4294967295⟩, ⟨38, false, false, false, 4294967295⟩, ⟨39, false, false, false, 4294967295⟩, ⟨40, false, false, false, 828928688127⟩, ⟨41, false, false, false, 2065879269375⟩, ⟨42, false, false, false, 4264902524927⟩, ⟨43, false, false, false, 4294967295⟩, ⟨44, true, false, true, 17592186044415⟩, ⟨45, false, false, false, 35184372088831⟩, ⟨46, false, false, false, 70368744177663⟩, ⟨47, false, false, false, 140737488355327⟩, ⟨48, false, false, false, 140737488355327⟩, ⟨49, false, false, false, 140737488355327⟩, ⟨50, false, false, false, 985162418487295⟩, ⟨51, false, false, false, 2111062325329919⟩, ⟨52, false, false, false, 4503599627370495⟩, ⟨54, false, true, false, 140737488355327⟩, ⟨55, false, true, false, 140737488355327⟩, ⟨56, false, true, false, 54183933016801279⟩, ⟨57, false, true, false, 126241527054729215⟩, ⟨58, false, true, false, 140737488355327⟩, ⟨59, false, true, false, 140737488355327⟩, ⟨60, false, true, false, 140737488355327⟩, ⟨53, true, false, true, 9007199254740991⟩, ⟨61, true, false, false, 2305843009213693951⟩, ⟨62, false, false, false, 4611686018427387903⟩, ⟨63, false, false, false, 9223372036854775807⟩] (hs := g11) (hsub := (Sub.refl _)) (hm := by kernel_rfl) (hpl := by kernel_rfl) ?_
      conv => whnf
      conv => whnf
      repeat (first | (refine Go.Vc.br_t ?_ ?_; (focus omega); conv => whnf))
      refine (root_spec v2 (by omega) hLb).mono ?_
      rintro _ g12 t12 hd12 ht12 ⟨rfl, hs12⟩
      conv => whnf
      refine ⟨hs12, ?_⟩
      have w2 := v2.sub hs12
      have w6 := v6.sub hs12
      have w7 := v7.sub hs12
      have S12 := S11.trans hs12
      conv => whnf
      refine br_t rfl ?_
      conv => whnf
      repeat (first | ((with_reducible apply Go.Vc.sl_ix); (focus with_reducible assumption); (focus exact And.intro (by omega) (by omega)); intro xI bI offI hxI hcI; conv => whnf) | ((with_reducible apply Go.Vc.cell_i); (focus assumption); conv => whnf) | ((with_reducible apply Go.Vc.rem_i); (focus omega); conv => whnf) | ((with_reducible refine And.intro ?_ (And.intro ?_ ?_)); (focus exact rfl); (focus omega); conv => whnf))
      rw [hI] at hxI ⊢
      rw [Int.toNat_natCast] at hxI
      have ex : gI = xI := Option.some.inj (hgI.symm.trans hxI)
      subst ex
      clear hxI
      refine (included_spec (rt ndB emB L) (N : Nat) (I : Nat) (by omega) (by omega) gI hgs w6 (by omega) hib).mono ?_
      rintro _ g13 t13 hd13 ht13 ⟨rfl, hs13⟩
      rw [htr1]
      conv => whnf
      refine ⟨hs12.trans hs13, ?_⟩
      conv => whnf
      repeat (first | ((with_reducible refine And.intro (And.intro ?_ ?_) ?_); (focus omega); (focus omega); conv => whnf) | ((with_reducible apply Go.Vc.wr_i64); (focus exact And.intro (by omega) (by omega)); conv => whnf) | ((with_reducible apply Go.Vc.rem_i); (focus omega); conv => whnf) | ((with_reducible refine And.intro ?_ (And.intro ?_ ?_)); (focus exact rfl); (focus omega); conv => whnf))
      rw [hJ, hJM, Int.toNat_natCast]
      refine (root_spec ((w2.sub hs13).take (m := M) (by omega)) (by omega) hTb).mono ?_
      rintro _ g14 t14 hd14 ht14 ⟨rfl, hs14⟩
      conv => whnf
      refine ⟨(hs12.trans hs13).trans hs14, ?_⟩
      conv => whnf
      first
      | rw [hJ, hJM]
      | rw [hJ]
      | skip
      refine (mgrown_spec (rt ndB emB (L.take M)) hRTb (M : Nat) (by omega) (rt ndB emB L) (N : Nat) (by omega) ((w7.sub hs13).sub hs14) (by omega) cap7 hcb).mono ?_
      rintro _ g15 t15 hd15 ht15 ⟨rfl, hs15⟩
      rw [htr2]
      conv => whnf
      exact ⟨rfl, (((S12.trans hs13).trans hs14).trans hs15)⟩
  · conv => whnf
    obtain ⟨y', hy'⟩ : ∃ y' : Int, y' = y := ⟨_, rfl⟩
    have hy0 : 0 ≤ y' ∧ y' ≤ 9223372036854775807 := by omega
    rw [← hy']
    refine br (fun hb2 => ?_) (fun hb2 => ?_)
    · conv => whnf
      repeat (first | ((with_reducible apply Go.Vc.wr_i64); (focus exact And.intro (by omega) (by omega)); conv => whnf))
      obtain ⟨z', hz'⟩ : ∃ z' : Int, z' = 0 - (z + 1) := ⟨_, rfl⟩
      rw [← hz']
      have hz0 : 0 ≤ z' ∧ z' ≤ 9223372036854775807 := by omega
      obtain ⟨I, hI⟩ : ∃ I : Nat, y' % (N : Int) = I := ⟨(y' % (N : Int)).toNat, by have := Int.emod_nonneg y' (b := (N : Int)) (by omega); omega⟩
      have hI2 : (I : Int) < N := by rw [← hI]; exact Int.emod_lt_of_pos _ (by omega)
      obtain ⟨J, hJ⟩ : ∃ J : Nat, z' % (N : Int) = J := ⟨(z' % (N : Int)).toNat, by have := Int.emod_nonneg z' (b := (N : Int)) (by omega); omega⟩
      have hJ2 : (J : Int) < N := by rw [← hJ]; exact Int.emod_lt_of_pos _ (by omega)
      obtain ⟨M, hM1⟩ : ∃ M : Nat, M = J + 1 := ⟨_, rfl⟩
      have hJM : 1 + (J : Int) = (M : Nat) := by omega
      conv => whnf
      refine (store_spec s2 (by omega) hcap (fun x hx => by rw [hL32 x hx]; decide)).mono ?_
      rintro _ g3 t3 hd3 ht3 ⟨mb, mo, D, rfl, hmo, hmg, hH, hmt, hmt2, hs3⟩
      conv => whnf
      refine read_spec.mono ?_
      rintro _ g4 t4 hd4 ht4 ⟨bx, rfl, hbx, hbt, hbt2, hs4⟩
      have hTM : TMap g4 bx mb D := ⟨hbx, mo, hs4 _ _ hmo, hmg⟩
      have S4 := hs3.trans hs4
      conv => whnf
      refine (tRoot_spec hTM hH hL32 (by omega) (by omega)).mono ?_
      rintro _ g5 t5 hd5 ht5 ⟨rfl, hs5, _⟩
      rw [show L.take N = L by rw [← hLl, List.take_length]]
      conv => whnf
      repeat (first | ((with_reducible apply Go.Vc.rem_i); (focus omega); conv => whnf) | ((with_reducible refine And.intro ?_ (And.intro ?_ ?_)); (focus exact rfl); (focus omega); conv => whnf))
      rw [hI]
      rw [← hLl] at hH
      have hinc := tinc_spec (h := g5) (t := t5) (i := I) (hTM.sub hs5) hH hL32 (by omega) (by omega)
      rw [hLl] at hinc
      refine hinc.mono ?_
      rintro _ g6 t6 hd6 ht6 ⟨a6, n6, c6, rfl, o6, hw6, hs6, _⟩
      conv => whnf
      repeat (first | ((with_reducible apply Go.Vc.wr_i64); (focus exact And.intro (by omega) (by omega)); conv => whnf) | ((with_reducible apply Go.Vc.rem_i); (focus omega); conv => whnf) | ((with_reducible refine And.intro ?_ (And.intro ?_ ?_)); (focus exact rfl); (focus omega); conv => whnf))
      rw [hJ]
      rw [hJM]
      have hcon := tcon_spec (h := g6) (t := t6) (i := M) ((hTM.sub hs5).sub hs6) hH hL32 (by omega) (by omega) (by omega)
      rw [hLl] at hcon
      refine hcon.mono ?_
      rintro _ g7 t7 hd7 ht7 ⟨a7, n7, c7, rfl, o7, hw7, hs7, _⟩
      have S7 := ((S4.trans hs5).trans hs6).trans hs7
      conv => whnf
      repeat (first | ((with_reducible apply Go.Vc.rem_i); (focus omega); conv => whnf) | ((with_reducible refine And.intro ?_ (And.intro ?_ ?_)); (focus exact rfl); (focus omega); conv => whnf))
      rw [hI]
      refine (inclusion_spec (s2.sub S7) (by omega) hcap hLb (I : Nat) (by omega)).mono ?_
      rintro _ g8 t8 hd8 ht8 ⟨a8, n8, c8, rfl, o8, hw8, hs8⟩
      rw [decide_eq_true (show 0 ≤ ((I : Nat) : Int) ∧ ((I : Nat) : Int) < (N : Nat) by omega)]
      rw [if_pos (by omega), Int.toNat_natCast] at o8
      conv => whnf
      repeat (first | ((with_reducible apply Go.Vc.wr_i64); (focus exact And.intro (by omega) (by omega)); conv => whnf) | ((with_reducible apply Go.Vc.rem_i); (focus omega); conv => whnf) | ((with_reducible refine And.intro ?_ (And.intro ?_ ?_)); (focus exact rfl); (focus omega); conv => whnf))
      rw [hJ]
      rw [hJM]
      refine (consistency_spec (s2.sub (S7.trans hs8)) (by omega) hcap hLb (M : Nat) (by omega)).mono ?_
      rintro _ g9 t9 hd9 ht9 ⟨a9, n9, c9, rfl, o9, hw9, hs9⟩
      rw [decide_eq_true (show 1 ≤ ((M : Nat) : Int) ∧ ((M : Nat) : Int) ≤ (N : Nat) by omega)]
      rw [if_pos (by omega), Int.toNat_natCast] at o9
      have hil : (inc ndB emB L I).length ≤ 1000000 := by rw [inc_way_length ndB emB _ L I hLl]; have := way_le 16 N I (by omega); omega
      have hcl : (con ndB emB L M true).length ≤ 1000000 := by rw [con_many ndB emB _ L M true hLl]; have := many_le N M true (by omega) (by omega); omega
      have e6 : (inc ndB emB L I).length = n6 := o6.1
      have e7 : (con ndB emB L M true).length = n7 := o7.1
      have e8 : (inc ndB emB L I).length = n8 := o8.1
      have e9 : (con ndB emB L M true).length = n9 := o9.1
      have cap6 := o6.cap
      have cap7 := o7.cap
      have u6 := o6.sl.sub ((hs7.trans hs8).trans hs9)
      have u7 := o7.sl.sub (hs8.trans hs9)
      have u8 := o8.sl.sub hs9
      have u9 := o9.sl
      have u2 := s2.sub ((S7.trans hs8).trans hs9)
      have S9 := S2.trans ((S7.trans hs8).trans hs9)
      conv => whnf
      refine (words_spec u6 u8 (by omega) (by omega)).mono ?_
      rintro _ g10 t10 hd10 ht10 ⟨rfl, hs10⟩
      rw [decide_eq_true rfl]
      conv => whnf
      refine (words_spec (u7.sub hs10) (u9.sub hs10) (by omega) (by omega)).mono ?_
      rintro _ g11 t11 hd11 ht11 ⟨rfl, hs11⟩
      rw [decide_eq_true rfl]
      have v2 := (u2.sub hs10).sub hs11
      have v6 := (u6.sub hs10).sub hs11
      have v7 := (u7.sub hs10).sub hs11
      have S11 := (S9.trans hs10).trans hs11
      have hIL : I < L.length := by omega
      have htr1 := incd_true (l := L) (i := I) hIL
      have htr2 := grwd_true (l := L) (m := M) (by omega) (by omega)
      rw [hLl] at htr1 htr2
      have hib : ∀ x ∈ inc ndB emB L I, x.size ≤ 274877906944 := inc_bd hLb
      have hcb : ∀ x ∈ con ndB emB L M true, x.size ≤ 274877906944 := con_bd hLb
      have hRb := rt_bd hLb
      have hTb : ∀ x ∈ L.take M, x.size ≤ 274877906944 := fun x hx => hLb x (List.mem_of_mem_take hx)
      have hRTb := rt_bd hTb
      have hgI : L[I]? = some L[I] := List.getElem?_eq_getElem hIL
      have hgs : L[I].size ≤ 274877906944 := hLb _ (List.getElem_mem hIL)
      generalize L[I] = gI at *
      generalize inc ndB emB L I = P1 at *
      generalize con ndB emB L M true = P2 at *
      refine Go.Vc.draw_intro [⟨0, false, false, false, 0⟩, ⟨1, false, false, false, 1⟩, ⟨2, false, false, false, 3⟩, ⟨3, false, false, false, 7⟩, ⟨4, false, false, false, 15⟩, ⟨5, false, false, false, 31⟩, ⟨6, false, false, false, 63⟩, ⟨7, false, false, false, 127⟩, ⟨8, false, false, false, 255⟩, ⟨9, false, false, false, 511⟩, ⟨10, false, false, false, 1023⟩, ⟨11, false, false, false, 2047⟩, ⟨12, false, false, false, 4095⟩, ⟨13, false, false, false, 8191⟩, ⟨14, false, true, false, 16383⟩, ⟨15, false, false, false, 16383⟩, ⟨16, true, false, true, 49151⟩, ⟨17, false, false, false, 131071⟩, ⟨18, false, false, false, 262143⟩, ⟨19, false, false, false, 524287⟩, ⟨20, false, false, false, 1048575⟩, ⟨21, false, false, false, 2097151⟩, ⟨22, false, false, false, 4194303⟩, ⟨23, false, false, false, 8388607⟩, ⟨24, false, false, false, 16777215⟩, ⟨25, false, false, false, 33554431⟩, ⟨26, false, false, false, 67108863⟩, ⟨27, false, false, false, 134217727⟩, ⟨28, false, false, false, 268435455⟩, ⟨29, false, false, false, 536870911⟩, ⟨30, false, false, false, 1073741823⟩, ⟨31, false, false, false, 2147483647⟩, ⟨32, false, false, false, 4294967295⟩, ⟨33, false, false, false, 4294967295⟩, ⟨34, false, false, false, 4294967295⟩, ⟨35, false, false, false, 4294967295⟩, ⟨36, false, false, false, 55834574847⟩, ⟨37, false, false, false, 4294967295⟩, ⟨38, false, false, false, 4294967295⟩, ⟨39, false, false, false, 4294967295⟩, ⟨40, false, false, false, 828928688127⟩, ⟨41, false, false, false, 2065879269375⟩, ⟨42, false, false, false, 4264902524927⟩, ⟨43, false, false, false, 4294967295⟩, ⟨44, true, false, true, 17592186044415⟩, ⟨45, false, false, false, 35184372088831⟩, ⟨46, false, false, false, 70368744177663⟩, ⟨47, false, false, false, 140737488355327⟩, ⟨48, false, false, false, 140737488355327⟩, ⟨49, false, false, false, 140737488355327⟩, ⟨50, false, false, false, 985162418487295⟩, ⟨51, false, false, false, 2111062325329919⟩, ⟨52, false, false, false, 4503599627370495⟩, ⟨54, false, true, false, 140737488355327⟩, ⟨55, false, true, false, 140737488355327⟩, ⟨56, false, true, false, 54183933016801279⟩, ⟨57, false, true, false, 126241527054729215⟩, ⟨58, false, true, false, 140737488355327⟩, ⟨59, false, true, false, 140737488355327⟩, ⟨60, false, true, false, 140737488355327⟩, ⟨53, true, false, true, 9007199254740991⟩, ⟨61, true, false, false, 2305843009213693951⟩, ⟨62, false, false, false, 4611686018427387903⟩, ⟨63, false, false, false, 9223372036854775807⟩] (hs := g11) (hsub := (Sub.refl _)) (hm := by kernel_rfl) (hpl := by kernel_rfl) ?_
      conv => whnf
      conv => whnf
      repeat (first | (refine Go.Vc.br_t ?_ ?_; (focus omega); conv => whnf))
      refine (root_spec v2 (by omega) hLb).mono ?_
      rintro _ g12 t12 hd12 ht12 ⟨rfl, hs12⟩
      conv => whnf
      refine ⟨hs12, ?_⟩
      have w2 := v2.sub hs12
      have w6 := v6.sub hs12
      have w7 := v7.sub hs12
      have S12 := S11.trans hs12
      conv => whnf
      refine br_t rfl ?_
      conv => whnf
      repeat (first | ((with_reducible apply Go.Vc.sl_ix); (focus with_reducible assumption); (focus exact And.intro (by omega) (by omega)); intro xI bI offI hxI hcI; conv => whnf) | ((with_reducible apply Go.Vc.cell_i); (focus assumption); conv => whnf) | ((with_reducible apply Go.Vc.rem_i); (focus omega); conv => whnf) | ((with_reducible refine And.intro ?_ (And.intro ?_ ?_)); (focus exact rfl); (focus omega); conv => whnf))
      rw [hI] at hxI ⊢
      rw [Int.toNat_natCast] at hxI
      have ex : gI = xI := Option.some.inj (hgI.symm.trans hxI)
      subst ex
      clear hxI
      refine (included_spec (rt ndB emB L) (N : Nat) (I : Nat) (by omega) (by omega) gI hgs w6 (by omega) hib).mono ?_
      rintro _ g13 t13 hd13 ht13 ⟨rfl, hs13⟩
      rw [htr1]
      conv => whnf
      refine ⟨hs12.trans hs13, ?_⟩
      conv => whnf
      repeat (first | ((with_reducible refine And.intro (And.intro ?_ ?_) ?_); (focus omega); (focus omega); conv => whnf) | ((with_reducible apply Go.Vc.wr_i64); (focus exact And.intro (by omega) (by omega)); conv => whnf) | ((with_reducible apply Go.Vc.rem_i); (focus omega); conv => whnf) | ((with_reducible refine And.intro ?_ (And.intro ?_ ?_)); (focus exact rfl); (focus omega); conv => whnf))
      rw [hJ, hJM, Int.toNat_natCast]
      refine (root_spec ((w2.sub hs13).take (m := M) (by omega)) (by omega) hTb).mono ?_
      rintro _ g14 t14 hd14 ht14 ⟨rfl, hs14⟩
      conv => whnf
      refine ⟨(hs12.trans hs13).trans hs14, ?_⟩
      conv => whnf
      first
      | rw [hJ, hJM]
      | rw [hJ]
      | skip
      refine (mgrown_spec (rt ndB emB (L.take M)) hRTb (M : Nat) (by omega) (rt ndB emB L) (N : Nat) (by omega) ((w7.sub hs13).sub hs14) (by omega) cap7 hcb).mono ?_
      rintro _ g15 t15 hd15 ht15 ⟨rfl, hs15⟩
      rw [htr2]
      conv => whnf
      exact ⟨rfl, (((S12.trans hs13).trans hs14).trans hs15)⟩
    · obtain ⟨z', hz'⟩ : ∃ z' : Int, z' = z := ⟨_, rfl⟩
      have hz0 : 0 ≤ z' ∧ z' ≤ 9223372036854775807 := by omega
      rw [← hz']
      obtain ⟨I, hI⟩ : ∃ I : Nat, y' % (N : Int) = I := ⟨(y' % (N : Int)).toNat, by have := Int.emod_nonneg y' (b := (N : Int)) (by omega); omega⟩
      have hI2 : (I : Int) < N := by rw [← hI]; exact Int.emod_lt_of_pos _ (by omega)
      obtain ⟨J, hJ⟩ : ∃ J : Nat, z' % (N : Int) = J := ⟨(z' % (N : Int)).toNat, by have := Int.emod_nonneg z' (b := (N : Int)) (by omega); omega⟩
      have hJ2 : (J : Int) < N := by rw [← hJ]; exact Int.emod_lt_of_pos _ (by omega)
      obtain ⟨M, hM1⟩ : ∃ M : Nat, M = J + 1 := ⟨_, rfl⟩
      have hJM : 1 + (J : Int) = (M : Nat) := by omega
      conv => whnf
      refine (store_spec s2 (by omega) hcap (fun x hx => by rw [hL32 x hx]; decide)).mono ?_
      rintro _ g3 t3 hd3 ht3 ⟨mb, mo, D, rfl, hmo, hmg, hH, hmt, hmt2, hs3⟩
      conv => whnf
      refine read_spec.mono ?_
      rintro _ g4 t4 hd4 ht4 ⟨bx, rfl, hbx, hbt, hbt2, hs4⟩
      have hTM : TMap g4 bx mb D := ⟨hbx, mo, hs4 _ _ hmo, hmg⟩
      have S4 := hs3.trans hs4
      conv => whnf
      refine (tRoot_spec hTM hH hL32 (by omega) (by omega)).mono ?_
      rintro _ g5 t5 hd5 ht5 ⟨rfl, hs5, _⟩
      rw [show L.take N = L by rw [← hLl, List.take_length]]
      conv => whnf
      repeat (first | ((with_reducible apply Go.Vc.rem_i); (focus omega); conv => whnf) | ((with_reducible refine And.intro ?_ (And.intro ?_ ?_)); (focus exact rfl); (focus omega); conv => whnf))
      rw [hI]
      rw [← hLl] at hH
      have hinc := tinc_spec (h := g5) (t := t5) (i := I) (hTM.sub hs5) hH hL32 (by omega) (by omega)
      rw [hLl] at hinc
      refine hinc.mono ?_
      rintro _ g6 t6 hd6 ht6 ⟨a6, n6, c6, rfl, o6, hw6, hs6, _⟩
      conv => whnf
      repeat (first | ((with_reducible apply Go.Vc.wr_i64); (focus exact And.intro (by omega) (by omega)); conv => whnf) | ((with_reducible apply Go.Vc.rem_i); (focus omega); conv => whnf) | ((with_reducible refine And.intro ?_ (And.intro ?_ ?_)); (focus exact rfl); (focus omega); conv => whnf))
      rw [hJ]
      rw [hJM]
      have hcon := tcon_spec (h := g6) (t := t6) (i := M) ((hTM.sub hs5).sub hs6) hH hL32 (by omega) (by omega) (by omega)
      rw [hLl] at hcon
      refine hcon.mono ?_
      rintro _ g7 t7 hd7 ht7 ⟨a7, n7, c7, rfl, o7, hw7, hs7, _⟩
      have S7 := ((S4.trans hs5).trans hs6).trans hs7
      conv => whnf
      repeat (first | ((with_reducible apply Go.Vc.rem_i); (focus omega); conv => whnf) | ((with_reducible refine And.intro ?_ (And.intro ?_ ?_)); (focus exact rfl); (focus omega); conv => whnf))
      rw [hI]
      refine (inclusion_spec (s2.sub S7) (by omega) hcap hLb (I : Nat) (by omega)).mono ?_
      rintro _ g8 t8 hd8 ht8 ⟨a8, n8, c8, rfl, o8, hw8, hs8⟩
      rw [decide_eq_true (show 0 ≤ ((I : Nat) : Int) ∧ ((I : Nat) : Int) < (N : Nat) by omega)]
      rw [if_pos (by omega), Int.toNat_natCast] at o8
      conv => whnf
      repeat (first | ((with_reducible apply Go.Vc.wr_i64); (focus exact And.intro (by omega) (by omega)); conv => whnf) | ((with_reducible apply Go.Vc.rem_i); (focus omega); conv => whnf) | ((with_reducible refine And.intro ?_ (And.intro ?_ ?_)); (focus exact rfl); (focus omega); conv => whnf))
      rw [hJ]
      rw [hJM]
      refine (consistency_spec (s2.sub (S7.trans hs8)) (by omega) hcap hLb (M : Nat) (by omega)).mono ?_
      rintro _ g9 t9 hd9 ht9 ⟨a9, n9, c9, rfl, o9, hw9, hs9⟩
      rw [decide_eq_true (show 1 ≤ ((M : Nat) : Int) ∧ ((M : Nat) : Int) ≤ (N : Nat) by omega)]
      rw [if_pos (by omega), Int.toNat_natCast] at o9
      have hil : (inc ndB emB L I).length ≤ 1000000 := by rw [inc_way_length ndB emB _ L I hLl]; have := way_le 16 N I (by omega); omega
      have hcl : (con ndB emB L M true).length ≤ 1000000 := by rw [con_many ndB emB _ L M true hLl]; have := many_le N M true (by omega) (by omega); omega
      have e6 : (inc ndB emB L I).length = n6 := o6.1
      have e7 : (con ndB emB L M true).length = n7 := o7.1
      have e8 : (inc ndB emB L I).length = n8 := o8.1
      have e9 : (con ndB emB L M true).length = n9 := o9.1
      have cap6 := o6.cap
      have cap7 := o7.cap
      have u6 := o6.sl.sub ((hs7.trans hs8).trans hs9)
      have u7 := o7.sl.sub (hs8.trans hs9)
      have u8 := o8.sl.sub hs9
      have u9 := o9.sl
      have u2 := s2.sub ((S7.trans hs8).trans hs9)
      have S9 := S2.trans ((S7.trans hs8).trans hs9)
      conv => whnf
      refine (words_spec u6 u8 (by omega) (by omega)).mono ?_
      rintro _ g10 t10 hd10 ht10 ⟨rfl, hs10⟩
      rw [decide_eq_true rfl]
      conv => whnf
      refine (words_spec (u7.sub hs10) (u9.sub hs10) (by omega) (by omega)).mono ?_
      rintro _ g11 t11 hd11 ht11 ⟨rfl, hs11⟩
      rw [decide_eq_true rfl]
      have v2 := (u2.sub hs10).sub hs11
      have v6 := (u6.sub hs10).sub hs11
      have v7 := (u7.sub hs10).sub hs11
      have S11 := (S9.trans hs10).trans hs11
      have hIL : I < L.length := by omega
      have htr1 := incd_true (l := L) (i := I) hIL
      have htr2 := grwd_true (l := L) (m := M) (by omega) (by omega)
      rw [hLl] at htr1 htr2
      have hib : ∀ x ∈ inc ndB emB L I, x.size ≤ 274877906944 := inc_bd hLb
      have hcb : ∀ x ∈ con ndB emB L M true, x.size ≤ 274877906944 := con_bd hLb
      have hRb := rt_bd hLb
      have hTb : ∀ x ∈ L.take M, x.size ≤ 274877906944 := fun x hx => hLb x (List.mem_of_mem_take hx)
      have hRTb := rt_bd hTb
      have hgI : L[I]? = some L[I] := List.getElem?_eq_getElem hIL
      have hgs : L[I].size ≤ 274877906944 := hLb _ (List.getElem_mem hIL)
      generalize L[I] = gI at *
      generalize inc ndB emB L I = P1 at *
      generalize con ndB emB L M true = P2 at *
      refine Go.Vc.draw_intro [⟨0, false, false, false, 0⟩, ⟨1, false, false, false, 1⟩, ⟨2, false, false, false, 3⟩, ⟨3, false, false, false, 7⟩, ⟨4, false, false, false, 15⟩, ⟨5, false, false, false, 31⟩, ⟨6, false, false, false, 63⟩, ⟨7, false, false, false, 127⟩, ⟨8, false, false, false, 255⟩, ⟨9, false, false, false, 511⟩, ⟨10, false, false, false, 1023⟩, ⟨11, false, false, false, 2047⟩, ⟨12, false, false, false, 4095⟩, ⟨13, false, false, false, 8191⟩, ⟨14, false, true, false, 16383⟩, ⟨15, false, false, false, 16383⟩, ⟨16, true, false, true, 49151⟩, ⟨17, false, false, false, 131071⟩, ⟨18, false, false, false, 262143⟩, ⟨19, false, false, false, 524287⟩, ⟨20, false, false, false, 1048575⟩, ⟨21, false, false, false, 2097151⟩, ⟨22, false, false, false, 4194303⟩, ⟨23, false, false, false, 8388607⟩, ⟨24, false, false, false, 16777215⟩, ⟨25, false, false, false, 33554431⟩, ⟨26, false, false, false, 67108863⟩, ⟨27, false, false, false, 134217727⟩, ⟨28, false, false, false, 268435455⟩, ⟨29, false, false, false, 536870911⟩, ⟨30, false, false, false, 1073741823⟩, ⟨31, false, false, false, 2147483647⟩, ⟨32, false, false, false, 4294967295⟩, ⟨33, false, false, false, 4294967295⟩, ⟨34, false, false, false, 4294967295⟩, ⟨35, false, false, false, 4294967295⟩, ⟨36, false, false, false, 55834574847⟩, ⟨37, false, false, false, 4294967295⟩, ⟨38, false, false, false, 4294967295⟩, ⟨39, false, false, false, 4294967295⟩, ⟨40, false, false, false, 828928688127⟩, ⟨41, false, false, false, 2065879269375⟩, ⟨42, false, false, false, 4264902524927⟩, ⟨43, false, false, false, 4294967295⟩, ⟨44, true, false, true, 17592186044415⟩, ⟨45, false, false, false, 35184372088831⟩, ⟨46, false, false, false, 70368744177663⟩, ⟨47, false, false, false, 140737488355327⟩, ⟨48, false, false, false, 140737488355327⟩, ⟨49, false, false, false, 140737488355327⟩, ⟨50, false, false, false, 985162418487295⟩, ⟨51, false, false, false, 2111062325329919⟩, ⟨52, false, false, false, 4503599627370495⟩, ⟨54, false, true, false, 140737488355327⟩, ⟨55, false, true, false, 140737488355327⟩, ⟨56, false, true, false, 54183933016801279⟩, ⟨57, false, true, false, 126241527054729215⟩, ⟨58, false, true, false, 140737488355327⟩, ⟨59, false, true, false, 140737488355327⟩, ⟨60, false, true, false, 140737488355327⟩, ⟨53, true, false, true, 9007199254740991⟩, ⟨61, true, false, false, 2305843009213693951⟩, ⟨62, false, false, false, 4611686018427387903⟩, ⟨63, false, false, false, 9223372036854775807⟩] (hs := g11) (hsub := (Sub.refl _)) (hm := by kernel_rfl) (hpl := by kernel_rfl) ?_
      conv => whnf
      conv => whnf
      repeat (first | (refine Go.Vc.br_t ?_ ?_; (focus omega); conv => whnf))
      refine (root_spec v2 (by omega) hLb).mono ?_
      rintro _ g12 t12 hd12 ht12 ⟨rfl, hs12⟩
      conv => whnf
      refine ⟨hs12, ?_⟩
      have w2 := v2.sub hs12
      have w6 := v6.sub hs12
      have w7 := v7.sub hs12
      have S12 := S11.trans hs12
      conv => whnf
      refine br_t rfl ?_
      conv => whnf
      repeat (first | ((with_reducible apply Go.Vc.sl_ix); (focus with_reducible assumption); (focus exact And.intro (by omega) (by omega)); intro xI bI offI hxI hcI; conv => whnf) | ((with_reducible apply Go.Vc.cell_i); (focus assumption); conv => whnf) | ((with_reducible apply Go.Vc.rem_i); (focus omega); conv => whnf) | ((with_reducible refine And.intro ?_ (And.intro ?_ ?_)); (focus exact rfl); (focus omega); conv => whnf))
      rw [hI] at hxI ⊢
      rw [Int.toNat_natCast] at hxI
      have ex : gI = xI := Option.some.inj (hgI.symm.trans hxI)
      subst ex
      clear hxI
      refine (included_spec (rt ndB emB L) (N : Nat) (I : Nat) (by omega) (by omega) gI hgs w6 (by omega) hib).mono ?_
      rintro _ g13 t13 hd13 ht13 ⟨rfl, hs13⟩
      rw [htr1]
      conv => whnf
      refine ⟨hs12.trans hs13, ?_⟩
      conv => whnf
      repeat (first | ((with_reducible refine And.intro (And.intro ?_ ?_) ?_); (focus omega); (focus omega); conv => whnf) | ((with_reducible apply Go.Vc.wr_i64); (focus exact And.intro (by omega) (by omega)); conv => whnf) | ((with_reducible apply Go.Vc.rem_i); (focus omega); conv => whnf) | ((with_reducible refine And.intro ?_ (And.intro ?_ ?_)); (focus exact rfl); (focus omega); conv => whnf))
      rw [hJ, hJM, Int.toNat_natCast]
      refine (root_spec ((w2.sub hs13).take (m := M) (by omega)) (by omega) hTb).mono ?_
      rintro _ g14 t14 hd14 ht14 ⟨rfl, hs14⟩
      conv => whnf
      refine ⟨(hs12.trans hs13).trans hs14, ?_⟩
      conv => whnf
      first
      | rw [hJ, hJM]
      | rw [hJ]
      | skip
      refine (mgrown_spec (rt ndB emB (L.take M)) hRTb (M : Nat) (by omega) (rt ndB emB L) (N : Nat) (by omega) ((w7.sub hs13).sub hs14) (by omega) cap7 hcb).mono ?_
      rintro _ g15 t15 hd15 ht15 ⟨rfl, hs15⟩
      rw [htr2]
      conv => whnf
      exact ⟨rfl, (((S12.trans hs13).trans hs14).trans hs15)⟩
end Go.Proofs.YtlkpgjicpjjlcaaGreatDoor
