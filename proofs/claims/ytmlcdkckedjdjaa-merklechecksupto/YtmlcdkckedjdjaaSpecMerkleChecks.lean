/- MerkleChecks answers true, by its contract. -/
import Derived.Test.YtmlcdkckedjdjaaMerkle13
namespace Go.Proofs.Ytmlcdkckedjdjaa
open Go Go.Vc Go.Sha Go.Mk
set_option maxRecDepth 10000
set_option linter.unusedVariables false

theorem tmod3 (w : Int) : -2 ≤ w.tmod 3 ∧ w.tmod 3 ≤ 2 := by
  rcases Int.le_total 0 w with h | h
  · rw [Int.tmod_eq_emod_of_nonneg h]; omega
  · have : w.tmod 3 = -((-w).tmod 3) := by rw [Int.neg_tmod]; omega
    rw [this, Int.tmod_eq_emod_of_nonneg (by omega)]; omega
theorem turnd_bd {l : List ByteArray} {w : Int} {s : ByteArray} (h : ∀ x ∈ l, x.size ≤ 274877906944) (hs : s.size ≤ 274877906944) : ∀ x ∈ turnd l w s, x.size ≤ 274877906944 := by
  intro x hx
  rcases List.mem_or_eq_of_mem_set hx with hx | rfl
  · exact h x hx
  · exact hs
theorem MerkleChecks_spec (h : Heap) (t : Nat) (n : Int) (hn : IntKind.min .u8 ≤ n ∧ n ≤ IntKind.max .u8) (i : Int) (hi : IntKind.min .i64 ≤ i ∧ i ≤ IntKind.max .i64) (m : Int) (hm : IntKind.min .i64 ≤ m ∧ m ≤ IntKind.max .i64)
    (turn : Int) (ht : IntKind.min .u8 ≤ turn ∧ turn ≤ IntKind.max .u8) (w : Int) (hw : IntKind.min .i64 ≤ w ∧ w ≤ IntKind.max .i64)
    (a0 : Option Addr) (n0 c0 : Nat) (l0 : List ByteArray) (s0 : Sl h a0 n0 Value.string l0) (hn0 : n0 ≤ 1048576) (hc0 : n0 ≤ c0) (hb0 : ∀ s ∈ l0, s.size ≤ 1048576)
    (old : ByteArray) (hold : old.size ≤ 1048576) (root : ByteArray) (hroot : root.size ≤ 1048576) :
    CallSpec Try.prog 7 #[.int .u8 n, .int .i64 i, .int .i64 m, .int .u8 turn, .int .i64 w, .slice a0 n0 c0, .string old, .string root] h t (fun v h' _ => v = .bool true ∧ Sub h h') := by
  have hn : 0 ≤ n ∧ n ≤ 255 := hn
  have ht : 0 ≤ turn ∧ turn ≤ 255 := ht
  have hi : -9223372036854775808 ≤ i ∧ i ≤ 9223372036854775807 := hi
  have hm : -9223372036854775808 ≤ m ∧ m ≤ 9223372036854775807 := hm
  have hw : -9223372036854775808 ≤ w ∧ w ≤ 9223372036854775807 := hw
  refine Go.Vc.spec_of_vc (fn := Try.f7) Try.func7 rfl (by kernel_rfl) (by kernel_rfl) (Nat.le_of_ble_eq_true rfl) ?_
  intro hd
  conv => whnf
  refine (examples_spec h t).mono ?_
  rintro _ h1 t1 hd1 ht1 ⟨rfl, hs1⟩
  obtain ⟨N, hN⟩ : ∃ N : Nat, 1 + n % 100 = N := ⟨(1 + n % 100).toNat, by omega⟩
  have hN1 : 1 ≤ N ∧ N ≤ 100 := by omega
  conv => whnf
  repeat (first | ((with_reducible apply Go.Vc.wr_i64); (focus exact And.intro (by omega) (by omega)); conv => whnf) | ((with_reducible apply Go.Vc.rem_i); (focus omega); conv => whnf) | ((with_reducible refine And.intro ?_ (And.intro ?_ ?_)); (focus exact rfl); (focus omega); conv => whnf))
  rw [hN]
  refine (list_spec N (by omega) ByteArray.empty (by decide) _ _).mono ?_
  rintro _ h2 t2 hd2 ht2 ⟨a2, c2, rfl, o2, hw2, hs2⟩
  have hL := listL_bd ByteArray.empty N
  have hLl := listL_len ByteArray.empty N
  generalize listL ByteArray.empty N = L at *
  have S2 := hs1.trans hs2
  have s2 := o2.sl
  have hcap := o2.cap
  conv => whnf
  refine br (fun hb1 => ?_) (fun hb1 => ?_)
  · obtain ⟨I, hI⟩ : ∃ I : Nat, (0 - (i + 1)) % (N : Int) = I := ⟨((0 - (i + 1)) % (N : Int)).toNat, by have := Int.emod_nonneg (0 - (i + 1)) (b := (N : Int)) (by omega); omega⟩
    have hI2 : (I : Int) < N := by rw [← hI]; exact Int.emod_lt_of_pos _ (by omega)
    conv => whnf
    repeat (first | ((with_reducible apply Go.Vc.wr_i64); (focus exact And.intro (by omega) (by omega)); conv => whnf))
    refine br (fun hbm => ?_) (fun hbm => ?_)
    · conv => whnf
      repeat (first | ((with_reducible apply Go.Vc.wr_i64); (focus exact And.intro (by omega) (by omega)); conv => whnf) | ((with_reducible apply Go.Vc.rem_i); (focus omega); conv => whnf) | ((with_reducible refine And.intro ?_ (And.intro ?_ ?_)); (focus exact rfl); (focus omega); conv => whnf))
      obtain ⟨M, hM⟩ : ∃ M : Nat, 1 + (0 - (m + 1)) % (N : Int) = M := ⟨(1 + (0 - (m + 1)) % (N : Int)).toNat, by have := Int.emod_nonneg (0 - (m + 1)) (b := (N : Int)) (by omega); omega⟩
      have hM2 : 1 ≤ M ∧ M ≤ N := by have := Int.emod_nonneg (0 - (m + 1)) (b := (N : Int)) (by omega); have := Int.emod_lt_of_pos (0 - (m + 1)) (b := (N : Int)) (by omega); omega
      conv => whnf
      repeat (first | ((with_reducible apply Go.Vc.wr_i64); (focus exact And.intro (by omega) (by omega)); conv => whnf))
      rw [hI, hM]
      have hM1 : 1 ≤ M ∧ M ≤ N := by omega
      refine (refinclusion_spec s2 (by omega) hcap hL (I : Nat) (by omega)).mono ?_
      rintro _ h3 t3 hd3 ht3 ⟨a3, m3, c3, rfl, o3, hm3, hw3, hs3⟩
      rw [if_pos (by omega), Int.toNat_natCast] at o3
      have hx3 : ∀ x ∈ inc ndB emB L I, x.size ≤ 274877906944 := inc_bd hL
      generalize inc ndB emB L I = P at *
      conv => whnf
      refine (refconsistency_spec (s2.sub hs3) (by omega) hcap hL (M : Nat) (by omega)).mono ?_
      rintro _ h4 t4 hd4 ht4 ⟨a4, m4, c4, rfl, o4, hm4, hw4, hs4⟩
      rw [if_pos (by omega), Int.toNat_natCast] at o4
      have hx4 : ∀ x ∈ con ndB emB L M true, x.size ≤ 274877906944 := con_bd hL
      have hT : ∀ x ∈ L.take M, x.size ≤ 274877906944 := fun x hx => hL x (List.mem_of_mem_take hx)
      generalize con ndB emB L M true = Q at *
      have s4 := (s2.sub hs3).sub hs4
      conv => whnf
      repeat (first | ((with_reducible refine And.intro (And.intro ?_ ?_) ?_); (focus omega); (focus omega); conv => whnf))
      rw [Int.toNat_natCast]
      refine (refroot_spec M (s4.take (m := M) (by omega)) (by omega) (by omega) hT).mono ?_
      rintro _ h5 t5 hd5 ht5 ⟨rfl, hs5⟩
      conv => whnf
      refine (refroot_spec N (s4.sub hs5) (by omega) hcap hL).mono ?_
      rintro _ h6 t6 hd6 ht6 ⟨rfl, hs6⟩
      have hR := rt_bd hL
      have hRT := rt_bd hT
      generalize rt ndB emB L = R at *
      generalize rt ndB emB (L.take M) = RT at *
      have s6 := (s4.sub hs5).sub hs6
      have SP := (((o3.sl).sub hs4).sub hs5).sub hs6
      have SQ := ((o4.sl).sub hs5).sub hs6
      have hcP := o3.cap
      have hcQ := o4.cap
      have S6 := S2.trans (hs3.trans (hs4.trans (hs5.trans hs6)))
      conv => whnf
      repeat (first | ((with_reducible apply Go.Vc.sl_ix); (focus with_reducible assumption); (focus exact And.intro (by omega) (by omega)); intro xI bI offI hxI hcI; conv => whnf) | ((with_reducible apply Go.Vc.cell_i); (focus assumption); conv => whnf) | ((with_reducible apply Go.Vc.rem_i); (focus omega); conv => whnf) | ((with_reducible refine And.intro ?_ (And.intro ?_ ?_)); (focus exact rfl); (focus omega); conv => whnf))
      have hg : xI.size ≤ 274877906944 := hL _ (List.mem_of_getElem? hxI)
      clear hxI
      generalize xI = g at *
      have hBEF0 := hRT
      have hNOW0 := hR
      have hROOT : root.size ≤ 274877906944 := by omega
      have hOLD : old.size ≤ 274877906944 := by omega
      have hx0 : ∀ x ∈ l0, x.size ≤ 274877906944 := fun x hx => by have := hb0 x hx; omega
      have sR := s0.sub S6
      have htm := tmod3 w
      obtain ⟨q, hq⟩ : ∃ q, q = w.tmod 3 := ⟨_, rfl⟩
      rw [← hq] at htm
      have hS0 : -9223372036854775808 ≤ ((N : Nat) : Int) ∧ ((N : Nat) : Int) ≤ 65536 := by omega
      have hI0 : -9223372036854775808 ≤ ((I : Nat) : Int) ∧ ((I : Nat) : Int) ≤ 9223372036854775807 := by omega
      have hM0 : -9223372036854775808 ≤ ((M : Nat) : Int) ∧ ((M : Nat) : Int) ≤ 9223372036854775807 := by omega
      have hxP := hx3
      have hxQ := hx4
      refine br (fun hc1 => ?_) (fun hc1 => ?_)
      · conv => whnf
        repeat (first | ((with_reducible refine And.intro ?_ (And.intro ?_ ?_)); (focus exact rfl); (focus omega); conv => whnf))
        refine ⟨q, hq, ?_⟩
        conv => whnf
        repeat (first | ((with_reducible apply Go.Vc.wr_i64); (focus exact And.intro (by omega) (by omega)); conv => whnf))
        have hSIZE : -9223372036854775808 ≤ ((N : Nat) : Int) + q ∧ ((N : Nat) : Int) + q ≤ 65536 := by omega
        have hHI := hI0
        have hMM := hM0
        have hHASH := hg
        have hBEF := hRT
        refine (included_spec _ _ _ hSIZE hHI _ hHASH SP (by omega) hxP).mono ?_
        rintro _ hA tA hdA htA ⟨rfl, hsA⟩
        conv => whnf
        refine (refincluded_spec _ _ _ hSIZE hHI _ hHASH (SP.sub hsA) (by omega) hcP hxP).mono ?_
        rintro _ hB tB hdB htB ⟨rfl, hsB⟩
        conv => whnf
        refine (grown_spec _ hBEF _ hMM _ _ hSIZE ((SQ.sub hsA).sub hsB) (by omega) hcQ hxQ).mono ?_
        rintro _ hC tC hdC htC ⟨rfl, hsC⟩
        conv => whnf
        refine (refgrown_spec _ hBEF _ hMM _ _ hSIZE (((SQ.sub hsA).sub hsB).sub hsC) (by omega) hcQ hxQ).mono ?_
        rintro _ hD tD hdD htD ⟨rfl, hsD⟩
        conv => whnf
        refine bsel_t (beq_self_eq_true _) ?_
        conv => whnf
        exact ⟨congrArg Value.bool (beq_self_eq_true _), S6.trans (hsA.trans (hsB.trans (hsC.trans hsD)))⟩
      conv => whnf
      refine br (fun hc2 => ?_) (fun hc2 => ?_)
      · conv => whnf
        repeat (first | ((with_reducible refine And.intro ?_ (And.intro ?_ ?_)); (focus exact rfl); (focus omega); conv => whnf))
        refine ⟨q, hq, ?_⟩
        conv => whnf
        repeat (first | ((with_reducible apply Go.Vc.wr_i64); (focus exact And.intro (by omega) (by omega)); conv => whnf) | ((with_reducible refine And.intro ?_ (And.intro ?_ ?_)); (focus exact rfl); (focus omega); conv => whnf))
        refine ⟨q, hq, ?_⟩
        conv => whnf
        repeat (first | ((with_reducible apply Go.Vc.wr_i64); (focus exact And.intro (by omega) (by omega)); conv => whnf))
        have hSIZE := hS0
        have hHI : -9223372036854775808 ≤ ((I : Nat) : Int) + q ∧ ((I : Nat) : Int) + q ≤ 9223372036854775807 := by omega
        have hMM : -9223372036854775808 ≤ ((M : Nat) : Int) + q ∧ ((M : Nat) : Int) + q ≤ 9223372036854775807 := by omega
        have hHASH := hg
        have hBEF := hRT
        refine (included_spec _ _ _ hSIZE hHI _ hHASH SP (by omega) hxP).mono ?_
        rintro _ hA tA hdA htA ⟨rfl, hsA⟩
        conv => whnf
        refine (refincluded_spec _ _ _ hSIZE hHI _ hHASH (SP.sub hsA) (by omega) hcP hxP).mono ?_
        rintro _ hB tB hdB htB ⟨rfl, hsB⟩
        conv => whnf
        refine (grown_spec _ hBEF _ hMM _ _ hSIZE ((SQ.sub hsA).sub hsB) (by omega) hcQ hxQ).mono ?_
        rintro _ hC tC hdC htC ⟨rfl, hsC⟩
        conv => whnf
        refine (refgrown_spec _ hBEF _ hMM _ _ hSIZE (((SQ.sub hsA).sub hsB).sub hsC) (by omega) hcQ hxQ).mono ?_
        rintro _ hD tD hdD htD ⟨rfl, hsD⟩
        conv => whnf
        refine bsel_t (beq_self_eq_true _) ?_
        conv => whnf
        exact ⟨congrArg Value.bool (beq_self_eq_true _), S6.trans (hsA.trans (hsB.trans (hsC.trans hsD)))⟩
      conv => whnf
      have hSIZE := hS0
      have hHI := hI0
      have hMM := hM0
      refine br (fun hc3 => ?_) (fun hc3 => ?_)
      · conv => whnf
        refine (turned_spec SP (by omega) w hw old).mono ?_
        rintro _ hU tU hdU htU ⟨aU, cU, rfl, oU, hwU, hsU⟩
        conv => whnf
        refine (turned_spec (SQ.sub hsU) (by omega) w hw old).mono ?_
        rintro _ hV tV hdV htV ⟨aV, cV, rfl, oV, hwV, hsV⟩
        have SP := oU.sl.sub hsV
        have SQ := oV.sl
        have hxP := turnd_bd (w := w) hxP hOLD
        have hxQ := turnd_bd (w := w) hxQ hOLD
        have hcP := oU.cap
        have hcQ := oV.cap
        have S6 := S6.trans (hsU.trans hsV)
        have hHASH := hg
        have hBEF := hRT
        conv => whnf
        refine (included_spec _ _ _ hSIZE hHI _ hHASH SP (by omega) hxP).mono ?_
        rintro _ hA tA hdA htA ⟨rfl, hsA⟩
        conv => whnf
        refine (refincluded_spec _ _ _ hSIZE hHI _ hHASH (SP.sub hsA) (by omega) hcP hxP).mono ?_
        rintro _ hB tB hdB htB ⟨rfl, hsB⟩
        conv => whnf
        refine (grown_spec _ hBEF _ hMM _ _ hSIZE ((SQ.sub hsA).sub hsB) (by omega) hcQ hxQ).mono ?_
        rintro _ hC tC hdC htC ⟨rfl, hsC⟩
        conv => whnf
        refine (refgrown_spec _ hBEF _ hMM _ _ hSIZE (((SQ.sub hsA).sub hsB).sub hsC) (by omega) hcQ hxQ).mono ?_
        rintro _ hD tD hdD htD ⟨rfl, hsD⟩
        conv => whnf
        refine bsel_t (beq_self_eq_true _) ?_
        conv => whnf
        exact ⟨congrArg Value.bool (beq_self_eq_true _), S6.trans (hsA.trans (hsB.trans (hsC.trans hsD)))⟩
      conv => whnf
      refine br (fun hc4 => ?_) (fun hc4 => ?_)
      · have SP := sR
        have SQ := sR
        have hxP := hx0
        have hxQ := hx0
        have hcP := hc0
        have hcQ := hc0
        have hHASH := hg
        have hBEF := hRT
        conv => whnf
        refine (included_spec _ _ _ hSIZE hHI _ hHASH SP (by omega) hxP).mono ?_
        rintro _ hA tA hdA htA ⟨rfl, hsA⟩
        conv => whnf
        refine (refincluded_spec _ _ _ hSIZE hHI _ hHASH (SP.sub hsA) (by omega) hcP hxP).mono ?_
        rintro _ hB tB hdB htB ⟨rfl, hsB⟩
        conv => whnf
        refine (grown_spec _ hBEF _ hMM _ _ hSIZE ((SQ.sub hsA).sub hsB) (by omega) hcQ hxQ).mono ?_
        rintro _ hC tC hdC htC ⟨rfl, hsC⟩
        conv => whnf
        refine (refgrown_spec _ hBEF _ hMM _ _ hSIZE (((SQ.sub hsA).sub hsB).sub hsC) (by omega) hcQ hxQ).mono ?_
        rintro _ hD tD hdD htD ⟨rfl, hsD⟩
        conv => whnf
        refine bsel_t (beq_self_eq_true _) ?_
        conv => whnf
        exact ⟨congrArg Value.bool (beq_self_eq_true _), S6.trans (hsA.trans (hsB.trans (hsC.trans hsD)))⟩
      conv => whnf
      refine br (fun hc5 => ?_) (fun hc5 => ?_)
      · have hHASH := hOLD
        have hBEF := hOLD
        conv => whnf
        refine (included_spec _ _ _ hSIZE hHI _ hHASH SP (by omega) hxP).mono ?_
        rintro _ hA tA hdA htA ⟨rfl, hsA⟩
        conv => whnf
        refine (refincluded_spec _ _ _ hSIZE hHI _ hHASH (SP.sub hsA) (by omega) hcP hxP).mono ?_
        rintro _ hB tB hdB htB ⟨rfl, hsB⟩
        conv => whnf
        refine (grown_spec _ hBEF _ hMM _ _ hSIZE ((SQ.sub hsA).sub hsB) (by omega) hcQ hxQ).mono ?_
        rintro _ hC tC hdC htC ⟨rfl, hsC⟩
        conv => whnf
        refine (refgrown_spec _ hBEF _ hMM _ _ hSIZE (((SQ.sub hsA).sub hsB).sub hsC) (by omega) hcQ hxQ).mono ?_
        rintro _ hD tD hdD htD ⟨rfl, hsD⟩
        conv => whnf
        refine bsel_t (beq_self_eq_true _) ?_
        conv => whnf
        exact ⟨congrArg Value.bool (beq_self_eq_true _), S6.trans (hsA.trans (hsB.trans (hsC.trans hsD)))⟩
      · have hHASH := hg
        have hBEF := hRT
        conv => whnf
        refine (included_spec _ _ _ hSIZE hHI _ hHASH SP (by omega) hxP).mono ?_
        rintro _ hA tA hdA htA ⟨rfl, hsA⟩
        conv => whnf
        refine (refincluded_spec _ _ _ hSIZE hHI _ hHASH (SP.sub hsA) (by omega) hcP hxP).mono ?_
        rintro _ hB tB hdB htB ⟨rfl, hsB⟩
        conv => whnf
        refine (grown_spec _ hBEF _ hMM _ _ hSIZE ((SQ.sub hsA).sub hsB) (by omega) hcQ hxQ).mono ?_
        rintro _ hC tC hdC htC ⟨rfl, hsC⟩
        conv => whnf
        refine (refgrown_spec _ hBEF _ hMM _ _ hSIZE (((SQ.sub hsA).sub hsB).sub hsC) (by omega) hcQ hxQ).mono ?_
        rintro _ hD tD hdD htD ⟨rfl, hsD⟩
        conv => whnf
        refine bsel_t (beq_self_eq_true _) ?_
        conv => whnf
        exact ⟨congrArg Value.bool (beq_self_eq_true _), S6.trans (hsA.trans (hsB.trans (hsC.trans hsD)))⟩
    · conv => whnf
      repeat (first | ((with_reducible apply Go.Vc.rem_i); (focus omega); conv => whnf) | ((with_reducible refine And.intro ?_ (And.intro ?_ ?_)); (focus exact rfl); (focus omega); conv => whnf))
      obtain ⟨M, hM⟩ : ∃ M : Nat, 1 + m % (N : Int) = M := ⟨(1 + m % (N : Int)).toNat, by have := Int.emod_nonneg m (b := (N : Int)) (by omega); omega⟩
      have hM2 : 1 ≤ M ∧ M ≤ N := by have := Int.emod_nonneg m (b := (N : Int)) (by omega); have := Int.emod_lt_of_pos m (b := (N : Int)) (by omega); omega
      conv => whnf
      repeat (first | ((with_reducible apply Go.Vc.wr_i64); (focus exact And.intro (by omega) (by omega)); conv => whnf))
      rw [hI, hM]
      have hM1 : 1 ≤ M ∧ M ≤ N := by omega
      refine (refinclusion_spec s2 (by omega) hcap hL (I : Nat) (by omega)).mono ?_
      rintro _ h3 t3 hd3 ht3 ⟨a3, m3, c3, rfl, o3, hm3, hw3, hs3⟩
      rw [if_pos (by omega), Int.toNat_natCast] at o3
      have hx3 : ∀ x ∈ inc ndB emB L I, x.size ≤ 274877906944 := inc_bd hL
      generalize inc ndB emB L I = P at *
      conv => whnf
      refine (refconsistency_spec (s2.sub hs3) (by omega) hcap hL (M : Nat) (by omega)).mono ?_
      rintro _ h4 t4 hd4 ht4 ⟨a4, m4, c4, rfl, o4, hm4, hw4, hs4⟩
      rw [if_pos (by omega), Int.toNat_natCast] at o4
      have hx4 : ∀ x ∈ con ndB emB L M true, x.size ≤ 274877906944 := con_bd hL
      have hT : ∀ x ∈ L.take M, x.size ≤ 274877906944 := fun x hx => hL x (List.mem_of_mem_take hx)
      generalize con ndB emB L M true = Q at *
      have s4 := (s2.sub hs3).sub hs4
      conv => whnf
      repeat (first | ((with_reducible refine And.intro (And.intro ?_ ?_) ?_); (focus omega); (focus omega); conv => whnf))
      rw [Int.toNat_natCast]
      refine (refroot_spec M (s4.take (m := M) (by omega)) (by omega) (by omega) hT).mono ?_
      rintro _ h5 t5 hd5 ht5 ⟨rfl, hs5⟩
      conv => whnf
      refine (refroot_spec N (s4.sub hs5) (by omega) hcap hL).mono ?_
      rintro _ h6 t6 hd6 ht6 ⟨rfl, hs6⟩
      have hR := rt_bd hL
      have hRT := rt_bd hT
      generalize rt ndB emB L = R at *
      generalize rt ndB emB (L.take M) = RT at *
      have s6 := (s4.sub hs5).sub hs6
      have SP := (((o3.sl).sub hs4).sub hs5).sub hs6
      have SQ := ((o4.sl).sub hs5).sub hs6
      have hcP := o3.cap
      have hcQ := o4.cap
      have S6 := S2.trans (hs3.trans (hs4.trans (hs5.trans hs6)))
      conv => whnf
      repeat (first | ((with_reducible apply Go.Vc.sl_ix); (focus with_reducible assumption); (focus exact And.intro (by omega) (by omega)); intro xI bI offI hxI hcI; conv => whnf) | ((with_reducible apply Go.Vc.cell_i); (focus assumption); conv => whnf) | ((with_reducible apply Go.Vc.rem_i); (focus omega); conv => whnf) | ((with_reducible refine And.intro ?_ (And.intro ?_ ?_)); (focus exact rfl); (focus omega); conv => whnf))
      have hg : xI.size ≤ 274877906944 := hL _ (List.mem_of_getElem? hxI)
      clear hxI
      generalize xI = g at *
      have hBEF0 := hRT
      have hNOW0 := hR
      have hROOT : root.size ≤ 274877906944 := by omega
      have hOLD : old.size ≤ 274877906944 := by omega
      have hx0 : ∀ x ∈ l0, x.size ≤ 274877906944 := fun x hx => by have := hb0 x hx; omega
      have sR := s0.sub S6
      have htm := tmod3 w
      obtain ⟨q, hq⟩ : ∃ q, q = w.tmod 3 := ⟨_, rfl⟩
      rw [← hq] at htm
      have hS0 : -9223372036854775808 ≤ ((N : Nat) : Int) ∧ ((N : Nat) : Int) ≤ 65536 := by omega
      have hI0 : -9223372036854775808 ≤ ((I : Nat) : Int) ∧ ((I : Nat) : Int) ≤ 9223372036854775807 := by omega
      have hM0 : -9223372036854775808 ≤ ((M : Nat) : Int) ∧ ((M : Nat) : Int) ≤ 9223372036854775807 := by omega
      have hxP := hx3
      have hxQ := hx4
      refine br (fun hc1 => ?_) (fun hc1 => ?_)
      · conv => whnf
        repeat (first | ((with_reducible refine And.intro ?_ (And.intro ?_ ?_)); (focus exact rfl); (focus omega); conv => whnf))
        refine ⟨q, hq, ?_⟩
        conv => whnf
        repeat (first | ((with_reducible apply Go.Vc.wr_i64); (focus exact And.intro (by omega) (by omega)); conv => whnf))
        have hSIZE : -9223372036854775808 ≤ ((N : Nat) : Int) + q ∧ ((N : Nat) : Int) + q ≤ 65536 := by omega
        have hHI := hI0
        have hMM := hM0
        have hHASH := hg
        have hBEF := hRT
        refine (included_spec _ _ _ hSIZE hHI _ hHASH SP (by omega) hxP).mono ?_
        rintro _ hA tA hdA htA ⟨rfl, hsA⟩
        conv => whnf
        refine (refincluded_spec _ _ _ hSIZE hHI _ hHASH (SP.sub hsA) (by omega) hcP hxP).mono ?_
        rintro _ hB tB hdB htB ⟨rfl, hsB⟩
        conv => whnf
        refine (grown_spec _ hBEF _ hMM _ _ hSIZE ((SQ.sub hsA).sub hsB) (by omega) hcQ hxQ).mono ?_
        rintro _ hC tC hdC htC ⟨rfl, hsC⟩
        conv => whnf
        refine (refgrown_spec _ hBEF _ hMM _ _ hSIZE (((SQ.sub hsA).sub hsB).sub hsC) (by omega) hcQ hxQ).mono ?_
        rintro _ hD tD hdD htD ⟨rfl, hsD⟩
        conv => whnf
        refine bsel_t (beq_self_eq_true _) ?_
        conv => whnf
        exact ⟨congrArg Value.bool (beq_self_eq_true _), S6.trans (hsA.trans (hsB.trans (hsC.trans hsD)))⟩
      conv => whnf
      refine br (fun hc2 => ?_) (fun hc2 => ?_)
      · conv => whnf
        repeat (first | ((with_reducible refine And.intro ?_ (And.intro ?_ ?_)); (focus exact rfl); (focus omega); conv => whnf))
        refine ⟨q, hq, ?_⟩
        conv => whnf
        repeat (first | ((with_reducible apply Go.Vc.wr_i64); (focus exact And.intro (by omega) (by omega)); conv => whnf) | ((with_reducible refine And.intro ?_ (And.intro ?_ ?_)); (focus exact rfl); (focus omega); conv => whnf))
        refine ⟨q, hq, ?_⟩
        conv => whnf
        repeat (first | ((with_reducible apply Go.Vc.wr_i64); (focus exact And.intro (by omega) (by omega)); conv => whnf))
        have hSIZE := hS0
        have hHI : -9223372036854775808 ≤ ((I : Nat) : Int) + q ∧ ((I : Nat) : Int) + q ≤ 9223372036854775807 := by omega
        have hMM : -9223372036854775808 ≤ ((M : Nat) : Int) + q ∧ ((M : Nat) : Int) + q ≤ 9223372036854775807 := by omega
        have hHASH := hg
        have hBEF := hRT
        refine (included_spec _ _ _ hSIZE hHI _ hHASH SP (by omega) hxP).mono ?_
        rintro _ hA tA hdA htA ⟨rfl, hsA⟩
        conv => whnf
        refine (refincluded_spec _ _ _ hSIZE hHI _ hHASH (SP.sub hsA) (by omega) hcP hxP).mono ?_
        rintro _ hB tB hdB htB ⟨rfl, hsB⟩
        conv => whnf
        refine (grown_spec _ hBEF _ hMM _ _ hSIZE ((SQ.sub hsA).sub hsB) (by omega) hcQ hxQ).mono ?_
        rintro _ hC tC hdC htC ⟨rfl, hsC⟩
        conv => whnf
        refine (refgrown_spec _ hBEF _ hMM _ _ hSIZE (((SQ.sub hsA).sub hsB).sub hsC) (by omega) hcQ hxQ).mono ?_
        rintro _ hD tD hdD htD ⟨rfl, hsD⟩
        conv => whnf
        refine bsel_t (beq_self_eq_true _) ?_
        conv => whnf
        exact ⟨congrArg Value.bool (beq_self_eq_true _), S6.trans (hsA.trans (hsB.trans (hsC.trans hsD)))⟩
      conv => whnf
      have hSIZE := hS0
      have hHI := hI0
      have hMM := hM0
      refine br (fun hc3 => ?_) (fun hc3 => ?_)
      · conv => whnf
        refine (turned_spec SP (by omega) w hw old).mono ?_
        rintro _ hU tU hdU htU ⟨aU, cU, rfl, oU, hwU, hsU⟩
        conv => whnf
        refine (turned_spec (SQ.sub hsU) (by omega) w hw old).mono ?_
        rintro _ hV tV hdV htV ⟨aV, cV, rfl, oV, hwV, hsV⟩
        have SP := oU.sl.sub hsV
        have SQ := oV.sl
        have hxP := turnd_bd (w := w) hxP hOLD
        have hxQ := turnd_bd (w := w) hxQ hOLD
        have hcP := oU.cap
        have hcQ := oV.cap
        have S6 := S6.trans (hsU.trans hsV)
        have hHASH := hg
        have hBEF := hRT
        conv => whnf
        refine (included_spec _ _ _ hSIZE hHI _ hHASH SP (by omega) hxP).mono ?_
        rintro _ hA tA hdA htA ⟨rfl, hsA⟩
        conv => whnf
        refine (refincluded_spec _ _ _ hSIZE hHI _ hHASH (SP.sub hsA) (by omega) hcP hxP).mono ?_
        rintro _ hB tB hdB htB ⟨rfl, hsB⟩
        conv => whnf
        refine (grown_spec _ hBEF _ hMM _ _ hSIZE ((SQ.sub hsA).sub hsB) (by omega) hcQ hxQ).mono ?_
        rintro _ hC tC hdC htC ⟨rfl, hsC⟩
        conv => whnf
        refine (refgrown_spec _ hBEF _ hMM _ _ hSIZE (((SQ.sub hsA).sub hsB).sub hsC) (by omega) hcQ hxQ).mono ?_
        rintro _ hD tD hdD htD ⟨rfl, hsD⟩
        conv => whnf
        refine bsel_t (beq_self_eq_true _) ?_
        conv => whnf
        exact ⟨congrArg Value.bool (beq_self_eq_true _), S6.trans (hsA.trans (hsB.trans (hsC.trans hsD)))⟩
      conv => whnf
      refine br (fun hc4 => ?_) (fun hc4 => ?_)
      · have SP := sR
        have SQ := sR
        have hxP := hx0
        have hxQ := hx0
        have hcP := hc0
        have hcQ := hc0
        have hHASH := hg
        have hBEF := hRT
        conv => whnf
        refine (included_spec _ _ _ hSIZE hHI _ hHASH SP (by omega) hxP).mono ?_
        rintro _ hA tA hdA htA ⟨rfl, hsA⟩
        conv => whnf
        refine (refincluded_spec _ _ _ hSIZE hHI _ hHASH (SP.sub hsA) (by omega) hcP hxP).mono ?_
        rintro _ hB tB hdB htB ⟨rfl, hsB⟩
        conv => whnf
        refine (grown_spec _ hBEF _ hMM _ _ hSIZE ((SQ.sub hsA).sub hsB) (by omega) hcQ hxQ).mono ?_
        rintro _ hC tC hdC htC ⟨rfl, hsC⟩
        conv => whnf
        refine (refgrown_spec _ hBEF _ hMM _ _ hSIZE (((SQ.sub hsA).sub hsB).sub hsC) (by omega) hcQ hxQ).mono ?_
        rintro _ hD tD hdD htD ⟨rfl, hsD⟩
        conv => whnf
        refine bsel_t (beq_self_eq_true _) ?_
        conv => whnf
        exact ⟨congrArg Value.bool (beq_self_eq_true _), S6.trans (hsA.trans (hsB.trans (hsC.trans hsD)))⟩
      conv => whnf
      refine br (fun hc5 => ?_) (fun hc5 => ?_)
      · have hHASH := hOLD
        have hBEF := hOLD
        conv => whnf
        refine (included_spec _ _ _ hSIZE hHI _ hHASH SP (by omega) hxP).mono ?_
        rintro _ hA tA hdA htA ⟨rfl, hsA⟩
        conv => whnf
        refine (refincluded_spec _ _ _ hSIZE hHI _ hHASH (SP.sub hsA) (by omega) hcP hxP).mono ?_
        rintro _ hB tB hdB htB ⟨rfl, hsB⟩
        conv => whnf
        refine (grown_spec _ hBEF _ hMM _ _ hSIZE ((SQ.sub hsA).sub hsB) (by omega) hcQ hxQ).mono ?_
        rintro _ hC tC hdC htC ⟨rfl, hsC⟩
        conv => whnf
        refine (refgrown_spec _ hBEF _ hMM _ _ hSIZE (((SQ.sub hsA).sub hsB).sub hsC) (by omega) hcQ hxQ).mono ?_
        rintro _ hD tD hdD htD ⟨rfl, hsD⟩
        conv => whnf
        refine bsel_t (beq_self_eq_true _) ?_
        conv => whnf
        exact ⟨congrArg Value.bool (beq_self_eq_true _), S6.trans (hsA.trans (hsB.trans (hsC.trans hsD)))⟩
      · have hHASH := hg
        have hBEF := hRT
        conv => whnf
        refine (included_spec _ _ _ hSIZE hHI _ hHASH SP (by omega) hxP).mono ?_
        rintro _ hA tA hdA htA ⟨rfl, hsA⟩
        conv => whnf
        refine (refincluded_spec _ _ _ hSIZE hHI _ hHASH (SP.sub hsA) (by omega) hcP hxP).mono ?_
        rintro _ hB tB hdB htB ⟨rfl, hsB⟩
        conv => whnf
        refine (grown_spec _ hBEF _ hMM _ _ hSIZE ((SQ.sub hsA).sub hsB) (by omega) hcQ hxQ).mono ?_
        rintro _ hC tC hdC htC ⟨rfl, hsC⟩
        conv => whnf
        refine (refgrown_spec _ hBEF _ hMM _ _ hSIZE (((SQ.sub hsA).sub hsB).sub hsC) (by omega) hcQ hxQ).mono ?_
        rintro _ hD tD hdD htD ⟨rfl, hsD⟩
        conv => whnf
        refine bsel_t (beq_self_eq_true _) ?_
        conv => whnf
        exact ⟨congrArg Value.bool (beq_self_eq_true _), S6.trans (hsA.trans (hsB.trans (hsC.trans hsD)))⟩
  · obtain ⟨I, hI⟩ : ∃ I : Nat, i % (N : Int) = I := ⟨(i % (N : Int)).toNat, by have := Int.emod_nonneg i (b := (N : Int)) (by omega); omega⟩
    have hI2 : (I : Int) < N := by rw [← hI]; exact Int.emod_lt_of_pos _ (by omega)
    conv => whnf
    refine br (fun hbm => ?_) (fun hbm => ?_)
    · conv => whnf
      repeat (first | ((with_reducible apply Go.Vc.wr_i64); (focus exact And.intro (by omega) (by omega)); conv => whnf) | ((with_reducible apply Go.Vc.rem_i); (focus omega); conv => whnf) | ((with_reducible refine And.intro ?_ (And.intro ?_ ?_)); (focus exact rfl); (focus omega); conv => whnf))
      obtain ⟨M, hM⟩ : ∃ M : Nat, 1 + (0 - (m + 1)) % (N : Int) = M := ⟨(1 + (0 - (m + 1)) % (N : Int)).toNat, by have := Int.emod_nonneg (0 - (m + 1)) (b := (N : Int)) (by omega); omega⟩
      have hM2 : 1 ≤ M ∧ M ≤ N := by have := Int.emod_nonneg (0 - (m + 1)) (b := (N : Int)) (by omega); have := Int.emod_lt_of_pos (0 - (m + 1)) (b := (N : Int)) (by omega); omega
      conv => whnf
      repeat (first | ((with_reducible apply Go.Vc.wr_i64); (focus exact And.intro (by omega) (by omega)); conv => whnf))
      rw [hI, hM]
      have hM1 : 1 ≤ M ∧ M ≤ N := by omega
      refine (refinclusion_spec s2 (by omega) hcap hL (I : Nat) (by omega)).mono ?_
      rintro _ h3 t3 hd3 ht3 ⟨a3, m3, c3, rfl, o3, hm3, hw3, hs3⟩
      rw [if_pos (by omega), Int.toNat_natCast] at o3
      have hx3 : ∀ x ∈ inc ndB emB L I, x.size ≤ 274877906944 := inc_bd hL
      generalize inc ndB emB L I = P at *
      conv => whnf
      refine (refconsistency_spec (s2.sub hs3) (by omega) hcap hL (M : Nat) (by omega)).mono ?_
      rintro _ h4 t4 hd4 ht4 ⟨a4, m4, c4, rfl, o4, hm4, hw4, hs4⟩
      rw [if_pos (by omega), Int.toNat_natCast] at o4
      have hx4 : ∀ x ∈ con ndB emB L M true, x.size ≤ 274877906944 := con_bd hL
      have hT : ∀ x ∈ L.take M, x.size ≤ 274877906944 := fun x hx => hL x (List.mem_of_mem_take hx)
      generalize con ndB emB L M true = Q at *
      have s4 := (s2.sub hs3).sub hs4
      conv => whnf
      repeat (first | ((with_reducible refine And.intro (And.intro ?_ ?_) ?_); (focus omega); (focus omega); conv => whnf))
      rw [Int.toNat_natCast]
      refine (refroot_spec M (s4.take (m := M) (by omega)) (by omega) (by omega) hT).mono ?_
      rintro _ h5 t5 hd5 ht5 ⟨rfl, hs5⟩
      conv => whnf
      refine (refroot_spec N (s4.sub hs5) (by omega) hcap hL).mono ?_
      rintro _ h6 t6 hd6 ht6 ⟨rfl, hs6⟩
      have hR := rt_bd hL
      have hRT := rt_bd hT
      generalize rt ndB emB L = R at *
      generalize rt ndB emB (L.take M) = RT at *
      have s6 := (s4.sub hs5).sub hs6
      have SP := (((o3.sl).sub hs4).sub hs5).sub hs6
      have SQ := ((o4.sl).sub hs5).sub hs6
      have hcP := o3.cap
      have hcQ := o4.cap
      have S6 := S2.trans (hs3.trans (hs4.trans (hs5.trans hs6)))
      conv => whnf
      repeat (first | ((with_reducible apply Go.Vc.sl_ix); (focus with_reducible assumption); (focus exact And.intro (by omega) (by omega)); intro xI bI offI hxI hcI; conv => whnf) | ((with_reducible apply Go.Vc.cell_i); (focus assumption); conv => whnf) | ((with_reducible apply Go.Vc.rem_i); (focus omega); conv => whnf) | ((with_reducible refine And.intro ?_ (And.intro ?_ ?_)); (focus exact rfl); (focus omega); conv => whnf))
      have hg : xI.size ≤ 274877906944 := hL _ (List.mem_of_getElem? hxI)
      clear hxI
      generalize xI = g at *
      have hBEF0 := hRT
      have hNOW0 := hR
      have hROOT : root.size ≤ 274877906944 := by omega
      have hOLD : old.size ≤ 274877906944 := by omega
      have hx0 : ∀ x ∈ l0, x.size ≤ 274877906944 := fun x hx => by have := hb0 x hx; omega
      have sR := s0.sub S6
      have htm := tmod3 w
      obtain ⟨q, hq⟩ : ∃ q, q = w.tmod 3 := ⟨_, rfl⟩
      rw [← hq] at htm
      have hS0 : -9223372036854775808 ≤ ((N : Nat) : Int) ∧ ((N : Nat) : Int) ≤ 65536 := by omega
      have hI0 : -9223372036854775808 ≤ ((I : Nat) : Int) ∧ ((I : Nat) : Int) ≤ 9223372036854775807 := by omega
      have hM0 : -9223372036854775808 ≤ ((M : Nat) : Int) ∧ ((M : Nat) : Int) ≤ 9223372036854775807 := by omega
      have hxP := hx3
      have hxQ := hx4
      refine br (fun hc1 => ?_) (fun hc1 => ?_)
      · conv => whnf
        repeat (first | ((with_reducible refine And.intro ?_ (And.intro ?_ ?_)); (focus exact rfl); (focus omega); conv => whnf))
        refine ⟨q, hq, ?_⟩
        conv => whnf
        repeat (first | ((with_reducible apply Go.Vc.wr_i64); (focus exact And.intro (by omega) (by omega)); conv => whnf))
        have hSIZE : -9223372036854775808 ≤ ((N : Nat) : Int) + q ∧ ((N : Nat) : Int) + q ≤ 65536 := by omega
        have hHI := hI0
        have hMM := hM0
        have hHASH := hg
        have hBEF := hRT
        refine (included_spec _ _ _ hSIZE hHI _ hHASH SP (by omega) hxP).mono ?_
        rintro _ hA tA hdA htA ⟨rfl, hsA⟩
        conv => whnf
        refine (refincluded_spec _ _ _ hSIZE hHI _ hHASH (SP.sub hsA) (by omega) hcP hxP).mono ?_
        rintro _ hB tB hdB htB ⟨rfl, hsB⟩
        conv => whnf
        refine (grown_spec _ hBEF _ hMM _ _ hSIZE ((SQ.sub hsA).sub hsB) (by omega) hcQ hxQ).mono ?_
        rintro _ hC tC hdC htC ⟨rfl, hsC⟩
        conv => whnf
        refine (refgrown_spec _ hBEF _ hMM _ _ hSIZE (((SQ.sub hsA).sub hsB).sub hsC) (by omega) hcQ hxQ).mono ?_
        rintro _ hD tD hdD htD ⟨rfl, hsD⟩
        conv => whnf
        refine bsel_t (beq_self_eq_true _) ?_
        conv => whnf
        exact ⟨congrArg Value.bool (beq_self_eq_true _), S6.trans (hsA.trans (hsB.trans (hsC.trans hsD)))⟩
      conv => whnf
      refine br (fun hc2 => ?_) (fun hc2 => ?_)
      · conv => whnf
        repeat (first | ((with_reducible refine And.intro ?_ (And.intro ?_ ?_)); (focus exact rfl); (focus omega); conv => whnf))
        refine ⟨q, hq, ?_⟩
        conv => whnf
        repeat (first | ((with_reducible apply Go.Vc.wr_i64); (focus exact And.intro (by omega) (by omega)); conv => whnf) | ((with_reducible refine And.intro ?_ (And.intro ?_ ?_)); (focus exact rfl); (focus omega); conv => whnf))
        refine ⟨q, hq, ?_⟩
        conv => whnf
        repeat (first | ((with_reducible apply Go.Vc.wr_i64); (focus exact And.intro (by omega) (by omega)); conv => whnf))
        have hSIZE := hS0
        have hHI : -9223372036854775808 ≤ ((I : Nat) : Int) + q ∧ ((I : Nat) : Int) + q ≤ 9223372036854775807 := by omega
        have hMM : -9223372036854775808 ≤ ((M : Nat) : Int) + q ∧ ((M : Nat) : Int) + q ≤ 9223372036854775807 := by omega
        have hHASH := hg
        have hBEF := hRT
        refine (included_spec _ _ _ hSIZE hHI _ hHASH SP (by omega) hxP).mono ?_
        rintro _ hA tA hdA htA ⟨rfl, hsA⟩
        conv => whnf
        refine (refincluded_spec _ _ _ hSIZE hHI _ hHASH (SP.sub hsA) (by omega) hcP hxP).mono ?_
        rintro _ hB tB hdB htB ⟨rfl, hsB⟩
        conv => whnf
        refine (grown_spec _ hBEF _ hMM _ _ hSIZE ((SQ.sub hsA).sub hsB) (by omega) hcQ hxQ).mono ?_
        rintro _ hC tC hdC htC ⟨rfl, hsC⟩
        conv => whnf
        refine (refgrown_spec _ hBEF _ hMM _ _ hSIZE (((SQ.sub hsA).sub hsB).sub hsC) (by omega) hcQ hxQ).mono ?_
        rintro _ hD tD hdD htD ⟨rfl, hsD⟩
        conv => whnf
        refine bsel_t (beq_self_eq_true _) ?_
        conv => whnf
        exact ⟨congrArg Value.bool (beq_self_eq_true _), S6.trans (hsA.trans (hsB.trans (hsC.trans hsD)))⟩
      conv => whnf
      have hSIZE := hS0
      have hHI := hI0
      have hMM := hM0
      refine br (fun hc3 => ?_) (fun hc3 => ?_)
      · conv => whnf
        refine (turned_spec SP (by omega) w hw old).mono ?_
        rintro _ hU tU hdU htU ⟨aU, cU, rfl, oU, hwU, hsU⟩
        conv => whnf
        refine (turned_spec (SQ.sub hsU) (by omega) w hw old).mono ?_
        rintro _ hV tV hdV htV ⟨aV, cV, rfl, oV, hwV, hsV⟩
        have SP := oU.sl.sub hsV
        have SQ := oV.sl
        have hxP := turnd_bd (w := w) hxP hOLD
        have hxQ := turnd_bd (w := w) hxQ hOLD
        have hcP := oU.cap
        have hcQ := oV.cap
        have S6 := S6.trans (hsU.trans hsV)
        have hHASH := hg
        have hBEF := hRT
        conv => whnf
        refine (included_spec _ _ _ hSIZE hHI _ hHASH SP (by omega) hxP).mono ?_
        rintro _ hA tA hdA htA ⟨rfl, hsA⟩
        conv => whnf
        refine (refincluded_spec _ _ _ hSIZE hHI _ hHASH (SP.sub hsA) (by omega) hcP hxP).mono ?_
        rintro _ hB tB hdB htB ⟨rfl, hsB⟩
        conv => whnf
        refine (grown_spec _ hBEF _ hMM _ _ hSIZE ((SQ.sub hsA).sub hsB) (by omega) hcQ hxQ).mono ?_
        rintro _ hC tC hdC htC ⟨rfl, hsC⟩
        conv => whnf
        refine (refgrown_spec _ hBEF _ hMM _ _ hSIZE (((SQ.sub hsA).sub hsB).sub hsC) (by omega) hcQ hxQ).mono ?_
        rintro _ hD tD hdD htD ⟨rfl, hsD⟩
        conv => whnf
        refine bsel_t (beq_self_eq_true _) ?_
        conv => whnf
        exact ⟨congrArg Value.bool (beq_self_eq_true _), S6.trans (hsA.trans (hsB.trans (hsC.trans hsD)))⟩
      conv => whnf
      refine br (fun hc4 => ?_) (fun hc4 => ?_)
      · have SP := sR
        have SQ := sR
        have hxP := hx0
        have hxQ := hx0
        have hcP := hc0
        have hcQ := hc0
        have hHASH := hg
        have hBEF := hRT
        conv => whnf
        refine (included_spec _ _ _ hSIZE hHI _ hHASH SP (by omega) hxP).mono ?_
        rintro _ hA tA hdA htA ⟨rfl, hsA⟩
        conv => whnf
        refine (refincluded_spec _ _ _ hSIZE hHI _ hHASH (SP.sub hsA) (by omega) hcP hxP).mono ?_
        rintro _ hB tB hdB htB ⟨rfl, hsB⟩
        conv => whnf
        refine (grown_spec _ hBEF _ hMM _ _ hSIZE ((SQ.sub hsA).sub hsB) (by omega) hcQ hxQ).mono ?_
        rintro _ hC tC hdC htC ⟨rfl, hsC⟩
        conv => whnf
        refine (refgrown_spec _ hBEF _ hMM _ _ hSIZE (((SQ.sub hsA).sub hsB).sub hsC) (by omega) hcQ hxQ).mono ?_
        rintro _ hD tD hdD htD ⟨rfl, hsD⟩
        conv => whnf
        refine bsel_t (beq_self_eq_true _) ?_
        conv => whnf
        exact ⟨congrArg Value.bool (beq_self_eq_true _), S6.trans (hsA.trans (hsB.trans (hsC.trans hsD)))⟩
      conv => whnf
      refine br (fun hc5 => ?_) (fun hc5 => ?_)
      · have hHASH := hOLD
        have hBEF := hOLD
        conv => whnf
        refine (included_spec _ _ _ hSIZE hHI _ hHASH SP (by omega) hxP).mono ?_
        rintro _ hA tA hdA htA ⟨rfl, hsA⟩
        conv => whnf
        refine (refincluded_spec _ _ _ hSIZE hHI _ hHASH (SP.sub hsA) (by omega) hcP hxP).mono ?_
        rintro _ hB tB hdB htB ⟨rfl, hsB⟩
        conv => whnf
        refine (grown_spec _ hBEF _ hMM _ _ hSIZE ((SQ.sub hsA).sub hsB) (by omega) hcQ hxQ).mono ?_
        rintro _ hC tC hdC htC ⟨rfl, hsC⟩
        conv => whnf
        refine (refgrown_spec _ hBEF _ hMM _ _ hSIZE (((SQ.sub hsA).sub hsB).sub hsC) (by omega) hcQ hxQ).mono ?_
        rintro _ hD tD hdD htD ⟨rfl, hsD⟩
        conv => whnf
        refine bsel_t (beq_self_eq_true _) ?_
        conv => whnf
        exact ⟨congrArg Value.bool (beq_self_eq_true _), S6.trans (hsA.trans (hsB.trans (hsC.trans hsD)))⟩
      · have hHASH := hg
        have hBEF := hRT
        conv => whnf
        refine (included_spec _ _ _ hSIZE hHI _ hHASH SP (by omega) hxP).mono ?_
        rintro _ hA tA hdA htA ⟨rfl, hsA⟩
        conv => whnf
        refine (refincluded_spec _ _ _ hSIZE hHI _ hHASH (SP.sub hsA) (by omega) hcP hxP).mono ?_
        rintro _ hB tB hdB htB ⟨rfl, hsB⟩
        conv => whnf
        refine (grown_spec _ hBEF _ hMM _ _ hSIZE ((SQ.sub hsA).sub hsB) (by omega) hcQ hxQ).mono ?_
        rintro _ hC tC hdC htC ⟨rfl, hsC⟩
        conv => whnf
        refine (refgrown_spec _ hBEF _ hMM _ _ hSIZE (((SQ.sub hsA).sub hsB).sub hsC) (by omega) hcQ hxQ).mono ?_
        rintro _ hD tD hdD htD ⟨rfl, hsD⟩
        conv => whnf
        refine bsel_t (beq_self_eq_true _) ?_
        conv => whnf
        exact ⟨congrArg Value.bool (beq_self_eq_true _), S6.trans (hsA.trans (hsB.trans (hsC.trans hsD)))⟩
    · conv => whnf
      repeat (first | ((with_reducible apply Go.Vc.rem_i); (focus omega); conv => whnf) | ((with_reducible refine And.intro ?_ (And.intro ?_ ?_)); (focus exact rfl); (focus omega); conv => whnf))
      obtain ⟨M, hM⟩ : ∃ M : Nat, 1 + m % (N : Int) = M := ⟨(1 + m % (N : Int)).toNat, by have := Int.emod_nonneg m (b := (N : Int)) (by omega); omega⟩
      have hM2 : 1 ≤ M ∧ M ≤ N := by have := Int.emod_nonneg m (b := (N : Int)) (by omega); have := Int.emod_lt_of_pos m (b := (N : Int)) (by omega); omega
      conv => whnf
      repeat (first | ((with_reducible apply Go.Vc.wr_i64); (focus exact And.intro (by omega) (by omega)); conv => whnf))
      rw [hI, hM]
      have hM1 : 1 ≤ M ∧ M ≤ N := by omega
      refine (refinclusion_spec s2 (by omega) hcap hL (I : Nat) (by omega)).mono ?_
      rintro _ h3 t3 hd3 ht3 ⟨a3, m3, c3, rfl, o3, hm3, hw3, hs3⟩
      rw [if_pos (by omega), Int.toNat_natCast] at o3
      have hx3 : ∀ x ∈ inc ndB emB L I, x.size ≤ 274877906944 := inc_bd hL
      generalize inc ndB emB L I = P at *
      conv => whnf
      refine (refconsistency_spec (s2.sub hs3) (by omega) hcap hL (M : Nat) (by omega)).mono ?_
      rintro _ h4 t4 hd4 ht4 ⟨a4, m4, c4, rfl, o4, hm4, hw4, hs4⟩
      rw [if_pos (by omega), Int.toNat_natCast] at o4
      have hx4 : ∀ x ∈ con ndB emB L M true, x.size ≤ 274877906944 := con_bd hL
      have hT : ∀ x ∈ L.take M, x.size ≤ 274877906944 := fun x hx => hL x (List.mem_of_mem_take hx)
      generalize con ndB emB L M true = Q at *
      have s4 := (s2.sub hs3).sub hs4
      conv => whnf
      repeat (first | ((with_reducible refine And.intro (And.intro ?_ ?_) ?_); (focus omega); (focus omega); conv => whnf))
      rw [Int.toNat_natCast]
      refine (refroot_spec M (s4.take (m := M) (by omega)) (by omega) (by omega) hT).mono ?_
      rintro _ h5 t5 hd5 ht5 ⟨rfl, hs5⟩
      conv => whnf
      refine (refroot_spec N (s4.sub hs5) (by omega) hcap hL).mono ?_
      rintro _ h6 t6 hd6 ht6 ⟨rfl, hs6⟩
      have hR := rt_bd hL
      have hRT := rt_bd hT
      generalize rt ndB emB L = R at *
      generalize rt ndB emB (L.take M) = RT at *
      have s6 := (s4.sub hs5).sub hs6
      have SP := (((o3.sl).sub hs4).sub hs5).sub hs6
      have SQ := ((o4.sl).sub hs5).sub hs6
      have hcP := o3.cap
      have hcQ := o4.cap
      have S6 := S2.trans (hs3.trans (hs4.trans (hs5.trans hs6)))
      conv => whnf
      repeat (first | ((with_reducible apply Go.Vc.sl_ix); (focus with_reducible assumption); (focus exact And.intro (by omega) (by omega)); intro xI bI offI hxI hcI; conv => whnf) | ((with_reducible apply Go.Vc.cell_i); (focus assumption); conv => whnf) | ((with_reducible apply Go.Vc.rem_i); (focus omega); conv => whnf) | ((with_reducible refine And.intro ?_ (And.intro ?_ ?_)); (focus exact rfl); (focus omega); conv => whnf))
      have hg : xI.size ≤ 274877906944 := hL _ (List.mem_of_getElem? hxI)
      clear hxI
      generalize xI = g at *
      have hBEF0 := hRT
      have hNOW0 := hR
      have hROOT : root.size ≤ 274877906944 := by omega
      have hOLD : old.size ≤ 274877906944 := by omega
      have hx0 : ∀ x ∈ l0, x.size ≤ 274877906944 := fun x hx => by have := hb0 x hx; omega
      have sR := s0.sub S6
      have htm := tmod3 w
      obtain ⟨q, hq⟩ : ∃ q, q = w.tmod 3 := ⟨_, rfl⟩
      rw [← hq] at htm
      have hS0 : -9223372036854775808 ≤ ((N : Nat) : Int) ∧ ((N : Nat) : Int) ≤ 65536 := by omega
      have hI0 : -9223372036854775808 ≤ ((I : Nat) : Int) ∧ ((I : Nat) : Int) ≤ 9223372036854775807 := by omega
      have hM0 : -9223372036854775808 ≤ ((M : Nat) : Int) ∧ ((M : Nat) : Int) ≤ 9223372036854775807 := by omega
      have hxP := hx3
      have hxQ := hx4
      refine br (fun hc1 => ?_) (fun hc1 => ?_)
      · conv => whnf
        repeat (first | ((with_reducible refine And.intro ?_ (And.intro ?_ ?_)); (focus exact rfl); (focus omega); conv => whnf))
        refine ⟨q, hq, ?_⟩
        conv => whnf
        repeat (first | ((with_reducible apply Go.Vc.wr_i64); (focus exact And.intro (by omega) (by omega)); conv => whnf))
        have hSIZE : -9223372036854775808 ≤ ((N : Nat) : Int) + q ∧ ((N : Nat) : Int) + q ≤ 65536 := by omega
        have hHI := hI0
        have hMM := hM0
        have hHASH := hg
        have hBEF := hRT
        refine (included_spec _ _ _ hSIZE hHI _ hHASH SP (by omega) hxP).mono ?_
        rintro _ hA tA hdA htA ⟨rfl, hsA⟩
        conv => whnf
        refine (refincluded_spec _ _ _ hSIZE hHI _ hHASH (SP.sub hsA) (by omega) hcP hxP).mono ?_
        rintro _ hB tB hdB htB ⟨rfl, hsB⟩
        conv => whnf
        refine (grown_spec _ hBEF _ hMM _ _ hSIZE ((SQ.sub hsA).sub hsB) (by omega) hcQ hxQ).mono ?_
        rintro _ hC tC hdC htC ⟨rfl, hsC⟩
        conv => whnf
        refine (refgrown_spec _ hBEF _ hMM _ _ hSIZE (((SQ.sub hsA).sub hsB).sub hsC) (by omega) hcQ hxQ).mono ?_
        rintro _ hD tD hdD htD ⟨rfl, hsD⟩
        conv => whnf
        refine bsel_t (beq_self_eq_true _) ?_
        conv => whnf
        exact ⟨congrArg Value.bool (beq_self_eq_true _), S6.trans (hsA.trans (hsB.trans (hsC.trans hsD)))⟩
      conv => whnf
      refine br (fun hc2 => ?_) (fun hc2 => ?_)
      · conv => whnf
        repeat (first | ((with_reducible refine And.intro ?_ (And.intro ?_ ?_)); (focus exact rfl); (focus omega); conv => whnf))
        refine ⟨q, hq, ?_⟩
        conv => whnf
        repeat (first | ((with_reducible apply Go.Vc.wr_i64); (focus exact And.intro (by omega) (by omega)); conv => whnf) | ((with_reducible refine And.intro ?_ (And.intro ?_ ?_)); (focus exact rfl); (focus omega); conv => whnf))
        refine ⟨q, hq, ?_⟩
        conv => whnf
        repeat (first | ((with_reducible apply Go.Vc.wr_i64); (focus exact And.intro (by omega) (by omega)); conv => whnf))
        have hSIZE := hS0
        have hHI : -9223372036854775808 ≤ ((I : Nat) : Int) + q ∧ ((I : Nat) : Int) + q ≤ 9223372036854775807 := by omega
        have hMM : -9223372036854775808 ≤ ((M : Nat) : Int) + q ∧ ((M : Nat) : Int) + q ≤ 9223372036854775807 := by omega
        have hHASH := hg
        have hBEF := hRT
        refine (included_spec _ _ _ hSIZE hHI _ hHASH SP (by omega) hxP).mono ?_
        rintro _ hA tA hdA htA ⟨rfl, hsA⟩
        conv => whnf
        refine (refincluded_spec _ _ _ hSIZE hHI _ hHASH (SP.sub hsA) (by omega) hcP hxP).mono ?_
        rintro _ hB tB hdB htB ⟨rfl, hsB⟩
        conv => whnf
        refine (grown_spec _ hBEF _ hMM _ _ hSIZE ((SQ.sub hsA).sub hsB) (by omega) hcQ hxQ).mono ?_
        rintro _ hC tC hdC htC ⟨rfl, hsC⟩
        conv => whnf
        refine (refgrown_spec _ hBEF _ hMM _ _ hSIZE (((SQ.sub hsA).sub hsB).sub hsC) (by omega) hcQ hxQ).mono ?_
        rintro _ hD tD hdD htD ⟨rfl, hsD⟩
        conv => whnf
        refine bsel_t (beq_self_eq_true _) ?_
        conv => whnf
        exact ⟨congrArg Value.bool (beq_self_eq_true _), S6.trans (hsA.trans (hsB.trans (hsC.trans hsD)))⟩
      conv => whnf
      have hSIZE := hS0
      have hHI := hI0
      have hMM := hM0
      refine br (fun hc3 => ?_) (fun hc3 => ?_)
      · conv => whnf
        refine (turned_spec SP (by omega) w hw old).mono ?_
        rintro _ hU tU hdU htU ⟨aU, cU, rfl, oU, hwU, hsU⟩
        conv => whnf
        refine (turned_spec (SQ.sub hsU) (by omega) w hw old).mono ?_
        rintro _ hV tV hdV htV ⟨aV, cV, rfl, oV, hwV, hsV⟩
        have SP := oU.sl.sub hsV
        have SQ := oV.sl
        have hxP := turnd_bd (w := w) hxP hOLD
        have hxQ := turnd_bd (w := w) hxQ hOLD
        have hcP := oU.cap
        have hcQ := oV.cap
        have S6 := S6.trans (hsU.trans hsV)
        have hHASH := hg
        have hBEF := hRT
        conv => whnf
        refine (included_spec _ _ _ hSIZE hHI _ hHASH SP (by omega) hxP).mono ?_
        rintro _ hA tA hdA htA ⟨rfl, hsA⟩
        conv => whnf
        refine (refincluded_spec _ _ _ hSIZE hHI _ hHASH (SP.sub hsA) (by omega) hcP hxP).mono ?_
        rintro _ hB tB hdB htB ⟨rfl, hsB⟩
        conv => whnf
        refine (grown_spec _ hBEF _ hMM _ _ hSIZE ((SQ.sub hsA).sub hsB) (by omega) hcQ hxQ).mono ?_
        rintro _ hC tC hdC htC ⟨rfl, hsC⟩
        conv => whnf
        refine (refgrown_spec _ hBEF _ hMM _ _ hSIZE (((SQ.sub hsA).sub hsB).sub hsC) (by omega) hcQ hxQ).mono ?_
        rintro _ hD tD hdD htD ⟨rfl, hsD⟩
        conv => whnf
        refine bsel_t (beq_self_eq_true _) ?_
        conv => whnf
        exact ⟨congrArg Value.bool (beq_self_eq_true _), S6.trans (hsA.trans (hsB.trans (hsC.trans hsD)))⟩
      conv => whnf
      refine br (fun hc4 => ?_) (fun hc4 => ?_)
      · have SP := sR
        have SQ := sR
        have hxP := hx0
        have hxQ := hx0
        have hcP := hc0
        have hcQ := hc0
        have hHASH := hg
        have hBEF := hRT
        conv => whnf
        refine (included_spec _ _ _ hSIZE hHI _ hHASH SP (by omega) hxP).mono ?_
        rintro _ hA tA hdA htA ⟨rfl, hsA⟩
        conv => whnf
        refine (refincluded_spec _ _ _ hSIZE hHI _ hHASH (SP.sub hsA) (by omega) hcP hxP).mono ?_
        rintro _ hB tB hdB htB ⟨rfl, hsB⟩
        conv => whnf
        refine (grown_spec _ hBEF _ hMM _ _ hSIZE ((SQ.sub hsA).sub hsB) (by omega) hcQ hxQ).mono ?_
        rintro _ hC tC hdC htC ⟨rfl, hsC⟩
        conv => whnf
        refine (refgrown_spec _ hBEF _ hMM _ _ hSIZE (((SQ.sub hsA).sub hsB).sub hsC) (by omega) hcQ hxQ).mono ?_
        rintro _ hD tD hdD htD ⟨rfl, hsD⟩
        conv => whnf
        refine bsel_t (beq_self_eq_true _) ?_
        conv => whnf
        exact ⟨congrArg Value.bool (beq_self_eq_true _), S6.trans (hsA.trans (hsB.trans (hsC.trans hsD)))⟩
      conv => whnf
      refine br (fun hc5 => ?_) (fun hc5 => ?_)
      · have hHASH := hOLD
        have hBEF := hOLD
        conv => whnf
        refine (included_spec _ _ _ hSIZE hHI _ hHASH SP (by omega) hxP).mono ?_
        rintro _ hA tA hdA htA ⟨rfl, hsA⟩
        conv => whnf
        refine (refincluded_spec _ _ _ hSIZE hHI _ hHASH (SP.sub hsA) (by omega) hcP hxP).mono ?_
        rintro _ hB tB hdB htB ⟨rfl, hsB⟩
        conv => whnf
        refine (grown_spec _ hBEF _ hMM _ _ hSIZE ((SQ.sub hsA).sub hsB) (by omega) hcQ hxQ).mono ?_
        rintro _ hC tC hdC htC ⟨rfl, hsC⟩
        conv => whnf
        refine (refgrown_spec _ hBEF _ hMM _ _ hSIZE (((SQ.sub hsA).sub hsB).sub hsC) (by omega) hcQ hxQ).mono ?_
        rintro _ hD tD hdD htD ⟨rfl, hsD⟩
        conv => whnf
        refine bsel_t (beq_self_eq_true _) ?_
        conv => whnf
        exact ⟨congrArg Value.bool (beq_self_eq_true _), S6.trans (hsA.trans (hsB.trans (hsC.trans hsD)))⟩
      · have hHASH := hg
        have hBEF := hRT
        conv => whnf
        refine (included_spec _ _ _ hSIZE hHI _ hHASH SP (by omega) hxP).mono ?_
        rintro _ hA tA hdA htA ⟨rfl, hsA⟩
        conv => whnf
        refine (refincluded_spec _ _ _ hSIZE hHI _ hHASH (SP.sub hsA) (by omega) hcP hxP).mono ?_
        rintro _ hB tB hdB htB ⟨rfl, hsB⟩
        conv => whnf
        refine (grown_spec _ hBEF _ hMM _ _ hSIZE ((SQ.sub hsA).sub hsB) (by omega) hcQ hxQ).mono ?_
        rintro _ hC tC hdC htC ⟨rfl, hsC⟩
        conv => whnf
        refine (refgrown_spec _ hBEF _ hMM _ _ hSIZE (((SQ.sub hsA).sub hsB).sub hsC) (by omega) hcQ hxQ).mono ?_
        rintro _ hD tD hdD htD ⟨rfl, hsD⟩
        conv => whnf
        refine bsel_t (beq_self_eq_true _) ?_
        conv => whnf
        exact ⟨congrArg Value.bool (beq_self_eq_true _), S6.trans (hsA.trans (hsB.trans (hsC.trans hsD)))⟩
end Go.Proofs.Ytmlcdkckedjdjaa
