/- DeflateTells answers true, by its contract. -/
import Derived.Test.YtikpfffhcjlcjaaDefDec
import Derived.Test.YtikpfffhcjlcjaaDef9
set_option linter.unusedSimpArgs false
namespace Go.Proofs.Ytikpfffhcjlcjaa
open Go Go.Vc Go.Huf Go.Dfl
set_option maxRecDepth 20000
set_option linter.unusedVariables false

theorem DeflateTells_spec (h : Heap) (t : Nat) (a0 : Option Addr) (n0 c0 : Nat) (l0 : List Int) (s0 : Sl h a0 n0 (Value.int .u8) l0) (hn0 : n0 ≤ 1048576) (hc0 : n0 ≤ c0) (hb0 : ∀ z ∈ l0, IntKind.min .u8 ≤ z ∧ z ≤ IntKind.max .u8) :
    CallSpec Try.prog 7 #[.slice a0 n0 c0] h t (fun v h' _ => v = .bool true ∧ Vc.Sub h h') := by
  have hl0 := s0.1
  refine Go.Vc.spec_of_vc (fn := Try.f7) Try.func7 rfl (by kernel_rfl) (by kernel_rfl) (Nat.le_of_ble_eq_true rfl) ?_
  intro hd
  conv => whnf
  refine (examples_spec h t).mono ?_
  rintro _ h1 t1 hd1 ht1 ⟨rfl, hs1, _⟩
  have s1 := s0.sub hs1
  conv => whnf
  refine loop_intro3 (fun (i : Nat) (a : Option Addr) (c : Nat) => [(0, .slice a0 n0 c0), (3, .bool true), (4, .slice a i c), (5, .int .i64 (i : Nat))])
    (fun i a c h' t' => i ≤ n0 ∧ i ≤ 320 ∧ Vc.Own h' 3 a i c (Value.int .i64) ((l0.take i).map (· % 16)) ∧ (∀ b, owner a = some b → t1 ≤ b) ∧ Vc.Sub h1 h' ∧ t1 ≤ t') (fun i _ _ => n0 - i) 0 none 0 ⟨rfl, rfl, rfl, rfl, trivial⟩ ⟨by omega, by omega, Own.nil _ _ _, (fun b hb => by cases hb), Sub.refl _, by omega⟩ ?_
  rintro i a c e g t2 hd2 ⟨hi, hi3, ho, hw, hs2, ht2⟩
  have sg := s1.sub hs2
  conv => whnf
  refine br (fun hb => ?_) (fun hb => ?_)
  · conv => whnf
    refine br (fun hb2 => ?_) (fun hb2 => ?_)
    · conv => whnf
      repeat (first | ((with_reducible apply Go.Vc.sl_ix); (focus with_reducible assumption); (focus exact And.intro (by omega) (by omega)); intro xI bI offI hxI hcI; conv => whnf) | ((with_reducible apply Go.Vc.cell_i); (focus assumption); conv => whnf) | ((with_reducible refine And.intro ?_ (And.intro ?_ ?_)); (focus exact rfl); (focus omega); conv => whnf))
      have hx0 := hb0 _ (List.mem_of_getElem? hxI)
      rw [show IntKind.min .u8 = 0 from rfl, show IntKind.max .u8 = 255 from rfl] at hx0
      refine ⟨xI % 16, (Int.tmod_eq_emod_of_nonneg hx0.1).symm, ?_⟩
      conv => whnf
      repeat (first | (intro _ _; conv => whnf) | ((with_reducible apply Go.Vc.wr_i64); (focus exact And.intro (by omega) (by omega)); conv => whnf))
      rename_i r hr
      refine own_app1 (x := xI % 16) hd1 ht2 hs2 hw hd2 hr ho (by omega) ?_
      intro a' c' h' t' ho' ht' hd' hsx hwx _ _
      conv => whnf
      repeat (first | ((with_reducible apply Go.Vc.wr_i64); (focus exact And.intro (by omega) (by omega)); conv => whnf))
      refine round_end3 (i + 1) a' c' (by omega) ⟨rfl, rfl, rfl, rfl, trivial⟩ ⟨by omega, by omega, ?_, hwx, hsx, by omega⟩
      rw [List.take_add_one, show l0[i]? = some xI by simpa using hxI]
      simpa using ho'
    · have hI : i = min n0 320 := by omega
      have hIl : ((l0.take i).map (· % 16)).length = i := by rw [List.length_map, List.length_take]; omega
      have hIb : ∀ x ∈ (l0.take i).map (· % 16), 0 ≤ x ∧ x ≤ 15 := fun x hx => by
        obtain ⟨y, hy, rfl⟩ := List.mem_map.1 hx
        have := hb0 y (List.mem_of_mem_take hy)
        rw [show IntKind.min .u8 = 0 from rfl, show IntKind.max .u8 = 255 from rfl] at this
        show 0 ≤ y % 16 ∧ y % 16 ≤ 15
        omega
      generalize (l0.take i).map (· % 16) = I at hIl hIb ho
      have hic : i ≤ c := by
        rcases ho.2 with ⟨_, h2, _⟩ | ⟨_, _, _, _, _, h2, _⟩ <;> omega
      conv => whnf
      refine (runs_spec ho.sl (by omega) hic).mono ?_
      rintro _ h3 t3 hd3 ht3 ⟨a1, c1, a2, c2, rfl, sa, sb, _, hs3, _, _⟩
      have hdec := dec_runs _ I [] (Nat.le_refl _) hIb
      have hrl := runs_len _ I (Nat.le_refl _)
      rw [List.nil_append] at hdec
      generalize runsF I = R at *
      conv => whnf
      repeat (first | (refine Go.Vc.br_f ?_ ?_; (focus omega); conv => whnf))
      refine loop_intro4 (fun (j : Nat) (O : List Int) (oa : Option Addr) (oc : Nat) => [(3, .bool true), (4, .slice a i c), (6, .slice a1 R.length c1), (7, .slice a2 R.length c2), (8, .slice oa O.length oc), (9, .int .i64 (j : Nat))])
        (fun j O oa oc h' t' => j ≤ R.length ∧ Dec O (R.drop j) I ∧ Vc.Own h' 3 oa O.length oc (Value.int .i64) O ∧ (∀ b, owner oa = some b → t3 ≤ b) ∧ Vc.Sub h3 h' ∧ t3 ≤ t') (fun j _ _ _ => R.length - j) 0 [] none 0 ⟨rfl, rfl, rfl, rfl, rfl, rfl, trivial⟩ ⟨by omega, hdec, Own.nil _ _ _, (fun b hb => by cases hb), Sub.refl _, by omega⟩ ?_
      rintro j O oa oc e5 g5 t5 hd5 ⟨hj, hD, hoo, how, hs5, ht5⟩
      have hOl := hD.len
      have soo := hoo.sl
      have sa5 := (sa.sub hs5)
      have sb5 := (sb.sub hs5)
      have sRa : (R.map (·.1)).length = R.length := List.length_map _
      have sRb : (R.map (·.2)).length = R.length := List.length_map _
      conv => whnf
      refine br (fun hj1 => ?_) (fun hj1 => ?_)
      · obtain ⟨p, hp⟩ : ∃ p, R[j]? = some p := ⟨_, List.getElem?_eq_getElem (show j < R.length by omega)⟩
        have hdr : R.drop j = p :: R.drop (j + 1) := by
          rw [List.drop_eq_getElem_cons (by omega)]
          rw [List.getElem?_eq_getElem (by omega)] at hp
          rw [Option.some.inj hp]
        rw [hdr] at hD
        obtain ⟨hsy, hD⟩ := hD
        have h1p : (R.map (·.1))[j]? = some p.1 := by rw [List.getElem?_map, hp]; rfl
        have h2p : (R.map (·.2))[j]? = some p.2 := by rw [List.getElem?_map, hp]; rfl
        have hjn : ((j : Nat) : Int).toNat = j := Int.toNat_natCast j
        conv => whnf
        repeat (first | ((with_reducible apply Go.Vc.sl_ix); (focus with_reducible assumption); (focus exact And.intro (by omega) (by omega)); intro xI bI offI hxI hcI; conv => whnf) | ((with_reducible apply Go.Vc.cell_i); (focus assumption); conv => whnf) | (refine Go.Vc.br_t ?_ ?_; (focus omega); conv => whnf))
        rename_i x1 b1 o1 hx1 i1
        rw [hjn, h1p] at hxI hx1
        obtain rfl : xI = p.1 := (Option.some.inj hxI).symm
        obtain rfl : x1 = p.1 := (Option.some.inj hx1).symm
        have hOn : O ≠ [] → O.length ≠ 0 := fun h e => h (List.eq_nil_of_length_eq_zero e)
        rcases hsy with ⟨hv, hne, hv1, hv2⟩ | ⟨hv, hv1, hv2⟩ | ⟨hv, hv1, hv2⟩ | ⟨hv, hv1, hv2⟩
        · have := hOn hne
          refine br_t (by omega) ?_
          conv => whnf
          repeat (first | ((with_reducible apply Go.Vc.sl_ix); (focus with_reducible assumption); (focus exact And.intro (by omega) (by omega)); intro xI bI offI hxI hcI; conv => whnf) | ((with_reducible apply Go.Vc.cell_i); (focus assumption); conv => whnf) | (refine Go.Vc.br_f ?_ ?_; (focus omega); conv => whnf))
          rw [hjn, h2p] at hxI
          obtain rfl : xI = p.2 := (Option.some.inj hxI).symm
          conv => whnf
          repeat (first | ((with_reducible apply Go.Vc.sl_ix); (focus with_reducible assumption); (focus exact And.intro (by omega) (by omega)); intro xI bI offI hxI hcI; conv => whnf) | ((with_reducible apply Go.Vc.cell_i); (focus assumption); conv => whnf) | (refine Go.Vc.br_f ?_ ?_; (focus omega); conv => whnf))
          rw [hjn, h2p] at hxI
          obtain rfl : xI = p.2 := (Option.some.inj hxI).symm
          conv => whnf
          repeat (first | ((with_reducible apply Go.Vc.sl_ix); (focus with_reducible assumption); (focus exact And.intro (by omega) (by omega)); intro xI bI offI hxI hcI; conv => whnf) | ((with_reducible apply Go.Vc.cell_i); (focus assumption); conv => whnf) | (refine Go.Vc.br_f ?_ ?_; (focus omega); conv => whnf))
          rw [hjn, h2p] at hxI
          obtain rfl : xI = p.2 := (Option.some.inj hxI).symm
          conv => whnf
          repeat (first | ((with_reducible apply Go.Vc.sl_ix); (focus with_reducible assumption); (focus exact And.intro (by omega) (by omega)); intro xI bI offI hxI hcI; conv => whnf) | ((with_reducible apply Go.Vc.cell_i); (focus assumption); conv => whnf) | ((with_reducible apply Go.Vc.wr_i64); (focus exact And.intro (by omega) (by omega)); conv => whnf))
          have hV : O.getLast?.getD 0 = xI := by
            rw [List.getLast?_eq_getElem?, show O[O.length - 1]? = some xI by rw [← hxI]; congr 1; omega]; rfl
          have hbk : blk O p = List.replicate (3 + p.2).toNat xI := by unfold blk; rw [if_pos hv, hV]
          obtain ⟨N, hN⟩ := Int.eq_ofNat_of_zero_le (show 0 ≤ 3 + p.2 by omega)
          rw [hN, Int.toNat_natCast] at hbk
          rw [hN]
          generalize xI = V at *
          refine loop_intro3 (fun (k : Nat) (qa : Option Addr) (qc : Nat) => [(3, .bool true), (4, .slice a i c), (6, .slice a1 R.length c1), (7, .slice a2 R.length c2), (8, .slice qa (O.length + k) qc), (9, .int .i64 (j : Nat)), (10, .int .i64 (N : Nat)), (11, .int .i64 V), (12, .int .i64 (k : Nat))])
            (fun k qa qc h' t' => k ≤ N ∧ Vc.Own h' 3 qa (O.length + k) qc (Value.int .i64) (O ++ List.replicate k V) ∧ (∀ b, owner qa = some b → t3 ≤ b) ∧ Vc.Sub h3 h' ∧ t3 ≤ t') (fun k _ _ => N - k) 0 oa oc ⟨rfl, rfl, rfl, rfl, rfl, rfl, rfl, rfl, rfl, trivial⟩ ⟨by omega, by rw [List.replicate_zero, List.append_nil]; exact hoo, how, hs5, ht5⟩ ?_
          rintro k qa qc e6 g6 t6 hd6 ⟨hk, hoq, hwq, hs6, ht6⟩
          conv => whnf
          refine br (fun hk1 => ?_) (fun hk1 => ?_)
          · conv => whnf
            repeat (first | (intro _ _; conv => whnf))
            rename_i r hr
            refine own_app1 (x := V) hd3 ht6 hs6 hwq hd6 hr hoq (by omega) ?_
            intro a' c' h' t' ho' ht' hd' hsx hwx _ _
            conv => whnf
            repeat (first | ((with_reducible apply Go.Vc.wr_i64); (focus exact And.intro (by omega) (by omega)); conv => whnf))
            refine round_end3 (k + 1) a' c' (by omega) ⟨rfl, rfl, rfl, rfl, rfl, rfl, rfl, rfl, rfl, trivial⟩ ⟨by omega, ?_, hwx, hsx, by omega⟩
            rw [List.append_assoc] at ho'
            rw [List.replicate_succ']
            exact ho'
          · obtain rfl : k = N := by omega
            have hnl : (O ++ blk O p).length = O.length + k := by rw [hbk, List.length_append, List.length_replicate]
            rw [← hbk, ← hnl] at hoq
            conv => whnf
            repeat (first | ((with_reducible apply Go.Vc.wr_i64); (focus exact And.intro (by omega) (by omega)); conv => whnf))
            exact round_end4 (j + 1) (O ++ blk O p) qa qc (by omega) ⟨rfl, rfl, rfl, rfl, by rw [hnl]; rfl, rfl, trivial⟩ ⟨by omega, hD, hoq, hwq, hs6, ht6⟩
        · conv => whnf
          repeat (first | ((with_reducible apply Go.Vc.sl_ix); (focus with_reducible assumption); (focus exact And.intro (by omega) (by omega)); intro xI bI offI hxI hcI; conv => whnf) | ((with_reducible apply Go.Vc.cell_i); (focus assumption); conv => whnf) | (refine Go.Vc.br_t ?_ ?_; (focus omega); conv => whnf) | (refine Go.Vc.br_f ?_ ?_; (focus omega); conv => whnf))
          rw [hjn, h2p] at hxI
          obtain rfl : xI = p.2 := (Option.some.inj hxI).symm
          conv => whnf
          repeat (first | ((with_reducible apply Go.Vc.sl_ix); (focus with_reducible assumption); (focus exact And.intro (by omega) (by omega)); intro xI bI offI hxI hcI; conv => whnf) | ((with_reducible apply Go.Vc.cell_i); (focus assumption); conv => whnf) | (refine Go.Vc.br_f ?_ ?_; (focus omega); conv => whnf))
          rw [hjn, h2p] at hxI
          obtain rfl : xI = p.2 := (Option.some.inj hxI).symm
          conv => whnf
          repeat (first | ((with_reducible apply Go.Vc.sl_ix); (focus with_reducible assumption); (focus exact And.intro (by omega) (by omega)); intro xI bI offI hxI hcI; conv => whnf) | ((with_reducible apply Go.Vc.cell_i); (focus assumption); conv => whnf) | (refine Go.Vc.br_f ?_ ?_; (focus omega); conv => whnf))
          rw [hjn, h2p] at hxI
          obtain rfl : xI = p.2 := (Option.some.inj hxI).symm
          conv => whnf
          repeat (first | ((with_reducible apply Go.Vc.wr_i64); (focus exact And.intro (by omega) (by omega)); conv => whnf))
          have hbk : blk O p = List.replicate (3 + p.2).toNat 0 := by unfold blk; rw [if_neg (by omega), if_pos hv]
          obtain ⟨N, hN⟩ := Int.eq_ofNat_of_zero_le (show 0 ≤ 3 + p.2 by omega)
          rw [hN, Int.toNat_natCast] at hbk
          rw [hN]
          refine loop_intro3 (fun (k : Nat) (qa : Option Addr) (qc : Nat) => [(3, .bool true), (4, .slice a i c), (6, .slice a1 R.length c1), (7, .slice a2 R.length c2), (8, .slice qa (O.length + k) qc), (9, .int .i64 (j : Nat)), (10, .int .i64 (N : Nat)), (11, .int .i64 0), (12, .int .i64 (k : Nat))])
            (fun k qa qc h' t' => k ≤ N ∧ Vc.Own h' 3 qa (O.length + k) qc (Value.int .i64) (O ++ List.replicate k 0) ∧ (∀ b, owner qa = some b → t3 ≤ b) ∧ Vc.Sub h3 h' ∧ t3 ≤ t') (fun k _ _ => N - k) 0 oa oc ⟨rfl, rfl, rfl, rfl, rfl, rfl, rfl, rfl, rfl, trivial⟩ ⟨by omega, by rw [List.replicate_zero, List.append_nil]; exact hoo, how, hs5, ht5⟩ ?_
          rintro k qa qc e6 g6 t6 hd6 ⟨hk, hoq, hwq, hs6, ht6⟩
          conv => whnf
          refine br (fun hk1 => ?_) (fun hk1 => ?_)
          · conv => whnf
            repeat (first | (intro _ _; conv => whnf))
            rename_i r hr
            refine own_app1 (x := 0) hd3 ht6 hs6 hwq hd6 hr hoq (by omega) ?_
            intro a' c' h' t' ho' ht' hd' hsx hwx _ _
            conv => whnf
            repeat (first | ((with_reducible apply Go.Vc.wr_i64); (focus exact And.intro (by omega) (by omega)); conv => whnf))
            refine round_end3 (k + 1) a' c' (by omega) ⟨rfl, rfl, rfl, rfl, rfl, rfl, rfl, rfl, rfl, trivial⟩ ⟨by omega, ?_, hwx, hsx, by omega⟩
            rw [List.append_assoc] at ho'
            rw [List.replicate_succ']
            exact ho'
          · obtain rfl : k = N := by omega
            have hnl : (O ++ blk O p).length = O.length + k := by rw [hbk, List.length_append, List.length_replicate]
            rw [← hbk, ← hnl] at hoq
            conv => whnf
            repeat (first | ((with_reducible apply Go.Vc.wr_i64); (focus exact And.intro (by omega) (by omega)); conv => whnf))
            exact round_end4 (j + 1) (O ++ blk O p) qa qc (by omega) ⟨rfl, rfl, rfl, rfl, by rw [hnl]; rfl, rfl, trivial⟩ ⟨by omega, hD, hoq, hwq, hs6, ht6⟩
        · conv => whnf
          repeat (first | ((with_reducible apply Go.Vc.sl_ix); (focus with_reducible assumption); (focus exact And.intro (by omega) (by omega)); intro xI bI offI hxI hcI; conv => whnf) | ((with_reducible apply Go.Vc.cell_i); (focus assumption); conv => whnf) | (refine Go.Vc.br_t ?_ ?_; (focus omega); conv => whnf) | (refine Go.Vc.br_f ?_ ?_; (focus omega); conv => whnf))
          rw [hjn, h2p] at hxI
          obtain rfl : xI = p.2 := (Option.some.inj hxI).symm
          conv => whnf
          repeat (first | ((with_reducible apply Go.Vc.sl_ix); (focus with_reducible assumption); (focus exact And.intro (by omega) (by omega)); intro xI bI offI hxI hcI; conv => whnf) | ((with_reducible apply Go.Vc.cell_i); (focus assumption); conv => whnf) | (refine Go.Vc.br_f ?_ ?_; (focus omega); conv => whnf))
          rw [hjn, h2p] at hxI
          obtain rfl : xI = p.2 := (Option.some.inj hxI).symm
          conv => whnf
          repeat (first | ((with_reducible apply Go.Vc.sl_ix); (focus with_reducible assumption); (focus exact And.intro (by omega) (by omega)); intro xI bI offI hxI hcI; conv => whnf) | ((with_reducible apply Go.Vc.cell_i); (focus assumption); conv => whnf) | (refine Go.Vc.br_f ?_ ?_; (focus omega); conv => whnf))
          rw [hjn, h2p] at hxI
          obtain rfl : xI = p.2 := (Option.some.inj hxI).symm
          conv => whnf
          repeat (first | ((with_reducible apply Go.Vc.wr_i64); (focus exact And.intro (by omega) (by omega)); conv => whnf))
          have hbk : blk O p = List.replicate (11 + p.2).toNat 0 := by unfold blk; rw [if_neg (by omega), if_neg (by omega), if_pos hv]
          obtain ⟨N, hN⟩ := Int.eq_ofNat_of_zero_le (show 0 ≤ 11 + p.2 by omega)
          rw [hN, Int.toNat_natCast] at hbk
          rw [hN]
          refine loop_intro3 (fun (k : Nat) (qa : Option Addr) (qc : Nat) => [(3, .bool true), (4, .slice a i c), (6, .slice a1 R.length c1), (7, .slice a2 R.length c2), (8, .slice qa (O.length + k) qc), (9, .int .i64 (j : Nat)), (10, .int .i64 (N : Nat)), (11, .int .i64 0), (12, .int .i64 (k : Nat))])
            (fun k qa qc h' t' => k ≤ N ∧ Vc.Own h' 3 qa (O.length + k) qc (Value.int .i64) (O ++ List.replicate k 0) ∧ (∀ b, owner qa = some b → t3 ≤ b) ∧ Vc.Sub h3 h' ∧ t3 ≤ t') (fun k _ _ => N - k) 0 oa oc ⟨rfl, rfl, rfl, rfl, rfl, rfl, rfl, rfl, rfl, trivial⟩ ⟨by omega, by rw [List.replicate_zero, List.append_nil]; exact hoo, how, hs5, ht5⟩ ?_
          rintro k qa qc e6 g6 t6 hd6 ⟨hk, hoq, hwq, hs6, ht6⟩
          conv => whnf
          refine br (fun hk1 => ?_) (fun hk1 => ?_)
          · conv => whnf
            repeat (first | (intro _ _; conv => whnf))
            rename_i r hr
            refine own_app1 (x := 0) hd3 ht6 hs6 hwq hd6 hr hoq (by omega) ?_
            intro a' c' h' t' ho' ht' hd' hsx hwx _ _
            conv => whnf
            repeat (first | ((with_reducible apply Go.Vc.wr_i64); (focus exact And.intro (by omega) (by omega)); conv => whnf))
            refine round_end3 (k + 1) a' c' (by omega) ⟨rfl, rfl, rfl, rfl, rfl, rfl, rfl, rfl, rfl, trivial⟩ ⟨by omega, ?_, hwx, hsx, by omega⟩
            rw [List.append_assoc] at ho'
            rw [List.replicate_succ']
            exact ho'
          · obtain rfl : k = N := by omega
            have hnl : (O ++ blk O p).length = O.length + k := by rw [hbk, List.length_append, List.length_replicate]
            rw [← hbk, ← hnl] at hoq
            conv => whnf
            repeat (first | ((with_reducible apply Go.Vc.wr_i64); (focus exact And.intro (by omega) (by omega)); conv => whnf))
            exact round_end4 (j + 1) (O ++ blk O p) qa qc (by omega) ⟨rfl, rfl, rfl, rfl, by rw [hnl]; rfl, rfl, trivial⟩ ⟨by omega, hD, hoq, hwq, hs6, ht6⟩
        · conv => whnf
          repeat (first | ((with_reducible apply Go.Vc.sl_ix); (focus with_reducible assumption); (focus exact And.intro (by omega) (by omega)); intro xI bI offI hxI hcI; conv => whnf) | ((with_reducible apply Go.Vc.cell_i); (focus assumption); conv => whnf) | (refine Go.Vc.br_f ?_ ?_; (focus omega); conv => whnf))
          rw [hjn, h2p] at hxI
          obtain rfl : xI = p.2 := (Option.some.inj hxI).symm
          conv => whnf
          repeat (first | (refine Go.Vc.br_f ?_ ?_; (focus omega); conv => whnf))
          have hbk : blk O p = List.replicate 1 p.1 := by unfold blk; rw [if_neg (by omega), if_neg (by omega), if_neg (by omega)]; rfl
          refine loop_intro3 (fun (k : Nat) (qa : Option Addr) (qc : Nat) => [(3, .bool true), (4, .slice a i c), (6, .slice a1 R.length c1), (7, .slice a2 R.length c2), (8, .slice qa (O.length + k) qc), (9, .int .i64 (j : Nat)), (10, .int .i64 (1 : Nat)), (11, .int .i64 p.1), (12, .int .i64 (k : Nat))])
            (fun k qa qc h' t' => k ≤ 1 ∧ Vc.Own h' 3 qa (O.length + k) qc (Value.int .i64) (O ++ List.replicate k p.1) ∧ (∀ b, owner qa = some b → t3 ≤ b) ∧ Vc.Sub h3 h' ∧ t3 ≤ t') (fun k _ _ => 1 - k) 0 oa oc ⟨rfl, rfl, rfl, rfl, rfl, rfl, rfl, rfl, rfl, trivial⟩ ⟨by omega, by rw [List.replicate_zero, List.append_nil]; exact hoo, how, hs5, ht5⟩ ?_
          rintro k qa qc e6 g6 t6 hd6 ⟨hk, hoq, hwq, hs6, ht6⟩
          conv => whnf
          refine br (fun hk1 => ?_) (fun hk1 => ?_)
          · conv => whnf
            repeat (first | (intro _ _; conv => whnf))
            rename_i r hr
            refine own_app1 (x := p.1) hd3 ht6 hs6 hwq hd6 hr hoq (by omega) ?_
            intro a' c' h' t' ho' ht' hd' hsx hwx _ _
            conv => whnf
            repeat (first | ((with_reducible apply Go.Vc.wr_i64); (focus exact And.intro (by omega) (by omega)); conv => whnf))
            refine round_end3 (k + 1) a' c' (by omega) ⟨rfl, rfl, rfl, rfl, rfl, rfl, rfl, rfl, rfl, trivial⟩ ⟨by omega, ?_, hwx, hsx, by omega⟩
            rw [List.append_assoc] at ho'
            rw [List.replicate_succ']
            exact ho'
          · obtain rfl : k = 1 := by omega
            have hnl : (O ++ blk O p).length = O.length + 1 := by rw [hbk, List.length_append, List.length_replicate]
            rw [← hbk, ← hnl] at hoq
            conv => whnf
            repeat (first | ((with_reducible apply Go.Vc.wr_i64); (focus exact And.intro (by omega) (by omega)); conv => whnf))
            exact round_end4 (j + 1) (O ++ blk O p) qa qc (by omega) ⟨rfl, rfl, rfl, rfl, by rw [hnl]; rfl, rfl, trivial⟩ ⟨by omega, hD, hoq, hwq, hs6, ht6⟩
      · rw [List.drop_eq_nil_of_le (by omega)] at hD
        obtain rfl : O = I := hD
        conv => whnf
        have hsi := ho.sl.sub (hs3.trans hs5)
        refine (numbers_spec hoo.sl hsi (by omega)).mono ?_
        rintro _ h7 t7 hd7 ht7 ⟨rfl, rfl, rfl⟩
        simp only [decide_true]
        conv => whnf
        exact ⟨rfl, hs1.trans (hs2.trans (hs3.trans hs5))⟩
  · have hI : i = min n0 320 := by omega
    have hIl : ((l0.take i).map (· % 16)).length = i := by rw [List.length_map, List.length_take]; omega
    have hIb : ∀ x ∈ (l0.take i).map (· % 16), 0 ≤ x ∧ x ≤ 15 := fun x hx => by
      obtain ⟨y, hy, rfl⟩ := List.mem_map.1 hx
      have := hb0 y (List.mem_of_mem_take hy)
      rw [show IntKind.min .u8 = 0 from rfl, show IntKind.max .u8 = 255 from rfl] at this
      show 0 ≤ y % 16 ∧ y % 16 ≤ 15
      omega
    generalize (l0.take i).map (· % 16) = I at hIl hIb ho
    have hic : i ≤ c := by
      rcases ho.2 with ⟨_, h2, _⟩ | ⟨_, _, _, _, _, h2, _⟩ <;> omega
    conv => whnf
    refine (runs_spec ho.sl (by omega) hic).mono ?_
    rintro _ h3 t3 hd3 ht3 ⟨a1, c1, a2, c2, rfl, sa, sb, _, hs3, _, _⟩
    have hdec := dec_runs _ I [] (Nat.le_refl _) hIb
    have hrl := runs_len _ I (Nat.le_refl _)
    rw [List.nil_append] at hdec
    generalize runsF I = R at *
    conv => whnf
    repeat (first | (refine Go.Vc.br_f ?_ ?_; (focus omega); conv => whnf))
    refine loop_intro4 (fun (j : Nat) (O : List Int) (oa : Option Addr) (oc : Nat) => [(3, .bool true), (4, .slice a i c), (6, .slice a1 R.length c1), (7, .slice a2 R.length c2), (8, .slice oa O.length oc), (9, .int .i64 (j : Nat))])
      (fun j O oa oc h' t' => j ≤ R.length ∧ Dec O (R.drop j) I ∧ Vc.Own h' 3 oa O.length oc (Value.int .i64) O ∧ (∀ b, owner oa = some b → t3 ≤ b) ∧ Vc.Sub h3 h' ∧ t3 ≤ t') (fun j _ _ _ => R.length - j) 0 [] none 0 ⟨rfl, rfl, rfl, rfl, rfl, rfl, trivial⟩ ⟨by omega, hdec, Own.nil _ _ _, (fun b hb => by cases hb), Sub.refl _, by omega⟩ ?_
    rintro j O oa oc e5 g5 t5 hd5 ⟨hj, hD, hoo, how, hs5, ht5⟩
    have hOl := hD.len
    have soo := hoo.sl
    have sa5 := (sa.sub hs5)
    have sb5 := (sb.sub hs5)
    have sRa : (R.map (·.1)).length = R.length := List.length_map _
    have sRb : (R.map (·.2)).length = R.length := List.length_map _
    conv => whnf
    refine br (fun hj1 => ?_) (fun hj1 => ?_)
    · obtain ⟨p, hp⟩ : ∃ p, R[j]? = some p := ⟨_, List.getElem?_eq_getElem (show j < R.length by omega)⟩
      have hdr : R.drop j = p :: R.drop (j + 1) := by
        rw [List.drop_eq_getElem_cons (by omega)]
        rw [List.getElem?_eq_getElem (by omega)] at hp
        rw [Option.some.inj hp]
      rw [hdr] at hD
      obtain ⟨hsy, hD⟩ := hD
      have h1p : (R.map (·.1))[j]? = some p.1 := by rw [List.getElem?_map, hp]; rfl
      have h2p : (R.map (·.2))[j]? = some p.2 := by rw [List.getElem?_map, hp]; rfl
      have hjn : ((j : Nat) : Int).toNat = j := Int.toNat_natCast j
      conv => whnf
      repeat (first | ((with_reducible apply Go.Vc.sl_ix); (focus with_reducible assumption); (focus exact And.intro (by omega) (by omega)); intro xI bI offI hxI hcI; conv => whnf) | ((with_reducible apply Go.Vc.cell_i); (focus assumption); conv => whnf) | (refine Go.Vc.br_t ?_ ?_; (focus omega); conv => whnf))
      rename_i x1 b1 o1 hx1 i1
      rw [hjn, h1p] at hxI hx1
      obtain rfl : xI = p.1 := (Option.some.inj hxI).symm
      obtain rfl : x1 = p.1 := (Option.some.inj hx1).symm
      have hOn : O ≠ [] → O.length ≠ 0 := fun h e => h (List.eq_nil_of_length_eq_zero e)
      rcases hsy with ⟨hv, hne, hv1, hv2⟩ | ⟨hv, hv1, hv2⟩ | ⟨hv, hv1, hv2⟩ | ⟨hv, hv1, hv2⟩
      · have := hOn hne
        refine br_t (by omega) ?_
        conv => whnf
        repeat (first | ((with_reducible apply Go.Vc.sl_ix); (focus with_reducible assumption); (focus exact And.intro (by omega) (by omega)); intro xI bI offI hxI hcI; conv => whnf) | ((with_reducible apply Go.Vc.cell_i); (focus assumption); conv => whnf) | (refine Go.Vc.br_f ?_ ?_; (focus omega); conv => whnf))
        rw [hjn, h2p] at hxI
        obtain rfl : xI = p.2 := (Option.some.inj hxI).symm
        conv => whnf
        repeat (first | ((with_reducible apply Go.Vc.sl_ix); (focus with_reducible assumption); (focus exact And.intro (by omega) (by omega)); intro xI bI offI hxI hcI; conv => whnf) | ((with_reducible apply Go.Vc.cell_i); (focus assumption); conv => whnf) | (refine Go.Vc.br_f ?_ ?_; (focus omega); conv => whnf))
        rw [hjn, h2p] at hxI
        obtain rfl : xI = p.2 := (Option.some.inj hxI).symm
        conv => whnf
        repeat (first | ((with_reducible apply Go.Vc.sl_ix); (focus with_reducible assumption); (focus exact And.intro (by omega) (by omega)); intro xI bI offI hxI hcI; conv => whnf) | ((with_reducible apply Go.Vc.cell_i); (focus assumption); conv => whnf) | (refine Go.Vc.br_f ?_ ?_; (focus omega); conv => whnf))
        rw [hjn, h2p] at hxI
        obtain rfl : xI = p.2 := (Option.some.inj hxI).symm
        conv => whnf
        repeat (first | ((with_reducible apply Go.Vc.sl_ix); (focus with_reducible assumption); (focus exact And.intro (by omega) (by omega)); intro xI bI offI hxI hcI; conv => whnf) | ((with_reducible apply Go.Vc.cell_i); (focus assumption); conv => whnf) | ((with_reducible apply Go.Vc.wr_i64); (focus exact And.intro (by omega) (by omega)); conv => whnf))
        have hV : O.getLast?.getD 0 = xI := by
          rw [List.getLast?_eq_getElem?, show O[O.length - 1]? = some xI by rw [← hxI]; congr 1; omega]; rfl
        have hbk : blk O p = List.replicate (3 + p.2).toNat xI := by unfold blk; rw [if_pos hv, hV]
        obtain ⟨N, hN⟩ := Int.eq_ofNat_of_zero_le (show 0 ≤ 3 + p.2 by omega)
        rw [hN, Int.toNat_natCast] at hbk
        rw [hN]
        generalize xI = V at *
        refine loop_intro3 (fun (k : Nat) (qa : Option Addr) (qc : Nat) => [(3, .bool true), (4, .slice a i c), (6, .slice a1 R.length c1), (7, .slice a2 R.length c2), (8, .slice qa (O.length + k) qc), (9, .int .i64 (j : Nat)), (10, .int .i64 (N : Nat)), (11, .int .i64 V), (12, .int .i64 (k : Nat))])
          (fun k qa qc h' t' => k ≤ N ∧ Vc.Own h' 3 qa (O.length + k) qc (Value.int .i64) (O ++ List.replicate k V) ∧ (∀ b, owner qa = some b → t3 ≤ b) ∧ Vc.Sub h3 h' ∧ t3 ≤ t') (fun k _ _ => N - k) 0 oa oc ⟨rfl, rfl, rfl, rfl, rfl, rfl, rfl, rfl, rfl, trivial⟩ ⟨by omega, by rw [List.replicate_zero, List.append_nil]; exact hoo, how, hs5, ht5⟩ ?_
        rintro k qa qc e6 g6 t6 hd6 ⟨hk, hoq, hwq, hs6, ht6⟩
        conv => whnf
        refine br (fun hk1 => ?_) (fun hk1 => ?_)
        · conv => whnf
          repeat (first | (intro _ _; conv => whnf))
          rename_i r hr
          refine own_app1 (x := V) hd3 ht6 hs6 hwq hd6 hr hoq (by omega) ?_
          intro a' c' h' t' ho' ht' hd' hsx hwx _ _
          conv => whnf
          repeat (first | ((with_reducible apply Go.Vc.wr_i64); (focus exact And.intro (by omega) (by omega)); conv => whnf))
          refine round_end3 (k + 1) a' c' (by omega) ⟨rfl, rfl, rfl, rfl, rfl, rfl, rfl, rfl, rfl, trivial⟩ ⟨by omega, ?_, hwx, hsx, by omega⟩
          rw [List.append_assoc] at ho'
          rw [List.replicate_succ']
          exact ho'
        · obtain rfl : k = N := by omega
          have hnl : (O ++ blk O p).length = O.length + k := by rw [hbk, List.length_append, List.length_replicate]
          rw [← hbk, ← hnl] at hoq
          conv => whnf
          repeat (first | ((with_reducible apply Go.Vc.wr_i64); (focus exact And.intro (by omega) (by omega)); conv => whnf))
          exact round_end4 (j + 1) (O ++ blk O p) qa qc (by omega) ⟨rfl, rfl, rfl, rfl, by rw [hnl]; rfl, rfl, trivial⟩ ⟨by omega, hD, hoq, hwq, hs6, ht6⟩
      · conv => whnf
        repeat (first | ((with_reducible apply Go.Vc.sl_ix); (focus with_reducible assumption); (focus exact And.intro (by omega) (by omega)); intro xI bI offI hxI hcI; conv => whnf) | ((with_reducible apply Go.Vc.cell_i); (focus assumption); conv => whnf) | (refine Go.Vc.br_t ?_ ?_; (focus omega); conv => whnf) | (refine Go.Vc.br_f ?_ ?_; (focus omega); conv => whnf))
        rw [hjn, h2p] at hxI
        obtain rfl : xI = p.2 := (Option.some.inj hxI).symm
        conv => whnf
        repeat (first | ((with_reducible apply Go.Vc.sl_ix); (focus with_reducible assumption); (focus exact And.intro (by omega) (by omega)); intro xI bI offI hxI hcI; conv => whnf) | ((with_reducible apply Go.Vc.cell_i); (focus assumption); conv => whnf) | (refine Go.Vc.br_f ?_ ?_; (focus omega); conv => whnf))
        rw [hjn, h2p] at hxI
        obtain rfl : xI = p.2 := (Option.some.inj hxI).symm
        conv => whnf
        repeat (first | ((with_reducible apply Go.Vc.sl_ix); (focus with_reducible assumption); (focus exact And.intro (by omega) (by omega)); intro xI bI offI hxI hcI; conv => whnf) | ((with_reducible apply Go.Vc.cell_i); (focus assumption); conv => whnf) | (refine Go.Vc.br_f ?_ ?_; (focus omega); conv => whnf))
        rw [hjn, h2p] at hxI
        obtain rfl : xI = p.2 := (Option.some.inj hxI).symm
        conv => whnf
        repeat (first | ((with_reducible apply Go.Vc.wr_i64); (focus exact And.intro (by omega) (by omega)); conv => whnf))
        have hbk : blk O p = List.replicate (3 + p.2).toNat 0 := by unfold blk; rw [if_neg (by omega), if_pos hv]
        obtain ⟨N, hN⟩ := Int.eq_ofNat_of_zero_le (show 0 ≤ 3 + p.2 by omega)
        rw [hN, Int.toNat_natCast] at hbk
        rw [hN]
        refine loop_intro3 (fun (k : Nat) (qa : Option Addr) (qc : Nat) => [(3, .bool true), (4, .slice a i c), (6, .slice a1 R.length c1), (7, .slice a2 R.length c2), (8, .slice qa (O.length + k) qc), (9, .int .i64 (j : Nat)), (10, .int .i64 (N : Nat)), (11, .int .i64 0), (12, .int .i64 (k : Nat))])
          (fun k qa qc h' t' => k ≤ N ∧ Vc.Own h' 3 qa (O.length + k) qc (Value.int .i64) (O ++ List.replicate k 0) ∧ (∀ b, owner qa = some b → t3 ≤ b) ∧ Vc.Sub h3 h' ∧ t3 ≤ t') (fun k _ _ => N - k) 0 oa oc ⟨rfl, rfl, rfl, rfl, rfl, rfl, rfl, rfl, rfl, trivial⟩ ⟨by omega, by rw [List.replicate_zero, List.append_nil]; exact hoo, how, hs5, ht5⟩ ?_
        rintro k qa qc e6 g6 t6 hd6 ⟨hk, hoq, hwq, hs6, ht6⟩
        conv => whnf
        refine br (fun hk1 => ?_) (fun hk1 => ?_)
        · conv => whnf
          repeat (first | (intro _ _; conv => whnf))
          rename_i r hr
          refine own_app1 (x := 0) hd3 ht6 hs6 hwq hd6 hr hoq (by omega) ?_
          intro a' c' h' t' ho' ht' hd' hsx hwx _ _
          conv => whnf
          repeat (first | ((with_reducible apply Go.Vc.wr_i64); (focus exact And.intro (by omega) (by omega)); conv => whnf))
          refine round_end3 (k + 1) a' c' (by omega) ⟨rfl, rfl, rfl, rfl, rfl, rfl, rfl, rfl, rfl, trivial⟩ ⟨by omega, ?_, hwx, hsx, by omega⟩
          rw [List.append_assoc] at ho'
          rw [List.replicate_succ']
          exact ho'
        · obtain rfl : k = N := by omega
          have hnl : (O ++ blk O p).length = O.length + k := by rw [hbk, List.length_append, List.length_replicate]
          rw [← hbk, ← hnl] at hoq
          conv => whnf
          repeat (first | ((with_reducible apply Go.Vc.wr_i64); (focus exact And.intro (by omega) (by omega)); conv => whnf))
          exact round_end4 (j + 1) (O ++ blk O p) qa qc (by omega) ⟨rfl, rfl, rfl, rfl, by rw [hnl]; rfl, rfl, trivial⟩ ⟨by omega, hD, hoq, hwq, hs6, ht6⟩
      · conv => whnf
        repeat (first | ((with_reducible apply Go.Vc.sl_ix); (focus with_reducible assumption); (focus exact And.intro (by omega) (by omega)); intro xI bI offI hxI hcI; conv => whnf) | ((with_reducible apply Go.Vc.cell_i); (focus assumption); conv => whnf) | (refine Go.Vc.br_t ?_ ?_; (focus omega); conv => whnf) | (refine Go.Vc.br_f ?_ ?_; (focus omega); conv => whnf))
        rw [hjn, h2p] at hxI
        obtain rfl : xI = p.2 := (Option.some.inj hxI).symm
        conv => whnf
        repeat (first | ((with_reducible apply Go.Vc.sl_ix); (focus with_reducible assumption); (focus exact And.intro (by omega) (by omega)); intro xI bI offI hxI hcI; conv => whnf) | ((with_reducible apply Go.Vc.cell_i); (focus assumption); conv => whnf) | (refine Go.Vc.br_f ?_ ?_; (focus omega); conv => whnf))
        rw [hjn, h2p] at hxI
        obtain rfl : xI = p.2 := (Option.some.inj hxI).symm
        conv => whnf
        repeat (first | ((with_reducible apply Go.Vc.sl_ix); (focus with_reducible assumption); (focus exact And.intro (by omega) (by omega)); intro xI bI offI hxI hcI; conv => whnf) | ((with_reducible apply Go.Vc.cell_i); (focus assumption); conv => whnf) | (refine Go.Vc.br_f ?_ ?_; (focus omega); conv => whnf))
        rw [hjn, h2p] at hxI
        obtain rfl : xI = p.2 := (Option.some.inj hxI).symm
        conv => whnf
        repeat (first | ((with_reducible apply Go.Vc.wr_i64); (focus exact And.intro (by omega) (by omega)); conv => whnf))
        have hbk : blk O p = List.replicate (11 + p.2).toNat 0 := by unfold blk; rw [if_neg (by omega), if_neg (by omega), if_pos hv]
        obtain ⟨N, hN⟩ := Int.eq_ofNat_of_zero_le (show 0 ≤ 11 + p.2 by omega)
        rw [hN, Int.toNat_natCast] at hbk
        rw [hN]
        refine loop_intro3 (fun (k : Nat) (qa : Option Addr) (qc : Nat) => [(3, .bool true), (4, .slice a i c), (6, .slice a1 R.length c1), (7, .slice a2 R.length c2), (8, .slice qa (O.length + k) qc), (9, .int .i64 (j : Nat)), (10, .int .i64 (N : Nat)), (11, .int .i64 0), (12, .int .i64 (k : Nat))])
          (fun k qa qc h' t' => k ≤ N ∧ Vc.Own h' 3 qa (O.length + k) qc (Value.int .i64) (O ++ List.replicate k 0) ∧ (∀ b, owner qa = some b → t3 ≤ b) ∧ Vc.Sub h3 h' ∧ t3 ≤ t') (fun k _ _ => N - k) 0 oa oc ⟨rfl, rfl, rfl, rfl, rfl, rfl, rfl, rfl, rfl, trivial⟩ ⟨by omega, by rw [List.replicate_zero, List.append_nil]; exact hoo, how, hs5, ht5⟩ ?_
        rintro k qa qc e6 g6 t6 hd6 ⟨hk, hoq, hwq, hs6, ht6⟩
        conv => whnf
        refine br (fun hk1 => ?_) (fun hk1 => ?_)
        · conv => whnf
          repeat (first | (intro _ _; conv => whnf))
          rename_i r hr
          refine own_app1 (x := 0) hd3 ht6 hs6 hwq hd6 hr hoq (by omega) ?_
          intro a' c' h' t' ho' ht' hd' hsx hwx _ _
          conv => whnf
          repeat (first | ((with_reducible apply Go.Vc.wr_i64); (focus exact And.intro (by omega) (by omega)); conv => whnf))
          refine round_end3 (k + 1) a' c' (by omega) ⟨rfl, rfl, rfl, rfl, rfl, rfl, rfl, rfl, rfl, trivial⟩ ⟨by omega, ?_, hwx, hsx, by omega⟩
          rw [List.append_assoc] at ho'
          rw [List.replicate_succ']
          exact ho'
        · obtain rfl : k = N := by omega
          have hnl : (O ++ blk O p).length = O.length + k := by rw [hbk, List.length_append, List.length_replicate]
          rw [← hbk, ← hnl] at hoq
          conv => whnf
          repeat (first | ((with_reducible apply Go.Vc.wr_i64); (focus exact And.intro (by omega) (by omega)); conv => whnf))
          exact round_end4 (j + 1) (O ++ blk O p) qa qc (by omega) ⟨rfl, rfl, rfl, rfl, by rw [hnl]; rfl, rfl, trivial⟩ ⟨by omega, hD, hoq, hwq, hs6, ht6⟩
      · conv => whnf
        repeat (first | ((with_reducible apply Go.Vc.sl_ix); (focus with_reducible assumption); (focus exact And.intro (by omega) (by omega)); intro xI bI offI hxI hcI; conv => whnf) | ((with_reducible apply Go.Vc.cell_i); (focus assumption); conv => whnf) | (refine Go.Vc.br_f ?_ ?_; (focus omega); conv => whnf))
        rw [hjn, h2p] at hxI
        obtain rfl : xI = p.2 := (Option.some.inj hxI).symm
        conv => whnf
        repeat (first | (refine Go.Vc.br_f ?_ ?_; (focus omega); conv => whnf))
        have hbk : blk O p = List.replicate 1 p.1 := by unfold blk; rw [if_neg (by omega), if_neg (by omega), if_neg (by omega)]; rfl
        refine loop_intro3 (fun (k : Nat) (qa : Option Addr) (qc : Nat) => [(3, .bool true), (4, .slice a i c), (6, .slice a1 R.length c1), (7, .slice a2 R.length c2), (8, .slice qa (O.length + k) qc), (9, .int .i64 (j : Nat)), (10, .int .i64 (1 : Nat)), (11, .int .i64 p.1), (12, .int .i64 (k : Nat))])
          (fun k qa qc h' t' => k ≤ 1 ∧ Vc.Own h' 3 qa (O.length + k) qc (Value.int .i64) (O ++ List.replicate k p.1) ∧ (∀ b, owner qa = some b → t3 ≤ b) ∧ Vc.Sub h3 h' ∧ t3 ≤ t') (fun k _ _ => 1 - k) 0 oa oc ⟨rfl, rfl, rfl, rfl, rfl, rfl, rfl, rfl, rfl, trivial⟩ ⟨by omega, by rw [List.replicate_zero, List.append_nil]; exact hoo, how, hs5, ht5⟩ ?_
        rintro k qa qc e6 g6 t6 hd6 ⟨hk, hoq, hwq, hs6, ht6⟩
        conv => whnf
        refine br (fun hk1 => ?_) (fun hk1 => ?_)
        · conv => whnf
          repeat (first | (intro _ _; conv => whnf))
          rename_i r hr
          refine own_app1 (x := p.1) hd3 ht6 hs6 hwq hd6 hr hoq (by omega) ?_
          intro a' c' h' t' ho' ht' hd' hsx hwx _ _
          conv => whnf
          repeat (first | ((with_reducible apply Go.Vc.wr_i64); (focus exact And.intro (by omega) (by omega)); conv => whnf))
          refine round_end3 (k + 1) a' c' (by omega) ⟨rfl, rfl, rfl, rfl, rfl, rfl, rfl, rfl, rfl, trivial⟩ ⟨by omega, ?_, hwx, hsx, by omega⟩
          rw [List.append_assoc] at ho'
          rw [List.replicate_succ']
          exact ho'
        · obtain rfl : k = 1 := by omega
          have hnl : (O ++ blk O p).length = O.length + 1 := by rw [hbk, List.length_append, List.length_replicate]
          rw [← hbk, ← hnl] at hoq
          conv => whnf
          repeat (first | ((with_reducible apply Go.Vc.wr_i64); (focus exact And.intro (by omega) (by omega)); conv => whnf))
          exact round_end4 (j + 1) (O ++ blk O p) qa qc (by omega) ⟨rfl, rfl, rfl, rfl, by rw [hnl]; rfl, rfl, trivial⟩ ⟨by omega, hD, hoq, hwq, hs6, ht6⟩
    · rw [List.drop_eq_nil_of_le (by omega)] at hD
      obtain rfl : O = I := hD
      conv => whnf
      have hsi := ho.sl.sub (hs3.trans hs5)
      refine (numbers_spec hoo.sl hsi (by omega)).mono ?_
      rintro _ h7 t7 hd7 ht7 ⟨rfl, rfl, rfl⟩
      simp only [decide_true]
      conv => whnf
      exact ⟨rfl, hs1.trans (hs2.trans (hs3.trans hs5))⟩
end Go.Proofs.Ytikpfffhcjlcjaa
