/- BucketPlays answers true, by its contract. -/
import Derived.Test.YtjolbngckdfelaaBucket11
namespace Go.Proofs.Ytjolbngckdfelaa
open Go Go.Vc
set_option linter.unusedVariables false
set_option maxHeartbeats 4000000
set_option maxRecDepth 20000

def sumL (U : List Deed) : Nat := (U.map (·.l)).sum
theorem sumL_drop {U : List Deed} {i : Nat} {u : Deed} (h : U[i]? = some u) : sumL (U.drop i) = u.l + sumL (U.drop (i + 1)) := by
  obtain ⟨hi, rfl⟩ := List.getElem?_eq_some_iff.1 h
  unfold sumL
  rw [List.drop_eq_getElem_cons hi, List.map_cons, List.sum_cons]
theorem Fr3.sub {b m x t : Nat} {h h' : Heap} (f : Fr3 b m x h h') (hd : Dom h t) (hb : t ≤ b) (hm : t ≤ m) (hx : t ≤ x) : Vc.Sub h h' := fun k o ho => by
  have := hd k o ho
  exact f k o (by omega) (by omega) (by omega) ho
theorem Fr3.trans {b m x : Nat} {h h' h'' : Heap} (f : Fr3 b m x h h') (g : Fr3 b m x h' h'') : Fr3 b m x h h'' := fun k o h1 h2 h3 ho => g k o h1 h2 h3 (f k o h1 h2 h3 ho)
theorem BucketPlays_spec (h : Heap) (t : Nat) (a : Option Addr) (n c : Nat) (U : List Deed) (hU : U.length = n) (hsl : Sl h a (n * 5) id (U.flatMap dv)) (hn : n ≤ 1048576) (hok : ∀ u ∈ U, DeedOk h u) (htot : sumL U ≤ 1048576) :
    CallSpec Try.prog 7 #[.slice a n c] h t (fun v h' _ => v = .bool true ∧ Vc.Sub h h') := by
  refine Go.Vc.spec_of_vc (fn := Try.f7) Try.func7 rfl (by kernel_rfl) (by kernel_rfl) (Nat.le_of_ble_eq_true rfl) ?_
  intro hd
  conv => whnf
  refine (examples_spec h t).mono ?_
  rintro _ _ t1 hd1 ht1 ⟨rfl, rfl⟩
  conv => whnf
  refine (new_spec _ t1).mono ?_
  rintro _ h2 t2 hd2 ht2 ⟨b, m, rfl, hb, hm, hbt, hmt, B2, hs2⟩
  conv => whnf
  repeat (first | (intro _ _; conv => whnf))
  rename_i x hx
  have hsx := hd2.sub_new hx (.cells #[.slice none 0 0, .string ByteArray.empty, .int .i64 0, .slice none 0 0] 47)
  have B3 := B2.sub hsx
  have X3 : RBk (hset h2 x (.cells #[.slice none 0 0, .string ByteArray.empty, .int .i64 0, .slice none 0 0] 47)) x ⟨[], ByteArray.empty, 0, []⟩ :=
    ⟨none, 0, none, 0, hset_same _ _ _, Own.nil _ _ _, Own.nil _ _ _⟩
  refine loop_intro (fun i : Nat => [(0, .slice a n c), (3, .bool true), (4, .pointer (some ⟨b, 0, none⟩)), (5, .pointer (some ⟨x, 0, none⟩)), (6, .int .i64 (i : Nat))])
    (fun i h' t' => i ≤ n ∧ i ≤ 60 ∧ t2 ≤ t' ∧ Fr3 b m x h h' ∧ ∃ d s r, Bkt h' b m d s ∧ RBk h' x r ∧ Rel s r ∧ d ≠ some x ∧ r.L.length ≤ i ∧ 0 ≤ r.ver ∧ r.ver ≤ i ∧ r.F.length + sumL (U.drop i) ≤ 1048576) (fun i => n - i) 0 ⟨rfl, rfl, rfl, rfl, rfl, trivial⟩
    ⟨by omega, by omega, by omega, fun k o _ _ _ ho => hsx k o (hs2 k o ho), none, _, _, B3, X3, rel_zero, by simp, by simp, by simp, by simp, by simpa using htot⟩ ?_
  rintro i e4 g t4 hd4 ⟨hi, hi6, ht4, f4, d, s, r, B4, X4, R4, hdx, hrL, hv0, hv1, hrF⟩
  conv => whnf
  refine br (fun hb1 => ?_) (fun hb1 => ?_)
  · conv => whnf
    refine br (fun hb2 => ?_) (fun hb2 => ?_)
    · have hs4 := f4.sub hd (by omega) (by omega) (by omega)
      have hsl4 := hsl.sub hs4
      have hslU : Sl g a (U.length * 5) id (U.flatMap dv) := by rw [hU]; exact hsl4
      obtain ⟨u, bU, offU, hp, haL, hrow⟩ := slW_row (i := i) dv_len hslU (by decide) (by omega)
      subst haL
      have hu := hok u (List.mem_of_getElem? hp)
      have hsum := sumL_drop hp
      conv => whnf
      repeat (first | ((with_reducible apply Go.Vc.own_ix); (focus exact And.intro (by omega) (by omega)); conv => whnf))
      refine hrow.row (W := 5) rfl (by decide) ?_
      conv => whnf
      refine (does_spec (k := u.k) (n := u.n) (name := u.name) (txt := u.txt) (a := u.a) (l := u.l) (c := u.c) (F := u.F) B4 X4 R4 (by omega) (by omega) hdx hu.k1 hu.k2 hu.n1 hu.n2 (fun h' f' => hu.F.sub ((f4.trans f').sub hd (by omega) (by omega) (by omega))) (by omega) hv0 (by omega) (by omega) (by omega)).mono ?_
      rintro _ h5 t5 hd5 ht5 ⟨rfl, _, d5, s5, r5, B5, X5, R5, f5, hdx5, hL5, hv5, hv6, hF5⟩
      have hD5 := rel_len R5
      conv => whnf
      refine (names_spec B5 (by omega)).mono ?_
      rintro _ h6 t6 hd6 ht6 ⟨a6, c6, rfl, o6, hw6, hs6⟩
      rw [rel_names R5] at o6
      have B6 := B5.sub hs6
      have X6 : RBk h6 x r5 := by
        obtain ⟨aL, cL, aF, cF, q1, q2, q3⟩ := X5
        exact ⟨aL, cL, aF, cF, hs6 _ _ q1, Own.fr q2 fun k o _ ho => hs6 k o ho, Own.fr q3 fun k o _ ho => hs6 k o ho⟩
      conv => whnf
      refine (held_spec B6).mono ?_
      rintro _ _ _ _ _ ⟨rfl, rfl, rfl⟩
      rw [R5.lock, R5.ver]
      obtain ⟨aL, cL, aF, cF, hx6, hL6, hF6⟩ := id X6
      conv => whnf
      repeat (first | ((with_reducible apply Go.Vc.ld_i); (focus ((repeat (first | with_reducible assumption | with_reducible exact Go.Vc.hset_same _ _ _ | with_reducible refine (Go.Vc.hset_ne _ _ (by omega)).trans ?_)); done)); (focus exact rfl); conv => whnf) | (refine Go.Vc.br_f ?_ ?_; (focus omega); conv => whnf))
      refine br_f (by simp) ?_
      conv => whnf
      repeat (first | ((with_reducible apply Go.Vc.ld_i); (focus ((repeat (first | with_reducible assumption | with_reducible exact Go.Vc.hset_same _ _ _ | with_reducible refine (Go.Vc.hset_ne _ _ (by omega)).trans ?_)); done)); (focus exact rfl); conv => whnf) | (refine Go.Vc.br_f ?_ ?_; (focus omega); conv => whnf))
      refine loop_intro (fun k : Nat => [(0, .slice (some ⟨bU, offU, none⟩) n c), (3, .bool true), (4, .pointer (some ⟨b, 0, none⟩)), (5, .pointer (some ⟨x, 0, none⟩)), (6, .int .i64 (i : Nat)), (8, .slice a6 s5.D.length c6), (11, .int .i64 (k : Nat))])
        (fun k h' t' => h6 = h' ∧ t6 = t' ∧ k ≤ r5.L.length) (fun k => r5.L.length - k) 0 ⟨rfl, rfl, rfl, rfl, rfl, rfl, rfl, trivial⟩ ⟨rfl, rfl, by omega⟩ ?_
      rintro k e7 _ _ _ ⟨rfl, rfl, hk⟩
      conv => whnf
      refine br (fun hb3 => ?_) (fun hb3 => ?_)
      · obtain ⟨p, bL, offL, hpL, haL, hrowL⟩ := slW_row (i := k) ob_len hL6.sl (by decide) (by omega)
        subst haL
        have hsl6 := o6.sl
        have hpk : (r5.L.map (·.1))[k]? = some p.1 := by rw [List.getElem?_map, hpL]; rfl
        have hga : aGet s5.D p.1 = some p.2 := by rw [← R5.get]; exact ris_at R5.ris hpL
        conv => whnf
        repeat (first | ((with_reducible apply Go.Vc.sl_ix); (focus with_reducible assumption); (focus exact And.intro (by omega) (by omega)); intro xI bI offI hxI hcI; conv => whnf) | ((with_reducible apply Go.Vc.cell_i); (focus assumption); conv => whnf))
        obtain rfl : xI = p.1 := by
          have e := hxI
          rw [Int.toNat_natCast, hpk] at e
          exact (Option.some.inj e).symm
        refine (peek_spec B6 p.1).mono ?_
        rintro _ _ _ _ _ ⟨rfl, rfl, rfl⟩
        rw [hga]
        have hc1 := hrowL.cell0 (v := .string p.1) rfl
        have hc2 := hrowL.cell (j := 1) (v := .string p.2) rfl
        conv => whnf
        refine Go.Vc.draw_intro [⟨0, false, false, false, 0⟩, ⟨1, false, false, false, 0⟩, ⟨2, false, false, false, 3⟩, ⟨3, false, false, false, 7⟩, ⟨4, false, false, false, 0⟩, ⟨5, false, false, false, 16⟩, ⟨6, false, false, false, 48⟩, ⟨7, false, false, false, 112⟩, ⟨8, false, false, false, 0⟩, ⟨9, false, false, false, 496⟩, ⟨10, false, false, false, 1008⟩, ⟨11, false, false, false, 2032⟩, ⟨12, false, false, false, 4095⟩, ⟨13, false, false, false, 8191⟩, ⟨14, false, false, false, 16383⟩, ⟨15, false, false, false, 16383⟩, ⟨16, false, false, false, 49151⟩, ⟨17, false, false, false, 114687⟩, ⟨18, false, false, false, 245759⟩, ⟨19, false, false, false, 16383⟩, ⟨20, false, false, false, 1032191⟩, ⟨21, false, false, false, 2080767⟩, ⟨22, false, false, false, 4177919⟩, ⟨23, false, false, false, 8388607⟩, ⟨24, false, false, false, 16777215⟩, ⟨25, false, false, false, 33554431⟩, ⟨26, false, false, false, 67108863⟩, ⟨27, false, false, false, 134217727⟩, ⟨28, false, false, false, 268435455⟩] (hs := (fun _ => none)) (hsub := (fun _ _ h => nomatch h)) (hm := by kernel_rfl) (hpl := by kernel_rfl) ?_
        conv => whnf
        conv => whnf
        repeat (first | ((with_reducible apply Go.Vc.own_ix); (focus exact And.intro (by omega) (by omega)); conv => whnf) | ((with_reducible apply Go.Vc.sl_ix); (focus with_reducible assumption); (focus exact And.intro (by omega) (by omega)); intro xI bI offI hxI hcI; conv => whnf) | ((with_reducible apply Go.Vc.ld_i); (focus ((repeat (first | with_reducible assumption | with_reducible exact Go.Vc.hset_same _ _ _ | with_reducible refine (Go.Vc.hset_ne _ _ (by omega)).trans ?_)); done)); (focus exact rfl); conv => whnf) | ((with_reducible apply Go.Vc.cell_i); (focus assumption); conv => whnf))
        obtain rfl : xI = p.1 := by
          have e := hxI
          rw [Int.toNat_natCast, hpk] at e
          exact (Option.some.inj e).symm
        refine br_f (fun hc => hc rfl) ?_
        conv => whnf
        repeat (first | ((with_reducible apply Go.Vc.own_ix); (focus exact And.intro (by omega) (by omega)); conv => whnf) | ((with_reducible apply Go.Vc.ld_i); (focus ((repeat (first | with_reducible assumption | with_reducible exact Go.Vc.hset_same _ _ _ | with_reducible refine (Go.Vc.hset_ne _ _ (by omega)).trans ?_)); done)); (focus exact rfl); conv => whnf) | ((with_reducible apply Go.Vc.cell_i); (focus assumption); conv => whnf))
        refine br_f (fun hc => hc rfl) ?_
        conv => whnf
        repeat (first | ((with_reducible apply Go.Vc.wr_i64); (focus exact And.intro (by omega) (by omega)); conv => whnf))
        exact round_end (k + 1) (by omega) ⟨rfl, rfl, rfl, rfl, rfl, rfl, rfl, trivial⟩ ⟨rfl, rfl, by omega⟩
      · conv => whnf
        repeat (first | ((with_reducible apply Go.Vc.wr_i64); (focus exact And.intro (by omega) (by omega)); conv => whnf))
        refine round_end (i + 1) (by omega) ⟨rfl, rfl, rfl, rfl, rfl, trivial⟩ ⟨by omega, by omega, by omega, f4.trans (f5.trans fun k o _ _ _ ho => hs6 k o ho), d5, s5, r5, B6, X6, R5, hdx5, by omega, by omega, by omega, by omega⟩
    · conv => whnf
      exact ⟨rfl, f4.sub hd (by omega) (by omega) (by omega)⟩
  · conv => whnf
    exact ⟨rfl, f4.sub hd (by omega) (by omega) (by omega)⟩
theorem sum_one (U : List Deed) : (U.map fun u => u.l + 1).sum = sumL U + U.length := by
  induction U with
  | nil => rfl
  | cons u U ih =>
    have : sumL (u :: U) = u.l + sumL U := by simp [sumL]
    rw [List.map_cons, List.sum_cons, ih, this, List.length_cons]
    omega
theorem open_arg_BucketPlays_0 {H : Type} {enc : TypeId × Value → H} {W : World} {fuel : Nat} {a : Option Addr} {len cap : Nat} {d : DataW H} {ps : List MemPlace}
    (h : DataW.trod enc Try.prog W 0 (fun _ => true) true fuel 43 [.slice a len cap] = some (d, ps)) (hb : Rows.uptoBulk d ≤ 1048576) :
    ∃ U : List Deed, U.length = len ∧ Sl (heapOf W) a (len * 5) id (U.flatMap dv) ∧ len ≤ 1048576 ∧ (∀ u ∈ U, DeedOk (heapOf W) u) ∧ sumL U ≤ 1048576 := by
  obtain ⟨l, e1, e2, _, e4, e5⟩ := vcrows.open_rows Try.underlying43 (K := 5) (by kernel_rfl) (by decide) dv_len (fun u => u.l + 1) (DeedOk (heapOf W)) (fun n cs x h => open_deed h) h
  rw [sum_one] at e5
  exact ⟨l, e1, e2, by omega, e4, by omega⟩
end Go.Proofs.Ytjolbngckdfelaa
