import Derived.Test.YtlkpgjicpjjlcaaGreatDoorTileList
import Derived.Test.YtlkpgjicpjjlcaaGreatDoorTileEqQ
/- Any two sizes have the new tiles, and any tile the hashes, that the chapter says. -/
set_option linter.unusedSimpArgs false
namespace Go.Proofs.YtlkpgjicpjjlcaaGreatDoor
open Go Go.Vc Go.Tile Go.Sha Go.Mk
set_option maxRecDepth 20000
set_option maxHeartbeats 4000000
set_option linter.unusedVariables false
theorem ref_spec {h : Heap} {t : Nat} (x y z : Int) : CallSpec Tryz.prog 10 #[.agg #[.int .i64 x, .int .i64 y, .int .i64 z]] h t (fun v h' t' => v = .agg #[.int .i64 x, .int .i64 y, .int .i64 z] ∧ Vc.Sub h h' ∧ t ≤ t') := by
  refine Go.Vc.spec_of_vc (fn := Tryz.f10) Tryz.func10 rfl (by kernel_rfl) (by kernel_rfl) (Nat.le_of_ble_eq_true rfl) ?_
  intro hd
  conv => whnf
  repeat (first | ((with_reducible apply Go.Vc.ldrow); (focus ((repeat (first | with_reducible assumption | with_reducible exact Go.Vc.hset_same _ _ _ | with_reducible refine (Go.Vc.hset_ne _ _ (by omega)).trans ?_)); done)); (focus exact rfl); rintro _ rfl; conv => whnf) | ((with_reducible apply Go.Vc.strow); (focus ((repeat (first | with_reducible assumption | with_reducible exact Go.Vc.hset_same _ _ _ | with_reducible refine (Go.Vc.hset_ne _ _ (by omega)).trans ?_)); done)); (focus exact rfl); (focus exact rfl); (focus exact rfl); rintro _ rfl; conv => whnf) | ((with_reducible apply Go.Vc.ld_i); (focus ((repeat (first | with_reducible assumption | with_reducible exact Go.Vc.hset_same _ _ _ | with_reducible refine (Go.Vc.hset_ne _ _ (by omega)).trans ?_)); done)); (focus exact rfl); conv => whnf) | (intro _ _; conv => whnf))
  refine ⟨rfl, ?_, by omega⟩
  intro b o hb
  have := hd _ _ hb
  repeat rw [hset_ne _ _ (by omega)]
  exact hb
theorem rco_ne {a1 a2 a3 b1 b2 b3 : Int} {xo yo : Operand} {K : Value → Prop} {h : Heap} (hK : K (.bool (!decide (a1 = b1 ∧ a2 = b2 ∧ a3 = b3)))) :
    AggEqQ Tryz.prog .neq 30 xo yo (.agg #[.int .i64 a1, .int .i64 a2, .int .i64 a3]) (.agg #[.int .i64 b1, .int .i64 b2, .int .i64 b3]) K h :=
  aggne3R Tryz.underlying30 Tryz.underlying3 (by kernel_rfl) (by kernel_rfl) (by kernel_rfl) rfl rfl rfl rfl rfl rfl (by decide) (by decide) (by decide) hK
theorem rgrown_no {h : Heap} {t : Nat} (old n : Int) (hno : old < 0 ∨ old > n ∨ n > 1073741824) :
    CallSpec Tryz.prog 14 #[.int .i64 old, .int .i64 n] h t (fun v h' t' => v = .slice none 0 0 ∧ Vc.Sub h h' ∧ t ≤ t') := by
  refine Go.Vc.spec_of_vc (fn := Tryz.f14) Tryz.func14 rfl (by kernel_rfl) (by kernel_rfl) (Nat.le_of_ble_eq_true rfl) ?_
  intro hd
  conv => whnf
  refine br (fun h1 => ?_) (fun h1 => ?_)
  · conv => whnf
    exact ⟨rfl, Vc.Sub.refl _, by omega⟩
  · conv => whnf
    refine br (fun h2 => ?_) (fun h2 => ?_)
    · conv => whnf
      exact ⟨rfl, Vc.Sub.refl _, by omega⟩
    · conv => whnf
      repeat (first | (refine Go.Vc.br_t ?_ ?_; (focus omega); conv => whnf))
      exact ⟨rfl, Vc.Sub.refl _, by omega⟩
def GL (x y : Int) : List Co := if 0 ≤ x ∧ x ≤ y ∧ y ≤ 1073741824 then grownL x.toNat y.toNat else []
theorem GL_len (x y : Int) : (GL x y).length ≤ 100000000 := by
  unfold GL
  split
  · have := grownTo_len (old := x.toNat) (n := y.toNat) (by omega) (k := 5) (by omega)
    exact Nat.le_trans this (by omega)
  · exact Nat.zero_le _
theorem ggrown_spec {h : Heap} {t : Nat} (x y : Int) : CallSpec Tryz.prog 13 #[.int .i64 x, .int .i64 y] h t (fun v h' t' => ∃ a c, v = .slice a (GL x y).length c ∧ Sl h' a ((GL x y).length * 3) id ((GL x y).flatMap co) ∧ Vc.Sub h h' ∧ t ≤ t') := by
  by_cases hok : 0 ≤ x ∧ x ≤ y ∧ y ≤ 1073741824
  · obtain ⟨a, rfl⟩ := Int.eq_ofNat_of_zero_le hok.1
    obtain ⟨b, rfl⟩ := Int.eq_ofNat_of_zero_le (show 0 ≤ y by omega)
    unfold GL
    rw [if_pos hok]
    refine (grown_spec a b (by omega) (by omega)).mono ?_
    rintro _ g t1 _ _ ⟨al, cl, rfl, ho, _, hs, ht⟩
    exact ⟨al, cl, rfl, ho.sl, hs, ht⟩
  · unfold GL
    rw [if_neg hok]
    refine (grown_no x y (by omega)).mono ?_
    rintro _ g t1 _ _ ⟨rfl, hs, ht⟩
    exact ⟨none, 0, rfl, Sl.nil _ _ _, hs, ht⟩
theorem grgrown_spec {h : Heap} {t : Nat} (x y : Int) : CallSpec Tryz.prog 14 #[.int .i64 x, .int .i64 y] h t (fun v h' t' => ∃ a c, v = .slice a (GL x y).length c ∧ Sl h' a ((GL x y).length * 3) id ((GL x y).flatMap co) ∧ Vc.Sub h h' ∧ t ≤ t') := by
  by_cases hok : 0 ≤ x ∧ x ≤ y ∧ y ≤ 1073741824
  · obtain ⟨a, rfl⟩ := Int.eq_ofNat_of_zero_le hok.1
    obtain ⟨b, rfl⟩ := Int.eq_ofNat_of_zero_le (show 0 ≤ y by omega)
    unfold GL
    rw [if_pos hok]
    exact rgrown_spec a b (by omega) (by omega)
  · unfold GL
    rw [if_neg hok]
    refine (rgrown_no x y (by omega)).mono ?_
    rintro _ g t1 _ _ ⟨rfl, hs, ht⟩
    exact ⟨none, 0, rfl, Sl.nil _ _ _, hs, ht⟩
theorem TileGrows_spec {h : Heap} {t : Nat} (hM : MaxC h) (x : Int) (hx : -9223372036854775808 ≤ x ∧ x ≤ 9223372036854775807) (y : Int) (hy : -9223372036854775808 ≤ y ∧ y ≤ 9223372036854775807) (m : Int) (hm : 0 ≤ m ∧ m ≤ 65535)
    (a1 a2 a3 : Int) (ha1 : -9223372036854775808 ≤ a1 ∧ a1 ≤ 9223372036854775807) (ha2 : -9223372036854775808 ≤ a2 ∧ a2 ≤ 9223372036854775807) (ha3 : -9223372036854775808 ≤ a3 ∧ a3 ≤ 9223372036854775807) :
    CallSpec Tryz.prog 4 #[.int .i64 x, .int .i64 y, .int .u16 m, .agg #[.int .i64 a1, .int .i64 a2, .int .i64 a3]] h t (fun v h' _ => v = .bool true ∧ Vc.Sub h h') := by
  refine Go.Vc.spec_of_vc (fn := Tryz.f4) Tryz.func4 rfl (by kernel_rfl) (by kernel_rfl) (Nat.le_of_ble_eq_true rfl) ?_
  intro hd
  conv => whnf
  repeat (first | (intro _ _; conv => whnf))
  rename_i r7 hr7
  have hsub0 : Vc.Sub h (hset h r7 (.cells #[.int .i64 a1, .int .i64 a2, .int .i64 a3] 23 (0, 0))) := hd.sub_new hr7 _
  refine (examples_spec (hM.sub hsub0)).mono ?_
  rintro _ g t1 hd1 ht1 ⟨rfl, hs1, _⟩
  have g7 : g r7 = some (.cells #[.int .i64 a1, .int .i64 a2, .int .i64 a3] 23 (0, 0)) := hs1 _ _ (hset_same _ _ _)
  have gS := hsub0.trans hs1
  clear hs1 hsub0
  conv => whnf
  refine br (fun hb => ?_) (fun hb => ?_)
  · conv => whnf
    refine br (fun hb2 => ?_) (fun hb2 => ?_)
    · conv => whnf
      repeat (first | ((with_reducible apply Go.Vc.wr_i64); (focus exact And.intro (by omega) (by omega)); conv => whnf) | ((with_reducible apply Go.Vc.rem_i); (focus omega); conv => whnf) | ((with_reducible refine And.intro ?_ (And.intro ?_ ?_)); (focus exact rfl); (focus omega); conv => whnf))
      obtain ⟨y', hy'⟩ : ∃ y' : Int, y' = x + (y - x) % 20000 := ⟨_, rfl⟩
      rw [← hy']
      refine (ggrown_spec x y').mono ?_
      rintro _ g2 t2 hd2 ht2 ⟨aa, ca, rfl, hsa, hs2, _⟩
      conv => whnf
      refine (grgrown_spec x y').mono ?_
      rintro _ g3 t3 hd3 ht3 ⟨ab, cb, rfl, hsb, hs3, _⟩
      have hsa3 := hsa.sub hs3
      have h37 := hs3 _ _ (hs2 _ _ g7)
      have gS3 := (gS.trans hs2).trans hs3
      have hlen := GL_len x y'
      obtain ⟨l, hl⟩ : ∃ l, l = GL x y' := ⟨_, rfl⟩
      rw [← hl] at hsa3 hsb hlen ⊢
      clear hsa hs2 hs3
      conv => whnf
      repeat (first | (refine Go.Vc.br_f ?_ ?_; (focus omega); conv => whnf))
      refine loop_intro (fun (i : Nat) => [(7, .pointer (some ⟨r7, 0, none⟩)), (2, .int .u16 m), (9, .bool true), (10, .slice aa l.length ca), (11, .slice ab l.length cb), (12, .int .i64 (i : Nat))])
        (fun i h' t' => i ≤ l.length ∧ Vc.Sub g3 h' ∧ t3 ≤ t') (fun i => l.length - i) 0 ⟨rfl, rfl, rfl, rfl, rfl, rfl, trivial⟩ ⟨by omega, Vc.Sub.refl _, by omega⟩ ?_
      rintro i e5 g5 t5 hd5 ⟨hi, hs5, ht5⟩
      have h57 := hs5 _ _ h37
      conv => whnf
      refine br (fun hb1 => ?_) (fun hb1 => ?_)
      · conv => whnf
        have hil : i < l.length := by omega
        refine Go.Vc.draw_intro [⟨0, false, false, false, 0⟩, ⟨1, false, false, false, 0⟩, ⟨2, false, false, false, 3⟩, ⟨3, false, false, false, 7⟩, ⟨5, false, true, false, 0⟩, ⟨6, false, true, false, 0⟩, ⟨7, false, true, false, 96⟩, ⟨8, false, true, false, 224⟩, ⟨4, true, false, true, 15⟩, ⟨9, false, false, false, 511⟩] (hs := g5) (hsub := (Sub.refl _)) (hm := by kernel_rfl) (hpl := by kernel_rfl) ?_
        conv => whnf
        conv => whnf
        repeat (first | ((with_reducible refine And.intro (And.intro ?_ ?_) ?_); (focus omega); (focus omega); conv => whnf))
        refine (slW_ix (i := (i : Int)) (n := l.length) (hsa3.sub hs5) co_len (by decide) ⟨by omega, by omega⟩ ?_).2
        intro c bb off hc hal hrow
        rw [Int.toNat_natCast] at hc
        conv => whnf
        refine hrow.row (W := 3) rfl (by decide) ?_
        conv => whnf
        repeat (first | ((with_reducible refine And.intro (And.intro ?_ ?_) ?_); (focus omega); (focus omega); conv => whnf))
        refine (slW_ix (i := (i : Int)) (n := l.length) (hsb.sub hs5) co_len (by decide) ⟨by omega, by omega⟩ ?_).2
        intro c2 bb2 off2 hc2 hal2 hrow2
        rw [Int.toNat_natCast] at hc2
        obtain rfl : c = c2 := Option.some.inj (hc.symm.trans hc2)
        conv => whnf
        refine hrow2.row (W := 3) rfl (by decide) ?_
        conv => whnf
        refine (ref_spec c.1 (c.2.1 : Nat) (c.2.2 : Nat)).mono ?_
        rintro _ g6 t6 hd6 ht6 ⟨rfl, hs6, _⟩
        refine ⟨hs6, ?_⟩
        conv => whnf
        refine rco_ne ?_
        rw [decide_eq_true (p := c.1 = c.1 ∧ ((c.2.1 : Nat) : Int) = (c.2.1 : Nat) ∧ ((c.2.2 : Nat) : Int) = (c.2.2 : Nat)) ⟨rfl, rfl, rfl⟩]
        conv => whnf
        repeat (first | ((with_reducible apply Go.Vc.wr_i64); (focus exact And.intro (by omega) (by omega)); conv => whnf))
        exact round_end (i + 1) (by omega) ⟨rfl, rfl, rfl, rfl, rfl, rfl, trivial⟩ ⟨by omega, hs5.trans hs6, by omega⟩
      · obtain rfl : i = l.length := by omega
        obtain ⟨n, hn⟩ : ∃ n : Nat, m % 601 = (n : Int) := ⟨(m % 601).toNat, by omega⟩
        conv => whnf
        repeat (first | ((with_reducible apply Go.Vc.wr_i64); (focus exact And.intro (by omega) (by omega)); conv => whnf) | ((with_reducible apply Go.Vc.rem_i); (focus omega); conv => whnf) | ((with_reducible refine And.intro ?_ (And.intro ?_ ?_)); (focus exact rfl); (focus omega); conv => whnf))
        rw [hn]
        refine (list_spec n (by omega) _ (by decide)).mono ?_
        rintro _ g6 t6 hd6 ht6 ⟨al, cl, L, rfl, hoL, hwL, hL, hs6, _⟩
        have h67 := hs6 _ _ h57
        have hcl : n ≤ cl := by
          rcases hoL.2 with ⟨_, h1, _⟩ | ⟨_, _, _, _, _, h1, _⟩ <;> omega
        have hsL := hoL.sl
        conv => whnf
        repeat (first | ((with_reducible apply Go.Vc.ldrow); (focus ((repeat (first | with_reducible assumption | with_reducible exact Go.Vc.hset_same _ _ _ | with_reducible refine (Go.Vc.hset_ne _ _ (by omega)).trans ?_)); done)); (focus exact rfl); rintro _ rfl; conv => whnf))
        refine (hashes_spec hsL (by omega) hcl (fun z hz => by rw [hL z hz]; decide) (fun z hz => by rw [hL z hz]; decide) a1 a2 a3).mono ?_
        rintro _ g8 t8 hd8 ht8 ⟨rfl, hs8, _⟩
        have h87 := hs8 _ _ h67
        conv => whnf
        repeat (first | ((with_reducible apply Go.Vc.ldrow); (focus ((repeat (first | with_reducible assumption | with_reducible exact Go.Vc.hset_same _ _ _ | with_reducible refine (Go.Vc.hset_ne _ _ (by omega)).trans ?_)); done)); (focus exact rfl); rintro _ rfl; conv => whnf))
        refine (ref_spec a1 a2 a3).mono ?_
        rintro _ g9 t9 hd9 ht9 ⟨rfl, hs9, _⟩
        conv => whnf
        refine (rhashes_spec ((hsL.sub hs8).sub hs9) (by omega) hcl (fun z hz => by rw [hL z hz]; decide) a1 a2 a3).mono ?_
        rintro _ g10 t10 hd10 ht10 ⟨rfl, hs10, _⟩
        conv => whnf
        refine br_t rfl ?_
        conv => whnf
        exact ⟨by rw [opq_eq, decide_eq_true rfl], ((((gS3.trans hs5).trans hs6).trans hs8).trans hs9).trans hs10⟩
    · obtain ⟨y', hy'⟩ : ∃ y' : Int, y' = y := ⟨_, rfl⟩
      rw [← hy'] at *
      conv => whnf
      refine (ggrown_spec x y').mono ?_
      rintro _ g2 t2 hd2 ht2 ⟨aa, ca, rfl, hsa, hs2, _⟩
      conv => whnf
      refine (grgrown_spec x y').mono ?_
      rintro _ g3 t3 hd3 ht3 ⟨ab, cb, rfl, hsb, hs3, _⟩
      have hsa3 := hsa.sub hs3
      have h37 := hs3 _ _ (hs2 _ _ g7)
      have gS3 := (gS.trans hs2).trans hs3
      have hlen := GL_len x y'
      obtain ⟨l, hl⟩ : ∃ l, l = GL x y' := ⟨_, rfl⟩
      rw [← hl] at hsa3 hsb hlen ⊢
      clear hsa hs2 hs3
      conv => whnf
      repeat (first | (refine Go.Vc.br_f ?_ ?_; (focus omega); conv => whnf))
      refine loop_intro (fun (i : Nat) => [(7, .pointer (some ⟨r7, 0, none⟩)), (2, .int .u16 m), (9, .bool true), (10, .slice aa l.length ca), (11, .slice ab l.length cb), (12, .int .i64 (i : Nat))])
        (fun i h' t' => i ≤ l.length ∧ Vc.Sub g3 h' ∧ t3 ≤ t') (fun i => l.length - i) 0 ⟨rfl, rfl, rfl, rfl, rfl, rfl, trivial⟩ ⟨by omega, Vc.Sub.refl _, by omega⟩ ?_
      rintro i e5 g5 t5 hd5 ⟨hi, hs5, ht5⟩
      have h57 := hs5 _ _ h37
      conv => whnf
      refine br (fun hb1 => ?_) (fun hb1 => ?_)
      · conv => whnf
        have hil : i < l.length := by omega
        refine Go.Vc.draw_intro [⟨0, false, false, false, 0⟩, ⟨1, false, false, false, 0⟩, ⟨2, false, false, false, 3⟩, ⟨3, false, false, false, 7⟩, ⟨5, false, true, false, 0⟩, ⟨6, false, true, false, 0⟩, ⟨7, false, true, false, 96⟩, ⟨8, false, true, false, 224⟩, ⟨4, true, false, true, 15⟩, ⟨9, false, false, false, 511⟩] (hs := g5) (hsub := (Sub.refl _)) (hm := by kernel_rfl) (hpl := by kernel_rfl) ?_
        conv => whnf
        conv => whnf
        repeat (first | ((with_reducible refine And.intro (And.intro ?_ ?_) ?_); (focus omega); (focus omega); conv => whnf))
        refine (slW_ix (i := (i : Int)) (n := l.length) (hsa3.sub hs5) co_len (by decide) ⟨by omega, by omega⟩ ?_).2
        intro c bb off hc hal hrow
        rw [Int.toNat_natCast] at hc
        conv => whnf
        refine hrow.row (W := 3) rfl (by decide) ?_
        conv => whnf
        repeat (first | ((with_reducible refine And.intro (And.intro ?_ ?_) ?_); (focus omega); (focus omega); conv => whnf))
        refine (slW_ix (i := (i : Int)) (n := l.length) (hsb.sub hs5) co_len (by decide) ⟨by omega, by omega⟩ ?_).2
        intro c2 bb2 off2 hc2 hal2 hrow2
        rw [Int.toNat_natCast] at hc2
        obtain rfl : c = c2 := Option.some.inj (hc.symm.trans hc2)
        conv => whnf
        refine hrow2.row (W := 3) rfl (by decide) ?_
        conv => whnf
        refine (ref_spec c.1 (c.2.1 : Nat) (c.2.2 : Nat)).mono ?_
        rintro _ g6 t6 hd6 ht6 ⟨rfl, hs6, _⟩
        refine ⟨hs6, ?_⟩
        conv => whnf
        refine rco_ne ?_
        rw [decide_eq_true (p := c.1 = c.1 ∧ ((c.2.1 : Nat) : Int) = (c.2.1 : Nat) ∧ ((c.2.2 : Nat) : Int) = (c.2.2 : Nat)) ⟨rfl, rfl, rfl⟩]
        conv => whnf
        repeat (first | ((with_reducible apply Go.Vc.wr_i64); (focus exact And.intro (by omega) (by omega)); conv => whnf))
        exact round_end (i + 1) (by omega) ⟨rfl, rfl, rfl, rfl, rfl, rfl, trivial⟩ ⟨by omega, hs5.trans hs6, by omega⟩
      · obtain rfl : i = l.length := by omega
        obtain ⟨n, hn⟩ : ∃ n : Nat, m % 601 = (n : Int) := ⟨(m % 601).toNat, by omega⟩
        conv => whnf
        repeat (first | ((with_reducible apply Go.Vc.wr_i64); (focus exact And.intro (by omega) (by omega)); conv => whnf) | ((with_reducible apply Go.Vc.rem_i); (focus omega); conv => whnf) | ((with_reducible refine And.intro ?_ (And.intro ?_ ?_)); (focus exact rfl); (focus omega); conv => whnf))
        rw [hn]
        refine (list_spec n (by omega) _ (by decide)).mono ?_
        rintro _ g6 t6 hd6 ht6 ⟨al, cl, L, rfl, hoL, hwL, hL, hs6, _⟩
        have h67 := hs6 _ _ h57
        have hcl : n ≤ cl := by
          rcases hoL.2 with ⟨_, h1, _⟩ | ⟨_, _, _, _, _, h1, _⟩ <;> omega
        have hsL := hoL.sl
        conv => whnf
        repeat (first | ((with_reducible apply Go.Vc.ldrow); (focus ((repeat (first | with_reducible assumption | with_reducible exact Go.Vc.hset_same _ _ _ | with_reducible refine (Go.Vc.hset_ne _ _ (by omega)).trans ?_)); done)); (focus exact rfl); rintro _ rfl; conv => whnf))
        refine (hashes_spec hsL (by omega) hcl (fun z hz => by rw [hL z hz]; decide) (fun z hz => by rw [hL z hz]; decide) a1 a2 a3).mono ?_
        rintro _ g8 t8 hd8 ht8 ⟨rfl, hs8, _⟩
        have h87 := hs8 _ _ h67
        conv => whnf
        repeat (first | ((with_reducible apply Go.Vc.ldrow); (focus ((repeat (first | with_reducible assumption | with_reducible exact Go.Vc.hset_same _ _ _ | with_reducible refine (Go.Vc.hset_ne _ _ (by omega)).trans ?_)); done)); (focus exact rfl); rintro _ rfl; conv => whnf))
        refine (ref_spec a1 a2 a3).mono ?_
        rintro _ g9 t9 hd9 ht9 ⟨rfl, hs9, _⟩
        conv => whnf
        refine (rhashes_spec ((hsL.sub hs8).sub hs9) (by omega) hcl (fun z hz => by rw [hL z hz]; decide) a1 a2 a3).mono ?_
        rintro _ g10 t10 hd10 ht10 ⟨rfl, hs10, _⟩
        conv => whnf
        refine br_t rfl ?_
        conv => whnf
        exact ⟨by rw [opq_eq, decide_eq_true rfl], ((((gS3.trans hs5).trans hs6).trans hs8).trans hs9).trans hs10⟩
  · obtain ⟨y', hy'⟩ : ∃ y' : Int, y' = y := ⟨_, rfl⟩
    rw [← hy'] at *
    conv => whnf
    refine (ggrown_spec x y').mono ?_
    rintro _ g2 t2 hd2 ht2 ⟨aa, ca, rfl, hsa, hs2, _⟩
    conv => whnf
    refine (grgrown_spec x y').mono ?_
    rintro _ g3 t3 hd3 ht3 ⟨ab, cb, rfl, hsb, hs3, _⟩
    have hsa3 := hsa.sub hs3
    have h37 := hs3 _ _ (hs2 _ _ g7)
    have gS3 := (gS.trans hs2).trans hs3
    have hlen := GL_len x y'
    obtain ⟨l, hl⟩ : ∃ l, l = GL x y' := ⟨_, rfl⟩
    rw [← hl] at hsa3 hsb hlen ⊢
    clear hsa hs2 hs3
    conv => whnf
    repeat (first | (refine Go.Vc.br_f ?_ ?_; (focus omega); conv => whnf))
    refine loop_intro (fun (i : Nat) => [(7, .pointer (some ⟨r7, 0, none⟩)), (2, .int .u16 m), (9, .bool true), (10, .slice aa l.length ca), (11, .slice ab l.length cb), (12, .int .i64 (i : Nat))])
      (fun i h' t' => i ≤ l.length ∧ Vc.Sub g3 h' ∧ t3 ≤ t') (fun i => l.length - i) 0 ⟨rfl, rfl, rfl, rfl, rfl, rfl, trivial⟩ ⟨by omega, Vc.Sub.refl _, by omega⟩ ?_
    rintro i e5 g5 t5 hd5 ⟨hi, hs5, ht5⟩
    have h57 := hs5 _ _ h37
    conv => whnf
    refine br (fun hb1 => ?_) (fun hb1 => ?_)
    · conv => whnf
      have hil : i < l.length := by omega
      refine Go.Vc.draw_intro [⟨0, false, false, false, 0⟩, ⟨1, false, false, false, 0⟩, ⟨2, false, false, false, 3⟩, ⟨3, false, false, false, 7⟩, ⟨5, false, true, false, 0⟩, ⟨6, false, true, false, 0⟩, ⟨7, false, true, false, 96⟩, ⟨8, false, true, false, 224⟩, ⟨4, true, false, true, 15⟩, ⟨9, false, false, false, 511⟩] (hs := g5) (hsub := (Sub.refl _)) (hm := by kernel_rfl) (hpl := by kernel_rfl) ?_
      conv => whnf
      conv => whnf
      repeat (first | ((with_reducible refine And.intro (And.intro ?_ ?_) ?_); (focus omega); (focus omega); conv => whnf))
      refine (slW_ix (i := (i : Int)) (n := l.length) (hsa3.sub hs5) co_len (by decide) ⟨by omega, by omega⟩ ?_).2
      intro c bb off hc hal hrow
      rw [Int.toNat_natCast] at hc
      conv => whnf
      refine hrow.row (W := 3) rfl (by decide) ?_
      conv => whnf
      repeat (first | ((with_reducible refine And.intro (And.intro ?_ ?_) ?_); (focus omega); (focus omega); conv => whnf))
      refine (slW_ix (i := (i : Int)) (n := l.length) (hsb.sub hs5) co_len (by decide) ⟨by omega, by omega⟩ ?_).2
      intro c2 bb2 off2 hc2 hal2 hrow2
      rw [Int.toNat_natCast] at hc2
      obtain rfl : c = c2 := Option.some.inj (hc.symm.trans hc2)
      conv => whnf
      refine hrow2.row (W := 3) rfl (by decide) ?_
      conv => whnf
      refine (ref_spec c.1 (c.2.1 : Nat) (c.2.2 : Nat)).mono ?_
      rintro _ g6 t6 hd6 ht6 ⟨rfl, hs6, _⟩
      refine ⟨hs6, ?_⟩
      conv => whnf
      refine rco_ne ?_
      rw [decide_eq_true (p := c.1 = c.1 ∧ ((c.2.1 : Nat) : Int) = (c.2.1 : Nat) ∧ ((c.2.2 : Nat) : Int) = (c.2.2 : Nat)) ⟨rfl, rfl, rfl⟩]
      conv => whnf
      repeat (first | ((with_reducible apply Go.Vc.wr_i64); (focus exact And.intro (by omega) (by omega)); conv => whnf))
      exact round_end (i + 1) (by omega) ⟨rfl, rfl, rfl, rfl, rfl, rfl, trivial⟩ ⟨by omega, hs5.trans hs6, by omega⟩
    · obtain rfl : i = l.length := by omega
      obtain ⟨n, hn⟩ : ∃ n : Nat, m % 601 = (n : Int) := ⟨(m % 601).toNat, by omega⟩
      conv => whnf
      repeat (first | ((with_reducible apply Go.Vc.wr_i64); (focus exact And.intro (by omega) (by omega)); conv => whnf) | ((with_reducible apply Go.Vc.rem_i); (focus omega); conv => whnf) | ((with_reducible refine And.intro ?_ (And.intro ?_ ?_)); (focus exact rfl); (focus omega); conv => whnf))
      rw [hn]
      refine (list_spec n (by omega) _ (by decide)).mono ?_
      rintro _ g6 t6 hd6 ht6 ⟨al, cl, L, rfl, hoL, hwL, hL, hs6, _⟩
      have h67 := hs6 _ _ h57
      have hcl : n ≤ cl := by
        rcases hoL.2 with ⟨_, h1, _⟩ | ⟨_, _, _, _, _, h1, _⟩ <;> omega
      have hsL := hoL.sl
      conv => whnf
      repeat (first | ((with_reducible apply Go.Vc.ldrow); (focus ((repeat (first | with_reducible assumption | with_reducible exact Go.Vc.hset_same _ _ _ | with_reducible refine (Go.Vc.hset_ne _ _ (by omega)).trans ?_)); done)); (focus exact rfl); rintro _ rfl; conv => whnf))
      refine (hashes_spec hsL (by omega) hcl (fun z hz => by rw [hL z hz]; decide) (fun z hz => by rw [hL z hz]; decide) a1 a2 a3).mono ?_
      rintro _ g8 t8 hd8 ht8 ⟨rfl, hs8, _⟩
      have h87 := hs8 _ _ h67
      conv => whnf
      repeat (first | ((with_reducible apply Go.Vc.ldrow); (focus ((repeat (first | with_reducible assumption | with_reducible exact Go.Vc.hset_same _ _ _ | with_reducible refine (Go.Vc.hset_ne _ _ (by omega)).trans ?_)); done)); (focus exact rfl); rintro _ rfl; conv => whnf))
      refine (ref_spec a1 a2 a3).mono ?_
      rintro _ g9 t9 hd9 ht9 ⟨rfl, hs9, _⟩
      conv => whnf
      refine (rhashes_spec ((hsL.sub hs8).sub hs9) (by omega) hcl (fun z hz => by rw [hL z hz]; decide) a1 a2 a3).mono ?_
      rintro _ g10 t10 hd10 ht10 ⟨rfl, hs10, _⟩
      conv => whnf
      refine br_t rfl ?_
      conv => whnf
      exact ⟨by rw [opq_eq, decide_eq_true rfl], ((((gS3.trans hs5).trans hs6).trans hs8).trans hs9).trans hs10⟩
end Go.Proofs.YtlkpgjicpjjlcaaGreatDoor
