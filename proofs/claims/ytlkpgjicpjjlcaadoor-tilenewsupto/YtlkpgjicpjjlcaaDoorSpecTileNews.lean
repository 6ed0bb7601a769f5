/- The new tiles of a step are told once each. -/
import Derived.Test.YtlkpgjicpjjlcaaDoorTileMap
set_option linter.unusedSimpArgs false
namespace Go.Proofs.YtlkpgjicpjjlcaaDoor
open Go Go.Vc Go.Tile
set_option maxRecDepth 20000
set_option maxHeartbeats 4000000
set_option linter.unusedVariables false
theorem ref_spec {h : Heap} {t : Nat} (x y z : Int) : CallSpec Tryd.prog 10 #[.agg #[.int .i64 x, .int .i64 y, .int .i64 z]] h t (fun v h' t' => v = .agg #[.int .i64 x, .int .i64 y, .int .i64 z] ∧ Vc.Sub h h' ∧ t ≤ t') := by
  refine Go.Vc.spec_of_vc (fn := Tryd.f10) Tryd.func10 rfl (by kernel_rfl) (by kernel_rfl) (Nat.le_of_ble_eq_true rfl) ?_
  intro hd
  conv => whnf
  repeat (first | ((with_reducible apply Go.Vc.ldrow); (focus ((repeat (first | with_reducible assumption | with_reducible exact Go.Vc.hset_same _ _ _ | with_reducible refine (Go.Vc.hset_ne _ _ (by omega)).trans ?_)); done)); (focus exact rfl); rintro _ rfl; conv => whnf) | ((with_reducible apply Go.Vc.strow); (focus ((repeat (first | with_reducible assumption | with_reducible exact Go.Vc.hset_same _ _ _ | with_reducible refine (Go.Vc.hset_ne _ _ (by omega)).trans ?_)); done)); (focus exact rfl); (focus exact rfl); (focus exact rfl); rintro _ rfl; conv => whnf) | ((with_reducible apply Go.Vc.ld_i); (focus ((repeat (first | with_reducible assumption | with_reducible exact Go.Vc.hset_same _ _ _ | with_reducible refine (Go.Vc.hset_ne _ _ (by omega)).trans ?_)); done)); (focus exact rfl); conv => whnf) | (intro _ _; conv => whnf))
  refine ⟨rfl, ?_, by omega⟩
  intro b o hb
  have := hd _ _ hb
  repeat rw [hset_ne _ _ (by omega)]
  exact hb
theorem TileNews_spec {h : Heap} {t : Nat} (hM : MaxC h) (x : Int) (hx : 0 ≤ x ∧ x ≤ 4294967295) (y : Int) (hy : 0 ≤ y ∧ y ≤ 65535) :
    CallSpec Tryd.prog 4 #[.int .u32 x, .int .u16 y] h t (fun v h' _ => v = .bool true ∧ Vc.Sub h h') := by
  refine Go.Vc.spec_of_vc (fn := Tryd.f4) Tryd.func4 rfl (by kernel_rfl) (by kernel_rfl) (Nat.le_of_ble_eq_true rfl) ?_
  intro hd
  conv => whnf
  refine (examples_spec hM).mono ?_
  rintro _ g t1 hd1 ht1 ⟨rfl, hs1, _⟩
  conv => whnf
  repeat (first | ((with_reducible apply Go.Vc.wr_i64); (focus exact And.intro (by omega) (by omega)); conv => whnf) | ((with_reducible apply Go.Vc.rem_i); (focus omega); conv => whnf) | ((with_reducible refine And.intro ?_ (And.intro ?_ ?_)); (focus exact rfl); (focus omega); conv => whnf))
  obtain ⟨a, ha⟩ : ∃ a : Nat, x % 536870912 = (a : Int) := ⟨(x % 536870912).toNat, by omega⟩
  obtain ⟨b, hb⟩ : ∃ b : Nat, (a : Int) + y % 5001 = (b : Int) := ⟨((a : Int) + y % 5001).toNat, by omega⟩
  rw [ha, hb]
  have hab : a ≤ b := by omega
  have hbm : b ≤ 600000000 := by omega
  refine (grown_spec a b hab (by omega)).mono ?_
  rintro _ g2 t2 hd2 ht2 ⟨al, cl, rfl, hown, hwl, hs2, _⟩
  have hsl := hown.sl
  obtain ⟨l, hl⟩ : ∃ l, l = grownL a b := ⟨_, rfl⟩
  rw [← hl] at hsl ⊢
  have hll : l.length ≤ 100000000 := by
    have := grownTo_len (old := a) (n := b) (by omega) (k := 5) (by omega)
    rw [hl]
    exact Nat.le_trans this (by omega)
  have hS2 := hs1.trans hs2
  conv => whnf
  repeat (first | (intro _ _; conv => whnf))
  rename_i rm hrm
  refine loop_intro2 (fun (i : Nat) (o : Obj) => [(5, .bool true), (6, .int .i64 (a : Nat)), (7, .int .i64 (b : Nat)), (8, .slice al l.length cl), (9, .map (some rm)), (10, .int .i64 (i : Nat))])
    (fun i o h' t' => i ≤ l.length ∧ h' rm = some o ∧ MapC o (l.take i) ∧ Vc.Sub g2 h' ∧ rm < t') (fun i _ => l.length - i) 0 (.map #[] 0) ⟨rfl, rfl, rfl, rfl, rfl, rfl, trivial⟩
    ⟨by omega, hset_same _ _ _, ⟨_, _, rfl, rfl⟩, hd2.sub_new hrm _, by omega⟩ ?_
  rintro i o e3 g3 t3 hd3 ⟨hi, hmo, hmc, hs3, ht3⟩
  conv => whnf
  refine br (fun h1 => ?_) (fun h1 => ?_)
  · have hil : i < l.length := by omega
    conv => whnf
    repeat (first | ((with_reducible refine And.intro (And.intro ?_ ?_) ?_); (focus omega); (focus omega); conv => whnf))
    refine (slW_ix (i := (i : Int)) (n := l.length) (hsl.sub hs3) co_len (by decide) ⟨by omega, by omega⟩ ?_).2
    intro c bb off hc hal hrow
    rw [Int.toNat_natCast] at hc
    conv => whnf
    refine hrow.row rfl (by decide) ?_
    conv => whnf
    repeat (first | ((with_reducible apply Go.Vc.strow); (focus ((repeat (first | with_reducible assumption | with_reducible exact Go.Vc.hset_same _ _ _ | with_reducible refine (Go.Vc.hset_ne _ _ (by omega)).trans ?_)); done)); (focus exact rfl); (focus exact rfl); (focus exact rfl); rintro _ rfl; conv => whnf) | (intro _ _; conv => whnf))
    rename_i r11 hr11
    obtain ⟨m1, m2, m3, m4, m5, m6⟩ := grown_mem hab (hl ▸ List.mem_of_getElem? hc)
    have hnew : c ∉ l.take i := by
      intro hm
      obtain ⟨j, hj, hjc⟩ := List.mem_iff_getElem.1 hm
      rw [List.length_take] at hj
      rw [List.getElem_take] at hjc
      refine grown_nodup (old := a) (n := b) (j := j) (i := i) (x := c) (by omega) ?_ (by rw [← hl]; exact hc)
      rw [← hl, List.getElem?_eq_getElem (by omega), hjc]
    obtain ⟨lv, ix, wd⟩ := c
    dsimp only at m1 m2 m3 m4 m5 m6
    have hS1 : 1 ≤ Tile.sizeOf lv := Nat.one_le_pow _ _ (by decide)
    have hE : ix * 256 + wd ≤ (ix * 256 + wd) * Tile.sizeOf lv := Nat.le_mul_of_pos_right _ hS1
    refine loop_intro (fun (k : Nat) => [(5, .bool true), (6, .int .i64 (a : Nat)), (7, .int .i64 (b : Nat)), (8, .slice al l.length cl), (9, .map (some rm)), (10, .int .i64 (i : Nat)), (11, .pointer (some ⟨r11, 0, none⟩)), (12, .int .i64 ((256 ^ k : Nat) : Int)), (13, .int .i64 (k : Nat))])
      (fun k h' t' => k ≤ lv.toNat ∧ h' r11 = some (.cells #[.int .i64 lv, .int .i64 (ix : Nat), .int .i64 (wd : Nat)] 23 (0, 0)) ∧ h' rm = some o ∧ Vc.Sub g2 h' ∧ r11 < t') (fun k => lv.toNat - k) 0 ⟨rfl, rfl, rfl, rfl, rfl, rfl, rfl, rfl, rfl, trivial⟩
      ⟨by omega, (hset_same _ _ _).trans rfl, by rw [hset_ne _ _ (by omega), hset_ne _ _ (by omega)]; exact hmo, ?_, by omega⟩ ?_
    · intro q z hz
      have h1 := hs3 _ _ hz
      have h2 := hd2 _ _ hz
      rw [hset_ne _ _ (by omega), hset_ne _ _ (by omega)]
      exact h1
    rintro k e4 g4 t4 hd4 ⟨hk, h11, hmo4, hs4, ht4⟩
    conv => whnf
    repeat (first | ((with_reducible apply Go.Vc.ld_i); (focus ((repeat (first | with_reducible assumption | with_reducible exact Go.Vc.hset_same _ _ _ | with_reducible refine (Go.Vc.hset_ne _ _ (by omega)).trans ?_)); done)); (focus exact rfl); conv => whnf))
    refine br (fun h2 => ?_) (fun h2 => ?_)
    · have hp : 256 ^ k ≤ 65536 := Nat.le_trans (Nat.pow_le_pow_right (by decide) (show k ≤ 2 by omega)) (by decide)
      have hps : 256 ^ (k + 1) = 256 ^ k * 256 := Nat.pow_succ _ _
      generalize 256 ^ k = pk at hp hps ⊢
      conv => whnf
      repeat (first | ((with_reducible apply Go.Vc.wr_i64); (focus exact And.intro (by omega) (by omega)); conv => whnf))
      refine round_end (k + 1) (by omega) ⟨rfl, rfl, rfl, rfl, rfl, rfl, rfl, ?_, rfl, trivial⟩ ⟨by omega, h11, hmo4, hs4, ht4⟩
      rw [hps]
      rfl
    · obtain rfl : k = lv.toNat := by omega
      rw [show 256 ^ lv.toNat = Tile.sizeOf lv from rfl]
      generalize Tile.sizeOf lv = S at hS1 hE m5 m6 ⊢
      have p1 : (a : Int) < ((ix : Int) * 256 + (wd : Int)) * (S : Int) := by
        have := Int.ofNat_lt.2 m5
        push_cast at this
        exact this
      have p2 : ((ix : Int) * 256 + (wd : Int)) * (S : Int) ≤ (b : Int) := by
        have := Int.ofNat_le.2 m6
        push_cast at this
        exact this
      conv => whnf
      repeat (first | ((with_reducible apply Go.Vc.ldrow); (focus ((repeat (first | with_reducible assumption | with_reducible exact Go.Vc.hset_same _ _ _ | with_reducible refine (Go.Vc.hset_ne _ _ (by omega)).trans ?_)); done)); (focus exact rfl); rintro _ rfl; conv => whnf) | ((with_reducible apply Go.Vc.ld_i); (focus ((repeat (first | with_reducible assumption | with_reducible exact Go.Vc.hset_same _ _ _ | with_reducible refine (Go.Vc.hset_ne _ _ (by omega)).trans ?_)); done)); (focus exact rfl); conv => whnf) | ((with_reducible apply Go.Vc.wr_i64); (focus exact And.intro (by omega) (by omega)); conv => whnf))
      refine look_co (c := (lv, ix, wd)) hmo4 hmc hnew ?_
      conv => whnf
      repeat (first | ((with_reducible apply Go.Vc.ldrow); (focus ((repeat (first | with_reducible assumption | with_reducible exact Go.Vc.hset_same _ _ _ | with_reducible refine (Go.Vc.hset_ne _ _ (by omega)).trans ?_)); done)); (focus exact rfl); rintro _ rfl; conv => whnf) | ((with_reducible apply Go.Vc.ld_i); (focus ((repeat (first | with_reducible assumption | with_reducible exact Go.Vc.hset_same _ _ _ | with_reducible refine (Go.Vc.hset_ne _ _ (by omega)).trans ?_)); done)); (focus exact rfl); conv => whnf) | ((with_reducible apply Go.Vc.wr_i64); (focus exact And.intro (by omega) (by omega)); conv => whnf) | (refine Go.Vc.br_f ?_ ?_; (focus omega); conv => whnf))
      refine up_co (c := (lv, ix, wd)) hmo4 hmc hnew ?_
      intro o2 hmc2 hnc2
      have h11b : (hset g4 rm o2) r11 = some (.cells #[.int .i64 lv, .int .i64 (ix : Nat), .int .i64 (wd : Nat)] 23 (0, 0)) := by
        rw [hset_ne _ _ (by omega)]
        exact h11
      have hsb : Vc.Sub g2 (hset g4 rm o2) := fun q z hz => by
        have := hd2 _ _ hz
        rw [hset_ne _ _ (by omega)]
        exact hs4 _ _ hz
      have hslb := hsl.sub hsb
      have hmob : (hset g4 rm o2) rm = some o2 := hset_same _ _ _
      have hdb : Dom (hset g4 rm o2) t4 := hd4.set rm o2 t4 (Nat.le_refl _) (by omega)
      have htk : l.take (i + 1) = l.take i ++ [(lv, ix, wd)] := by
        rw [List.take_succ_eq_append_getElem hil]
        rw [List.getElem?_eq_getElem hil] at hc
        rw [Option.some.inj hc]
      rw [← htk] at hmc2
      generalize hset g4 rm o2 = g5 at h11b hsb hslb hmob hdb ⊢
      conv => whnf
      refine Go.Vc.draw_intro [⟨0, false, false, false, 0⟩, ⟨1, false, false, false, 1⟩, ⟨2, false, false, false, 3⟩, ⟨3, false, false, false, 7⟩, ⟨4, false, false, false, 15⟩, ⟨5, false, false, false, 7⟩, ⟨6, false, false, false, 7⟩, ⟨7, false, false, false, 71⟩, ⟨8, false, false, false, 231⟩, ⟨9, false, false, false, 487⟩, ⟨10, false, false, false, 999⟩, ⟨11, false, false, false, 2047⟩, ⟨12, false, false, false, 4095⟩, ⟨13, false, false, false, 8191⟩, ⟨14, false, false, false, 16383⟩, ⟨15, false, false, false, 32767⟩, ⟨16, false, false, false, 16383⟩, ⟨17, false, false, false, 16383⟩, ⟨18, false, false, false, 147455⟩, ⟨19, false, false, false, 475135⟩, ⟨20, false, false, false, 999423⟩, ⟨21, false, false, false, 2047999⟩, ⟨22, false, false, false, 4145151⟩, ⟨23, false, false, false, 8388607⟩, ⟨24, false, false, false, 16777215⟩] (hs := g5) (hsub := (Sub.refl _)) (hm := by kernel_rfl) (hpl := by kernel_rfl) ?_
      conv => whnf
      by_cases hi0 : i = 0
      · subst hi0
        conv => whnf
        repeat (first | ((with_reducible apply Go.Vc.wr_i64); (focus exact And.intro (by omega) (by omega)); conv => whnf) | (refine Go.Vc.br_f ?_ ?_; (focus omega); conv => whnf))
        exact round_end2 1 o2 (by omega) ⟨rfl, rfl, rfl, rfl, rfl, rfl, trivial⟩ ⟨by omega, hmob, hmc2, hsb, by omega⟩
      · have hi1 : ((i : Int) - 1).toNat = i - 1 := by omega
        conv => whnf
        repeat (first | ((with_reducible refine And.intro (And.intro ?_ ?_) ?_); (focus omega); (focus omega); conv => whnf) | ((with_reducible apply Go.Vc.ld_i); (focus ((repeat (first | with_reducible assumption | with_reducible exact Go.Vc.hset_same _ _ _ | with_reducible refine (Go.Vc.hset_ne _ _ (by omega)).trans ?_)); done)); (focus exact rfl); conv => whnf) | ((with_reducible apply Go.Vc.wr_i64); (focus exact And.intro (by omega) (by omega)); conv => whnf) | (refine Go.Vc.br_t ?_ ?_; (focus omega); conv => whnf))
        refine (slW_ix (i := (i : Int) - 1) (n := l.length) hslb co_len (by decide) ⟨by omega, by omega⟩ ?_).2
        intro cp bp offp hcp halp hrowp
        rw [hi1] at hcp
        have hstep : lv = cp.1 → ix = cp.2.1 + 1 := by
          intro e
          have := grown_step a b (i - 1) i cp (lv, ix, wd) (by omega) (by rw [← hl]; exact hcp) (by rw [← hl]; exact hc) e.symm
          dsimp only at this
          omega
        conv => whnf
        refine cell_i (hrowp.cell0 rfl) ?_
        conv => whnf
        refine br (fun q1 => ?_) (fun q1 => ?_)
        · have hix := hstep q1
          conv => whnf
          repeat (first | ((with_reducible refine And.intro (And.intro ?_ ?_) ?_); (focus omega); (focus omega); conv => whnf) | ((with_reducible apply Go.Vc.ld_i); (focus ((repeat (first | with_reducible assumption | with_reducible exact Go.Vc.hset_same _ _ _ | with_reducible refine (Go.Vc.hset_ne _ _ (by omega)).trans ?_)); done)); (focus exact rfl); conv => whnf) | ((with_reducible apply Go.Vc.wr_i64); (focus exact And.intro (by omega) (by omega)); conv => whnf))
          refine (slW_ix (i := (i : Int) - 1) (n := l.length) hslb co_len (by decide) ⟨by omega, by omega⟩ ?_).2
          intro cq bq offq hcq halq hrowq
          rw [hi1] at hcq
          obtain rfl : cp = cq := Option.some.inj (hcp.symm.trans hcq)
          conv => whnf
          refine cell_i (hrowq.cell (j := 1) rfl) ?_
          conv => whnf
          repeat (first | ((with_reducible apply Go.Vc.wr_i64); (focus exact And.intro (by omega) (by omega)); conv => whnf) | (refine Go.Vc.br_f ?_ ?_; (focus omega); conv => whnf))
          exact round_end2 (i + 1) o2 (by omega) ⟨rfl, rfl, rfl, rfl, rfl, rfl, trivial⟩ ⟨by omega, hmob, hmc2, hsb, by omega⟩
        · conv => whnf
          repeat (first | ((with_reducible apply Go.Vc.wr_i64); (focus exact And.intro (by omega) (by omega)); conv => whnf))
          exact round_end2 (i + 1) o2 (by omega) ⟨rfl, rfl, rfl, rfl, rfl, rfl, trivial⟩ ⟨by omega, hmob, hmc2, hsb, by omega⟩
  · obtain rfl : i = l.length := by omega
    conv => whnf
    repeat (first | ((with_reducible apply Go.Vc.strow); (focus ((repeat (first | with_reducible assumption | with_reducible exact Go.Vc.hset_same _ _ _ | with_reducible refine (Go.Vc.hset_ne _ _ (by omega)).trans ?_)); done)); (focus exact rfl); (focus exact rfl); (focus exact rfl); rintro _ rfl; conv => whnf) | (intro _ _; conv => whnf))
    rename_i r15 hr15
    have hSg : Vc.Sub h g3 := hS2.trans hs3
    refine br (fun h2 => ?_) (fun h2 => ?_)
    · conv => whnf
      repeat (first | ((with_reducible refine And.intro (And.intro ?_ ?_) ?_); (focus omega); (focus omega); conv => whnf) | ((with_reducible apply Go.Vc.wr_i64); (focus exact And.intro (by omega) (by omega)); conv => whnf))
      refine (slW_ix (i := (l.length : Int) - 1) (n := l.length) (hsl.sub hs3) co_len (by decide) ⟨by omega, by omega⟩ ?_).2
      intro cp bp offp hcp halp hrowp
      conv => whnf
      refine (hrowp.mono (fun z hz => by
        have := hd3 _ _ hz
        rw [hset_ne _ _ (by omega), hset_ne _ _ (by omega)]
        exact hz)).row (W := 3) rfl (by decide) ?_
      conv => whnf
      refine (ref_spec cp.1 (cp.2.1 : Nat) (cp.2.2 : Nat)).mono ?_
      rintro _ g7 t7 hd7 ht7 ⟨rfl, hs7, _⟩
      have h15 := hs7 _ _ (hset_same _ _ _)
      have hcp1 : cp.1 = -1 := by
        obtain ⟨l', z, e, hz⟩ := grown_last (show a < b by
          apply Classical.byContradiction
          intro hne
          obtain rfl : a = b := by omega
          rw [hl, grown_nil] at h2
          exact absurd h2 (by decide))
        rw [show ((l.length : Int) - 1).toNat = l'.length by rw [hl, e]; simp, hl, e, List.getElem?_append_right (Nat.le_refl _)] at hcp
        simp at hcp
        rw [← hcp]
        exact hz
      have hab1 : ¬ a = b := by
        rintro rfl
        rw [hl, grown_nil] at h2
        exact absurd h2 (by decide)
      conv => whnf
      repeat (first | ((with_reducible apply Go.Vc.strow); (focus ((repeat (first | with_reducible assumption | with_reducible exact Go.Vc.hset_same _ _ _ | with_reducible refine (Go.Vc.hset_ne _ _ (by omega)).trans ?_)); done)); (focus exact rfl); (focus exact rfl); (focus exact rfl); rintro _ rfl; conv => whnf))
      refine bsel_t (by rw [opq_eq, opq_eq, beq_iff_eq, decide_eq_decide]; omega) ?_
      conv => whnf
      repeat (first | ((with_reducible apply Go.Vc.ld_i); (focus ((repeat (first | with_reducible assumption | with_reducible exact Go.Vc.hset_same _ _ _ | with_reducible refine (Go.Vc.hset_ne _ _ (by omega)).trans ?_)); done)); (focus exact rfl); conv => whnf) | ((with_reducible apply Go.Vc.wr_i64); (focus exact And.intro (by omega) (by omega)); conv => whnf) | (refine Go.Vc.br_t ?_ ?_; (focus omega); conv => whnf) | (refine Go.Vc.br_f ?_ ?_; (focus omega); conv => whnf))
      refine (grown_no _ _ (by omega)).mono ?_
      rintro _ g8 t8 hd8 ht8 ⟨rfl, hs8, _⟩
      conv => whnf
      refine ⟨?_, fun q z hz => hs8 _ _ (by
        have h1 := hSg _ _ hz
        have h2 := hd3 _ _ h1
        rw [hset_ne _ _ (by omega)]
        refine hs7 _ _ ?_
        repeat rw [hset_ne _ _ (by omega)]
        exact h1)⟩
      rw [opq_eq]
      rfl
    · have hl0 : l.length = 0 := by omega
      have hab0 : a = b := by
        apply Classical.byContradiction
        intro hne
        obtain ⟨l', c', e, _⟩ := grown_last (show a < b by omega)
        rw [hl, e] at hl0
        simp at hl0
      conv => whnf
      refine bsel_t (by rw [opq_eq, opq_eq, beq_iff_eq, decide_eq_decide]; omega) ?_
      conv => whnf
      repeat (first | ((with_reducible apply Go.Vc.wr_i64); (focus exact And.intro (by omega) (by omega)); conv => whnf) | (refine Go.Vc.br_t ?_ ?_; (focus omega); conv => whnf))
      refine (grown_no _ _ (by omega)).mono ?_
      rintro _ g8 t8 hd8 ht8 ⟨rfl, hs8, _⟩
      conv => whnf
      refine ⟨?_, fun q z hz => hs8 _ _ (by
        have h1 := hSg _ _ hz
        have h2 := hd3 _ _ h1
        repeat rw [hset_ne _ _ (by omega)]
        exact h1)⟩
      rw [opq_eq]
      rfl
end Go.Proofs.YtlkpgjicpjjlcaaDoor
