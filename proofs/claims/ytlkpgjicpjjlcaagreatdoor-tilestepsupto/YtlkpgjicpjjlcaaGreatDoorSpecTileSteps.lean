import Derived.Test.YtlkpgjicpjjlcaaGreatDoorTileTAll
import Derived.Test.YtlkpgjicpjjlcaaGreatDoorTileSt
import Derived.Test.YtlkpgjicpjjlcaaGreatDoorTileList
/- A tree that grows step by step has all tiles that it needs. -/
set_option linter.unusedVariables false
set_option linter.unusedSimpArgs false
namespace Go.Proofs.YtlkpgjicpjjlcaaGreatDoor
open Go Go.Vc Go.Tile Go.Sha Go.Mk
set_option maxRecDepth 20000
set_option maxHeartbeats 4000000
set_option linter.unusedVariables false
theorem cut30 (s : ByteArray) : ∃ x : ByteArray, s.extract 0 (if (30 : Int) < (s.size : Int) then (30 : Int) else (s.size : Int)).toNat = x ∧ x.size ≤ 30 := by
  refine ⟨_, rfl, ?_⟩
  rw [ByteArray.size_extract]
  split <;> omega
/-- What is laid down in the midst of a step. -/
def HasF (D : List (ByteArray × ByteArray)) (A : List ByteArray) (n N i : Nat) : Prop :=
  ∀ q k : Nat, q < 4 → k * 256 < N / 256 ^ q → ((k * 256 < n / 256 ^ q ∧ tileW n q k = tileW N q k) ∨ ∃ j, j < i ∧ (grownL n N)[j]? = some ((q : Int), k, tileW N q k)) →
    gGet D (pathS (q : Nat) (k : Nat) (tileW N q k : Nat)) = some ⟨(hashS A (256 ^ q) (k * 256) (tileW N q k)).toArray⟩
theorem HasF.start {D : List (ByteArray × ByteArray)} {A : List ByteArray} {n : Nat} (h : Has D A n) (N : Nat) : HasF D A n N 0 := by
  intro q k hq hk hb
  rcases hb with ⟨h1, h2⟩ | ⟨j, hj, _⟩
  · rw [← h2]
    exact h q k hq h1
  · omega
theorem HasF.skip {D : List (ByteArray × ByteArray)} {A : List ByteArray} {n N i : Nat} (h : HasF D A n N i) {c : Co} (hc : (grownL n N)[i]? = some c) (hlv : c.1 < 0) : HasF D A n N (i + 1) := by
  intro q k hq hk hb
  refine h q k hq hk ?_
  rcases hb with hb | ⟨j, hj, hjc⟩
  · exact .inl hb
  · refine .inr ⟨j, ?_, hjc⟩
    by_cases e : j = i
    · subst e
      rw [hc] at hjc
      cases hjc
      dsimp only at hlv
      omega
    · omega
theorem HasF.put {D : List (ByteArray × ByteArray)} {A : List ByteArray} {n N i : Nat} (h : HasF D A n N i) (hN : N ≤ 65536) {lv : Int} {ix wd : Nat} (hc : (grownL n N)[i]? = some (lv, ix, wd)) (hR : RightC lv (ix : Nat) (wd : Nat)) (hlv : 0 ≤ lv) :
    HasF (gPut D (pathS lv (ix : Nat) (wd : Nat)) ⟨(hashS A (Tile.sizeOf lv) (ix * 256) wd).toArray⟩) A n N (i + 1) := by
  intro q k hq hk hb
  rw [gGet_put]
  by_cases he : pathS (q : Nat) (k : Nat) (tileW N q k : Nat) = pathS lv (ix : Nat) (wd : Nat)
  · obtain ⟨e1, e2, e3⟩ := pathS_inj (tile_ok hN hq hk) hR he
    obtain rfl : k = ix := by omega
    have e4 : tileW N q k = wd := by omega
    rw [if_pos he, ← e1, e4]
    unfold Tile.sizeOf
    rw [Int.toNat_natCast]
  · rw [if_neg he]
    refine h q k hq hk ?_
    rcases hb with hb | ⟨j, hj, hjc⟩
    · exact .inl hb
    · refine .inr ⟨j, ?_, hjc⟩
      by_cases e : j = i
      · subst e
        rw [hc] at hjc
        cases hjc
        exact absurd rfl he
      · omega
theorem HasF.fin {D : List (ByteArray × ByteArray)} {A : List ByteArray} {n N i : Nat} (h : HasF D A n N i) (hnN : n ≤ N) (hi : (grownL n N).length ≤ i) : Has D A N := by
  intro q k hq hk
  refine h q k hq hk ?_
  have hdv : n / 256 ^ q ≤ N / 256 ^ q := Nat.div_le_div_right hnN
  by_cases hw : n / 256 ^ q = N / 256 ^ q
  · refine .inl ⟨by omega, ?_⟩
    unfold tileW
    rw [hw]
  · by_cases hkw : k < n / 256 ^ q / 256
    · refine .inl ⟨by omega, ?_⟩
      unfold tileW
      omega
    · refine .inr ?_
      have hmem : ((q : Int), k, tileW N q k) ∈ grownL n N := by
        unfold grownL
        rw [List.mem_flatMap]
        refine ⟨((q : Int), 256 ^ q), ?_, ?_⟩
        · rcases (show q = 0 ∨ q = 1 ∨ q = 2 ∨ q = 3 by omega) with rfl | rfl | rfl | rfl <;> decide
        · unfold Tile.gAt
          rw [List.mem_map]
          refine ⟨k - n / 256 ^ q / 256, ?_, ?_⟩
          · rw [List.mem_range]
            unfold gCnt
            rw [if_neg hw]
            dsimp only
            omega
          · unfold gOne tileW
            dsimp only
            rw [show n / 256 ^ q / 256 + (k - n / 256 ^ q / 256) = k by omega]
      obtain ⟨j, hj⟩ := List.mem_iff_getElem?.1 hmem
      refine ⟨j, ?_, hj⟩
      have := (List.getElem?_eq_some_iff.1 hj).1
      omega
theorem hashS_take {A : List ByteArray} {N z f w : Nat} (hm : (f + w) * z ≤ N) : hashS (A.take N) z f w = hashS A z f w := by
  unfold hashS
  have key : ∀ j, j < w → partR (A.take N) z (f + j) = partR A z (f + j) := by
    intro j hj
    unfold partR
    have : (f + j) * z + z ≤ N := by
      rw [← Nat.succ_mul]
      exact Nat.le_trans (Nat.mul_le_mul_right _ (by omega)) hm
    rw [List.drop_take, List.take_take, Nat.min_eq_left (by omega)]
  rw [List.flatMap_def, List.flatMap_def]
  congr 1
  apply List.map_congr_left
  intro j hj
  rw [List.mem_range] at hj
  exact key j hj
theorem hide1 (g : Heap) (r : Nat) : ∃ H0 : Heap, (∀ b o, g b = some o → b ≠ r → H0 b = some o) ∧ Vc.Sub H0 g ∧ ∀ b o, H0 b = some o → b ≠ r := by
  refine ⟨fun k => if k = r then none else g k, ?_, ?_, ?_⟩
  · intro b o hb hn
    show (if b = r then none else g b) = some o
    rw [if_neg hn]
    exact hb
  · intro b o hb
    replace hb : (if b = r then none else g b) = some o := hb
    split at hb
    · cases hb
    · exact hb
  · intro b o hb e
    replace hb : (if b = r then none else g b) = some o := hb
    rw [if_pos e] at hb
    cases hb
theorem sub_hset {H0 g : Heap} {r : Nat} {o : Obj} (hs : Vc.Sub H0 g) (hr : ∀ b o, H0 b = some o → b ≠ r) : Vc.Sub H0 (hset g r o) := fun b x hb => by
  rw [hset_ne _ _ (hr b x hb)]
  exact hs b x hb
theorem TileSteps_spec {h : Heap} {t : Nat} (hM : MaxC h) (a0 : Option Addr) (n0 c0 : Nat) (l0 : List Int) (s0 : Sl h a0 n0 (Value.int .u8) l0) (hn0 : n0 ≤ 1048576) (hc0 : n0 ≤ c0) (hb0 : ∀ z ∈ l0, IntKind.min .u8 ≤ z ∧ z ≤ IntKind.max .u8) (s : ByteArray) (hs : s.size ≤ 1048576) :
    CallSpec Tryz.prog 5 #[.slice a0 n0 c0, .string s] h t (fun v h' _ => v = .bool true ∧ Vc.Sub h h') := by
  have hll := s0.1
  have hb0 : ∀ z ∈ l0, 0 ≤ z ∧ z ≤ 255 := hb0
  refine Go.Vc.spec_of_vc (fn := Tryz.f5) Tryz.func5 rfl (by kernel_rfl) (by kernel_rfl) (Nat.le_of_ble_eq_true rfl) ?_
  intro hd
  conv => whnf
  refine (examples_spec hM).mono ?_
  rintro _ g1 t1 hd1 ht1 ⟨rfl, hs1, _⟩
  conv => whnf
  repeat (first | ((with_reducible refine And.intro (And.intro ?_ ?_) ?_); (focus omega); (focus omega); conv => whnf) | (intro _ _; conv => whnf))
  rename_i rm hrm
  have hsm := hd1.sub_new hrm (.map #[] 0)
  have hmm : (hset g1 rm (.map #[] 0)) rm = some (.map #[] 0) := hset_same _ _ _
  have hdm : Dom (hset g1 rm (.map #[] 0)) (rm + 1) := hd1.set rm _ (rm + 1) (by omega) (by omega)
  generalize hset g1 rm (.map #[] 0) = g1m at *
  obtain ⟨s', hs', hs30⟩ := cut30 s
  rw [hs']
  refine (list_spec 1600 (by omega) s' hs30).mono ?_
  rintro _ g2 t2 hd2 ht2 ⟨a2, c2, A, rfl, o2, hw2, hL32, hs2, _⟩
  have hAl : A.length = 1600 := o2.1
  have hcap := o2.cap
  have hmm2 := hs2 _ _ hmm
  obtain ⟨H0, k0, k1, k2⟩ := hide1 g2 rm
  have S0 : Vc.Sub h H0 := fun b o hb => by
    have := hd _ _ hb
    exact k0 b o (hs2 _ _ (hsm _ _ (hs1 _ _ hb))) (by omega)
  have sl0 := s0.sub S0
  have sA : Sl H0 a2 1600 Value.string A := (o2.fr (fun b x hb hx => k0 b x hx (by have := hw2 b hb; omega))).sl
  conv => whnf
  refine loop_intro4 (fun (i n : Nat) (D : List (ByteArray × ByteArray)) (o : Obj) => [(0, .slice a0 n0 c0), (5, .bool true), (6, .map (some rm)), (7, .int .i64 (n : Nat)), (8, .slice a2 1600 c2), (9, .int .i64 (i : Nat))])
    (fun i n D o h' t' => i ≤ n0 ∧ i ≤ 8 ∧ n ≤ 199 * i ∧ rm < t' ∧ h' rm = some o ∧ MapG o Value.string Value.string D ∧ Has D A n ∧ Vc.Sub H0 h') (fun i _ _ _ => 8 - i) 0 0 [] (.map #[] 0) ⟨rfl, rfl, rfl, rfl, rfl, rfl, trivial⟩
    ⟨by omega, by omega, by omega, by omega, hmm2, mapg_new _ _, ?_, k1⟩ ?_
  · intro q k hq hk
    rw [Nat.zero_div] at hk
    omega
  rintro i n D o e3 g3 t3 hd3 ⟨hi, hi8, hn, ht3, hmo, hmg, hH, S3⟩
  by_cases hc1 : i < n0
  · by_cases hc2 : i < 8
    · have sl3 := sl0.sub S3
      conv => whnf
      repeat (first | ((with_reducible apply Go.Vc.sl_ix); (focus with_reducible assumption); (focus exact And.intro (by omega) (by omega)); intro xI bI offI hxI hcI; conv => whnf) | ((with_reducible apply Go.Vc.cell_i); (focus assumption); conv => whnf) | (refine Go.Vc.br_t ?_ ?_; (focus omega); conv => whnf) | ((with_reducible refine And.intro ?_ (And.intro ?_ ?_)); (focus exact rfl); (focus omega); conv => whnf))
      have hxb := hb0 xI (List.mem_of_getElem? hxI)
      refine ⟨xI % 200, (Int.tmod_eq_emod_of_nonneg (by omega)).symm, ?_⟩
      conv => whnf
      repeat (first | ((with_reducible apply Go.Vc.wr_i64); (focus exact And.intro (by omega) (by omega)); conv => whnf))
      obtain ⟨X, hX⟩ : ∃ X : Nat, (n : Int) + xI % 200 = X := ⟨((n : Int) + xI % 200).toNat, by omega⟩
      rw [hX]
      have hnX : n ≤ X := by omega
      have hX8 : X ≤ 199 * (i + 1) := by omega
      conv => whnf
      refine (grown_spec n X hnX (by omega)).mono ?_
      rintro _ g4 t4 hd4 ht4 ⟨ag, cg, rfl, hown, hwl, hs4, _⟩
      obtain ⟨H1, j0, j1, j2⟩ := hide1 g4 rm
      have S1 : Vc.Sub H0 H1 := fun b x hb => j0 b x (hs4 _ _ (S3 _ _ hb)) (k2 b x hb)
      have hsl : Sl H1 ag ((grownL n X).length * 3) id ((grownL n X).flatMap co) := (hown.fr (fun b x hb hx => j0 b x hx (by have := hwl b hb; omega))).sl
      have hmo4 := hs4 _ _ hmo
      have hglen : (grownL n X).length ≤ 100000000 := by
        have := grownTo_len (old := n) (n := X) (by omega) (k := 5) (by omega)
        exact Nat.le_trans this (by omega)
      have hmemG : ∀ c ∈ grownL n X, _ := fun c hc => grown_mem hnX hc
      have hfin : ∀ {D : List (ByteArray × ByteArray)} {i : Nat}, HasF D A n X i → (grownL n X).length ≤ i → Has D A X := fun h hi => h.fin hnX hi
      have sl1 := sl0.sub S1
      have sA1 := sA.sub S1
      conv => whnf
      refine loop_intro3 (fun (k : Nat) (D : List (ByteArray × ByteArray)) (o : Obj) => [(0, .slice a0 n0 c0), (5, .bool true), (6, .map (some rm)), (7, .int .i64 (n : Nat)), (8, .slice a2 1600 c2), (9, .int .i64 (i : Nat)), (10, .int .i64 (X : Nat)), (11, .slice ag (grownL n X).length cg), (12, .int .i64 (k : Nat))])
        (fun k D o h' t' => k ≤ (grownL n X).length ∧ rm < t' ∧ h' rm = some o ∧ MapG o Value.string Value.string D ∧ HasF D A n X k ∧ Vc.Sub H1 h') (fun k _ _ => (grownL n X).length - k) 0 D o ⟨rfl, rfl, rfl, rfl, rfl, rfl, rfl, rfl, rfl, trivial⟩
        ⟨by omega, by omega, hmo4, hmg, HasF.start hH X, j1⟩ ?_
      rintro k D5 o5 e5 g5 t5 hd5 ⟨hk, ht5, hmo5, hmg5, hH5, S5⟩
      conv => whnf
      refine br (fun hb2 => ?_) (fun hb2 => ?_)
      · have hkl : k < (grownL n X).length := by omega
        conv => whnf
        repeat (first | ((with_reducible refine And.intro (And.intro ?_ ?_) ?_); (focus omega); (focus omega); conv => whnf))
        refine (slW_ix (i := (k : Int)) (n := (grownL n X).length) (hsl.sub S5) co_len (by decide) ⟨by omega, by omega⟩ ?_).2
        intro c bb off hc hal hrow
        rw [Int.toNat_natCast] at hc
        obtain ⟨lv, ix, wd⟩ := c
        have hcm := hmemG _ (List.mem_of_getElem? hc)
        dsimp only at hcm
        obtain ⟨m1, m2, m3, m4, m5, m6⟩ := hcm
        conv => whnf
        refine cell_i (hrow.cell0 rfl) ?_
        conv => whnf
        refine br (fun hb3 => ?_) (fun hb3 => ?_)
        · conv => whnf
          repeat (first | ((with_reducible apply Go.Vc.wr_i64); (focus exact And.intro (by omega) (by omega)); conv => whnf))
          exact round_end3 (k + 1) D5 o5 (by omega) ⟨rfl, rfl, rfl, rfl, rfl, rfl, rfl, rfl, rfl, trivial⟩ ⟨by omega, ht5, hmo5, hmg5, hH5.skip hc (by omega), S5⟩
        · have hsz1 : 1 ≤ Tile.sizeOf lv := Nat.one_le_pow _ _ (by decide)
          have hixle : ix * 256 + wd ≤ X := Nat.le_trans (Nat.le_mul_of_pos_right _ hsz1) m6
          have hR : RightC lv (ix : Nat) (wd : Nat) := by
            unfold RightC
            omega
          conv => whnf
          repeat (first | ((with_reducible refine And.intro (And.intro ?_ ?_) ?_); (focus omega); (focus omega); conv => whnf))
          refine (slW_ix (i := (k : Int)) (n := (grownL n X).length) (hsl.sub S5) co_len (by decide) ⟨by omega, by omega⟩ ?_).2
          intro c2 bb2 off2 hc2 hal2 hrow2
          rw [Int.toNat_natCast] at hc2
          obtain rfl := Option.some.inj (hc.symm.trans hc2)
          conv => whnf
          refine hrow2.row (W := 3) rfl (by decide) ?_
          conv => whnf
          refine (path_spec lv (ix : Nat) (wd : Nat) hR).mono ?_
          rintro _ g6 t6 hd6 ht6 ⟨rfl, hs6, _⟩
          have S6 := S5.trans hs6
          have hV : hashV (A.take X) lv (ix : Nat) (wd : Nat) = (⟨(hashS A (Tile.sizeOf lv) (ix * 256) wd).toArray⟩, 0) := by
            unfold hashV
            rw [if_pos ⟨hR, by omega⟩, Int.toNat_natCast, Int.toNat_natCast, if_neg, hashS_take m6]
            rw [List.length_take, hAl, Nat.min_eq_left (by omega)]
            have := (Nat.le_div_iff_mul_le (show 0 < Tile.sizeOf lv by omega)).2 m6
            omega
          have hT32 : ∀ x ∈ A.take X, x.size = 32 := fun x hx => hL32 x (List.mem_of_mem_take hx)
          conv => whnf
          refine Go.Vc.draw_intro [⟨0, false, false, false, 0⟩, ⟨1, false, false, false, 0⟩, ⟨2, false, false, false, 3⟩, ⟨3, false, false, false, 0⟩, ⟨4, false, false, false, 0⟩, ⟨5, false, false, false, 24⟩, ⟨6, false, false, false, 56⟩, ⟨7, true, false, false, 127⟩, ⟨8, false, false, false, 255⟩, ⟨9, false, false, false, 511⟩, ⟨10, false, false, false, 511⟩, ⟨11, false, false, false, 1023⟩, ⟨12, false, false, false, 4095⟩] (hs := g6) (hsub := (Sub.refl _)) (hm := by kernel_rfl) (hpl := by kernel_rfl) ?_
          conv => whnf
          conv => whnf
          repeat (first | ((with_reducible refine And.intro (And.intro ?_ ?_) ?_); (focus omega); (focus omega); conv => whnf))
          refine (slW_ix (i := (k : Int)) (n := (grownL n X).length) (hsl.sub S6) co_len (by decide) ⟨by omega, by omega⟩ ?_).2
          intro c3 bb3 off3 hc3 hal3 hrow3
          rw [Int.toNat_natCast] at hc3
          obtain rfl := Option.some.inj (hc.symm.trans hc3)
          conv => whnf
          refine hrow3.row (W := 3) rfl (by decide) ?_
          conv => whnf
          rw [Int.toNat_natCast]
          refine (hashes_spec ((sA1.sub S6).take (m := X) (by omega)) (by omega) (by omega) (fun z hz => by rw [hT32 z hz]; decide) (fun z hz => by rw [hT32 z hz]; decide) lv (ix : Nat) (wd : Nat)).mono ?_
          rintro _ g7 t7 hd7 ht7 ⟨rfl, hs7, _⟩
          rw [hV]
          have S7 := S6.trans hs7
          have hmo7 : g7 rm = some o5 := hs7 _ _ (hs6 _ _ hmo5)
          have hput := hH5.put (by omega) hc hR (by omega)
          conv => whnf
          repeat (first | (refine Go.Vc.br_f ?_ ?_; (focus omega); conv => whnf))
          refine mapup_g (kv := Value.string) (k := pathS lv (ix : Nat) (wd : Nat)) (v := ⟨(hashS A (Tile.sizeOf lv) (ix * 256) wd).toArray⟩) (f := Value.string) Tryz.underlying49 (keyOk_string Tryz.underlying9) hmo7 hmg5 ?_
          intro o8 hmg8
          conv => whnf
          repeat (first | ((with_reducible apply Go.Vc.wr_i64); (focus exact And.intro (by omega) (by omega)); conv => whnf))
          exact round_end3 (k + 1) _ o8 (by omega) ⟨rfl, rfl, rfl, rfl, rfl, rfl, rfl, rfl, rfl, trivial⟩ ⟨by omega, by omega, hset_same _ _ _, hmg8, hput, sub_hset S7 j2⟩
      · have hHX := hfin hH5 (by omega)
        conv => whnf
        refine read_spec.mono ?_
        rintro _ g6 t6 hd6 ht6 ⟨bx, rfl, hbx, hbt, hbt2, hs6⟩
        have hTM : TMap g6 bx rm D5 := ⟨hbx, o5, hs6 _ _ hmo5, hmg5⟩
        conv => whnf
        refine (tRoot_spec hTM hHX hL32 (by omega) (by omega)).mono ?_
        rintro _ g7 t7 hd7 ht7 ⟨rfl, hs7, _⟩
        have S7 := S5.trans (hs6.trans hs7)
        have hmo7 : g7 rm = some o5 := hs7 _ _ (hs6 _ _ hmo5)
        conv => whnf
        repeat (first | ((with_reducible refine And.intro (And.intro ?_ ?_) ?_); (focus omega); (focus omega); conv => whnf) | (refine Go.Vc.br_f ?_ ?_; (focus omega); conv => whnf))
        rw [Int.toNat_natCast]
        refine (root_spec ((sA1.sub S7).take (m := X) (by omega)) (by omega) (fun x hx => by rw [hL32 x (List.mem_of_mem_take hx)]; decide)).mono ?_
        rintro _ g8 t8 hd8 ht8 ⟨rfl, hs8⟩
        conv => whnf
        refine br_f (fun e => e rfl) ?_
        conv => whnf
        repeat (first | ((with_reducible apply Go.Vc.wr_i64); (focus exact And.intro (by omega) (by omega)); conv => whnf))
        exact round_end4 (i + 1) X D5 o5 (by omega) ⟨rfl, rfl, rfl, rfl, rfl, rfl, trivial⟩ ⟨by omega, by omega, hX8, by omega, hs8 _ _ hmo7, hmg5, hHX, S1.trans (S7.trans hs8)⟩
    · conv => whnf
      repeat (first | (refine Go.Vc.br_t ?_ ?_; (focus omega); conv => whnf) | (refine Go.Vc.br_f ?_ ?_; (focus omega); conv => whnf))
      exact ⟨rfl, S0.trans S3⟩
  · conv => whnf
    repeat (first | (refine Go.Vc.br_f ?_ ?_; (focus omega); conv => whnf))
    exact ⟨rfl, S0.trans S3⟩
end Go.Proofs.YtlkpgjicpjjlcaaGreatDoor
