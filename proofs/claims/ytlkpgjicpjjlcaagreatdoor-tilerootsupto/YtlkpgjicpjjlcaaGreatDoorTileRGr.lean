import Derived.Test.YtlkpgjicpjjlcaaGreatDoorTileRParts
/- The new tiles of a step, as the document tells them. -/
set_option linter.unusedSimpArgs false
namespace Go.Proofs.YtlkpgjicpjjlcaaGreatDoor
open Go Go.Vc Go.Tile
set_option maxRecDepth 100000
set_option maxHeartbeats 4000000
set_option linter.unusedVariables false
theorem power_spec {h : Heap} {t : Nat} (lv : Int) (hlv : lv ≤ 7) :
    CallSpec Tryz.prog 43 #[.int .i64 lv] h t (fun v h' t' => v = .int .i64 ((Tile.sizeOf lv : Nat) : Int) ∧ h' = h ∧ t' = t) := by
  refine Go.Vc.spec_of_vc (fn := Tryz.f43) Tryz.func43 rfl (by kernel_rfl) (by kernel_rfl) (Nat.le_of_ble_eq_true rfl) ?_
  intro hd
  conv => whnf
  refine loop_intro (fun (k : Nat) => [(0, .int .i64 lv), (3, .int .i64 ((256 ^ k : Nat) : Int)), (4, .int .i64 (k : Nat))])
    (fun k h' t' => (k : Int) ≤ max lv 0 ∧ h' = h ∧ t' = t) (fun k => lv.toNat - k) 0 ⟨rfl, rfl, rfl, trivial⟩ ⟨by omega, rfl, rfl⟩ ?_
  rintro k e3 g t3 hd3 ⟨hk, rfl, rfl⟩
  conv => whnf
  refine br (fun h1 => ?_) (fun h1 => ?_)
  · have hp : 256 ^ k ≤ 256 ^ 6 := Nat.pow_le_pow_right (by decide) (by omega)
    have hps : 256 ^ (k + 1) = 256 ^ k * 256 := Nat.pow_succ _ _
    rw [show 256 ^ 6 = 281474976710656 by decide] at hp
    generalize 256 ^ k = pk at hp hps ⊢
    conv => whnf
    repeat (first | ((with_reducible apply Go.Vc.wr_i64); (focus exact And.intro (by omega) (by omega)); conv => whnf))
    refine round_end (k + 1) (by omega) ⟨rfl, ?_, rfl, trivial⟩ ⟨by omega, rfl, rfl⟩
    rw [hps]
    rfl
  · have hkl : k = lv.toNat := by omega
    subst hkl
    conv => whnf
    exact ⟨rfl, rfl, rfl⟩
theorem rapp_co {ty : TypeId} {h : Heap} {t : Nat} {a : Option Addr} {n c : Nat} {l l2 : List Value} {xa : Option Addr} {xc m : Nat}
    (ho : Vc.Own h 30 a (n * 3) (c * 3) id l) (hx : Sl h xa (m * 3) id l2) (hf : l2.all oneC = true) (hb : n + m ≤ 100000000) (hdm : Dom h t) {K : Value → Heap → Nat → Prop}
    (hK : ∀ a' c' h' t', Vc.Own h' 30 a' ((n + m) * 3) (c' * 3) id (l ++ l2) → t ≤ t' → Dom h' t' → (∀ k, k < t → owner a ≠ some k → h' k = h k) → (owner a' = owner a ∨ ∃ r, owner a' = some r ∧ t ≤ r) → K (.slice a' (n + m) c') h' t') :
    AppVC Tryz.prog #[40, 40] ty (.slice a n c) (.slice xa m xc) K h t :=
  app_vcW (E := 30) (inf := Tryz.types[30]) (z := .agg #[.int .i64 0, .int .i64 0, .int .i64 0]) (W := 3) Tryz.underlying40 Tryz.underlying40 rfl (by kernel_rfl) (by kernel_rfl) (by decide) (by kernel_rfl) rfl ho hx hf (by
    show (n + m) * 24 ≤ 2 ^ 40
    omega) (by omega) (by show 24 ≤ 1000; decide) hdm hK
theorem lv_at {k : Nat} {x : Int} (h : ([0, 1, 2, 3, -1] : List Int)[k]? = some x) : x = (lvAt k).1 ∧ Tile.sizeOf x = (lvAt k).2 ∧ x ≤ 7 ∧ 1 ≤ (lvAt k).2 ∧ (lvAt k).2 ≤ 16777216 := by
  match k, h with
  | 0, h | 1, h | 2, h | 3, h | 4, h => obtain rfl := Option.some.inj h; decide
  | k + 5, h => simp at h
theorem rgrown_spec {h : Heap} {t : Nat} (old n : Nat) (hon : old ≤ n) (hn : n ≤ 1073741824) :
    CallSpec Tryz.prog 14 #[.int .i64 (old : Nat), .int .i64 (n : Nat)] h t (fun v h' t' => ∃ a c, v = .slice a (grownL old n).length c ∧ Sl h' a ((grownL old n).length * 3) id ((grownL old n).flatMap co) ∧ Vc.Sub h h' ∧ t ≤ t') := by
  refine Go.Vc.spec_of_vc (fn := Tryz.f14) Tryz.func14 rfl (by kernel_rfl) (by kernel_rfl) (Nat.le_of_ble_eq_true rfl) ?_
  intro hd
  conv => whnf
  repeat (first | (intro _ _; conv => whnf) | (refine Go.Vc.br_f ?_ ?_; (focus omega); conv => whnf))
  rename_i r6 hr6
  have hd6 := hd.set r6 (.cells #[.int .i64 0, .int .i64 1, .int .i64 2, .int .i64 3, .int .i64 (-1)] 3) (r6 + 1) (by omega) (by omega)
  have hs6 := hd.sub_new hr6 (.cells #[.int .i64 0, .int .i64 1, .int .i64 2, .int .i64 3, .int .i64 (-1)] 3)
  have hl6 : Sl (hset h r6 (.cells #[.int .i64 0, .int .i64 1, .int .i64 2, .int .i64 3, .int .i64 (-1)] 3 (0, 0))) (some ⟨r6, 0, none⟩) 5 (Value.int .i64) [0, 1, 2, 3, -1] := ar_sl (hset_same _ _ _) rfl
  generalize hset h r6 (.cells #[.int .i64 0, .int .i64 1, .int .i64 2, .int .i64 3, .int .i64 (-1)] 3 (0, 0)) = h6 at hd6 hs6 hl6 ⊢
  obtain ⟨aa, haa⟩ : ∃ aa : Option Addr, aa = some ⟨r6, 0, none⟩ := ⟨_, rfl⟩
  rw [← haa] at hl6 ⊢
  clear haa
  refine loop_intro3 (fun (k : Nat) (a : Option Addr) (c : Nat) => [(0, .int .i64 (old : Nat)), (1, .int .i64 (n : Nat)), (5, .slice a (grownTo old n k).length c), (6, .slice aa 5 5), (7, .int .i64 (k : Nat))])
    (fun k a c h' t' => k ≤ 5 ∧ Vc.Own h' 30 a ((grownTo old n k).length * 3) (c * 3) id ((grownTo old n k).flatMap co) ∧ (∀ b, owner a = some b → r6 < b) ∧ Vc.Sub h6 h' ∧ r6 < t') (fun k _ _ => 5 - k) 0 none 0 ⟨rfl, rfl, rfl, rfl, rfl, trivial⟩
    ⟨by omega, ⟨rfl, .inl ⟨rfl, rfl, rfl⟩⟩, (fun b hb => by cases hb), Vc.Sub.refl _, by omega⟩ ?_
  rintro k a c e3 g t3 hd3 ⟨hk, ho, hw, hs3, ht3⟩
  have hlg := hl6.sub hs3
  conv => whnf
  refine br (fun h1 => ?_) (fun h1 => ?_)
  · obtain ⟨x, hx⟩ : ∃ x, ([0, 1, 2, 3, -1] : List Int)[k]? = some x := ⟨_, List.getElem?_eq_getElem (show k < 5 by omega)⟩
    obtain ⟨hx1, hx2, hx3, hx4, hx5⟩ := lv_at hx
    conv => whnf
    repeat (first | ((with_reducible apply Go.Vc.sl_ix); (focus with_reducible assumption); (focus exact And.intro (by omega) (by omega)); intro xI bI offI hxI hcI; conv => whnf) | ((with_reducible apply Go.Vc.cell_i); (focus assumption); conv => whnf))
    obtain rfl : x = xI := Option.some.inj (hx.symm.trans hxI)
    conv => whnf
    refine (power_spec x hx3).mono ?_
    rintro _ g4 t4 _ _ ⟨rfl, hge, hte⟩
    have hge := hge.symm
    have hte := hte.symm
    subst hge hte
    obtain ⟨lv, sz, hlvsz⟩ : ∃ lv sz, lvAt k = (lv, sz) := ⟨_, _, rfl⟩
    have hgs := grownTo_succ (old := old) (n := n) (show k < 5 by omega)
    have hsz : (lvAt k).2 = sz := by rw [hlvsz]
    rw [hx2, hsz]
    rw [hlvsz] at hgs hx1 hx4 hx5
    dsimp only at hgs hx1 hx4 hx5
    obtain ⟨w, hw0⟩ : ∃ w, w = old / sz := ⟨_, rfl⟩
    obtain ⟨nw, hnw⟩ : ∃ nw, nw = n / sz := ⟨_, rfl⟩
    have hwI : (old : Int) / (sz : Int) = (w : Int) := by rw [hw0]; exact (Int.natCast_ediv _ _).symm
    have hnI : (n : Int) / (sz : Int) = (nw : Int) := by rw [hnw]; exact (Int.natCast_ediv _ _).symm
    have hwn : w ≤ nw := by rw [hw0, hnw]; exact Nat.div_le_div_right hon
    have hnn : nw ≤ n := by rw [hnw]; exact Nat.div_le_self _ _
    rw [← hw0, ← hnw] at hgs
    conv => whnf
    repeat (first | ((with_reducible apply Go.Vc.sl_ix); (focus with_reducible assumption); (focus exact And.intro (by omega) (by omega)); intro xI bI offI hxI hcI; conv => whnf) | ((with_reducible apply Go.Vc.cell_i); (focus assumption); conv => whnf) | ((with_reducible apply Go.Vc.quo_i64); (focus exact And.intro (by omega) (And.intro (by omega) (by omega))); conv => whnf) | ((with_reducible refine And.intro ?_ (And.intro ?_ ?_)); (focus exact rfl); (focus omega); conv => whnf))
    rw [hwI]
    have hxe : x = xI := Option.some.inj (hx.symm.trans hxI)
    rw [← hxe]
    conv => whnf
    refine (power_spec x hx3).mono ?_
    rintro _ g4 t4 _ _ ⟨rfl, hge, hte⟩
    have hge := hge.symm
    have hte := hte.symm
    subst hge hte
    rw [hx2, hsz]
    conv => whnf
    repeat (first | ((with_reducible apply Go.Vc.quo_i64); (focus exact And.intro (by omega) (And.intro (by omega) (by omega))); conv => whnf) | ((with_reducible refine And.intro ?_ (And.intro ?_ ?_)); (focus exact rfl); (focus omega); conv => whnf))
    rw [hnI]
    have hcn : gCnt w nw = if w = nw then 0 else (nw - 1) / 256 + 1 - w / 256 := rfl
    have hlen0 := grownTo_len (old := old) (n := n) (k := k) hn (by omega)
    obtain ⟨m, hm⟩ : ∃ m, m = (grownTo old n k).length := ⟨_, rfl⟩
    rw [← hm] at ho hlen0 ⊢
    conv => whnf
    refine loop_intro3 (fun (i : Nat) (a : Option Addr) (c : Nat) => [(0, .int .i64 (old : Nat)), (1, .int .i64 (n : Nat)), (5, .slice a (m + i) c), (6, .slice aa 5 5), (7, .int .i64 (k : Nat)), (8, .int .i64 (w : Nat)), (9, .int .i64 (nw : Nat)), (10, .int .i64 ((w / 256 + i : Nat) : Int))])
      (fun i a c h' t' => i ≤ gCnt w nw ∧ Vc.Own h' 30 a ((m + i) * 3) (c * 3) id ((grownTo old n k ++ (List.range i).map (gOne lv w nw)).flatMap co) ∧ (∀ b, owner a = some b → r6 < b) ∧ Vc.Sub h6 h' ∧ r6 < t') (fun i _ _ => gCnt w nw - i) 0 a c ?_ ?_ ?_
    · refine ⟨rfl, rfl, rfl, rfl, rfl, rfl, rfl, ?_, trivial⟩
      show Value.int .i64 _ = Value.int .i64 _
      rfl
    · exact ⟨by omega, by rw [List.range_zero, List.map_nil, List.append_nil]; exact ho, hw, hs3, ht3⟩
    clear ho hw hs3 ht3 hlg
    rintro i a c e5 g5 t5 hd5 ⟨hi, ho, hw, hs5, ht5⟩
    have hls := hl6.sub hs5
    have hlim : i < gCnt w nw ↔ (w / 256 + i) * 256 < nw ∧ w < nw := by
      rw [hcn]
      split <;> omega
    have hgb : i ≤ nw ∧ w / 256 + i ≤ nw := by
      rw [hcn] at hi
      split at hi <;> omega
    conv => whnf
    repeat (first | ((with_reducible apply Go.Vc.wr_i64); (focus exact And.intro (by omega) (by omega)); conv => whnf))
    refine br (fun hb => ?_) (fun hb => ?_)
    · conv => whnf
      refine br (fun hb2 => ?_) (fun hb2 => ?_)
      · have hic : i < gCnt w nw := by omega
        conv => whnf
        repeat (first | ((with_reducible apply Go.Vc.sl_ix); (focus with_reducible assumption); (focus exact And.intro (by omega) (by omega)); intro xI bI offI hxI hcI; conv => whnf) | ((with_reducible apply Go.Vc.cell_i); (focus assumption); conv => whnf) | (intro _ _; conv => whnf) | ((with_reducible apply Go.Vc.wr_i64); (focus exact And.intro (by omega) (by omega)); conv => whnf))
        have hxe : x = xI := Option.some.inj (hx.symm.trans hxI)
        rw [← hxe]
        conv => whnf
        rename_i rx hrx
        have hlo : ∀ b, owner a = some b → b < t5 := by
          intro b hb2
          rcases ho.2 with ⟨e, _⟩ | ⟨b', off, cs, fr, e, _, hb', _⟩
          · rw [e] at hb2; cases hb2
          · rw [e] at hb2
            obtain rfl : b' = b := Option.some.inj hb2
            exact hd5 _ _ hb'
        refine rapp_co (m := 1) (l2 := co (gOne lv w nw i)) (ho.fr (fun b o hb ho => by have := hlo b hb; rw [hset_ne _ _ (by omega)]; exact ho)) (ar_sl (l := co (gOne lv w nw i)) (f := id) (b := rx) (T := 30) (fr := (0, 0)) ?_ rfl) rfl (by omega) (hd5.set rx _ _ (by omega) (by omega)) ?_
        · refine (hset_same _ _ _).trans ?_
          have q2 : (if 256 < (nw : Int) - ((w / 256 + i : Nat) : Int) * 256 then 256 else (nw : Int) - ((w / 256 + i : Nat) : Int) * 256) = ((min 256 (nw - (w / 256 + i) * 256) : Nat) : Int) := by
            split <;> omega
          rw [q2, hx1]
          rfl
        intro a7 c7 h7 t7 ho7 ht7 hd7 hk7 how7
        have hw7 : ∀ b, owner a7 = some b → r6 < b := by
          intro b hb
          rcases how7 with e | ⟨b', e, hb'⟩
          · exact hw b (by rw [← e]; exact hb)
          · rw [e] at hb
            obtain rfl : b' = b := Option.some.inj hb
            omega
        conv => whnf
        repeat (first | ((with_reducible apply Go.Vc.wr_i64); (focus exact And.intro (by omega) (by omega)); conv => whnf))
        refine round_end3 (i + 1) a7 c7 (by omega) ⟨rfl, rfl, rfl, rfl, rfl, rfl, rfl, ?_, trivial⟩ ⟨by omega, ?_, hw7, ?_, by omega⟩
        · show Value.int .i64 _ = Value.int .i64 _
          congr 1
        · rw [List.range_succ, List.map_append, ← List.append_assoc, List.flatMap_append, List.map_singleton, List.flatMap_singleton]
          exact ho7
        · intro b o hb
          have := hd6 _ _ hb
          rw [hk7 b (by omega) (fun e => by have := hw b e; omega), hset_ne _ _ (by omega)]
          exact hs5 b o hb
      · have hie : i = gCnt w nw := by omega
        subst hie
        conv => whnf
        repeat (first | ((with_reducible apply Go.Vc.wr_i64); (focus exact And.intro (by omega) (by omega)); conv => whnf))
        refine round_end3 (k + 1) a c (by omega) ⟨rfl, rfl, ?_, rfl, rfl, trivial⟩ ⟨by omega, ?_, hw, hs5, by omega⟩
        · rw [hgs, List.length_append, ← hm]
          unfold Tile.gAt
          rw [List.length_map, List.length_range]
          rfl
        · rw [hgs, List.length_append, ← hm]
          unfold Tile.gAt
          rw [List.length_map, List.length_range]
          exact ho
    · have hie : i = gCnt w nw := by omega
      subst hie
      conv => whnf
      repeat (first | ((with_reducible apply Go.Vc.wr_i64); (focus exact And.intro (by omega) (by omega)); conv => whnf))
      refine round_end3 (k + 1) a c (by omega) ⟨rfl, rfl, ?_, rfl, rfl, trivial⟩ ⟨by omega, ?_, hw, hs5, by omega⟩
      · rw [hgs, List.length_append, ← hm]
        unfold Tile.gAt
        rw [List.length_map, List.length_range]
        rfl
      · rw [hgs, List.length_append, ← hm]
        unfold Tile.gAt
        rw [List.length_map, List.length_range]
        exact ho
  · obtain rfl : k = 5 := by omega
    conv => whnf
    exact ⟨a, c, rfl, ho.sl, hs6.trans hs3, by omega⟩
end Go.Proofs.YtlkpgjicpjjlcaaGreatDoor
