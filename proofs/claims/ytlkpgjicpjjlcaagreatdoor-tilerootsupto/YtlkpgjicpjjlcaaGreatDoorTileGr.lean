import Derived.Test.YtlkpgjicpjjlcaaGreatDoorTileAll
/- The new tiles of a step. -/
set_option linter.unusedSimpArgs false
namespace Go.Proofs.YtlkpgjicpjjlcaaGreatDoor
open Go Go.Vc Go.Tile
set_option maxRecDepth 20000
set_option linter.unusedVariables false
def co (c : Co) : List Value := [.int .i64 c.1, .int .i64 (c.2.1 : Nat), .int .i64 (c.2.2 : Nat)]
theorem co_len (c : Co) : (co c).length = 3 := rfl
theorem co_one (l : List Co) : (l.flatMap co).all oneC = true := by
  rw [List.all_eq_true]
  intro v hv
  obtain ⟨c, _, hc⟩ := List.mem_flatMap.1 hv
  simp only [co, List.mem_cons, List.not_mem_nil, or_false] at hc
  rcases hc with rfl | rfl | rfl <;> rfl
theorem app_co {ty : TypeId} {h : Heap} {t : Nat} {a : Option Addr} {n c : Nat} {l l2 : List Value} {xa : Option Addr} {xc m : Nat}
    (ho : Vc.Own h 23 a (n * 3) (c * 3) id l) (hx : Sl h xa (m * 3) id l2) (hf : l2.all oneC = true) (hb : n + m ≤ 100000000) (hdm : Dom h t) {K : Value → Heap → Nat → Prop}
    (hK : ∀ a' c' h' t', Vc.Own h' 23 a' ((n + m) * 3) (c' * 3) id (l ++ l2) → t ≤ t' → Dom h' t' → (∀ k, k < t → owner a ≠ some k → h' k = h k) → (owner a' = owner a ∨ ∃ r, owner a' = some r ∧ t ≤ r) → K (.slice a' (n + m) c') h' t') :
    AppVC Tryz.prog #[38, 38] ty (.slice a n c) (.slice xa m xc) K h t :=
  app_vcW (E := 23) (inf := Tryz.types[23]) (z := .agg #[.int .i64 0, .int .i64 0, .int .i64 0]) (W := 3) Tryz.underlying38 Tryz.underlying38 rfl (by kernel_rfl) (by kernel_rfl) (by decide) (by kernel_rfl) rfl ho hx hf (by
    show (n + m) * 24 ≤ 2 ^ 40
    omega) (by omega) (by show 24 ≤ 1000; decide) hdm hK
def grownTo (old n k : Nat) : List Co := (lvls.take k).flatMap fun x => gAt x.1 (old / x.2) (n / x.2)
theorem grownTo_succ {old n k : Nat} (hk : k < 5) : grownTo old n (k + 1) = grownTo old n k ++ gAt (lvAt k).1 (old / (lvAt k).2) (n / (lvAt k).2) := by
  unfold grownTo lvAt
  rw [List.take_succ_eq_append_getElem (show k < lvls.length from hk), List.flatMap_append]
  congr 1
  simp [List.getD_eq_getElem?_getD, List.getElem?_eq_getElem (show k < lvls.length from hk)]
theorem grownTo_len {old n : Nat} (hn : n ≤ 1073741824) : ∀ {k : Nat}, k ≤ 5 → (grownTo old n k).length ≤ k * 4194306
  | 0, _ => by simp [grownTo]
  | k + 1, hk => by
    have ih := grownTo_len (old := old) hn (k := k) (by omega)
    rw [grownTo_succ (by omega), List.length_append]
    have : (Tile.gAt (lvAt k).1 (old / (lvAt k).2) (n / (lvAt k).2)).length ≤ 4194306 := by
      unfold Tile.gAt gCnt
      rw [List.length_map, List.length_range]
      have h1 : n / (lvAt k).2 ≤ n := Nat.div_le_self _ _
      generalize n / (lvAt k).2 = x at h1 ⊢
      generalize old / (lvAt k).2 = y
      split <;> omega
    omega
theorem allfn_spec {h : Heap} {t : Nat} : CallSpec Tryz.prog 42 #[] h t (fun v h' t' => v = .func (.func 69) #[] #[] ∧ h' = h ∧ t' = t) := by
  refine Go.Vc.spec_of_vc (fn := Tryz.f42) Tryz.func42 rfl (by kernel_rfl) (by kernel_rfl) (Nat.le_of_ble_eq_true rfl) ?_
  intro hd
  conv => whnf
  exact ⟨rfl, rfl, rfl⟩
theorem grown_spec {h : Heap} {t : Nat} (old n : Nat) (hon : old ≤ n) (hn : n ≤ 1073741824) :
    CallSpec Tryz.prog 13 #[.int .i64 (old : Nat), .int .i64 (n : Nat)] h t (fun v h' t' => ∃ a c, v = .slice a (grownL old n).length c ∧ Vc.Own h' 23 a ((grownL old n).length * 3) (c * 3) id ((grownL old n).flatMap co) ∧ (∀ b, owner a = some b → t ≤ b) ∧ Vc.Sub h h' ∧ t ≤ t') := by
  refine Go.Vc.spec_of_vcI (fn := Tryz.f13) Tryz.func13 rfl (by kernel_rfl) (by kernel_rfl) (Nat.le_of_ble_eq_true rfl) ?_
  intro hd
  conv => whnf
  repeat (first | ((with_reducible apply Go.Vc.ld_i); (focus ((repeat (first | with_reducible assumption | with_reducible exact Go.Vc.hset_same _ _ _ | with_reducible refine (Go.Vc.hset_ne _ _ (by omega)).trans ?_)); done)); (focus exact rfl); conv => whnf) | (intro _ _; conv => whnf) | (refine Go.Vc.br_f ?_ ?_; (focus omega); conv => whnf))
  rename_i r2 hr2 r3 hr3 r4 hr4
  refine allfn_spec.mono ?_
  rintro _ g t1 hd1 _ ⟨rfl, hg, rfl⟩
  have g2 : g r2 = some (.cells #[.int .i64 (old : Nat)] 3 (0, 0)) := by
    rw [hg, hset_ne _ _ (by omega), hset_ne _ _ (by omega)]
    exact hset_same _ _ _
  have g3 : g r3 = some (.cells #[.int .i64 (n : Nat)] 3 (0, 0)) := by
    rw [hg, hset_ne _ _ (by omega)]
    exact hset_same _ _ _
  have g4 : g r4 = some (.cells #[.slice none 0 0] 38 (0, 0)) := by
    rw [hg]
    exact hset_same _ _ _
  have gS : Vc.Sub h g := by
    intro b o hb
    have := hd b o hb
    rw [hg]
    repeat rw [hset_ne _ _ (by omega)]
    exact hb
  clear hg
  conv => whnf
  refine RangeVC.mk rfl ⟨_, _, _, rfl, ?_⟩
  intro Db L hDb hDL nn fn T2 LR
  have hs2 := hd1.sub_new hDb (.deferred (some []))
  have hd2 := hd1.set Db (.deferred (some [])) (Db + 1) (by omega) (by omega)
  generalize hR0 : Loop.mk _ _ _ _ _ _ _ _ = R0
  have hRs : R0.state = .ready := by rw [← hR0]
  have hRn : R0.pending = none := by rw [← hR0]
  have hRp := congrArg Loop.params hR0
  have hRa := congrArg Loop.assign hR0
  have hRb := congrArg Loop.body hR0
  have hRt : T2 = R0.tmps := congrArg Loop.tmps hR0
  rw [hRt] at LR
  dsimp only at hRp hRa hRb
  clear hR0
  have hs3 := hd2.sub_new (r := L) (by omega) (.loop R0)
  have hd3 := hd2.set L (.loop R0) (L + 1) (by omega) (by omega)
  have hsub := gS.trans (hs2.trans hs3)
  show CallSpec Tryz.prog _ #[.func (.yield L) #[] #[]] _ _ _
  refine (all_spec (l := L)
    (fun k h' t' => L < t' ∧ h' r2 = some (.cells #[.int .i64 (old : Nat)] 3 (0, 0)) ∧ h' r3 = some (.cells #[.int .i64 (n : Nat)] 3 (0, 0)) ∧ (∃ a m c, h' r4 = some (.cells #[.slice a m c] 38 (0, 0)) ∧ Vc.Own h' 23 a (m * 3) (c * 3) id ((grownTo old n k).flatMap co) ∧ m = (grownTo old n k).length ∧ ∀ b, owner a = some b → L < b) ∧ h' L = some (.loop R0) ∧ h' Db = some (.deferred (some [])) ∧ Vc.Sub h h') ?_ ?_).mono ?_
  · refine ⟨by omega, ?_, ?_, ⟨none, 0, 0, ?_, ⟨rfl, .inl ⟨rfl, rfl, rfl⟩⟩, rfl, fun b hb => by cases hb⟩, hset_same _ _ _, ?_, hsub⟩
    · rw [hset_ne _ _ (by omega), hset_ne _ _ (by omega)]; exact g2
    · rw [hset_ne _ _ (by omega), hset_ne _ _ (by omega)]; exact g3
    · rw [hset_ne _ _ (by omega), hset_ne _ _ (by omega)]; exact g4
    · rw [hset_ne _ _ (by omega)]; exact hset_same _ _ _
  · rintro k h' t' hk ht' hd' ⟨h1, h2, h3, ⟨a, m, c, h4, h5, h6, h7⟩, h8, h9, h10⟩
    refine yield_i h8 hRs hRp hRa hRb LR rfl ?_
    intro hd4
    conv => whnf
    refine ⟨rfl, rfl, _, h8, hRs, ?_⟩
    rintro rb hrb
    obtain ⟨lv, sz, hlvsz⟩ : ∃ lv sz, lvAt k = (lv, sz) := ⟨_, _, rfl⟩
    have hsz : 1 ≤ sz ∧ sz ≤ 16777216 ∧ -1 ≤ lv ∧ lv ≤ 3 := by
      have key : ∀ k, k < 5 → 1 ≤ (lvAt k).2 ∧ (lvAt k).2 ≤ 16777216 ∧ -1 ≤ (lvAt k).1 ∧ (lvAt k).1 ≤ 3 := by decide
      have := key k hk
      rw [hlvsz] at this
      exact this
    have hgs := grownTo_succ (old := old) (n := n) hk
    rw [hlvsz] at hgs ⊢
    obtain ⟨w, hw⟩ : ∃ w, w = old / sz := ⟨_, rfl⟩
    obtain ⟨nw, hnw⟩ : ∃ nw, nw = n / sz := ⟨_, rfl⟩
    have hwI : (old : Int) / (sz : Int) = (w : Int) := by rw [hw]; exact (Int.natCast_ediv _ _).symm
    have hnI : (n : Int) / (sz : Int) = (nw : Int) := by rw [hnw]; exact (Int.natCast_ediv _ _).symm
    have hwn : w ≤ nw := by rw [hw, hnw]; exact Nat.div_le_div_right hon
    have hnn : nw ≤ n := by rw [hnw]; exact Nat.div_le_self _ _
    dsimp only at hgs ⊢
    rw [← hw, ← hnw] at hgs
    have hsb : Vc.Sub h (hset h' L (.loop rb)) := fun b o hb => by
      rw [hset_ne _ _ (by have := hd _ _ hb; omega)]
      exact h10 b o hb
    have hdb : Dom (hset h' L (.loop rb)) t' := hd'.set L _ t' (Nat.le_refl _) (by omega)
    conv => whnf
    refine Go.Vc.draw_intro [⟨0, false, false, false, 0⟩, ⟨1, false, false, false, 0⟩, ⟨2, false, false, false, 3⟩, ⟨3, false, false, false, 0⟩, ⟨4, false, false, false, 0⟩, ⟨5, false, false, false, 24⟩, ⟨6, false, false, false, 7⟩, ⟨7, false, false, false, 127⟩] (hs := (hset h' L (.loop rb))) (hsub := (Sub.refl _)) (hm := by kernel_rfl) (hpl := by kernel_rfl) ?_
    conv => whnf
    conv => whnf
    repeat (first | ((with_reducible apply Go.Vc.ld_i); (focus ((repeat (first | with_reducible assumption | with_reducible exact Go.Vc.hset_same _ _ _ | with_reducible refine (Go.Vc.hset_ne _ _ (by omega)).trans ?_)); done)); (focus exact rfl); conv => whnf) | ((with_reducible apply Go.Vc.quo_i64); (focus exact And.intro (by omega) (And.intro (by omega) (by omega))); conv => whnf) | ((with_reducible refine And.intro ?_ (And.intro ?_ ?_)); (focus exact rfl); (focus omega); conv => whnf))
    rw [hwI, hnI]
    refine br (fun hwe => ?_) (fun hwe => ?_)
    · conv => whnf
      refine ⟨rb, hset_same _ _ _, ?_⟩
      intro r' hr'
      have er : r' = R0 := by rw [hr', hrb, ← hRs, ← hRn]
      subst er
      have hgn : Tile.gAt lv w nw = [] := by
        unfold Tile.gAt gCnt
        rw [if_pos (by omega)]
        rfl
      rw [hgn, List.append_nil] at hgs
      refine ⟨rfl, h1, ?_, ?_, ⟨a, m, c, ?_, ?_, ?_, h7⟩, hset_same _ _ _, ?_, ?_⟩
      · rw [hset_ne _ _ (by omega), hset_ne _ _ (by omega)]; exact h2
      · rw [hset_ne _ _ (by omega), hset_ne _ _ (by omega)]; exact h3
      · rw [hset_ne _ _ (by omega), hset_ne _ _ (by omega)]; exact h4
      · rw [hgs]
        exact h5.fr (fun b o hb ho => by have := h7 b hb; rw [hset_ne _ _ (by omega), hset_ne _ _ (by omega)]; exact ho)
      · rw [hgs]; exact h6
      · rw [hset_ne _ _ (by omega), hset_ne _ _ (by omega)]; exact h9
      · intro b o hb
        have := hd _ _ hb
        rw [hset_ne _ _ (by omega)]
        exact hsb b o hb
    · have hcn : gCnt w nw = (nw - 1) / 256 + 1 - w / 256 := by
        unfold gCnt
        rw [if_neg (by omega)]
      have hlen0 := grownTo_len (old := old) (n := n) (k := k) hn (by omega)
      conv => whnf
      repeat (first | ((with_reducible apply Go.Vc.wr_i64); (focus exact And.intro (by omega) (by omega)); conv => whnf) | ((with_reducible apply Go.Vc.quo_i64); (focus exact And.intro (by omega) (And.intro (by omega) (by omega))); conv => whnf) | ((with_reducible refine And.intro ?_ (And.intro ?_ ?_)); (focus exact rfl); (focus omega); conv => whnf))
      refine loop_introI3 (fun (i : Nat) (a : Option Addr) (c : Nat) => [(2, .pointer (some ⟨r2, 0, none⟩)), (3, .pointer (some ⟨r3, 0, none⟩)), (4, .pointer (some ⟨r4, 0, none⟩)), (5, .int .i64 lv), (8, .int .i64 (nw : Nat)), (9, .int .i64 (((w / 256 + i) * 256 : Nat) : Int))])
        (fun i a c h' t' => i ≤ gCnt w nw ∧ L < t' ∧ h' r2 = some (.cells #[.int .i64 (old : Nat)] 3 (0, 0)) ∧ h' r3 = some (.cells #[.int .i64 (n : Nat)] 3 (0, 0)) ∧ h' r4 = some (.cells #[.slice a (m + i) c] 38 (0, 0)) ∧ Vc.Own h' 23 a ((m + i) * 3) (c * 3) id ((grownTo old n k ++ (List.range i).map (gOne lv w nw)).flatMap co) ∧ (∀ b, owner a = some b → L < b) ∧ h' L = some (.loop rb) ∧ h' Db = some (.deferred (some [])) ∧ Vc.Sub h h') (fun i _ _ => gCnt w nw - i) 0 a c ⟨rfl, rfl, rfl, rfl, rfl, ?_, trivial⟩
        ⟨by omega, by omega, ?_, ?_, ?_, ?_, h7, hset_same _ _ _, ?_, hsb⟩ ?_
      · show Value.int .i64 _ = Value.int .i64 _
        rfl
      · rw [hset_ne _ _ (by omega)]; exact h2
      · rw [hset_ne _ _ (by omega)]; exact h3
      · rw [hset_ne _ _ (by omega)]; exact h4
      · rw [List.range_zero, List.map_nil, List.append_nil]
        exact h5.fr (fun b o hb ho => by have := h7 b hb; rw [hset_ne _ _ (by omega)]; exact ho)
      · rw [hset_ne _ _ (by omega)]; exact h9
      clear h2 h3 h4 h5 h7 h8 h9 h10 hd4 hsb hdb
      rintro i a c e5 g5 t5 hd5 ⟨hi, h1, h2, h3, h4, h5, h7, h8, h9, h10⟩
      conv => whnf
      refine br (fun hb => ?_) (fun hb => ?_)
      · have hic : i < gCnt w nw := by omega
        conv => whnf
        repeat (first | ((with_reducible apply Go.Vc.ld_i); (focus ((repeat (first | with_reducible assumption | with_reducible exact Go.Vc.hset_same _ _ _ | with_reducible refine (Go.Vc.hset_ne _ _ (by omega)).trans ?_)); done)); (focus exact rfl); conv => whnf) | (intro _ _; conv => whnf) | ((with_reducible apply Go.Vc.wr_i64); (focus exact And.intro (by omega) (by omega)); conv => whnf) | ((with_reducible apply Go.Vc.quo_i64); (focus exact And.intro (by omega) (And.intro (by omega) (by omega))); conv => whnf) | ((with_reducible refine And.intro ?_ (And.intro ?_ ?_)); (focus exact rfl); (focus omega); conv => whnf))
        rename_i rx hrx
        have hlo : ∀ b, owner a = some b → b < t5 := by
          intro b hb2
          rcases h5.2 with ⟨e, _⟩ | ⟨b', off, cs, fr, e, _, hb', _⟩
          · rw [e] at hb2; cases hb2
          · rw [e] at hb2
            obtain rfl : b' = b := Option.some.inj hb2
            exact hd5 _ _ hb'
        refine app_co (m := 1) (l2 := co (gOne lv w nw i)) (h5.fr (fun b o hb ho => by have := hlo b hb; rw [hset_ne _ _ (by omega)]; exact ho)) (ar_sl (l := co (gOne lv w nw i)) (f := id) (b := rx) (T := 23) (fr := (0, 0)) ?_ rfl) rfl (by omega) (hd5.set rx _ _ (by omega) (by omega)) ?_
        · refine (hset_same _ _ _).trans ?_
          have q1 : ((((w / 256 + i) * 256 : Nat) : Int) / 256) = ((w / 256 + i : Nat) : Int) := by omega
          have q2 : (if (nw : Int) - (((w / 256 + i) * 256 : Nat) : Int) < 256 then (nw : Int) - (((w / 256 + i) * 256 : Nat) : Int) else 256) = ((min 256 (nw - (w / 256 + i) * 256) : Nat) : Int) := by
            split <;> omega
          rw [q1, q2]
          rfl
        intro a7 c7 h7' t7 ho7 ht7 hd7 hk7 how7
        have hk8 : ∀ b, b ≤ L → h7' b = g5 b := by
          intro b hb
          rw [hk7 b (by omega) (fun e => by have := h7 b e; omega), hset_ne _ _ (by omega)]
        have h47 := (hk8 r4 (by omega)).trans h4
        have hw7 : ∀ b, owner a7 = some b → L < b := by
          intro b hb
          rcases how7 with e | ⟨b', e, hb'⟩
          · exact h7 b (by rw [← e]; exact hb)
          · rw [e] at hb
            obtain rfl : b' = b := Option.some.inj hb
            omega
        conv => whnf
        repeat (first | ((with_reducible apply Go.Vc.st_i); (focus ((repeat (first | with_reducible assumption | with_reducible exact Go.Vc.hset_same _ _ _ | with_reducible refine (Go.Vc.hset_ne _ _ (by omega)).trans ?_)); done)); (focus exact rfl); (focus exact rfl); (focus exact rfl); (conv => whnf); intro cA hcA; (first | (simp only [List.setIfInBounds_toArray, List.set_cons_succ, List.set_cons_zero] at hcA; subst hcA) | subst hcA); conv => whnf) | ((with_reducible apply Go.Vc.wr_i64); (focus exact And.intro (by omega) (by omega)); conv => whnf))
        refine ⟨rfl, round_end3 (i + 1) a7 c7 (by omega) ⟨rfl, rfl, rfl, rfl, rfl, ?_, trivial⟩ ⟨by omega, by omega, ?_, ?_, hset_same _ _ _, ?_, hw7, ?_, ?_, ?_⟩⟩
        · show Value.int .i64 _ = Value.int .i64 _
          congr 1
          omega
        · rw [hset_ne _ _ (by omega), hk8 r2 (by omega)]; exact h2
        · rw [hset_ne _ _ (by omega), hk8 r3 (by omega)]; exact h3
        · rw [List.range_succ, List.map_append, ← List.append_assoc, List.flatMap_append, List.map_singleton, List.flatMap_singleton]
          exact ho7.fr (fun b o hb ho => by have := hw7 b hb; rw [hset_ne _ _ (by omega)]; exact ho)
        · rw [hset_ne _ _ (by omega), hk8 L (by omega)]; exact h8
        · rw [hset_ne _ _ (by omega), hk8 Db (by omega)]; exact h9
        · intro b o hb
          have := hd _ _ hb
          rw [hset_ne _ _ (by omega), hk8 b (by omega)]
          exact h10 b o hb
      · conv => whnf
        obtain rfl : i = gCnt w nw := by omega
        refine ⟨rb, h8, ?_⟩
        intro r' hr'
        have er : r' = R0 := by rw [hr', hrb, ← hRs, ← hRn]
        subst er
        refine ⟨rfl, h1, ?_, ?_, ⟨a, m + gCnt w nw, c, ?_, ?_, ?_, h7⟩, hset_same _ _ _, ?_, ?_⟩
        · rw [hset_ne _ _ (by omega)]; exact h2
        · rw [hset_ne _ _ (by omega)]; exact h3
        · rw [hset_ne _ _ (by omega)]; exact h4
        · rw [hgs]
          exact h5.fr (fun b o hb ho => by have := h7 b hb; rw [hset_ne _ _ (by omega)]; exact ho)
        · rw [hgs, List.length_append, ← h6]
          unfold Tile.gAt
          rw [List.length_map, List.length_range]
        · rw [hset_ne _ _ (by omega)]; exact h9
        · intro b o hb
          have := hd _ _ hb
          rw [hset_ne _ _ (by omega)]
          exact h10 b o hb
  · rintro _ h' t' hd' ht' ⟨h1, h2, h3, ⟨a, m, c, h4, h5, h6, h7⟩, h8, h9, h10⟩
    refine ⟨_, h8, by rw [hRs]; decide, ?_⟩
    rintro rb hrb
    rw [hRn]
    conv => whnf
    repeat (first | ((with_reducible apply Go.Vc.ld_i); (focus ((repeat (first | with_reducible assumption | with_reducible exact Go.Vc.hset_same _ _ _ | with_reducible refine (Go.Vc.hset_ne _ _ (by omega)).trans ?_)); done)); (focus exact rfl); conv => whnf) | ((with_reducible apply Go.Vc.st_i); (focus ((repeat (first | with_reducible assumption | with_reducible exact Go.Vc.hset_same _ _ _ | with_reducible refine (Go.Vc.hset_ne _ _ (by omega)).trans ?_)); done)); (focus exact rfl); (focus exact rfl); (focus exact rfl); (conv => whnf); intro cA hcA; (first | (simp only [List.setIfInBounds_toArray, List.set_cons_succ, List.set_cons_zero] at hcA; subst hcA) | subst hcA); conv => whnf))
    refine ⟨by rw [hset_ne _ _ (by omega), hset_ne _ _ (by omega)]; exact h9, ?_⟩
    conv => whnf
    repeat (first | ((with_reducible apply Go.Vc.ld_i); (focus ((repeat (first | with_reducible assumption | with_reducible exact Go.Vc.hset_same _ _ _ | with_reducible refine (Go.Vc.hset_ne _ _ (by omega)).trans ?_)); done)); (focus exact rfl); conv => whnf))
    refine ⟨a, c, ?_, ?_, fun b hb => by have := h7 b hb; omega, ?_, by omega⟩
    · rw [h6]; rfl
    · have e5 : grownTo old n 5 = grownL old n := rfl
      rw [h6, e5] at h5
      exact h5.fr (fun b o hb ho => by have := h7 b hb; rw [hset_ne _ _ (by omega), hset_ne _ _ (by omega), hset_ne _ _ (by omega)]; exact ho)
    · intro b o hb
      have := hd _ _ hb
      repeat rw [hset_ne _ _ (by omega)]
      exact h10 b o hb
end Go.Proofs.YtlkpgjicpjjlcaaGreatDoor
