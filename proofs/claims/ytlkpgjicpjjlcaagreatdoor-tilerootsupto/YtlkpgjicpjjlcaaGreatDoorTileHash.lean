import Derived.Test.YtlkpgjicpjjlcaaGreatDoorTileChunk
import Derived.Test.YtlkpgjicpjjlcaaGreatDoorTileEx
import Derived.Test.YtlkpgjicpjjlcaaGreatDoorMerkleAll
/- A tile's hashes. -/
set_option linter.unusedSimpArgs false
namespace Go.Tile
open Go Go.Vc
end Go.Tile
namespace Go.Proofs.YtlkpgjicpjjlcaaGreatDoor
open Go Go.Vc Go.Tile Go.Sha Go.Mk
set_option maxRecDepth 20000
set_option linter.unusedVariables false
/-- One part's root. -/
def partR (L : List ByteArray) (z i : Nat) : List UInt8 := (rt ndB emB ((L.drop (i * z)).take z)).data.toList
def hashS (L : List ByteArray) (z first wd : Nat) : List UInt8 := (List.range wd).flatMap fun j => partR L z (first + j)
def hashV (L : List ByteArray) (lv ix wd : Int) : ByteArray × Int :=
  if RightC lv ix wd ∧ 0 ≤ lv then
    if ix.toNat * 256 + wd.toNat > L.length / Tile.sizeOf lv then (ByteArray.empty, 3) else (⟨(hashS L (Tile.sizeOf lv) (ix.toNat * 256) wd.toNat).toArray⟩, 0)
  else (ByteArray.empty, 1)
theorem hashS_succ (L : List ByteArray) (z first j : Nat) : hashS L z first (j + 1) = hashS L z first j ++ partR L z (first + j) := by
  unfold hashS
  rw [List.range_succ, List.flatMap_append, List.flatMap_singleton]
theorem partR_len {L : List ByteArray} (hx : ∀ x ∈ L, x.size ≤ 1000) (z i : Nat) : (partR L z i).length ≤ 1000 := by
  have h1 : (rt ndB emB ((L.drop (i * z)).take z)).size ≤ 1000 := rt_size ndB emB (nd_le 1000 (by decide)) (by rw [emB_size]; decide) _ _ rfl (fun x hx' => hx x (List.mem_of_mem_drop (List.mem_of_mem_take hx')))
  exact h1
theorem hashS_len {L : List ByteArray} (hx : ∀ x ∈ L, x.size ≤ 1000) (z first : Nat) : ∀ wd, (hashS L z first wd).length ≤ wd * 1000
  | 0 => by simp [hashS]
  | wd + 1 => by
    have h1 := hashS_len hx z first wd
    have h2 := partR_len hx z (first + wd)
    rw [hashS_succ, List.length_append]
    omega
theorem rt_ne {l : List ByteArray} (h0 : l ≠ []) (hx : ∀ x ∈ l, 1 ≤ x.size) : 1 ≤ (rt ndB emB l).size := by
  by_cases h2 : 2 ≤ l.length
  · rw [rt_two ndB emB h2, ndB_size]
    decide
  · match l, h0 with
    | [x], _ => rw [rt_one]; exact hx x List.mem_cons_self
    | x :: y :: r, _ => exact absurd (by simp) h2
theorem hashS_ne {L : List ByteArray} (hx : ∀ x ∈ L, 1 ≤ x.size) {z f w : Nat} (hz : 1 ≤ z) (hw : 1 ≤ w) (hm : (f + w) * z ≤ L.length) : hashS L z f w ≠ [] := by
  obtain ⟨v, rfl⟩ : ∃ v, w = v + 1 := ⟨w - 1, by omega⟩
  rw [hashS_succ]
  intro e
  have e2 := (List.append_eq_nil_iff.1 e).2
  have hlen : ((L.drop ((f + v) * z)).take z).length = z := by
    rw [List.length_take, List.length_drop]
    have : (f + (v + 1)) * z = (f + v) * z + z := by rw [← Nat.add_assoc, Nat.succ_mul]
    omega
  have h1 := rt_ne (l := (L.drop ((f + v) * z)).take z) (fun e3 => by rw [e3] at hlen; simp at hlen; omega) (fun x hxx => hx x (List.mem_of_mem_drop (List.mem_of_mem_take hxx)))
  have h3 : (partR L z (f + v)).length = 0 := by rw [e2]; rfl
  have h4 : (partR L z (f + v)).length = (rt ndB emB ((L.drop ((f + v) * z)).take z)).size := rfl
  omega
theorem bld_sub {h h' : Heap} {b q : Nat} {l : List UInt8} (hs : Vc.Sub h h') (hB : BldAt h b q l) : BldAt h' b q l := by
  obtain ⟨p, a, n, c, hb, hp, ho, hw, hbq⟩ := hB
  exact ⟨p, a, n, c, hs _ _ hb, hp, ho.fr (fun x o _ hx => hs _ _ hx), hw, hbq⟩
theorem bld_set {h : Heap} {b q k : Nat} {o : Obj} {l : List UInt8} (hk : k < q) (hkb : k ≠ b) (hB : BldAt h b q l) : BldAt (hset h k o) b q l := by
  obtain ⟨p, a, n, c, hb, hp, ho, hw, hbq⟩ := hB
  refine ⟨p, a, n, c, ?_, hp, ho.fr (fun x o hx ho => by have := hw x hx; rw [hset_ne _ _ (by omega)]; exact ho), hw, hbq⟩
  rw [hset_ne _ _ (fun e => hkb e.symm)]
  exact hb
theorem part_eq {L : List ByteArray} {f z m k : Nat} (hk : k < m) : ((((L.take ((f + m) * z)).drop (f * z)).drop (k * z)).take z) = (L.drop ((f + k) * z)).take z := by
  rw [List.drop_drop, ← Nat.add_mul, List.drop_take, List.take_take]
  congr 1
  have : (f + k) * z + z ≤ (f + m) * z := by
    rw [← Nat.succ_mul]
    exact Nat.mul_le_mul_right _ (by omega)
  omega
theorem hashes_spec {h : Heap} {t : Nat} {a : Option Addr} {n c : Nat} {L : List ByteArray} (s : Sl h a n Value.string L) (hn : n ≤ 65536) (hnc : n ≤ c) (hx : ∀ x ∈ L, x.size ≤ 1000) (hx0 : ∀ x ∈ L, 1 ≤ x.size) (lv ix wd : Int) :
    CallSpec Tryz.prog 16 #[.slice a n c, .agg #[.int .i64 lv, .int .i64 ix, .int .i64 wd]] h t (fun v h' t' => v = .tuple #[.string (hashV L lv ix wd).1, .int .i64 (hashV L lv ix wd).2] ∧ Vc.Sub h h' ∧ t ≤ t') := by
  have hL : L.length = n := s.1
  refine Go.Vc.spec_of_vcI (fn := Tryz.f16) Tryz.func16 rfl (by kernel_rfl) (by kernel_rfl) (Nat.le_of_ble_eq_true rfl) ?_
  intro hd
  conv => whnf
  repeat (first | ((with_reducible apply Go.Vc.ldrow); (focus ((repeat (first | with_reducible assumption | with_reducible exact Go.Vc.hset_same _ _ _ | with_reducible refine (Go.Vc.hset_ne _ _ (by omega)).trans ?_)); done)); (focus exact rfl); rintro _ rfl; conv => whnf) | (intro _ _; conv => whnf))
  rename_i r3 hr3
  have hsub0 := hd.sub_new hr3 (.cells #[.int .i64 lv, .int .i64 ix, .int .i64 wd] 23)
  refine (right_spec lv ix wd).mono ?_
  rintro _ g t1 hd1 ht1 ⟨rfl, hs1, _⟩
  have g3 := hs1 _ _ (hset_same h r3 (.cells #[.int .i64 lv, .int .i64 ix, .int .i64 wd] 23 (0, 0)))
  have gS := hsub0.trans hs1
  have gs := s.sub gS
  clear hs1 hsub0
  by_cases hR : RightC lv ix wd
  · rw [decide_eq_true hR]
    conv => whnf
    repeat (first | ((with_reducible apply Go.Vc.ld_i); (focus ((repeat (first | with_reducible assumption | with_reducible exact Go.Vc.hset_same _ _ _ | with_reducible refine (Go.Vc.hset_ne _ _ (by omega)).trans ?_)); done)); (focus exact rfl); conv => whnf))
    refine br (fun hb1 => ?_) (fun hb1 => ?_)
    · conv => whnf
      refine ⟨?_, gS, by omega⟩
      unfold hashV
      rw [if_neg (by omega)]
      rfl
    · have hR' := hR
      unfold RightC at hR'
      obtain ⟨I, rfl⟩ := Int.eq_ofNat_of_zero_le hR'.2.2.1
      obtain ⟨W, rfl⟩ := Int.eq_ofNat_of_zero_le (show 0 ≤ wd by omega)
      conv => whnf
      repeat (first | ((with_reducible apply Go.Vc.ld_i); (focus ((repeat (first | with_reducible assumption | with_reducible exact Go.Vc.hset_same _ _ _ | with_reducible refine (Go.Vc.hset_ne _ _ (by omega)).trans ?_)); done)); (focus exact rfl); conv => whnf) | ((with_reducible apply Go.Vc.wr_i64); (focus exact And.intro (by omega) (by omega)); conv => whnf) | ((with_reducible apply Go.Vc.one_shl); (focus exact And.intro (by omega) (by omega)); intro zP hzP hzP0 hzP1; conv => whnf) | ((with_reducible apply Go.Vc.and_leI); (focus omega); conv => whnf))
      have hz : zP = Tile.sizeOf lv := by
        rw [hzP, show (8 * lv).toNat = 8 * lv.toNat by omega, Nat.pow_mul]
        rfl
      have hq : (n : Int) / (zP : Int) = ((n / zP : Nat) : Int) := (Int.natCast_ediv _ _).symm
      refine Go.Vc.draw_intro [⟨0, false, false, false, 0⟩, ⟨1, false, false, false, 0⟩, ⟨2, false, false, false, 2⟩, ⟨3, false, false, false, 7⟩, ⟨4, false, false, false, 0⟩, ⟨5, false, false, false, 16⟩, ⟨6, false, false, false, 0⟩, ⟨7, false, false, false, 112⟩, ⟨8, false, false, false, 255⟩] (hs := g) (hsub := (Sub.refl _)) (hm := by kernel_rfl) (hpl := by kernel_rfl) ?_
      conv => whnf
      conv => whnf
      repeat (first | ((with_reducible apply Go.Vc.ld_i); (focus ((repeat (first | with_reducible assumption | with_reducible exact Go.Vc.hset_same _ _ _ | with_reducible refine (Go.Vc.hset_ne _ _ (by omega)).trans ?_)); done)); (focus exact rfl); conv => whnf) | ((with_reducible apply Go.Vc.wr_i64); (focus exact And.intro (by omega) (by omega)); conv => whnf) | ((with_reducible apply Go.Vc.quo_i64); (focus exact And.intro (by omega) (And.intro (by omega) (by omega))); conv => whnf) | ((with_reducible refine And.intro ?_ (And.intro ?_ ?_)); (focus exact rfl); (focus omega); conv => whnf))
      rw [hq]
      refine br (fun hb2 => ?_) (fun hb2 => ?_)
      · conv => whnf
        refine ⟨?_, gS, by omega⟩
        unfold hashV
        rw [if_pos ⟨hR, by omega⟩, if_pos (by rw [← hz, hL]; omega)]
        rfl
      · have hmul : (I * 256 + W) * zP ≤ n := (Nat.le_div_iff_mul_le (by omega)).1 (by omega)
        have hmulI : ((I : Int) * 256 + (W : Int)) * (zP : Int) ≤ (n : Int) := by
          have := Int.ofNat_le.2 hmul
          push_cast at this
          exact this
        have hmul2 : (I * 256) * zP + W * zP = (I * 256 + W) * zP := (Nat.add_mul _ _ _).symm
        have hW1 : zP ≤ W * zP := Nat.le_mul_of_pos_left _ (by omega)
        have e1 : (I : Int) * 256 * (zP : Int) = ((I * 256 * zP : Nat) : Int) := by push_cast; rfl
        have e2 : ((I : Int) * 256 + (W : Int)) * (zP : Int) = (((I * 256 + W) * zP : Nat) : Int) := by push_cast; rfl
        rw [e2] at hmulI
        conv => whnf
        repeat (first | ((with_reducible refine And.intro (And.intro ?_ ?_) ?_); (focus omega); (focus omega); conv => whnf) | ((with_reducible apply Go.Vc.ld_i); (focus ((repeat (first | with_reducible assumption | with_reducible exact Go.Vc.hset_same _ _ _ | with_reducible refine (Go.Vc.hset_ne _ _ (by omega)).trans ?_)); done)); (focus exact rfl); conv => whnf) | (intro _ _; conv => whnf) | ((with_reducible apply Go.Vc.wr_i64); (focus exact And.intro (by omega) (by omega)); conv => whnf))
        rename_i r8 hr8 a' ha'
        have eF : ((I : Int) * 256 * (zP : Int)).toNat = I * 256 * zP := by rw [e1]; exact Int.toNat_natCast _
        have eE : (((I : Int) * 256 + (W : Int)) * (zP : Int)).toNat = (I * 256 + W) * zP := by rw [e2]; exact Int.toNat_natCast _
        have eL : (I * 256 + W) * zP - I * 256 * zP = W * zP := by rw [← hmul2]; omega
        rw [eF] at ha'
        rw [eF, eE, eL]
        have hpart : Sl g a' (W * zP) Value.string ((L.take ((I * 256 + W) * zP)).drop (I * 256 * zP)) := by
          have h1 := (gs.take hmul).drop (m := I * 256 * zP) (c := c) (a' := a') (by omega) (by omega) (ha'.trans rfl)
          rw [eL] at h1
          exact h1
        have hd8 := hd1.set r8 (.cells #[.pointer none, .slice none 0 0] 85) (r8 + 1) (by omega) (by omega)
        have hs8 := hd1.sub_new hr8 (.cells #[.pointer none, .slice none 0 0] 85)
        refine (chunkfn_spec a' (W * zP) (c - I * 256 * zP) zP (by omega)).mono ?_
        rintro _ g2 t2 hd2 ht2 ⟨q2, q3, rfl, k2, k3, kt2, kt23, kt3, hs2⟩
        have k8 : g2 r8 = some (.cells #[.pointer none, .slice none 0 0] 85 (0, 0)) := hs2 _ _ (hset_same _ _ _)
        have hgg2 : Vc.Sub g g2 := hs8.trans hs2
        clear hs2 hs8 hd8
        conv => whnf
        refine RangeVC.mk rfl ⟨_, _, _, rfl, ?_⟩
        intro Db Lp hDb hDL nn fn T2 LR
        have hsa := hd2.sub_new hDb (.deferred (some []))
        have hda := hd2.set Db (.deferred (some [])) (Db + 1) (by omega) (by omega)
        generalize hR0 : Loop.mk _ _ _ _ _ _ _ _ = R0
        have hRs : R0.state = .ready := by rw [← hR0]
        have hRn : R0.pending = none := by rw [← hR0]
        have hRp := congrArg Loop.params hR0
        have hRa := congrArg Loop.assign hR0
        have hRb := congrArg Loop.body hR0
        have hRt : T2 = R0.tmps := congrArg Loop.tmps hR0
        rw [hRt] at LR
        dsimp only at hRp hRa hRb
        clear hR0
        have hsb := hda.sub_new (r := Lp) (by omega) (.loop R0)
        have hdb := hda.set Lp (.loop R0) (Lp + 1) (by omega) (by omega)
        have hsub := hgg2.trans (hsa.trans hsb)
        show CallSpec Tryz.prog _ #[.func (.yield Lp) #[] #[], .pointer (some ⟨q2, 0, none⟩), .pointer (some ⟨q3, 0, none⟩)] _ _ _
        refine (chunk_spec (l := Lp) (m := W) (a := a') (n := W * zP) (c := c - I * 256 * zP) (z := zP) (r2 := q2) (r3 := q3) (by omega) rfl (by omega) (by omega)
          (fun k h' t' => Lp < t' ∧ h' q2 = some (.cells #[.slice a' (W * zP) (c - I * 256 * zP)] 42 (0, 0)) ∧ h' q3 = some (.cells #[.int .i64 (zP : Nat)] 3 (0, 0)) ∧ BldAt h' r8 (Lp + 1) (hashS L zP (I * 256) k) ∧ h' Lp = some (.loop R0) ∧ h' Db = some (.deferred (some [])) ∧ Vc.Sub g h') ?_ ?_ ?_).mono ?_
        · refine ⟨by omega, ?_, ?_, ⟨.pointer none, none, 0, 0, ?_, .inl rfl, ⟨rfl, .inl ⟨rfl, rfl, rfl⟩⟩, (fun b hb => by cases hb), by omega⟩, hset_same _ _ _, ?_, hsub⟩
          · rw [hset_ne _ _ (by omega), hset_ne _ _ (by omega)]; exact k2
          · rw [hset_ne _ _ (by omega), hset_ne _ _ (by omega)]; exact k3
          · rw [hset_ne _ _ (by omega), hset_ne _ _ (by omega)]; exact k8
          · rw [hset_ne _ _ (by omega)]; exact hset_same _ _ _
        · rintro k h' t' ⟨_, h2, h3, _⟩
          exact ⟨h2, h3⟩
        · rintro k h' t' hk ht' hd' ⟨h1, h2, h3, h4, h8, h9, h10⟩
          refine yield_i h8 hRs hRp hRa hRb LR rfl ?_
          intro hd4
          conv => whnf
          refine ⟨rfl, rfl, _, h8, hRs, ?_⟩
          rintro rb hrb
          have hsc : Vc.Sub g (hset h' Lp (.loop rb)) := fun b o hb => by
            rw [hset_ne _ _ (by have := hd1 _ _ hb; omega)]
            exact h10 b o hb
          have hdc : Dom (hset h' Lp (.loop rb)) t' := hd'.set Lp _ t' (Nat.le_refl _) (by omega)
          have hkz : k * zP + zP ≤ W * zP := by
            rw [← Nat.succ_mul]
            exact Nat.mul_le_mul_right _ hk
          have hsl := sl_part (hpart.sub hsc) (i := k * zP) (z := zP) hkz (by omega)
          rw [part_eq hk] at hsl
          have h4s : BldAt (hset h' Lp (.loop rb)) r8 (Lp + 1) (hashS L zP (I * 256) k) := bld_set (by omega) (by omega) h4
          have q2s : (hset h' Lp (.loop rb)) q2 = some (.cells #[.slice a' (W * zP) (c - I * 256 * zP)] 42 (0, 0)) := by rw [hset_ne _ _ (by omega)]; exact h2
          have q3s : (hset h' Lp (.loop rb)) q3 = some (.cells #[.int .i64 (zP : Nat)] 3 (0, 0)) := by rw [hset_ne _ _ (by omega)]; exact h3
          have qDs : (hset h' Lp (.loop rb)) Db = some (.deferred (some [])) := by rw [hset_ne _ _ (by omega)]; exact h9
          have qLs : (hset h' Lp (.loop rb)) Lp = some (.loop rb) := hset_same _ _ _
          generalize hset h' Lp (.loop rb) = hc at hsc hdc hsl h4s q2s q3s qDs qLs ⊢
          have hzn : zP ≤ 65536 := by omega
          conv => whnf
          refine (root_spec hsl hzn (fun x hxx => Nat.le_trans (hx x (List.mem_of_mem_drop (List.mem_of_mem_take hxx))) (by decide))).mono ?_
          rintro _ g5 t5 hd5 ht5 ⟨rfl, hs5⟩
          have hpl := partR_len hx zP (I * 256 + k)
          have hhl := hashS_len hx zP (I * 256) k
          conv => whnf
          refine (bwrite_spec (rt ndB emB ((L.drop ((I * 256 + k) * zP)).take zP)) (bld_sub hs5 h4s) (by omega) (by
            have : (rt ndB emB ((L.drop ((I * 256 + k) * zP)).take zP)).size ≤ 1000 := hpl
            omega)).mono ?_
          rintro _ g6 t6 hd6 ht6 ⟨rfl, hB6, hf6, _⟩
          have f2 : g6 q2 = _ := (hf6 q2 (by omega) (by omega)).trans (hs5 _ _ q2s)
          have f3 : g6 q3 = _ := (hf6 q3 (by omega) (by omega)).trans (hs5 _ _ q3s)
          have fD : g6 Db = _ := (hf6 Db (by omega) (by omega)).trans (hs5 _ _ qDs)
          have fL : g6 Lp = _ := (hf6 Lp (by omega) (by omega)).trans (hs5 _ _ qLs)
          have fS : Vc.Sub g g6 := fun b o hb => by
            have := hd1 _ _ hb
            rw [hf6 b (by omega) (by omega)]
            exact hs5 _ _ (hsc _ _ hb)
          conv => whnf
          refine ⟨rb, fL, ?_⟩
          intro r' hr'
          have er : r' = R0 := by rw [hr', hrb, ← hRs, ← hRn]
          subst er
          refine ⟨rfl, by omega, ?_, ?_, ?_, hset_same _ _ _, ?_, ?_⟩
          · rw [hset_ne _ _ (by omega)]; exact f2
          · rw [hset_ne _ _ (by omega)]; exact f3
          · rw [hashS_succ]
            exact bld_set (by omega) (by omega) hB6
          · rw [hset_ne _ _ (by omega)]; exact fD
          · intro b o hb
            have := hd1 _ _ hb
            rw [hset_ne _ _ (by omega)]
            exact fS b o hb
        · rintro _ h' t' hd' ht' ⟨h1, h2, h3, h4, h8, h9, h10⟩
          refine ⟨_, h8, by rw [hRs]; decide, ?_⟩
          rintro rb hrb
          rw [hRn]
          have h4s : BldAt (hset h' Lp (.loop rb)) r8 (Lp + 1) (hashS L zP (I * 256) W) := bld_set (by omega) (by omega) h4
          have qDs : (hset h' Lp (.loop rb)) Db = some (.deferred (some [])) := by rw [hset_ne _ _ (by omega)]; exact h9
          have hsc : Vc.Sub g (hset h' Lp (.loop rb)) := fun b o hb => by
            rw [hset_ne _ _ (by have := hd1 _ _ hb; omega)]
            exact h10 b o hb
          have hhl := hashS_len hx zP (I * 256) W
          conv => whnf
          refine (bstring_spec h4s (by omega) (by omega) (hashS_ne hx0 (by omega) (by omega) (by rw [hL]; exact hmul))).mono ?_
          rintro _ g9 t9 hd9 ht9 ⟨rfl, hf9, _⟩
          conv => whnf
          refine ⟨by rw [hf9 Db (by omega)]; exact qDs, ?_⟩
          conv => whnf
          refine ⟨?_, ?_, by omega⟩
          · unfold hashV
            rw [if_pos ⟨hR, by omega⟩, if_neg (by rw [← hz, hL]; omega), ← hz]
            rfl
          · intro b o hb
            have hb1 := gS _ _ hb
            have := hd1 _ _ hb1
            rw [hset_ne _ _ (by omega), hf9 b (by omega)]
            exact hsc _ _ hb1
  · rw [decide_eq_false hR]
    conv => whnf
    refine ⟨?_, gS, by omega⟩
    unfold hashV
    rw [if_neg (fun e => hR e.1)]
    rfl
end Go.Proofs.YtlkpgjicpjjlcaaGreatDoor
