import Derived.Test.YtlkpgjicpjjlcaaGreatDoorTileTAll
import Derived.Test.YtlkpgjicpjjlcaaGreatDoorTileRHash
import Derived.Test.YtlkpgjicpjjlcaaGreatDoorTileRPath
/- The tiles of a list, by their paths. -/
set_option linter.unusedVariables false
set_option linter.unusedSimpArgs false
namespace Go.Proofs.YtlkpgjicpjjlcaaGreatDoor
open Go Go.Vc Go.Tile Go.Sha Go.Mk
set_option maxRecDepth 20000
set_option linter.unusedVariables false
theorem tile_ok {N q k : Nat} (hN : N ≤ 65536) (hq : q < 4) (hk : k * 256 < N / 256 ^ q) : RightC (q : Nat) (k : Nat) (tileW N q k : Nat) := by
  have := Nat.div_le_self N (256 ^ q)
  have h1 : 1 ≤ tileW N q k := by unfold tileW; omega
  have h2 : tileW N q k ≤ 256 := by unfold tileW; omega
  unfold RightC
  omega
theorem tile_end {N q k : Nat} (hk : k * 256 < N / 256 ^ q) : (k * 256 + tileW N q k) * 256 ^ q ≤ N := by
  refine Nat.le_trans (Nat.mul_le_mul_right _ ?_) (Nat.div_mul_le_self N (256 ^ q))
  unfold tileW
  omega
theorem hashV_tile {L : List ByteArray} {N q k : Nat} (hN : N ≤ 65536) (hL : N ≤ L.length) (hq : q < 4) (hk : k * 256 < N / 256 ^ q) :
    hashV L (q : Nat) (k : Nat) (tileW N q k : Nat) = (⟨(hashS L (256 ^ q) (k * 256) (tileW N q k)).toArray⟩, 0) := by
  have hR := tile_ok hN hq hk
  have hE := tile_end hk
  unfold hashV
  rw [if_pos ⟨hR, by omega⟩, Int.toNat_natCast, Int.toNat_natCast, if_neg]
  · unfold Tile.sizeOf
    rw [Int.toNat_natCast]
  · unfold Tile.sizeOf
    rw [Int.toNat_natCast]
    have := (Nat.le_div_iff_mul_le (Nat.pos_of_ne_zero (by have := Nat.one_le_pow q 256 (by decide); omega))).2 (Nat.le_trans hE hL)
    omega
/-- The tiles that are laid down so far. -/
def HasTo (D : List (ByteArray × ByteArray)) (L : List ByteArray) (N q0 k0 : Nat) : Prop :=
  ∀ q k : Nat, q < 4 → k * 256 < N / 256 ^ q → (q < q0 ∨ q = q0 ∧ k < k0) → gGet D (pathS (q : Nat) (k : Nat) (tileW N q k : Nat)) = some ⟨(hashS L (256 ^ q) (k * 256) (tileW N q k)).toArray⟩
theorem HasTo.put {D : List (ByteArray × ByteArray)} {L : List ByteArray} {N q k : Nat} (h : HasTo D L N q k) (hN : N ≤ 65536) (hq : q < 4) (hk : k * 256 < N / 256 ^ q) :
    HasTo (gPut D (pathS (q : Nat) (k : Nat) (tileW N q k : Nat)) ⟨(hashS L (256 ^ q) (k * 256) (tileW N q k)).toArray⟩) L N q (k + 1) := by
  intro q' k' hq' hk' hb
  rw [gGet_put]
  by_cases he : pathS (q' : Nat) (k' : Nat) (tileW N q' k' : Nat) = pathS (q : Nat) (k : Nat) (tileW N q k : Nat)
  · obtain ⟨e1, e2, _⟩ := pathS_inj (tile_ok hN hq' hk') (tile_ok hN hq hk) he
    obtain rfl : q' = q := by omega
    obtain rfl : k' = k := by omega
    rw [if_pos rfl]
  · rw [if_neg he]
    refine h q' k' hq' hk' ?_
    rcases hb with hb | ⟨rfl, hb⟩
    · exact .inl hb
    · refine .inr ⟨rfl, ?_⟩
      by_cases hkk : k' = k
      · subst hkk
        exact absurd rfl he
      · omega
theorem HasTo.next {D : List (ByteArray × ByteArray)} {L : List ByteArray} {N q k : Nat} (h : HasTo D L N q k) (hk : ¬ k * 256 < N / 256 ^ q) : HasTo D L N (q + 1) 0 := by
  intro q' k' hq' hk' hb
  refine h q' k' hq' hk' ?_
  rcases hb with hb | ⟨_, hb⟩
  · by_cases hqq : q' = q
    · subst hqq
      exact .inr ⟨rfl, by omega⟩
    · exact .inl (by omega)
  · omega
theorem HasTo.fin {D : List (ByteArray × ByteArray)} {L : List ByteArray} {N q k : Nat} (h : HasTo D L N q k) (hq : 4 ≤ q) : Has D L N := fun q' k' hq' hk' => h q' k' hq' hk' (.inl (by omega))
theorem store_spec {h : Heap} {t : Nat} {a : Option Addr} {n c : Nat} {L : List ByteArray} (s : Sl h a n Value.string L) (hn : n ≤ 65000) (hnc : n ≤ c) (hx : ∀ x ∈ L, x.size ≤ 1000) :
    CallSpec Tryz.prog 21 #[.slice a n c] h t (fun v h' t' => ∃ m o D, v = .map (some m) ∧ h' m = some o ∧ MapG o Value.string Value.string D ∧ Has D L n ∧ t ≤ m ∧ m < t' ∧ Vc.Sub h h') := by
  have hL : L.length = n := s.1
  refine Go.Vc.spec_of_vc (fn := Tryz.f21) Tryz.func21 rfl (by kernel_rfl) (by kernel_rfl) (Nat.le_of_ble_eq_true rfl) ?_
  intro hd
  conv => whnf
  repeat (first | (intro _ _; conv => whnf))
  rename_i rm hrm
  refine loop_intro3 (fun (q : Nat) (D : List (ByteArray × ByteArray)) (o : Obj) => [(0, .slice a n c), (3, .map (some rm)), (4, .int .i64 ((256 ^ q : Nat) : Int)), (5, .int .i64 (q : Nat))])
    (fun q D o h' t' => q ≤ 4 ∧ h' rm = some o ∧ MapG o Value.string Value.string D ∧ HasTo D L n q 0 ∧ rm < t' ∧ Vc.Sub h h') (fun q _ _ => 4 - q) 0 [] (.map #[] 0) ⟨rfl, rfl, rfl, rfl, trivial⟩
    ⟨by omega, hset_same _ _ _, mapg_new _ _, ?_, by omega, hd.sub_new hrm _⟩ ?_
  · intro q k hq hk hb
    omega
  rintro q D o e1 g t1 hd1 ⟨hq, hmo, hmg, hH, ht1, hs1⟩
  conv => whnf
  refine br (fun hb => ?_) (fun hb => ?_)
  · have hq4 : q < 4 := by omega
    have hp : 256 ^ q ≤ 16777216 := Nat.le_trans (Nat.pow_le_pow_right (by decide) (show q ≤ 3 by omega)) (by decide)
    have hp1 : 1 ≤ 256 ^ q := Nat.one_le_pow _ _ (by decide)
    have hps : 256 ^ (q + 1) = 256 ^ q * 256 := Nat.pow_succ _ _
    obtain ⟨M, hM⟩ : ∃ M, M = n / 256 ^ q := ⟨_, rfl⟩
    have hMn : M ≤ n := by rw [hM]; exact Nat.div_le_self _ _
    have hMI : (n : Int) / ((256 ^ q : Nat) : Int) = (M : Int) := by rw [hM]; exact (Int.natCast_ediv _ _).symm
    conv => whnf
    repeat (first | ((with_reducible apply Go.Vc.quo_i64); (focus exact And.intro (by omega) (And.intro (by omega) (by omega))); conv => whnf) | ((with_reducible refine And.intro ?_ (And.intro ?_ ?_)); (focus exact rfl); (focus omega); conv => whnf))
    rw [hMI]
    refine loop_intro3 (fun (k : Nat) (D : List (ByteArray × ByteArray)) (o : Obj) => [(0, .slice a n c), (3, .map (some rm)), (4, .int .i64 ((256 ^ q : Nat) : Int)), (5, .int .i64 (q : Nat)), (6, .int .i64 (M : Nat)), (7, .int .i64 (k : Nat))])
      (fun k D o h' t' => k ≤ M ∧ h' rm = some o ∧ MapG o Value.string Value.string D ∧ HasTo D L n q k ∧ rm < t' ∧ Vc.Sub h h') (fun k _ _ => M - k) 0 D o ⟨rfl, rfl, rfl, rfl, rfl, rfl, trivial⟩
      ⟨by omega, hmo, hmg, hH, ht1, hs1⟩ ?_
    rintro k D2 o2 e2 g2 t2 hd2 ⟨hk, hmo2, hmg2, hH2, ht2, hs2⟩
    conv => whnf
    repeat (first | ((with_reducible apply Go.Vc.wr_i64); (focus exact And.intro (by omega) (by omega)); conv => whnf))
    refine br (fun hb2 => ?_) (fun hb2 => ?_)
    · have hkM : k * 256 < n / 256 ^ q := by omega
      have hR := tile_ok (N := n) (by omega) hq4 hkM
      have hV := hashV_tile (L := L) (N := n) (by omega) (by omega) hq4 hkM
      have hput := hH2.put (by omega) hq4 hkM
      have hw : (if (256 : Int) < (M : Int) - (k : Int) * 256 then (256 : Int) else (M : Int) - (k : Int) * 256) = ((tileW n q k : Nat) : Int) := by
        unfold tileW
        rw [← hM]
        split <;> omega
      generalize tileW n q k = w at *
      conv => whnf
      repeat (first | ((with_reducible apply Go.Vc.ldrow); (focus ((repeat (first | with_reducible assumption | with_reducible exact Go.Vc.hset_same _ _ _ | with_reducible refine (Go.Vc.hset_ne _ _ (by omega)).trans ?_)); done)); (focus exact rfl); rintro _ rfl; conv => whnf) | ((with_reducible apply Go.Vc.strow); (focus ((repeat (first | with_reducible assumption | with_reducible exact Go.Vc.hset_same _ _ _ | with_reducible refine (Go.Vc.hset_ne _ _ (by omega)).trans ?_)); done)); (focus exact rfl); (focus exact rfl); (focus exact rfl); rintro _ rfl; conv => whnf) | (intro _ _; conv => whnf) | ((with_reducible apply Go.Vc.wr_i64); (focus exact And.intro (by omega) (by omega)); conv => whnf))
      rw [hw]
      rename_i r8 hr8
      have hs8 : ∀ o1 o2 : Obj, Vc.Sub g2 (hset (hset g2 r8 o1) r8 o2) := fun o1 o2 b x hb => by
        have := hd2 _ _ hb
        rw [hset_ne _ _ (by omega), hset_ne _ _ (by omega)]
        exact hb
      refine (rpath_spec (q : Nat) (k : Nat) (w : Nat) hR).mono ?_
      rintro _ g3 t3 hd3 ht3 ⟨rfl, hs3, _⟩
      have h38 : g3 r8 = _ := hs3 _ _ (hset_same _ _ _)
      have hS3 := hs2.trans ((hs8 _ _).trans hs3)
      conv => whnf
      repeat (first | ((with_reducible apply Go.Vc.ldrow); (focus ((repeat (first | with_reducible assumption | with_reducible exact Go.Vc.hset_same _ _ _ | with_reducible refine (Go.Vc.hset_ne _ _ (by omega)).trans ?_)); done)); (focus exact rfl); rintro _ rfl; conv => whnf))
      refine (rhashes_spec (s.sub hS3) (by omega) hnc hx (q : Nat) (k : Nat) (w : Nat)).mono ?_
      rintro _ g4 t4 hd4 ht4 ⟨rfl, hs4, _⟩
      rw [hV]
      have hmo4 : g4 rm = some o2 := hs4 _ _ (hs3 _ _ (hs8 _ _ _ _ hmo2))
      have hS4 := hS3.trans hs4
      conv => whnf
      refine mapup_g (kv := Value.string) (k := pathS (q : Nat) (k : Nat) (w : Nat)) (v := ⟨(hashS L (256 ^ q) (k * 256) w).toArray⟩) (f := Value.string) Tryz.underlying49 (keyOk_string Tryz.underlying9) hmo4 hmg2 ?_
      intro o5 hmg5
      conv => whnf
      repeat (first | ((with_reducible apply Go.Vc.wr_i64); (focus exact And.intro (by omega) (by omega)); conv => whnf))
      refine round_end3 (k + 1) _ o5 (by omega) ⟨rfl, rfl, rfl, rfl, rfl, rfl, trivial⟩ ⟨by omega, hset_same _ _ _, hmg5, hput, by omega, ?_⟩
      intro b x hbx
      have := hd _ _ hbx
      rw [hset_ne _ _ (by omega)]
      exact hS4 _ _ hbx
    · conv => whnf
      repeat (first | ((with_reducible apply Go.Vc.wr_i64); (focus exact And.intro (by omega) (by omega)); conv => whnf))
      refine round_end3 (q + 1) D2 o2 (by omega) ⟨rfl, rfl, ?_, rfl, trivial⟩ ⟨by omega, hmo2, hmg2, hH2.next (by omega), ht2, hs2⟩
      show Value.int .i64 _ = Value.int .i64 _
      congr 1
  · conv => whnf
    exact ⟨rm, o, D, rfl, hmo, hmg, hH.fin (by omega), hrm, ht1, hs1⟩
end Go.Proofs.YtlkpgjicpjjlcaaGreatDoor
