/- Each tile's path has room for a name. -/
import Derived.Test.YtlkpgjicpjjlcaaDoorTileEx
set_option linter.unusedSimpArgs false
namespace Go.Tile
open Go Go.Vc
theorem numR_lt : ∀ {f n k : Nat}, n < 10 ^ k → 1 ≤ k → (numR f n).length ≤ k
  | 0, _, _, _, _ => Nat.zero_le _
  | f + 1, n, k, h, hk => by
    rw [numR]
    split
    · exact hk
    · rename_i hn
      match k, hk with
      | 1, _ => rw [Nat.pow_one] at h; omega
      | k + 2, _ =>
        have := numR_lt (f := f) (n := n / 10) (k := k + 1) (by rw [Nat.pow_succ] at h; omega) (by omega)
        rw [List.length_append, List.length_singleton]
        omega
theorem threeS_size (n : Nat) : (threeS n).size = 3 := by
  have h1 : (threeS n).data.toList.length = 3 := by rw [threeL]; rfl
  exact h1
theorem idxG_b : ∀ {f n : Nat} {acc : ByteArray}, acc.size ≤ (idxG f n acc).size ∧ (idxG f n acc).size ≤ acc.size + 5 * f
  | 0, _, _ => ⟨Nat.le_refl _, Nat.le_refl _⟩
  | f + 1, n, acc => by
    rw [idxG]
    split
    · omega
    · have h1 := idxG_b (f := f) (n := n / 1000) (acc := xB ++ threeS n ++ slB ++ acc)
      have h2 := threeS_size n
      rw [ByteArray.size_append, ByteArray.size_append, ByteArray.size_append, show xB.size = 1 from rfl, show slB.size = 1 from rfl] at h1
      omega
theorem idxS_b (n : Nat) : 3 ≤ (idxS n).size ∧ (idxS n).size ≤ 18 := by
  have h1 := idxG_b (f := 3) (n := n / 1000) (acc := threeS n)
  have h2 := threeS_size n
  unfold idxS
  omega
theorem path_size {lv ix wd : Int} (hR : RightC lv ix wd) : 10 ≤ (pathS lv ix wd).size ∧ (pathS lv ix wd).size ≤ 100 := by
  obtain ⟨h1, h2, h3, h4, h5, h6⟩ := hR
  have a1 : 1 ≤ (levelS lv).size ∧ (levelS lv).size ≤ 4 := by
    unfold levelS
    split
    · have := numR_lt (f := 20) (n := lv.toNat) (k := 1) (by omega) (by omega)
      have h8 := (numS_le lv.toNat).1
      rw [numS_size] at h8 ⊢
      unfold numL at h8 ⊢
      omega
    · decide
  have a2 := idxS_b ix.toNat
  have a3 : (widthS wd).size ≤ 6 := by
    unfold widthS
    split
    · have := numR_lt (f := 20) (n := wd.toNat) (k := 3) (by omega) (by omega)
      rw [ByteArray.size_append, show ppB.size = 3 from rfl, numS_size]
      unfold numL
      omega
    · decide
  unfold pathS
  rw [ByteArray.size_append, ByteArray.size_append, ByteArray.size_append, ByteArray.size_append, show tileB.size = 5 from rfl, show slB.size = 1 from rfl]
  omega
theorem level_nodot {lv : Int} : ∀ x ∈ (levelS lv).data.toList, x ≠ 46 := by
  intro x hx
  unfold levelS at hx
  split at hx
  · obtain ⟨k, rfl⟩ := numR_mem hx
    exact digit_ne (by decide)
  · have : x = 100 ∨ x = 97 ∨ x = 116 ∨ x = 97 := by simpa [dataB] using hx
    rcases this with rfl | rfl | rfl | rfl <;> decide
theorem count_no {l : List UInt8} {c : UInt8} (h : ∀ x ∈ l, x ≠ c) : l.count c = 0 := List.count_eq_zero.2 (fun hc => h c hc rfl)
theorem path_dots {lv ix wd : Int} (hR : RightC lv ix wd) : (pathS lv ix wd).data.toList.count 46 = if wd < 256 then 1 else 0 := by
  obtain ⟨h1, h2, h3, h4, h5, h6⟩ := hR
  obtain ⟨d1, d2⟩ := idx_digits (n := ix.toNat) (by omega)
  rw [path_data, List.count_append, List.count_append, List.count_append, List.count_append, count_no (level_nodot), count_no d2, show tileB.data.toList.count 46 = 0 from by decide, show ([47] : List UInt8).count 46 = 0 from by decide]
  unfold widthS
  split
  · rw [ByteArray.data_append, Array.toList_append, List.count_append, show ppB.data.toList.count 46 = 1 from by decide, count_no]
    intro x hx
    obtain ⟨k, rfl⟩ := numR_mem hx
    exact digit_ne (by decide)
  · rfl
theorem path_front (lv ix wd : Int) : (pathS lv ix wd).extract 0 5 = tileB := by
  apply ba_eq
  rw [show ((pathS lv ix wd).extract 0 5).data.toList = (pathS lv ix wd).data.toList.take 5 by simp, path_data]
  rfl
end Go.Tile
namespace Go.Proofs.YtlkpgjicpjjlcaaDoor
open Go Go.Vc Go.Tile
set_option maxRecDepth 20000
set_option linter.unusedVariables false
theorem TileNames_spec {h : Heap} {t : Nat} (hM : MaxC h) (a : Int) (ha : 0 ≤ a ∧ a ≤ 255) (b : Int) (hb : 0 ≤ b ∧ b ≤ 4294967295) (c : Int) (hc : 0 ≤ c ∧ c ≤ 255) :
    CallSpec Tryd.prog 5 #[.int .u8 a, .int .u32 b, .int .u8 c] h t (fun v h' _ => v = .bool true ∧ Vc.Sub h h') := by
  refine Go.Vc.spec_of_vc (fn := Tryd.f5) Tryd.func5 rfl (by kernel_rfl) (by kernel_rfl) (Nat.le_of_ble_eq_true rfl) ?_
  intro hd
  conv => whnf
  refine (examples_spec hM).mono ?_
  rintro _ g t1 hd1 ht1 ⟨rfl, hs1, _⟩
  conv => whnf
  repeat (first | ((with_reducible apply Go.Vc.ldrow); (focus ((repeat (first | with_reducible assumption | with_reducible exact Go.Vc.hset_same _ _ _ | with_reducible refine (Go.Vc.hset_ne _ _ (by omega)).trans ?_)); done)); (focus exact rfl); rintro _ rfl; conv => whnf) | ((with_reducible apply Go.Vc.strow); (focus ((repeat (first | with_reducible assumption | with_reducible exact Go.Vc.hset_same _ _ _ | with_reducible refine (Go.Vc.hset_ne _ _ (by omega)).trans ?_)); done)); (focus exact rfl); (focus exact rfl); (focus exact rfl); rintro _ rfl; conv => whnf) | (intro _ _; conv => whnf) | ((with_reducible apply Go.Vc.wr_i64); (focus exact And.intro (by omega) (by omega)); conv => whnf) | ((with_reducible apply Go.Vc.rem_i); (focus omega); conv => whnf) | ((with_reducible refine And.intro ?_ (And.intro ?_ ?_)); (focus exact rfl); (focus omega); conv => whnf))
  rename_i r hr
  have hR : RightC (a % 5 - 1) (b % 4194305) (1 + c) := by unfold RightC; omega
  obtain ⟨hz1, hz2⟩ := path_size hR
  have hdots := path_dots hR
  have hfr := path_front (a % 5 - 1) (b % 4194305) (1 + c)
  refine (path_spec _ _ _ hR).mono ?_
  rintro _ g2 t2 hd2 ht2 ⟨rfl, hs2, _⟩
  have hr2 := hs2 _ _ (hset_same _ _ _)
  have hS : Vc.Sub h g2 := fun o x ho => hs2 _ _ (by
    have h1 := hs1 _ _ ho
    have h2 := hd1 _ _ h1
    rw [hset_ne _ _ (by omega), hset_ne _ _ (by omega)]
    exact h1)
  generalize hp : pathS (a % 5 - 1) (b % 4194305) (1 + c) = p at hz1 hz2 hdots hfr ⊢
  have hpl : p.data.toList.length = p.size := rfl
  conv => whnf
  refine loop_intro (fun (i : Nat) => [(7, .bool true), (8, .pointer (some ⟨r, 0, none⟩)), (9, .string p), (10, .int .i64 0), (11, .int .i64 ((p.data.toList.take i).count 46 : Nat)), (12, .int .i64 (i : Nat))])
    (fun i h' t' => i ≤ p.size ∧ h' = g2 ∧ t' = t2) (fun i => p.size - i) 0 ⟨rfl, rfl, rfl, rfl, rfl, rfl, trivial⟩ ⟨by omega, rfl, rfl⟩ ?_
  rintro i e3 g3 t3 hd3 ⟨hi, rfl, rfl⟩
  have hcl : (p.data.toList.take i).count 46 ≤ 100 := Nat.le_trans List.count_le_length (by rw [List.length_take]; omega)
  conv => whnf
  refine br (fun h1 => ?_) (fun h1 => ?_)
  · have hip : i < p.data.toList.length := by omega
    have hby : byteAt p ((i : Int)).toNat = ((p.data.toList[i]).toNat : Int) := byteAt_get hip
    have hst : (p.data.toList.take (i + 1)).count 46 = (p.data.toList.take i).count 46 + (if (p.data.toList[i]).toNat = 46 then 1 else 0) := by
      rw [List.take_succ_eq_append_getElem hip, List.count_append, List.count_singleton]
      congr 1
      by_cases hx : p.data.toList[i] = 46
      · rw [hx]; rfl
      · rw [if_neg (by simpa using hx), if_neg (fun e => hx (UInt8.toNat_inj.1 (show (p.data.toList[i]).toNat = (46 : UInt8).toNat from e)))]
    conv => whnf
    repeat (first | ((with_reducible refine And.intro (And.intro ?_ ?_) ?_); (focus omega); (focus omega); conv => whnf) | (intro _ _; conv => whnf))
    rw [hby]
    refine br (fun h2 => ?_) (fun h2 => ?_)
    · rw [if_pos (by omega)] at hst
      conv => whnf
      repeat (first | ((with_reducible apply Go.Vc.wr_i64); (focus exact And.intro (by omega) (by omega)); conv => whnf))
      refine round_end (i + 1) (by omega) ⟨rfl, rfl, rfl, rfl, ?_, rfl, trivial⟩ ⟨by omega, rfl, rfl⟩
      rw [hst]; rfl
    · rw [if_neg (by omega)] at hst
      conv => whnf
      repeat (first | ((with_reducible apply Go.Vc.wr_i64); (focus exact And.intro (by omega) (by omega)); conv => whnf))
      refine round_end (i + 1) (by omega) ⟨rfl, rfl, rfl, rfl, ?_, rfl, trivial⟩ ⟨by omega, rfl, rfl⟩
      rw [hst]; rfl
  · obtain rfl : i = p.size := by omega
    rw [List.take_of_length_le (Nat.le_of_eq hpl), hdots]
    by_cases hw : 1 + c < 256
    · rw [if_pos hw]
      conv => whnf
      repeat (first | ((with_reducible refine And.intro (And.intro ?_ ?_) ?_); (focus omega); (focus omega); conv => whnf) | (refine Go.Vc.br_t ?_ ?_; (focus omega); conv => whnf))
      refine br_t hfr ?_
      conv => whnf
      repeat (first | ((with_reducible apply Go.Vc.ld_i); (focus ((repeat (first | with_reducible assumption | with_reducible exact Go.Vc.hset_same _ _ _ | with_reducible refine (Go.Vc.hset_ne _ _ (by omega)).trans ?_)); done)); (focus exact rfl); conv => whnf))
      refine bsel_t (by rw [opq_eq, opq_eq]; simp [hw]) ?_
      conv => whnf
      exact ⟨by rw [opq_eq]; rfl, hS⟩
    · rw [if_neg hw]
      conv => whnf
      repeat (first | ((with_reducible refine And.intro (And.intro ?_ ?_) ?_); (focus omega); (focus omega); conv => whnf) | (refine Go.Vc.br_t ?_ ?_; (focus omega); conv => whnf))
      refine br_t hfr ?_
      conv => whnf
      repeat (first | ((with_reducible apply Go.Vc.ld_i); (focus ((repeat (first | with_reducible assumption | with_reducible exact Go.Vc.hset_same _ _ _ | with_reducible refine (Go.Vc.hset_ne _ _ (by omega)).trans ?_)); done)); (focus exact rfl); conv => whnf))
      refine bsel_t (by rw [opq_eq, opq_eq]; simp [hw]) ?_
      conv => whnf
      exact ⟨by rw [opq_eq]; rfl, hS⟩
end Go.Proofs.YtlkpgjicpjjlcaaDoor
