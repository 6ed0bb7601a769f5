import Derived.Test.YtlkpgjicpjjlcaaGreatDoorTileRNum
/- The document's path. -/
set_option linter.unusedSimpArgs false
namespace Go.Tile
open Go Go.Vc
theorem threeS_sz (n : Nat) : (threeS n).size = 3 := by
  have h1 : (threeS n).data.toList.length = 3 := by rw [threeL]; rfl
  exact h1
end Go.Tile
namespace Go.Proofs.YtlkpgjicpjjlcaaGreatDoor
open Go Go.Vc Go.Tile
set_option maxRecDepth 20000
set_option linter.unusedVariables false
theorem rright_spec {h : Heap} {t : Nat} (lv ix wd : Int) :
    CallSpec Tryz.prog 32 #[.agg #[.int .i64 lv, .int .i64 ix, .int .i64 wd]] h t (fun v h' t' => v = .bool (decide (RightC lv ix wd)) ∧ Vc.Sub h h' ∧ t ≤ t') := by
  refine Go.Vc.spec_of_vc (fn := Tryz.f32) Tryz.func32 rfl (by kernel_rfl) (by kernel_rfl) (Nat.le_of_ble_eq_true rfl) ?_
  intro hd
  conv => whnf
  repeat (first | ((with_reducible apply Go.Vc.ld_i); (focus ((repeat (first | with_reducible assumption | with_reducible exact Go.Vc.hset_same _ _ _ | with_reducible refine (Go.Vc.hset_ne _ _ (by omega)).trans ?_)); done)); (focus exact rfl); conv => whnf) | (intro _ _; conv => whnf))
  rename_i r hr
  have hs := hd.sub_new hr
  refine br (fun h1 => ?_) (fun h1 => ?_)
  · conv => whnf
    repeat (first | ((with_reducible apply Go.Vc.ld_i); (focus ((repeat (first | with_reducible assumption | with_reducible exact Go.Vc.hset_same _ _ _ | with_reducible refine (Go.Vc.hset_ne _ _ (by omega)).trans ?_)); done)); (focus exact rfl); conv => whnf))
    refine br (fun h2 => ?_) (fun h2 => ?_)
    · conv => whnf
      repeat (first | ((with_reducible apply Go.Vc.ld_i); (focus ((repeat (first | with_reducible assumption | with_reducible exact Go.Vc.hset_same _ _ _ | with_reducible refine (Go.Vc.hset_ne _ _ (by omega)).trans ?_)); done)); (focus exact rfl); conv => whnf))
      refine br (fun h3 => ?_) (fun h3 => ?_)
      · conv => whnf
        repeat (first | ((with_reducible apply Go.Vc.ld_i); (focus ((repeat (first | with_reducible assumption | with_reducible exact Go.Vc.hset_same _ _ _ | with_reducible refine (Go.Vc.hset_ne _ _ (by omega)).trans ?_)); done)); (focus exact rfl); conv => whnf))
        refine br (fun h4 => ?_) (fun h4 => ?_)
        · conv => whnf
          repeat (first | ((with_reducible apply Go.Vc.ld_i); (focus ((repeat (first | with_reducible assumption | with_reducible exact Go.Vc.hset_same _ _ _ | with_reducible refine (Go.Vc.hset_ne _ _ (by omega)).trans ?_)); done)); (focus exact rfl); conv => whnf))
          refine br (fun h5 => ?_) (fun h5 => ?_)
          · conv => whnf
            repeat (first | ((with_reducible apply Go.Vc.ld_i); (focus ((repeat (first | with_reducible assumption | with_reducible exact Go.Vc.hset_same _ _ _ | with_reducible refine (Go.Vc.hset_ne _ _ (by omega)).trans ?_)); done)); (focus exact rfl); conv => whnf))
            exact ⟨by rw [opq_eq]; congr 1; apply decide_eq_decide.2; unfold RightC; omega, hs _, by omega⟩
          · conv => whnf
            exact ⟨by rw [decide_eq_false (by unfold RightC; omega)], hs _, by omega⟩
        · conv => whnf
          exact ⟨by rw [decide_eq_false (by unfold RightC; omega)], hs _, by omega⟩
      · conv => whnf
        exact ⟨by rw [decide_eq_false (by unfold RightC; omega)], hs _, by omega⟩
    · conv => whnf
      exact ⟨by rw [decide_eq_false (by unfold RightC; omega)], hs _, by omega⟩
  · conv => whnf
    exact ⟨by rw [decide_eq_false (by unfold RightC; omega)], hs _, by omega⟩
theorem rpath_no {h : Heap} {t : Nat} (lv ix wd : Int) (hno : ¬ RightC lv ix wd) :
    CallSpec Tryz.prog 9 #[.agg #[.int .i64 lv, .int .i64 ix, .int .i64 wd]] h t (fun v h' t' => v = .tuple #[.string ByteArray.empty, .bool false] ∧ Vc.Sub h h' ∧ t ≤ t') := by
  refine Go.Vc.spec_of_vc (fn := Tryz.f9) Tryz.func9 rfl (by kernel_rfl) (by kernel_rfl) (Nat.le_of_ble_eq_true rfl) ?_
  intro hd
  conv => whnf
  repeat (first | ((with_reducible apply Go.Vc.ldrow); (focus ((repeat (first | with_reducible assumption | with_reducible exact Go.Vc.hset_same _ _ _ | with_reducible refine (Go.Vc.hset_ne _ _ (by omega)).trans ?_)); done)); (focus exact rfl); rintro _ rfl; conv => whnf) | (intro _ _; conv => whnf))
  rename_i r hr
  have hs := hd.sub_new hr
  refine (rright_spec lv ix wd).mono ?_
  rintro _ g t1 hd1 ht1 ⟨rfl, hs1, _⟩
  rw [decide_eq_false hno]
  conv => whnf
  exact ⟨rfl, (hs _).trans hs1, by omega⟩
theorem rpath_spec {h : Heap} {t : Nat} (lv ix wd : Int) (hR : RightC lv ix wd) :
    CallSpec Tryz.prog 9 #[.agg #[.int .i64 lv, .int .i64 ix, .int .i64 wd]] h t (fun v h' t' => v = .tuple #[.string (pathS lv ix wd), .bool true] ∧ Vc.Sub h h' ∧ t ≤ t') := by
  have hR' := hR
  unfold RightC at hR'
  have hlz := levelS_le lv
  have hwz := widthS_le wd
  have hiz := idxS_le ix.toNat
  obtain ⟨I, rfl⟩ := Int.eq_ofNat_of_zero_le hR'.2.2.1
  obtain ⟨W, rfl⟩ := Int.eq_ofNat_of_zero_le (show 0 ≤ wd by omega)
  refine Go.Vc.spec_of_vc (fn := Tryz.f9) Tryz.func9 rfl (by kernel_rfl) (by kernel_rfl) (Nat.le_of_ble_eq_true rfl) ?_
  intro hd
  conv => whnf
  repeat (first | ((with_reducible apply Go.Vc.ldrow); (focus ((repeat (first | with_reducible assumption | with_reducible exact Go.Vc.hset_same _ _ _ | with_reducible refine (Go.Vc.hset_ne _ _ (by omega)).trans ?_)); done)); (focus exact rfl); rintro _ rfl; conv => whnf) | (intro _ _; conv => whnf))
  rename_i r hr
  have hs := hd.sub_new hr (.cells #[.int .i64 lv, .int .i64 (I : Nat), .int .i64 (W : Nat)] 30 (0, 0))
  refine (rright_spec lv (I : Nat) (W : Nat)).mono ?_
  rintro _ g t1 hd1 ht1 ⟨rfl, hs1, _⟩
  rw [decide_eq_true hR]
  have hr1 := hs1 _ _ (hset_same h r (.cells #[.int .i64 lv, .int .i64 (I : Nat), .int .i64 (W : Nat)] 30 (0, 0)))
  have hq1 := hs.trans hs1
  conv => whnf
  repeat (first | ((with_reducible apply Go.Vc.ld_i); (focus ((repeat (first | with_reducible assumption | with_reducible exact Go.Vc.hset_same _ _ _ | with_reducible refine (Go.Vc.hset_ne _ _ (by omega)).trans ?_)); done)); (focus exact rfl); conv => whnf))
  rw [show (if 0 > lv then 0 else lv) = ((lv.toNat : Nat) : Int) by split <;> omega]
  refine (rnumber_spec lv.toNat (by omega)).mono ?_
  rintro _ g2 t2 hd2 ht2 ⟨rfl, hs2, _⟩
  have hr2 := hs2 _ _ hr1
  have hq2 := hq1.trans hs2
  conv => whnf
  repeat (first | ((with_reducible apply Go.Vc.ld_i); (focus ((repeat (first | with_reducible assumption | with_reducible exact Go.Vc.hset_same _ _ _ | with_reducible refine (Go.Vc.hset_ne _ _ (by omega)).trans ?_)); done)); (focus exact rfl); conv => whnf))
  refine br (fun hb => ?_) (fun hb => ?_)
  · conv => whnf
    repeat (first | ((with_reducible apply Go.Vc.ld_i); (focus ((repeat (first | with_reducible assumption | with_reducible exact Go.Vc.hset_same _ _ _ | with_reducible refine (Go.Vc.hset_ne _ _ (by omega)).trans ?_)); done)); (focus exact rfl); conv => whnf))
    rw [show ({ data := #[100, 97, 116, 97] } : ByteArray) = levelS lv by unfold levelS; rw [if_neg (by omega)]; rfl]
    refine loop_intro3 (fun (f n : Nat) (out : ByteArray) => [(1, .pointer (some ⟨r, 0, none⟩)), (4, .string (levelS lv)), (6, .string out), (7, .int .i64 (n : Nat))])
      (fun f n out h' t' => f ≤ 4 ∧ out.size ≤ 20 + 22 * (4 - f) ∧ n ≤ I ∧ ((out = ByteArray.empty ∧ n = I ∧ f = 4) ∨ (3 ≤ out.size ∧ 1 ≤ n ∧ n < 1000 ^ f ∧ f ≤ 3 ∧ idxG f n out = idxS I)) ∧ h' r = some (.cells #[.int .i64 lv, .int .i64 (I : Nat), .int .i64 (W : Nat)] 30 (0, 0)) ∧ Vc.Sub h h' ∧ t ≤ t') (fun f _ _ => f) 4 I ByteArray.empty ⟨rfl, rfl, rfl, rfl, trivial⟩
      ⟨by omega, by decide, by omega, .inl ⟨rfl, rfl, rfl⟩, hr2, hq2, by omega⟩ ?_
    rintro f n out e4 g4 t4 hd4 ⟨hf, hout, hnI, hcase, hr4, hs4, ht4⟩
    conv => whnf
    repeat (first | ((with_reducible apply Go.Vc.wr_i64); (focus exact And.intro (by omega) (by omega)); conv => whnf) | ((with_reducible apply Go.Vc.rem_i); (focus omega); conv => whnf) | ((with_reducible refine And.intro ?_ (And.intro ?_ ?_)); (focus exact rfl); (focus omega); conv => whnf))
    rw [show ((1000 : Int) + (n : Int) % 1000) = ((1000 + n % 1000 : Nat) : Int) by omega]
    refine (rnumber_spec (1000 + n % 1000) (by omega)).mono ?_
    rintro _ g5 t5 hd5 ht5 ⟨rfl, hs5, _⟩
    have hr5 := hs5 _ _ hr4
    have hq5 := hs4.trans hs5
    have hz := numS_le (1000 + n % 1000)
    have h3s := threeS_sz n
    conv => whnf
    repeat (first | ((with_reducible refine And.intro (And.intro ?_ ?_) ?_); (focus omega); (focus omega); conv => whnf))
    rw [show (numS (1000 + n % 1000)).extract (Int.toNat 1) (numS (1000 + n % 1000)).size = threeS n from rfl]
    refine br (fun hb3 => ?_) (fun hb3 => ?_)
    · conv => whnf
      obtain ⟨rfl, hnI2, rfl⟩ | hcase := hcase
      · refine br (fun hb5 => ?_) (fun hb5 => ?_)
        · conv => whnf
          repeat (first | ((with_reducible apply Go.Vc.and_leN); (focus (first | omega | (simp only [ByteArray.size, List.size_toArray, List.length_cons, List.length_nil] at *; omega))); conv => whnf))
          rw [show threeS n = idxS I by rw [hnI2]; unfold idxS; rw [show I / 1000 = 0 by omega]; rfl]
          have kt : ({ data := #[116, 105, 108, 101, 47] } : ByteArray).size = 5 := rfl
          have ks : ({ data := #[47] } : ByteArray).size = 1 := rfl
          have k1 : ({ data := #[116, 105, 108, 101, 47] } ++ levelS lv : ByteArray).size = 5 + (levelS lv).size := by rw [ByteArray.size_append, kt]
          have k2 : ({ data := #[116, 105, 108, 101, 47] } ++ levelS lv ++ { data := #[47] } : ByteArray).size = 6 + (levelS lv).size := by rw [ByteArray.size_append, k1, ks]; omega
          have k3 : ({ data := #[116, 105, 108, 101, 47] } ++ levelS lv ++ { data := #[47] } ++ idxS I : ByteArray).size = 6 + (levelS lv).size + (idxS I).size := by rw [ByteArray.size_append, k2]
          have hiz2 : (idxS I).size ≤ 86 := hiz
          conv => whnf
          repeat (first | ((with_reducible apply Go.Vc.ld_i); (focus ((repeat (first | with_reducible assumption | with_reducible exact Go.Vc.hset_same _ _ _ | with_reducible refine (Go.Vc.hset_ne _ _ (by omega)).trans ?_)); done)); (focus exact rfl); conv => whnf) | ((with_reducible apply Go.Vc.and_leN); (focus (first | omega | (simp only [ByteArray.size, List.size_toArray, List.length_cons, List.length_nil] at *; omega))); conv => whnf))
          refine br (fun hb6 => ?_) (fun hb6 => ?_)
          · conv => whnf
            repeat (first | ((with_reducible apply Go.Vc.ld_i); (focus ((repeat (first | with_reducible assumption | with_reducible exact Go.Vc.hset_same _ _ _ | with_reducible refine (Go.Vc.hset_ne _ _ (by omega)).trans ?_)); done)); (focus exact rfl); conv => whnf))
            refine (rnumber_spec W (by omega)).mono ?_
            rintro _ g6 t6 hd6 ht6 ⟨rfl, hs6, _⟩
            have hwn := (numS_le W).2
            have kp : ({ data := #[46, 112, 47] } : ByteArray).size = 3 := rfl
            have k4 : ({ data := #[116, 105, 108, 101, 47] } ++ levelS lv ++ { data := #[47] } ++ idxS I ++ { data := #[46, 112, 47] } : ByteArray).size = 9 + (levelS lv).size + (idxS I).size := by rw [ByteArray.size_append, k3, kp]; omega
            conv => whnf
            repeat (first | ((with_reducible apply Go.Vc.and_leN); (focus (first | omega | (simp only [ByteArray.size, List.size_toArray, List.length_cons, List.length_nil] at *; omega))); conv => whnf))
            refine ⟨?_, hq5.trans hs6, by omega⟩
            unfold pathS widthS
            rw [if_pos (by omega)]
            rw [show ∀ (a b c : ByteArray), a ++ (b ++ c) = a ++ b ++ c from fun a b c => by apply ba_eq; simp]
            rfl
          · conv => whnf
            refine ⟨?_, hq5, by omega⟩
            unfold pathS widthS
            rw [if_neg (by omega), app_emp]
            rfl
        · conv => whnf
          repeat (first | ((with_reducible apply Go.Vc.quo_i64); (focus exact And.intro (by omega) (And.intro (by omega) (by omega))); conv => whnf) | ((with_reducible refine And.intro ?_ (And.intro ?_ ?_)); (focus exact rfl); (focus omega); conv => whnf))
          refine round_end3 3 (n / 1000) (threeS n) (by omega) ⟨rfl, rfl, rfl, ?_, trivial⟩ ⟨by omega, by omega, by omega, .inr ⟨by omega, by omega, by omega, by omega, (idxS_eq n).trans (by rw [hnI2])⟩, hr5, hq5, by omega⟩
          rfl
      · exfalso
        rw [hb3] at hcase
        exact absurd hcase.1 (by decide)
    · obtain ⟨rfl, _, _⟩ | ⟨c1, c2, c3, c4, c5⟩ := hcase
      · exact absurd rfl hb3
      · have kx : ({ data := #[120] } : ByteArray).size = 1 := rfl
        have ks0 : ({ data := #[47] } : ByteArray).size = 1 := rfl
        have j1 : ({ data := #[120] } ++ threeS n : ByteArray).size = 1 + (threeS n).size := by rw [ByteArray.size_append, kx]
        have j2 : ({ data := #[120] } ++ threeS n ++ { data := #[47] } : ByteArray).size = 2 + (threeS n).size := by rw [ByteArray.size_append, j1, ks0]; omega
        have j3 : ({ data := #[120] } ++ threeS n ++ { data := #[47] } ++ out : ByteArray).size = 2 + (threeS n).size + out.size := by rw [ByteArray.size_append, j2]
        cases f with
        | zero => rw [Nat.pow_zero] at c3; omega
        | succ f =>
          rw [idxG, if_neg (by omega)] at c5
          have hn2 : n / 1000 < 1000 ^ f := Nat.div_lt_of_lt_mul (by rw [Nat.mul_comm, ← Nat.pow_succ]; exact c3)
          conv => whnf
          repeat (first | ((with_reducible apply Go.Vc.and_leN); (focus (first | omega | (simp only [ByteArray.size, List.size_toArray, List.length_cons, List.length_nil] at *; omega))); conv => whnf))
          refine br (fun hb5 => ?_) (fun hb5 => ?_)
          · conv => whnf
            repeat (first | ((with_reducible apply Go.Vc.and_leN); (focus (first | omega | (simp only [ByteArray.size, List.size_toArray, List.length_cons, List.length_nil] at *; omega))); conv => whnf))
            have hfin : ({ data := #[120] } ++ threeS n ++ { data := #[47] } ++ out : ByteArray) = idxS I := by
              rw [← c5]
              rw [show n / 1000 = 0 by omega]
              cases f with
              | zero => rfl
              | succ f => rw [idxG, if_pos rfl]; rfl
            rw [hfin]
            have kt : ({ data := #[116, 105, 108, 101, 47] } : ByteArray).size = 5 := rfl
            have ks : ({ data := #[47] } : ByteArray).size = 1 := rfl
            have k1 : ({ data := #[116, 105, 108, 101, 47] } ++ levelS lv : ByteArray).size = 5 + (levelS lv).size := by rw [ByteArray.size_append, kt]
            have k2 : ({ data := #[116, 105, 108, 101, 47] } ++ levelS lv ++ { data := #[47] } : ByteArray).size = 6 + (levelS lv).size := by rw [ByteArray.size_append, k1, ks]; omega
            have k3 : ({ data := #[116, 105, 108, 101, 47] } ++ levelS lv ++ { data := #[47] } ++ idxS I : ByteArray).size = 6 + (levelS lv).size + (idxS I).size := by rw [ByteArray.size_append, k2]
            have hiz2 : (idxS I).size ≤ 86 := hiz
            conv => whnf
            repeat (first | ((with_reducible apply Go.Vc.ld_i); (focus ((repeat (first | with_reducible assumption | with_reducible exact Go.Vc.hset_same _ _ _ | with_reducible refine (Go.Vc.hset_ne _ _ (by omega)).trans ?_)); done)); (focus exact rfl); conv => whnf) | ((with_reducible apply Go.Vc.and_leN); (focus (first | omega | (simp only [ByteArray.size, List.size_toArray, List.length_cons, List.length_nil] at *; omega))); conv => whnf))
            refine br (fun hb6 => ?_) (fun hb6 => ?_)
            · conv => whnf
              repeat (first | ((with_reducible apply Go.Vc.ld_i); (focus ((repeat (first | with_reducible assumption | with_reducible exact Go.Vc.hset_same _ _ _ | with_reducible refine (Go.Vc.hset_ne _ _ (by omega)).trans ?_)); done)); (focus exact rfl); conv => whnf))
              refine (rnumber_spec W (by omega)).mono ?_
              rintro _ g6 t6 hd6 ht6 ⟨rfl, hs6, _⟩
              have hwn := (numS_le W).2
              have kp : ({ data := #[46, 112, 47] } : ByteArray).size = 3 := rfl
              have k4 : ({ data := #[116, 105, 108, 101, 47] } ++ levelS lv ++ { data := #[47] } ++ idxS I ++ { data := #[46, 112, 47] } : ByteArray).size = 9 + (levelS lv).size + (idxS I).size := by rw [ByteArray.size_append, k3, kp]; omega
              conv => whnf
              repeat (first | ((with_reducible apply Go.Vc.and_leN); (focus (first | omega | (simp only [ByteArray.size, List.size_toArray, List.length_cons, List.length_nil] at *; omega))); conv => whnf))
              refine ⟨?_, hq5.trans hs6, by omega⟩
              unfold pathS widthS
              rw [if_pos (by omega)]
              rw [show ∀ (a b c : ByteArray), a ++ (b ++ c) = a ++ b ++ c from fun a b c => by apply ba_eq; simp]
              rfl
            · conv => whnf
              refine ⟨?_, hq5, by omega⟩
              unfold pathS widthS
              rw [if_neg (by omega), app_emp]
              rfl
          · conv => whnf
            repeat (first | ((with_reducible apply Go.Vc.quo_i64); (focus exact And.intro (by omega) (And.intro (by omega) (by omega))); conv => whnf) | ((with_reducible refine And.intro ?_ (And.intro ?_ ?_)); (focus exact rfl); (focus omega); conv => whnf))
            refine round_end3 f (n / 1000) ({ data := #[120] } ++ threeS n ++ { data := #[47] } ++ out) (by omega) ⟨rfl, rfl, rfl, ?_, trivial⟩ ⟨by omega, by omega, by omega, .inr ⟨by omega, by omega, hn2, by omega, c5⟩, hr5, hq5, by omega⟩
            rfl
  · conv => whnf
    repeat (first | ((with_reducible apply Go.Vc.ld_i); (focus ((repeat (first | with_reducible assumption | with_reducible exact Go.Vc.hset_same _ _ _ | with_reducible refine (Go.Vc.hset_ne _ _ (by omega)).trans ?_)); done)); (focus exact rfl); conv => whnf))
    rw [show numS lv.toNat = levelS lv by unfold levelS; rw [if_pos (by omega)]]
    refine loop_intro3 (fun (f n : Nat) (out : ByteArray) => [(1, .pointer (some ⟨r, 0, none⟩)), (4, .string (levelS lv)), (6, .string out), (7, .int .i64 (n : Nat))])
      (fun f n out h' t' => f ≤ 4 ∧ out.size ≤ 20 + 22 * (4 - f) ∧ n ≤ I ∧ ((out = ByteArray.empty ∧ n = I ∧ f = 4) ∨ (3 ≤ out.size ∧ 1 ≤ n ∧ n < 1000 ^ f ∧ f ≤ 3 ∧ idxG f n out = idxS I)) ∧ h' r = some (.cells #[.int .i64 lv, .int .i64 (I : Nat), .int .i64 (W : Nat)] 30 (0, 0)) ∧ Vc.Sub h h' ∧ t ≤ t') (fun f _ _ => f) 4 I ByteArray.empty ⟨rfl, rfl, rfl, rfl, trivial⟩
      ⟨by omega, by decide, by omega, .inl ⟨rfl, rfl, rfl⟩, hr2, hq2, by omega⟩ ?_
    rintro f n out e4 g4 t4 hd4 ⟨hf, hout, hnI, hcase, hr4, hs4, ht4⟩
    conv => whnf
    repeat (first | ((with_reducible apply Go.Vc.wr_i64); (focus exact And.intro (by omega) (by omega)); conv => whnf) | ((with_reducible apply Go.Vc.rem_i); (focus omega); conv => whnf) | ((with_reducible refine And.intro ?_ (And.intro ?_ ?_)); (focus exact rfl); (focus omega); conv => whnf))
    rw [show ((1000 : Int) + (n : Int) % 1000) = ((1000 + n % 1000 : Nat) : Int) by omega]
    refine (rnumber_spec (1000 + n % 1000) (by omega)).mono ?_
    rintro _ g5 t5 hd5 ht5 ⟨rfl, hs5, _⟩
    have hr5 := hs5 _ _ hr4
    have hq5 := hs4.trans hs5
    have hz := numS_le (1000 + n % 1000)
    have h3s := threeS_sz n
    conv => whnf
    repeat (first | ((with_reducible refine And.intro (And.intro ?_ ?_) ?_); (focus omega); (focus omega); conv => whnf))
    rw [show (numS (1000 + n % 1000)).extract (Int.toNat 1) (numS (1000 + n % 1000)).size = threeS n from rfl]
    refine br (fun hb3 => ?_) (fun hb3 => ?_)
    · conv => whnf
      obtain ⟨rfl, hnI2, rfl⟩ | hcase := hcase
      · refine br (fun hb5 => ?_) (fun hb5 => ?_)
        · conv => whnf
          repeat (first | ((with_reducible apply Go.Vc.and_leN); (focus (first | omega | (simp only [ByteArray.size, List.size_toArray, List.length_cons, List.length_nil] at *; omega))); conv => whnf))
          rw [show threeS n = idxS I by rw [hnI2]; unfold idxS; rw [show I / 1000 = 0 by omega]; rfl]
          have kt : ({ data := #[116, 105, 108, 101, 47] } : ByteArray).size = 5 := rfl
          have ks : ({ data := #[47] } : ByteArray).size = 1 := rfl
          have k1 : ({ data := #[116, 105, 108, 101, 47] } ++ levelS lv : ByteArray).size = 5 + (levelS lv).size := by rw [ByteArray.size_append, kt]
          have k2 : ({ data := #[116, 105, 108, 101, 47] } ++ levelS lv ++ { data := #[47] } : ByteArray).size = 6 + (levelS lv).size := by rw [ByteArray.size_append, k1, ks]; omega
          have k3 : ({ data := #[116, 105, 108, 101, 47] } ++ levelS lv ++ { data := #[47] } ++ idxS I : ByteArray).size = 6 + (levelS lv).size + (idxS I).size := by rw [ByteArray.size_append, k2]
          have hiz2 : (idxS I).size ≤ 86 := hiz
          conv => whnf
          repeat (first | ((with_reducible apply Go.Vc.ld_i); (focus ((repeat (first | with_reducible assumption | with_reducible exact Go.Vc.hset_same _ _ _ | with_reducible refine (Go.Vc.hset_ne _ _ (by omega)).trans ?_)); done)); (focus exact rfl); conv => whnf) | ((with_reducible apply Go.Vc.and_leN); (focus (first | omega | (simp only [ByteArray.size, List.size_toArray, List.length_cons, List.length_nil] at *; omega))); conv => whnf))
          refine br (fun hb6 => ?_) (fun hb6 => ?_)
          · conv => whnf
            repeat (first | ((with_reducible apply Go.Vc.ld_i); (focus ((repeat (first | with_reducible assumption | with_reducible exact Go.Vc.hset_same _ _ _ | with_reducible refine (Go.Vc.hset_ne _ _ (by omega)).trans ?_)); done)); (focus exact rfl); conv => whnf))
            refine (rnumber_spec W (by omega)).mono ?_
            rintro _ g6 t6 hd6 ht6 ⟨rfl, hs6, _⟩
            have hwn := (numS_le W).2
            have kp : ({ data := #[46, 112, 47] } : ByteArray).size = 3 := rfl
            have k4 : ({ data := #[116, 105, 108, 101, 47] } ++ levelS lv ++ { data := #[47] } ++ idxS I ++ { data := #[46, 112, 47] } : ByteArray).size = 9 + (levelS lv).size + (idxS I).size := by rw [ByteArray.size_append, k3, kp]; omega
            conv => whnf
            repeat (first | ((with_reducible apply Go.Vc.and_leN); (focus (first | omega | (simp only [ByteArray.size, List.size_toArray, List.length_cons, List.length_nil] at *; omega))); conv => whnf))
            refine ⟨?_, hq5.trans hs6, by omega⟩
            unfold pathS widthS
            rw [if_pos (by omega)]
            rw [show ∀ (a b c : ByteArray), a ++ (b ++ c) = a ++ b ++ c from fun a b c => by apply ba_eq; simp]
            rfl
          · conv => whnf
            refine ⟨?_, hq5, by omega⟩
            unfold pathS widthS
            rw [if_neg (by omega), app_emp]
            rfl
        · conv => whnf
          repeat (first | ((with_reducible apply Go.Vc.quo_i64); (focus exact And.intro (by omega) (And.intro (by omega) (by omega))); conv => whnf) | ((with_reducible refine And.intro ?_ (And.intro ?_ ?_)); (focus exact rfl); (focus omega); conv => whnf))
          refine round_end3 3 (n / 1000) (threeS n) (by omega) ⟨rfl, rfl, rfl, ?_, trivial⟩ ⟨by omega, by omega, by omega, .inr ⟨by omega, by omega, by omega, by omega, (idxS_eq n).trans (by rw [hnI2])⟩, hr5, hq5, by omega⟩
          rfl
      · exfalso
        rw [hb3] at hcase
        exact absurd hcase.1 (by decide)
    · obtain ⟨rfl, _, _⟩ | ⟨c1, c2, c3, c4, c5⟩ := hcase
      · exact absurd rfl hb3
      · have kx : ({ data := #[120] } : ByteArray).size = 1 := rfl
        have ks0 : ({ data := #[47] } : ByteArray).size = 1 := rfl
        have j1 : ({ data := #[120] } ++ threeS n : ByteArray).size = 1 + (threeS n).size := by rw [ByteArray.size_append, kx]
        have j2 : ({ data := #[120] } ++ threeS n ++ { data := #[47] } : ByteArray).size = 2 + (threeS n).size := by rw [ByteArray.size_append, j1, ks0]; omega
        have j3 : ({ data := #[120] } ++ threeS n ++ { data := #[47] } ++ out : ByteArray).size = 2 + (threeS n).size + out.size := by rw [ByteArray.size_append, j2]
        cases f with
        | zero => rw [Nat.pow_zero] at c3; omega
        | succ f =>
          rw [idxG, if_neg (by omega)] at c5
          have hn2 : n / 1000 < 1000 ^ f := Nat.div_lt_of_lt_mul (by rw [Nat.mul_comm, ← Nat.pow_succ]; exact c3)
          conv => whnf
          repeat (first | ((with_reducible apply Go.Vc.and_leN); (focus (first | omega | (simp only [ByteArray.size, List.size_toArray, List.length_cons, List.length_nil] at *; omega))); conv => whnf))
          refine br (fun hb5 => ?_) (fun hb5 => ?_)
          · conv => whnf
            repeat (first | ((with_reducible apply Go.Vc.and_leN); (focus (first | omega | (simp only [ByteArray.size, List.size_toArray, List.length_cons, List.length_nil] at *; omega))); conv => whnf))
            have hfin : ({ data := #[120] } ++ threeS n ++ { data := #[47] } ++ out : ByteArray) = idxS I := by
              rw [← c5]
              rw [show n / 1000 = 0 by omega]
              cases f with
              | zero => rfl
              | succ f => rw [idxG, if_pos rfl]; rfl
            rw [hfin]
            have kt : ({ data := #[116, 105, 108, 101, 47] } : ByteArray).size = 5 := rfl
            have ks : ({ data := #[47] } : ByteArray).size = 1 := rfl
            have k1 : ({ data := #[116, 105, 108, 101, 47] } ++ levelS lv : ByteArray).size = 5 + (levelS lv).size := by rw [ByteArray.size_append, kt]
            have k2 : ({ data := #[116, 105, 108, 101, 47] } ++ levelS lv ++ { data := #[47] } : ByteArray).size = 6 + (levelS lv).size := by rw [ByteArray.size_append, k1, ks]; omega
            have k3 : ({ data := #[116, 105, 108, 101, 47] } ++ levelS lv ++ { data := #[47] } ++ idxS I : ByteArray).size = 6 + (levelS lv).size + (idxS I).size := by rw [ByteArray.size_append, k2]
            have hiz2 : (idxS I).size ≤ 86 := hiz
            conv => whnf
            repeat (first | ((with_reducible apply Go.Vc.ld_i); (focus ((repeat (first | with_reducible assumption | with_reducible exact Go.Vc.hset_same _ _ _ | with_reducible refine (Go.Vc.hset_ne _ _ (by omega)).trans ?_)); done)); (focus exact rfl); conv => whnf) | ((with_reducible apply Go.Vc.and_leN); (focus (first | omega | (simp only [ByteArray.size, List.size_toArray, List.length_cons, List.length_nil] at *; omega))); conv => whnf))
            refine br (fun hb6 => ?_) (fun hb6 => ?_)
            · conv => whnf
              repeat (first | ((with_reducible apply Go.Vc.ld_i); (focus ((repeat (first | with_reducible assumption | with_reducible exact Go.Vc.hset_same _ _ _ | with_reducible refine (Go.Vc.hset_ne _ _ (by omega)).trans ?_)); done)); (focus exact rfl); conv => whnf))
              refine (rnumber_spec W (by omega)).mono ?_
              rintro _ g6 t6 hd6 ht6 ⟨rfl, hs6, _⟩
              have hwn := (numS_le W).2
              have kp : ({ data := #[46, 112, 47] } : ByteArray).size = 3 := rfl
              have k4 : ({ data := #[116, 105, 108, 101, 47] } ++ levelS lv ++ { data := #[47] } ++ idxS I ++ { data := #[46, 112, 47] } : ByteArray).size = 9 + (levelS lv).size + (idxS I).size := by rw [ByteArray.size_append, k3, kp]; omega
              conv => whnf
              repeat (first | ((with_reducible apply Go.Vc.and_leN); (focus (first | omega | (simp only [ByteArray.size, List.size_toArray, List.length_cons, List.length_nil] at *; omega))); conv => whnf))
              refine ⟨?_, hq5.trans hs6, by omega⟩
              unfold pathS widthS
              rw [if_pos (by omega)]
              rw [show ∀ (a b c : ByteArray), a ++ (b ++ c) = a ++ b ++ c from fun a b c => by apply ba_eq; simp]
              rfl
            · conv => whnf
              refine ⟨?_, hq5, by omega⟩
              unfold pathS widthS
              rw [if_neg (by omega), app_emp]
              rfl
          · conv => whnf
            repeat (first | ((with_reducible apply Go.Vc.quo_i64); (focus exact And.intro (by omega) (And.intro (by omega) (by omega))); conv => whnf) | ((with_reducible refine And.intro ?_ (And.intro ?_ ?_)); (focus exact rfl); (focus omega); conv => whnf))
            refine round_end3 f (n / 1000) ({ data := #[120] } ++ threeS n ++ { data := #[47] } ++ out) (by omega) ⟨rfl, rfl, rfl, ?_, trivial⟩ ⟨by omega, by omega, by omega, .inr ⟨by omega, by omega, hn2, by omega, c5⟩, hr5, hq5, by omega⟩
            rfl
end Go.Proofs.YtlkpgjicpjjlcaaGreatDoor
