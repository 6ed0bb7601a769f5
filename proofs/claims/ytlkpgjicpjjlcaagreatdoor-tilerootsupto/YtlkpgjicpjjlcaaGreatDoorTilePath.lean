import Derived.Test.YtlkpgjicpjjlcaaGreatDoorTileNum
/- A tile's path. -/
set_option linter.unusedSimpArgs false
namespace Go.Tile
open Go Go.Vc
def threeS (n : Nat) : ByteArray := (numS (1000 + n % 1000)).extract 1 (numS (1000 + n % 1000)).size
def xB : ByteArray := ⟨#[120]⟩
def slB : ByteArray := ⟨#[47]⟩
def ppB : ByteArray := ⟨#[46, 112, 47]⟩
def tileB : ByteArray := ⟨#[116, 105, 108, 101, 47]⟩
def dataB : ByteArray := ⟨#[100, 97, 116, 97]⟩
def idxG : Nat → Nat → ByteArray → ByteArray
  | 0, _, acc => acc
  | f + 1, n, acc => if n = 0 then acc else idxG f (n / 1000) (xB ++ threeS n ++ slB ++ acc)
def idxS (n : Nat) : ByteArray := idxG 3 (n / 1000) (threeS n)
theorem idxS_eq (n : Nat) : idxG 3 (n / 1000) (threeS n) = idxS n := rfl
def levelS (lv : Int) : ByteArray := if 0 ≤ lv then numS lv.toNat else dataB
def widthS (wd : Int) : ByteArray := if wd < 256 then ppB ++ numS wd.toNat else ByteArray.empty
def pathS (lv ix wd : Int) : ByteArray := tileB ++ levelS lv ++ slB ++ idxS ix.toNat ++ widthS wd
def RightC (lv ix wd : Int) : Prop := -1 ≤ lv ∧ lv < 4 ∧ 0 ≤ ix ∧ ix ≤ 4194304 ∧ 1 ≤ wd ∧ wd ≤ 256
instance (lv ix wd : Int) : Decidable (RightC lv ix wd) := by unfold RightC; infer_instance
def coordV (lv ix wd : Int) : Value := .agg #[.int .i64 lv, .int .i64 ix, .int .i64 wd]
theorem app_emp (a : ByteArray) : a ++ ByteArray.empty = a := by simp
theorem numR_pos {f n : Nat} : 1 ≤ (numR (f + 1) n).length := by
  rw [numR]
  split
  · simp
  · simp
theorem numS_size (n : Nat) : (numS n).size = (numL n).length := by simp [numS, ByteArray.size]
theorem numS_le (n : Nat) : 1 ≤ (numS n).size ∧ (numS n).size ≤ 20 := by
  rw [numS_size]
  exact ⟨numR_pos, numR_len⟩
theorem threeS_le (n : Nat) : (threeS n).size ≤ 20 := by
  have := (numS_le (1000 + n % 1000)).2
  unfold threeS
  rw [ByteArray.size_extract]
  omega
theorem idxG_le : ∀ {f n : Nat} {acc : ByteArray}, (idxG f n acc).size ≤ acc.size + 22 * f
  | 0, _, _ => Nat.le_refl _
  | f + 1, n, acc => by
    rw [idxG]
    split
    · omega
    · have h1 := idxG_le (f := f) (n := n / 1000) (acc := xB ++ threeS n ++ slB ++ acc)
      have h2 := threeS_le n
      rw [ByteArray.size_append, ByteArray.size_append, ByteArray.size_append, show xB.size = 1 from rfl, show slB.size = 1 from rfl] at h1
      omega
theorem idxS_le (n : Nat) : (idxS n).size ≤ 86 := by
  have h1 := idxG_le (f := 3) (n := n / 1000) (acc := threeS n)
  have h2 := threeS_le n
  unfold idxS
  omega
theorem levelS_le (lv : Int) : (levelS lv).size ≤ 20 := by
  unfold levelS
  split
  · exact (numS_le _).2
  · decide
theorem widthS_le (wd : Int) : (widthS wd).size ≤ 23 := by
  unfold widthS
  split
  · have := (numS_le wd.toNat).2
    rw [ByteArray.size_append, show ppB.size = 3 from rfl]
    omega
  · decide
end Go.Tile
namespace Go.Proofs.YtlkpgjicpjjlcaaGreatDoor
open Go Go.Vc Go.Tile
set_option maxRecDepth 20000
set_option linter.unusedVariables false
theorem right_spec {h : Heap} {t : Nat} (lv ix wd : Int) :
    CallSpec Tryz.prog 29 #[coordV lv ix wd] h t (fun v h' t' => v = .bool (decide (RightC lv ix wd)) ∧ Vc.Sub h h' ∧ t ≤ t') := by
  unfold coordV
  refine Go.Vc.spec_of_vc (fn := Tryz.f29) Tryz.func29 rfl (by kernel_rfl) (by kernel_rfl) (Nat.le_of_ble_eq_true rfl) ?_
  intro hd
  conv => whnf
  repeat (first | ((with_reducible apply Go.Vc.ld_i); (focus ((repeat (first | with_reducible assumption | with_reducible exact Go.Vc.hset_same _ _ _ | with_reducible refine (Go.Vc.hset_ne _ _ (by omega)).trans ?_)); done)); (focus exact rfl); conv => whnf) | (intro _ _; conv => whnf))
  rename_i r hr
  have hs := hd.sub_new hr
  refine br (fun h1 => ?_) (fun h1 => ?_)
  · conv => whnf
    repeat (first | ((with_reducible apply Go.Vc.ld_i); (focus ((repeat (first | with_reducible assumption | with_reducible exact Go.Vc.hset_same _ _ _ | with_reducible refine (Go.Vc.hset_ne _ _ (by omega)).trans ?_)); done)); (focus exact rfl); conv => whnf))
    refine br (fun h2 => ?_) (fun h2 => ?_)
    · conv => whnf
      repeat (first | ((with_reducible apply Go.Vc.ld_i); (focus ((repeat (first | with_reducible assumption | with_reducible exact Go.Vc.hset_same _ _ _ | with_reducible refine (Go.Vc.hset_ne _ _ (by omega)).trans ?_)); done)); (focus exact rfl); conv => whnf))
      refine br (fun h3 => ?_) (fun h3 => ?_)
      · conv => whnf
        repeat (first | ((with_reducible apply Go.Vc.ld_i); (focus ((repeat (first | with_reducible assumption | with_reducible exact Go.Vc.hset_same _ _ _ | with_reducible refine (Go.Vc.hset_ne _ _ (by omega)).trans ?_)); done)); (focus exact rfl); conv => whnf))
        refine br (fun h4 => ?_) (fun h4 => ?_)
        · conv => whnf
          repeat (first | ((with_reducible apply Go.Vc.ld_i); (focus ((repeat (first | with_reducible assumption | with_reducible exact Go.Vc.hset_same _ _ _ | with_reducible refine (Go.Vc.hset_ne _ _ (by omega)).trans ?_)); done)); (focus exact rfl); conv => whnf))
          refine br (fun h5 => ?_) (fun h5 => ?_)
          · conv => whnf
            repeat (first | ((with_reducible apply Go.Vc.ld_i); (focus ((repeat (first | with_reducible assumption | with_reducible exact Go.Vc.hset_same _ _ _ | with_reducible refine (Go.Vc.hset_ne _ _ (by omega)).trans ?_)); done)); (focus exact rfl); conv => whnf))
            exact ⟨by rw [opq_eq]; congr 1; apply decide_eq_decide.2; unfold RightC; omega, hs _, by omega⟩
          · conv => whnf
            exact ⟨by rw [decide_eq_false (by unfold RightC; omega)], hs _, by omega⟩
        · conv => whnf
          exact ⟨by rw [decide_eq_false (by unfold RightC; omega)], hs _, by omega⟩
      · conv => whnf
        exact ⟨by rw [decide_eq_false (by unfold RightC; omega)], hs _, by omega⟩
    · conv => whnf
      exact ⟨by rw [decide_eq_false (by unfold RightC; omega)], hs _, by omega⟩
  · conv => whnf
    exact ⟨by rw [decide_eq_false (by unfold RightC; omega)], hs _, by omega⟩
theorem three_spec {h : Heap} {t : Nat} (n : Nat) :
    CallSpec Tryz.prog 31 #[.int .i64 (n : Nat)] h t (fun v h' t' => v = .string (threeS n) ∧ Vc.Sub h h' ∧ t ≤ t') := by
  have hz := numS_le (1000 + n % 1000)
  refine Go.Vc.spec_of_vc (fn := Tryz.f31) Tryz.func31 rfl (by kernel_rfl) (by kernel_rfl) (Nat.le_of_ble_eq_true rfl) ?_
  intro hd
  conv => whnf
  repeat (first | ((with_reducible apply Go.Vc.wr_i64); (focus exact And.intro (by omega) (by omega)); conv => whnf) | ((with_reducible apply Go.Vc.rem_i); (focus omega); conv => whnf) | ((with_reducible refine And.intro ?_ (And.intro ?_ ?_)); (focus exact rfl); (focus omega); conv => whnf))
  rw [show ((1000 : Int) + (n : Int) % 1000) = ((1000 + n % 1000 : Nat) : Int) by omega]
  refine (number_spec _ (by omega)).mono ?_
  rintro _ g t1 hd1 ht1 ⟨rfl, hs, _⟩
  conv => whnf
  repeat (first | ((with_reducible refine And.intro (And.intro ?_ ?_) ?_); (focus omega); (focus omega); conv => whnf) | ((with_reducible refine And.intro ?_ (And.intro ?_ ?_)); (focus exact rfl); (focus omega); conv => whnf))
  exact ht1
theorem number_specI {h : Heap} {t : Nat} (z : Int) (h0 : 0 ≤ z) (h1 : z ≤ 2 ^ 62) :
    CallSpec Tryz.prog 30 #[.int .i64 z] h t (fun v h' t' => v = .tuple #[.string (numS z.toNat), .bool true] ∧ Vc.Sub h h' ∧ t ≤ t') := by
  obtain ⟨L, rfl⟩ := Int.eq_ofNat_of_zero_le h0
  exact number_spec L (by omega)
theorem path_no {h : Heap} {t : Nat} (lv ix wd : Int) (hno : ¬ RightC lv ix wd) :
    CallSpec Tryz.prog 8 #[coordV lv ix wd] h t (fun v h' t' => v = .tuple #[.string ByteArray.empty, .int .i64 1] ∧ Vc.Sub h h' ∧ t ≤ t') := by
  unfold coordV
  refine Go.Vc.spec_of_vc (fn := Tryz.f8) Tryz.func8 rfl (by kernel_rfl) (by kernel_rfl) (Nat.le_of_ble_eq_true rfl) ?_
  intro hd
  conv => whnf
  repeat (first | ((with_reducible apply Go.Vc.ldrow); (focus ((repeat (first | with_reducible assumption | with_reducible exact Go.Vc.hset_same _ _ _ | with_reducible refine (Go.Vc.hset_ne _ _ (by omega)).trans ?_)); done)); (focus exact rfl); rintro _ rfl; conv => whnf) | (intro _ _; conv => whnf))
  rename_i r hr
  have hs := hd.sub_new hr
  refine (right_spec lv ix wd).mono ?_
  rintro _ g t1 hd1 ht1 ⟨rfl, hs1, _⟩
  rw [decide_eq_false hno]
  conv => whnf
  exact ⟨rfl, (hs _).trans hs1, by omega⟩
theorem path_spec {h : Heap} {t : Nat} (lv ix wd : Int) (hR : RightC lv ix wd) :
    CallSpec Tryz.prog 8 #[coordV lv ix wd] h t (fun v h' t' => v = .tuple #[.string (pathS lv ix wd), .int .i64 0] ∧ Vc.Sub h h' ∧ t ≤ t') := by
  have hR' := hR
  unfold RightC at hR'
  have hlz := levelS_le lv
  have hwz := widthS_le wd
  have hiz := idxS_le ix.toNat
  obtain ⟨I, rfl⟩ := Int.eq_ofNat_of_zero_le hR'.2.2.1
  obtain ⟨W, rfl⟩ := Int.eq_ofNat_of_zero_le (show 0 ≤ wd by omega)
  unfold coordV
  refine Go.Vc.spec_of_vc (fn := Tryz.f8) Tryz.func8 rfl (by kernel_rfl) (by kernel_rfl) (Nat.le_of_ble_eq_true rfl) ?_
  intro hd
  conv => whnf
  repeat (first | ((with_reducible apply Go.Vc.ldrow); (focus ((repeat (first | with_reducible assumption | with_reducible exact Go.Vc.hset_same _ _ _ | with_reducible refine (Go.Vc.hset_ne _ _ (by omega)).trans ?_)); done)); (focus exact rfl); rintro _ rfl; conv => whnf) | (intro _ _; conv => whnf))
  rename_i r hr
  have hs := hd.sub_new hr (.cells #[.int .i64 lv, .int .i64 (I : Nat), .int .i64 (W : Nat)] 23 (0, 0))
  have hr0 : (hset h r (.cells #[.int .i64 lv, .int .i64 (I : Nat), .int .i64 (W : Nat)] 23 (0, 0))) r = some (.cells #[.int .i64 lv, .int .i64 (I : Nat), .int .i64 (W : Nat)] 23 (0, 0)) := hset_same _ _ _
  have hd0 := hd.set r (.cells #[.int .i64 lv, .int .i64 (I : Nat), .int .i64 (W : Nat)] 23 (0, 0)) (r + 1) (by omega) (by omega)
  refine (right_spec lv (I : Nat) (W : Nat)).mono ?_
  rintro _ g t1 hd1 ht1 ⟨rfl, hs1, _⟩
  rw [decide_eq_true hR]
  have hr1 := hs1 _ _ hr0
  have hq1 := hs.trans hs1
  clear hr0 hs
  conv => whnf
  repeat (first | ((with_reducible apply Go.Vc.ld_i); (focus ((repeat (first | with_reducible assumption | with_reducible exact Go.Vc.hset_same _ _ _ | with_reducible refine (Go.Vc.hset_ne _ _ (by omega)).trans ?_)); done)); (focus exact rfl); conv => whnf))
  refine br (fun hb => ?_) (fun hb => ?_)
  · conv => whnf
    repeat (first | ((with_reducible apply Go.Vc.ld_i); (focus ((repeat (first | with_reducible assumption | with_reducible exact Go.Vc.hset_same _ _ _ | with_reducible refine (Go.Vc.hset_ne _ _ (by omega)).trans ?_)); done)); (focus exact rfl); conv => whnf))
    refine (number_specI lv hb (by omega)).mono ?_
    rintro _ g2 t2 hd2 ht2 ⟨rfl, hs2, _⟩
    have hr2 := hs2 _ _ hr1
    have hq2 := hq1.trans hs2
    rw [show numS lv.toNat = levelS lv by unfold levelS; rw [if_pos hb]]
    conv => whnf
    repeat (first | ((with_reducible apply Go.Vc.ld_i); (focus ((repeat (first | with_reducible assumption | with_reducible exact Go.Vc.hset_same _ _ _ | with_reducible refine (Go.Vc.hset_ne _ _ (by omega)).trans ?_)); done)); (focus exact rfl); conv => whnf))
    refine (three_spec I).mono ?_
    rintro _ g3 t3 hd3 ht3 ⟨rfl, hs3, _⟩
    have hr3 := hs3 _ _ hr2
    have h3z := threeS_le I
    conv => whnf
    repeat (first | ((with_reducible apply Go.Vc.ld_i); (focus ((repeat (first | with_reducible assumption | with_reducible exact Go.Vc.hset_same _ _ _ | with_reducible refine (Go.Vc.hset_ne _ _ (by omega)).trans ?_)); done)); (focus exact rfl); conv => whnf) | ((with_reducible apply Go.Vc.quo_i64); (focus exact And.intro (by omega) (And.intro (by omega) (by omega))); conv => whnf) | ((with_reducible refine And.intro ?_ (And.intro ?_ ?_)); (focus exact rfl); (focus omega); conv => whnf))
    refine loop_intro3 (fun (f n : Nat) (acc : ByteArray) => [(1, .pointer (some ⟨r, 0, none⟩)), (4, .string (levelS lv)), (5, .string acc), (6, .int .i64 (n : Nat))])
      (fun f n acc h' t' => f ≤ 3 ∧ n < 1000 ^ f ∧ idxG f n acc = idxS I ∧ acc.size ≤ 20 + 22 * (3 - f) ∧ h' r = some (.cells #[.int .i64 lv, .int .i64 (I : Nat), .int .i64 (W : Nat)] 23 (0, 0)) ∧ Vc.Sub h h' ∧ t ≤ t') (fun f _ _ => f) 3 (I / 1000) (threeS I) ⟨rfl, rfl, rfl, rfl, trivial⟩
      ⟨by omega, by omega, idxS_eq I, by omega, hr3, hq2.trans hs3, by omega⟩ ?_
    rintro f n acc e4 g4 t4 hd4 ⟨hf, hn, hid, hacc, hr4, hs4, ht4⟩
    conv => whnf
    refine br (fun hb => ?_) (fun hb => ?_)
    · cases f with
      | zero => rw [Nat.pow_zero] at hn; omega
      | succ f =>
        rw [idxG, if_neg (by omega)] at hid
        have hn2 : n / 1000 < 1000 ^ f := Nat.div_lt_of_lt_mul (by rw [Nat.mul_comm, ← Nat.pow_succ]; exact hn)
        have hnz : n < 1000000000 := Nat.lt_of_lt_of_le hn (Nat.pow_le_pow_right (n := 1000) (by decide) hf)
        conv => whnf
        refine (three_spec n).mono ?_
        rintro _ g5 t5 hd5 ht5 ⟨rfl, hs5, _⟩
        have h5z := threeS_le n
        have kx : ({ data := #[120] } : ByteArray).size = 1 := rfl
        have ks : ({ data := #[47] } : ByteArray).size = 1 := rfl
        have k1 : ({ data := #[120] } ++ threeS n : ByteArray).size = 1 + (threeS n).size := by rw [ByteArray.size_append, kx]
        have k2 : ({ data := #[120] } ++ threeS n ++ { data := #[47] } : ByteArray).size = 2 + (threeS n).size := by rw [ByteArray.size_append, k1, ks]; omega
        have k3 : ({ data := #[120] } ++ threeS n ++ { data := #[47] } ++ acc : ByteArray).size = 2 + (threeS n).size + acc.size := by rw [ByteArray.size_append, k2]
        conv => whnf
        repeat (first | ((with_reducible apply Go.Vc.quo_i64); (focus exact And.intro (by omega) (And.intro (by omega) (by omega))); conv => whnf) | ((with_reducible apply Go.Vc.and_leN); (focus (first | omega | (simp only [ByteArray.size, List.size_toArray, List.length_cons, List.length_nil] at *; omega))); conv => whnf) | ((with_reducible refine And.intro ?_ (And.intro ?_ ?_)); (focus exact rfl); (focus omega); conv => whnf))
        exact round_end3 f (n / 1000) ({ data := #[120] } ++ threeS n ++ { data := #[47] } ++ acc) (by omega) ⟨rfl, rfl, rfl, rfl, trivial⟩ ⟨by omega, hn2, hid, by omega, hs5 _ _ hr4, hs4.trans hs5, by omega⟩
    · obtain rfl : n = 0 := by omega
      have hacc2 : acc = idxS I := by
        rw [← hid]
        cases f with
        | zero => rfl
        | succ f => rw [idxG, if_pos rfl]
      rw [hacc2]
      have ix2 : (idxS I).size ≤ 86 := idxS_le I
      have ks : ({ data := #[47] } : ByteArray).size = 1 := rfl
      have kt : ({ data := #[116, 105, 108, 101, 47] } : ByteArray).size = 5 := rfl
      have k1 : ({ data := #[116, 105, 108, 101, 47] } ++ levelS lv : ByteArray).size = 5 + (levelS lv).size := by rw [ByteArray.size_append, kt]
      have k2 : ({ data := #[116, 105, 108, 101, 47] } ++ levelS lv ++ { data := #[47] } : ByteArray).size = 6 + (levelS lv).size := by rw [ByteArray.size_append, k1, ks]; omega
      have k3 : ({ data := #[116, 105, 108, 101, 47] } ++ levelS lv ++ { data := #[47] } ++ idxS I : ByteArray).size = 6 + (levelS lv).size + (idxS I).size := by rw [ByteArray.size_append, k2]
      conv => whnf
      repeat (first | ((with_reducible apply Go.Vc.ld_i); (focus ((repeat (first | with_reducible assumption | with_reducible exact Go.Vc.hset_same _ _ _ | with_reducible refine (Go.Vc.hset_ne _ _ (by omega)).trans ?_)); done)); (focus exact rfl); conv => whnf) | ((with_reducible apply Go.Vc.and_leN); (focus (first | omega | (simp only [ByteArray.size, List.size_toArray, List.length_cons, List.length_nil] at *; omega))); conv => whnf))
      refine br (fun hb6 => ?_) (fun hb6 => ?_)
      · conv => whnf
        repeat (first | ((with_reducible apply Go.Vc.ld_i); (focus ((repeat (first | with_reducible assumption | with_reducible exact Go.Vc.hset_same _ _ _ | with_reducible refine (Go.Vc.hset_ne _ _ (by omega)).trans ?_)); done)); (focus exact rfl); conv => whnf))
        refine (number_specI (W : Nat) (by omega) (by omega)).mono ?_
        rintro _ g6 t6 hd6 ht6 ⟨rfl, hs6, _⟩
        have hwn := (numS_le (W : Int).toNat).2
        have kp : ({ data := #[46, 112, 47] } : ByteArray).size = 3 := rfl
        have k4 : ({ data := #[46, 112, 47] } ++ numS (W : Int).toNat : ByteArray).size = 3 + (numS (W : Int).toNat).size := by rw [ByteArray.size_append, kp]
        conv => whnf
        repeat (first | ((with_reducible apply Go.Vc.and_leN); (focus (first | omega | (simp only [ByteArray.size, List.size_toArray, List.length_cons, List.length_nil] at *; omega))); conv => whnf))
        refine ⟨?_, hs4.trans hs6, by omega⟩
        unfold pathS widthS
        rw [if_pos (by omega)]
        rfl
      · conv => whnf
        refine ⟨?_, hs4, by omega⟩
        unfold pathS widthS
        rw [if_neg (by omega), app_emp]
        rfl
  · have hr2 := hr1
    have hq2 := hq1
    conv => whnf
    repeat (first | ((with_reducible apply Go.Vc.ld_i); (focus ((repeat (first | with_reducible assumption | with_reducible exact Go.Vc.hset_same _ _ _ | with_reducible refine (Go.Vc.hset_ne _ _ (by omega)).trans ?_)); done)); (focus exact rfl); conv => whnf))
    rw [show ({ data := #[100, 97, 116, 97] } : ByteArray) = levelS lv by unfold levelS; rw [if_neg hb]; rfl]
    refine (three_spec I).mono ?_
    rintro _ g3 t3 hd3 ht3 ⟨rfl, hs3, _⟩
    have hr3 := hs3 _ _ hr2
    have h3z := threeS_le I
    conv => whnf
    repeat (first | ((with_reducible apply Go.Vc.ld_i); (focus ((repeat (first | with_reducible assumption | with_reducible exact Go.Vc.hset_same _ _ _ | with_reducible refine (Go.Vc.hset_ne _ _ (by omega)).trans ?_)); done)); (focus exact rfl); conv => whnf) | ((with_reducible apply Go.Vc.quo_i64); (focus exact And.intro (by omega) (And.intro (by omega) (by omega))); conv => whnf) | ((with_reducible refine And.intro ?_ (And.intro ?_ ?_)); (focus exact rfl); (focus omega); conv => whnf))
    refine loop_intro3 (fun (f n : Nat) (acc : ByteArray) => [(1, .pointer (some ⟨r, 0, none⟩)), (4, .string (levelS lv)), (5, .string acc), (6, .int .i64 (n : Nat))])
      (fun f n acc h' t' => f ≤ 3 ∧ n < 1000 ^ f ∧ idxG f n acc = idxS I ∧ acc.size ≤ 20 + 22 * (3 - f) ∧ h' r = some (.cells #[.int .i64 lv, .int .i64 (I : Nat), .int .i64 (W : Nat)] 23 (0, 0)) ∧ Vc.Sub h h' ∧ t ≤ t') (fun f _ _ => f) 3 (I / 1000) (threeS I) ⟨rfl, rfl, rfl, rfl, trivial⟩
      ⟨by omega, by omega, idxS_eq I, by omega, hr3, hq2.trans hs3, by omega⟩ ?_
    rintro f n acc e4 g4 t4 hd4 ⟨hf, hn, hid, hacc, hr4, hs4, ht4⟩
    conv => whnf
    refine br (fun hb => ?_) (fun hb => ?_)
    · cases f with
      | zero => rw [Nat.pow_zero] at hn; omega
      | succ f =>
        rw [idxG, if_neg (by omega)] at hid
        have hn2 : n / 1000 < 1000 ^ f := Nat.div_lt_of_lt_mul (by rw [Nat.mul_comm, ← Nat.pow_succ]; exact hn)
        have hnz : n < 1000000000 := Nat.lt_of_lt_of_le hn (Nat.pow_le_pow_right (n := 1000) (by decide) hf)
        conv => whnf
        refine (three_spec n).mono ?_
        rintro _ g5 t5 hd5 ht5 ⟨rfl, hs5, _⟩
        have h5z := threeS_le n
        have kx : ({ data := #[120] } : ByteArray).size = 1 := rfl
        have ks : ({ data := #[47] } : ByteArray).size = 1 := rfl
        have k1 : ({ data := #[120] } ++ threeS n : ByteArray).size = 1 + (threeS n).size := by rw [ByteArray.size_append, kx]
        have k2 : ({ data := #[120] } ++ threeS n ++ { data := #[47] } : ByteArray).size = 2 + (threeS n).size := by rw [ByteArray.size_append, k1, ks]; omega
        have k3 : ({ data := #[120] } ++ threeS n ++ { data := #[47] } ++ acc : ByteArray).size = 2 + (threeS n).size + acc.size := by rw [ByteArray.size_append, k2]
        conv => whnf
        repeat (first | ((with_reducible apply Go.Vc.quo_i64); (focus exact And.intro (by omega) (And.intro (by omega) (by omega))); conv => whnf) | ((with_reducible apply Go.Vc.and_leN); (focus (first | omega | (simp only [ByteArray.size, List.size_toArray, List.length_cons, List.length_nil] at *; omega))); conv => whnf) | ((with_reducible refine And.intro ?_ (And.intro ?_ ?_)); (focus exact rfl); (focus omega); conv => whnf))
        exact round_end3 f (n / 1000) ({ data := #[120] } ++ threeS n ++ { data := #[47] } ++ acc) (by omega) ⟨rfl, rfl, rfl, rfl, trivial⟩ ⟨by omega, hn2, hid, by omega, hs5 _ _ hr4, hs4.trans hs5, by omega⟩
    · obtain rfl : n = 0 := by omega
      have hacc2 : acc = idxS I := by
        rw [← hid]
        cases f with
        | zero => rfl
        | succ f => rw [idxG, if_pos rfl]
      rw [hacc2]
      have ix2 : (idxS I).size ≤ 86 := idxS_le I
      have ks : ({ data := #[47] } : ByteArray).size = 1 := rfl
      have kt : ({ data := #[116, 105, 108, 101, 47] } : ByteArray).size = 5 := rfl
      have k1 : ({ data := #[116, 105, 108, 101, 47] } ++ levelS lv : ByteArray).size = 5 + (levelS lv).size := by rw [ByteArray.size_append, kt]
      have k2 : ({ data := #[116, 105, 108, 101, 47] } ++ levelS lv ++ { data := #[47] } : ByteArray).size = 6 + (levelS lv).size := by rw [ByteArray.size_append, k1, ks]; omega
      have k3 : ({ data := #[116, 105, 108, 101, 47] } ++ levelS lv ++ { data := #[47] } ++ idxS I : ByteArray).size = 6 + (levelS lv).size + (idxS I).size := by rw [ByteArray.size_append, k2]
      conv => whnf
      repeat (first | ((with_reducible apply Go.Vc.ld_i); (focus ((repeat (first | with_reducible assumption | with_reducible exact Go.Vc.hset_same _ _ _ | with_reducible refine (Go.Vc.hset_ne _ _ (by omega)).trans ?_)); done)); (focus exact rfl); conv => whnf) | ((with_reducible apply Go.Vc.and_leN); (focus (first | omega | (simp only [ByteArray.size, List.size_toArray, List.length_cons, List.length_nil] at *; omega))); conv => whnf))
      refine br (fun hb6 => ?_) (fun hb6 => ?_)
      · conv => whnf
        repeat (first | ((with_reducible apply Go.Vc.ld_i); (focus ((repeat (first | with_reducible assumption | with_reducible exact Go.Vc.hset_same _ _ _ | with_reducible refine (Go.Vc.hset_ne _ _ (by omega)).trans ?_)); done)); (focus exact rfl); conv => whnf))
        refine (number_specI (W : Nat) (by omega) (by omega)).mono ?_
        rintro _ g6 t6 hd6 ht6 ⟨rfl, hs6, _⟩
        have hwn := (numS_le (W : Int).toNat).2
        have kp : ({ data := #[46, 112, 47] } : ByteArray).size = 3 := rfl
        have k4 : ({ data := #[46, 112, 47] } ++ numS (W : Int).toNat : ByteArray).size = 3 + (numS (W : Int).toNat).size := by rw [ByteArray.size_append, kp]
        conv => whnf
        repeat (first | ((with_reducible apply Go.Vc.and_leN); (focus (first | omega | (simp only [ByteArray.size, List.size_toArray, List.length_cons, List.length_nil] at *; omega))); conv => whnf))
        refine ⟨?_, hs4.trans hs6, by omega⟩
        unfold pathS widthS
        rw [if_pos (by omega)]
        rfl
      · conv => whnf
        refine ⟨?_, hs4, by omega⟩
        unfold pathS widthS
        rw [if_neg (by omega), app_emp]
        rfl
end Go.Proofs.YtlkpgjicpjjlcaaGreatDoor
