import Derived.Test.YtikpfffhcjlcjaaInf2
/- The reference's symbols of lengths and of distances. -/
set_option linter.unusedSimpArgs false
namespace Go.Proofs.Ytikpfffhcjlcjaa
open Go Go.Vc Go.Huf Go.Dfl
set_option maxRecDepth 20000
set_option linter.unusedVariables false

theorem baseG_mono {least flat group : Nat} {i : Nat} : ∀ {j : Nat}, i ≤ j → baseG least flat group i ≤ baseG least flat group j
  | 0, h => by rw [show i = 0 by omega]; exact Nat.le_refl _
  | j + 1, h => by
    rcases Nat.lt_or_ge i (j + 1) with h1 | h1
    · have := baseG_mono (least := least) (flat := flat) (group := group) (show i ≤ j by omega)
      exact Nat.le_trans this (Nat.le_add_right _ _)
    · rw [show i = j + 1 by omega]; exact Nat.le_refl _
theorem distF_nat {k : Nat} (h : k ≤ 29) : distF (k : Nat) = (((baseG 1 4 2 k : Nat) : Int), ((exG 4 2 k : Nat) : Int), true) := by
  unfold distF
  rw [if_neg (by omega), Int.toNat_natCast]
theorem lengthF_nat {k : Nat} (h : k ≤ 27) : lengthF (257 + (k : Nat)) = (((baseG 3 8 4 k : Nat) : Int), ((exG 8 4 k : Nat) : Int), true) := by
  unfold lengthF
  rw [if_neg (by omega), if_neg (by omega), show (257 + (k : Int) - 257).toNat = k by omega]
theorem dist_lt {n k : Nat} (h : 1 ≤ n ∧ n ≤ 32768) (hk : (k : Int) < symD n) : baseG 1 4 2 k + 2 ^ exG 4 2 k ≤ n := by
  obtain ⟨d1, d2, d3, d4, d5⟩ := dist_val h
  obtain ⟨m, hm⟩ := Int.eq_ofNat_of_zero_le d4
  rw [hm] at d2 hk d5
  rw [distF_nat (by omega)] at d2
  have := baseG_mono (least := 1) (flat := 4) (group := 2) (show k + 1 ≤ m by omega)
  rw [baseG] at this
  have d2' : ((baseG 1 4 2 m : Nat) : Int) ≤ n := d2
  omega
theorem len_lt {n k : Nat} (h : 3 ≤ n ∧ n ≤ 257) (hk : 257 + (k : Int) < symL n) : baseG 3 8 4 k + 2 ^ exG 8 4 k ≤ n := by
  obtain ⟨d1, d2, d3, d4, d5, _⟩ := len_val ⟨n, by omega⟩ h.1
  simp only at d1 d2 d3 d4 d5
  have hne : symL n ≠ 285 := fun e => by
    rw [e] at d2
    have : (lengthF 285).1 = 258 := rfl
    omega
  obtain ⟨m, hm⟩ := Int.eq_ofNat_of_zero_le (show 0 ≤ symL n - 257 by omega)
  rw [show symL n = 257 + (m : Nat) by omega] at d2 hk d5 hne
  rw [lengthF_nat (by omega)] at d2
  have := baseG_mono (least := 3) (flat := 8) (group := 4) (show k + 1 ≤ m by omega)
  rw [baseG] at this
  have d2' : ((baseG 3 8 4 m : Nat) : Int) ≤ n := d2
  omega
theorem baseD_le {k : Nat} (h : k ≤ 30) : baseG 1 4 2 k ≤ 40000 := Nat.le_trans (baseG_mono h) (by decide +kernel)
theorem baseL_le {k : Nat} (h : k ≤ 28) : baseG 3 8 4 k ≤ 1000 := Nat.le_trans (baseG_mono h) (by decide +kernel)
theorem maxq : ∀ i : Fin 29, (if (0 : Int) < IntKind.i64.wrap ((257 + ((i.val : Nat) : Int) - 261).tdiv 4) then IntKind.i64.wrap ((257 + ((i.val : Nat) : Int) - 261).tdiv 4) else 0) = ((exG 8 4 i.val : Nat) : Int) := by decide +kernel
theorem maxd : ∀ i : Fin 30, (if (0 : Int) < ((i.val : Nat) : Int) / 2 - 1 then ((i.val : Nat) : Int) / 2 - 1 else 0) = ((exG 4 2 i.val : Nat) : Int) := by decide +kernel
theorem rlength_spec {h : Heap} {t k : Nat} (hk : k ≤ 27) :
    CallSpec Try.prog 99 #[.int .i64 (257 + (k : Nat))] h t (fun v h' t' => v = .tuple #[.int .i64 (baseG 3 8 4 k : Nat), .int .i64 (exG 8 4 k : Nat), .bool true] ∧ h = h' ∧ t = t') := by
  refine Go.Vc.spec_of_vc (fn := Try.f99) Try.func99 rfl (by kernel_rfl) (by kernel_rfl) (Nat.le_of_ble_eq_true rfl) ?_
  intro hd
  conv => whnf
  repeat (first | (refine Go.Vc.br_f ?_ ?_; (focus omega); conv => whnf))
  refine loop_intro (fun i : Nat => [(0, .int .i64 (257 + (k : Nat))), (5, .int .i64 (baseG 3 8 4 i : Nat)), (6, .int .i64 (257 + (i : Nat)))])
    (fun i h' t' => h = h' ∧ t = t' ∧ i ≤ k) (fun i => k - i) 0 ⟨rfl, rfl, rfl, trivial⟩ ⟨rfl, rfl, by omega⟩ ?_
  rintro i e1 _ _ hd1 ⟨rfl, rfl, hi⟩
  have hbl := baseL_le (k := i) (by omega)
  have hex : exG 8 4 i ≤ 10 := by unfold exG; split <;> omega
  have hmx := maxq ⟨i, by omega⟩
  simp only at hmx
  conv => whnf
  repeat (first | ((with_reducible apply Go.Vc.wr_i64); (focus exact And.intro (by omega) (by omega)); conv => whnf) | ((with_reducible refine And.intro ?_ (And.intro ?_ ?_)); (focus exact rfl); (focus omega); conv => whnf))
  refine ⟨_, rfl, ?_⟩
  conv => whnf
  rw [hmx]
  refine br (fun hb => ?_) (fun hb => ?_)
  · obtain rfl : i = k := by omega
    conv => whnf
    exact ⟨rfl, rfl, rfl⟩
  · have hpw : (2 : Nat) ^ exG 8 4 i ≤ 2 ^ 10 := Nat.pow_le_pow_right (by decide) hex
    conv => whnf
    repeat (first | ((with_reducible apply Go.Vc.wr_i64); (focus exact And.intro (by omega) (by omega)); conv => whnf) | ((with_reducible apply Go.Vc.one_shl); (focus exact And.intro (by omega) (by omega)); intro zP hzP hzP0 hzP1; conv => whnf) | ((with_reducible apply Go.Vc.and_leI); (focus omega); conv => whnf))
    refine round_end (i + 1) (by omega) ⟨rfl, by
      show Value.int .i64 ((baseG 3 8 4 i : Nat) + (zP : Nat)) = _
      rw [hzP, Int.toNat_natCast]; rfl, by show Value.int .i64 (257 + (i : Nat) + 1) = _; rw [show (257 + ((i : Nat) : Int) + 1) = 257 + ((i + 1 : Nat) : Int) by omega], trivial⟩ ⟨rfl, rfl, by omega⟩
theorem rlength0_spec {h : Heap} {t : Nat} {x : Int} (hx : 0 ≤ x ∧ x < 257) :
    CallSpec Try.prog 99 #[.int .i64 x] h t (fun v h' t' => v = .tuple #[.int .i64 0, .int .i64 0, .bool false] ∧ h = h' ∧ t = t') := by
  refine Go.Vc.spec_of_vc (fn := Try.f99) Try.func99 rfl (by kernel_rfl) (by kernel_rfl) (Nat.le_of_ble_eq_true rfl) ?_
  intro hd
  conv => whnf
  repeat (first | (refine Go.Vc.br_t ?_ ?_; (focus omega); conv => whnf) | (refine Go.Vc.br_f ?_ ?_; (focus omega); conv => whnf))
  exact ⟨rfl, rfl, rfl⟩
theorem rdistance_spec {h : Heap} {t k : Nat} (hk : k ≤ 29) :
    CallSpec Try.prog 100 #[.int .i64 (k : Nat)] h t (fun v h' t' => v = .tuple #[.int .i64 (baseG 1 4 2 k : Nat), .int .i64 (exG 4 2 k : Nat), .bool true] ∧ h = h' ∧ t = t') := by
  refine Go.Vc.spec_of_vc (fn := Try.f100) Try.func100 rfl (by kernel_rfl) (by kernel_rfl) (Nat.le_of_ble_eq_true rfl) ?_
  intro hd
  conv => whnf
  repeat (first | (refine Go.Vc.br_f ?_ ?_; (focus omega); conv => whnf))
  refine loop_intro (fun i : Nat => [(0, .int .i64 (k : Nat)), (5, .int .i64 (baseG 1 4 2 i : Nat)), (6, .int .i64 (i : Nat))])
    (fun i h' t' => h = h' ∧ t = t' ∧ i ≤ k) (fun i => k - i) 0 ⟨rfl, rfl, rfl, trivial⟩ ⟨rfl, rfl, by omega⟩ ?_
  rintro i e1 _ _ hd1 ⟨rfl, rfl, hi⟩
  have hbl := baseD_le (k := i) (by omega)
  have hex : exG 4 2 i ≤ 20 := by unfold exG; split <;> omega
  have hmx := maxd ⟨i, by omega⟩
  simp only at hmx
  conv => whnf
  repeat (first | ((with_reducible apply Go.Vc.wr_i64); (focus exact And.intro (by omega) (by omega)); conv => whnf) | ((with_reducible apply Go.Vc.quo_i64); (focus exact And.intro (by omega) (And.intro (by omega) (by omega))); conv => whnf) | ((with_reducible refine And.intro ?_ (And.intro ?_ ?_)); (focus exact rfl); (focus omega); conv => whnf))
  rw [hmx]
  refine br (fun hb => ?_) (fun hb => ?_)
  · obtain rfl : i = k := by omega
    conv => whnf
    exact ⟨rfl, rfl, rfl⟩
  · have hpw : (2 : Nat) ^ exG 4 2 i ≤ 2 ^ 20 := Nat.pow_le_pow_right (by decide) hex
    conv => whnf
    repeat (first | ((with_reducible apply Go.Vc.wr_i64); (focus exact And.intro (by omega) (by omega)); conv => whnf) | ((with_reducible apply Go.Vc.one_shl); (focus exact And.intro (by omega) (by omega)); intro zP hzP hzP0 hzP1; conv => whnf) | ((with_reducible apply Go.Vc.and_leI); (focus omega); conv => whnf))
    refine round_end (i + 1) (by omega) ⟨rfl, by
      show Value.int .i64 ((baseG 1 4 2 i : Nat) + (zP : Nat)) = _
      rw [hzP, Int.toNat_natCast]; rfl, rfl, trivial⟩ ⟨rfl, rfl, by omega⟩
theorem rsymD_spec {h : Heap} {t n : Nat} (hn : 1 ≤ n ∧ n ≤ 32768) :
    CallSpec Try.prog 82 #[.int .i64 (n : Nat), .bool true] h t (fun v h' t' => v = .tuple #[.int .i64 (symD n), .int .i64 (distF (symD n)).1, .int .i64 (distF (symD n)).2.1] ∧ h = h' ∧ t = t') := by
  obtain ⟨d1, d2, d3, d4, d5⟩ := dist_val hn
  obtain ⟨m, hm⟩ := Int.eq_ofNat_of_zero_le d4
  have hlt := fun (k : Nat) (hk : (k : Int) < symD n) => dist_lt hn hk
  rw [hm] at d2 d3 d5 hlt ⊢
  rw [distF_nat (by omega)] at d2 d3 ⊢
  simp only at d2 d3
  rw [Int.toNat_natCast] at d3
  refine Go.Vc.spec_of_vc (fn := Try.f82) Try.func82 rfl (by kernel_rfl) (by kernel_rfl) (Nat.le_of_ble_eq_true rfl) ?_
  intro hd
  conv => whnf
  refine loop_intro (fun i : Nat => [(0, .int .i64 (n : Nat)), (1, .bool true), (7, .int .i64 (i : Nat))])
    (fun i h' t' => h = h' ∧ t = t' ∧ i ≤ m) (fun i => m - i) 0 ⟨rfl, rfl, rfl, trivial⟩ ⟨rfl, rfl, by omega⟩ ?_
  rintro i e1 _ _ hd1 ⟨rfl, rfl, hi⟩
  conv => whnf
  refine (rlength0_spec (by omega)).mono ?_
  rintro _ h2 t2 hd2 ht2 ⟨rfl, rfl, rfl⟩
  have hbl := baseD_le (k := i) (by omega)
  have hex : exG 4 2 i ≤ 20 := by unfold exG; split <;> omega
  have hpw : (2 : Nat) ^ exG 4 2 i ≤ 2 ^ 20 := Nat.pow_le_pow_right (by decide) hex
  conv => whnf
  refine (rdistance_spec (k := i) (by omega)).mono ?_
  rintro _ h3 t3 hd3 ht3 ⟨rfl, rfl, rfl⟩
  rcases Nat.lt_or_ge i m with hlm | hlm
  · have h9 := hlt i (by omega)
    have h10 := Nat.le_trans (Nat.le_add_right _ _) h9
    conv => whnf
    repeat (first | ((with_reducible apply Go.Vc.wr_i64); (focus exact And.intro (by omega) (by omega)); conv => whnf) | ((with_reducible apply Go.Vc.one_shl); (focus exact And.intro (by omega) (by omega)); intro zP hzP hzP0 hzP1; conv => whnf) | (refine Go.Vc.br_t ?_ ?_; (focus omega); conv => whnf) | ((with_reducible apply Go.Vc.and_leI); (focus omega); conv => whnf))
    have hz9 : (zP : Int) = (2 ^ exG 4 2 i : Nat) := by rw [hzP, Int.toNat_natCast]
    conv => whnf
    repeat (first | ((with_reducible apply Go.Vc.wr_i64); (focus exact And.intro (by omega) (by omega)); conv => whnf) | (refine Go.Vc.br_f ?_ ?_; (focus omega); conv => whnf))
    exact round_end (i + 1) (by omega) ⟨rfl, rfl, rfl, trivial⟩ ⟨rfl, rfl, by omega⟩
  · obtain rfl : i = m := by omega
    conv => whnf
    repeat (first | ((with_reducible apply Go.Vc.wr_i64); (focus exact And.intro (by omega) (by omega)); conv => whnf) | ((with_reducible apply Go.Vc.one_shl); (focus exact And.intro (by omega) (by omega)); intro zP hzP hzP0 hzP1; conv => whnf) | (refine Go.Vc.br_t ?_ ?_; (focus omega); conv => whnf) | ((with_reducible apply Go.Vc.and_leI); (focus omega); conv => whnf))
    have hz9 : (zP : Int) = (2 ^ exG 4 2 i : Nat) := by rw [hzP, Int.toNat_natCast]
    push_cast at hz9
    conv => whnf
    repeat (first | (refine Go.Vc.br_t ?_ ?_; (focus omega); conv => whnf))
    exact ⟨rfl, rfl, rfl⟩
theorem rsymL_spec {h : Heap} {t n : Nat} (hn : 3 ≤ n ∧ n ≤ 258) :
    CallSpec Try.prog 82 #[.int .i64 (n : Nat), .bool false] h t (fun v h' t' => v = .tuple #[.int .i64 (symL n), .int .i64 (lengthF (symL n)).1, .int .i64 (lengthF (symL n)).2.1] ∧ h = h' ∧ t = t') := by
  obtain ⟨d1, d2, d3, d4, d5, d6⟩ := len_val ⟨n, by omega⟩ hn.1
  simp only at d1 d2 d3 d4 d5 d6
  by_cases h258 : n = 258
  · subst h258
    refine Go.Vc.spec_of_vc (fn := Try.f82) Try.func82 rfl (by kernel_rfl) (by kernel_rfl) (Nat.le_of_ble_eq_true rfl) ?_
    intro hd
    have e : symL 258 = 285 := by decide +kernel
    rw [e]
    conv => whnf
    repeat (first | (refine Go.Vc.br_t ?_ ?_; (focus omega); conv => whnf))
    exact ⟨rfl, rfl, rfl⟩
  have hne : symL n ≠ 285 := fun e => by
    rw [e] at d2
    have : (lengthF 285).1 = 258 := rfl
    omega
  obtain ⟨m, hm⟩ := Int.eq_ofNat_of_zero_le (show 0 ≤ symL n - 257 by omega)
  have hm' : symL n = 257 + (m : Nat) := by omega
  have hlt := fun (k : Nat) (hk : 257 + (k : Int) < symL n) => len_lt (n := n) ⟨hn.1, by omega⟩ hk
  rw [hm'] at d2 d3 d5 hlt hne ⊢
  rw [lengthF_nat (by omega)] at d2 d3 ⊢
  simp only at d2 d3
  rw [Int.toNat_natCast] at d3
  refine Go.Vc.spec_of_vc (fn := Try.f82) Try.func82 rfl (by kernel_rfl) (by kernel_rfl) (Nat.le_of_ble_eq_true rfl) ?_
  intro hd
  conv => whnf
  repeat (first | (refine Go.Vc.br_f ?_ ?_; (focus omega); conv => whnf))
  refine loop_intro (fun i : Nat => [(0, .int .i64 (n : Nat)), (1, .bool false), (7, .int .i64 (257 + (i : Nat)))])
    (fun i h' t' => h = h' ∧ t = t' ∧ i ≤ m) (fun i => m - i) 0 ⟨rfl, rfl, rfl, trivial⟩ ⟨rfl, rfl, by omega⟩ ?_
  rintro i e1 _ _ hd1 ⟨rfl, rfl, hi⟩
  conv => whnf
  have hbl := baseL_le (k := i) (by omega)
  have hex : exG 8 4 i ≤ 10 := by unfold exG; split <;> omega
  have hpw : (2 : Nat) ^ exG 8 4 i ≤ 2 ^ 10 := Nat.pow_le_pow_right (by decide) hex
  refine (rlength_spec (k := i) (by omega)).mono ?_
  rintro _ h3 t3 hd3 ht3 ⟨rfl, rfl, rfl⟩
  rcases Nat.lt_or_ge i m with hlm | hlm
  · have h9 := hlt i (by omega)
    have h10 := Nat.le_trans (Nat.le_add_right _ _) h9
    conv => whnf
    repeat (first | ((with_reducible apply Go.Vc.wr_i64); (focus exact And.intro (by omega) (by omega)); conv => whnf) | ((with_reducible apply Go.Vc.one_shl); (focus exact And.intro (by omega) (by omega)); intro zP hzP hzP0 hzP1; conv => whnf) | (refine Go.Vc.br_t ?_ ?_; (focus omega); conv => whnf) | ((with_reducible apply Go.Vc.and_leI); (focus omega); conv => whnf))
    have hz9 : (zP : Int) = (2 ^ exG 8 4 i : Nat) := by rw [hzP, Int.toNat_natCast]
    conv => whnf
    repeat (first | ((with_reducible apply Go.Vc.wr_i64); (focus exact And.intro (by omega) (by omega)); conv => whnf) | (refine Go.Vc.br_f ?_ ?_; (focus omega); conv => whnf))
    exact round_end (i + 1) (by omega) ⟨rfl, rfl, by show Value.int .i64 (257 + (i : Nat) + 1) = _; rw [show (257 + ((i : Nat) : Int) + 1) = 257 + ((i + 1 : Nat) : Int) by omega], trivial⟩ ⟨rfl, rfl, by omega⟩
  · obtain rfl : i = m := by omega
    conv => whnf
    repeat (first | ((with_reducible apply Go.Vc.wr_i64); (focus exact And.intro (by omega) (by omega)); conv => whnf) | ((with_reducible apply Go.Vc.one_shl); (focus exact And.intro (by omega) (by omega)); intro zP hzP hzP0 hzP1; conv => whnf) | (refine Go.Vc.br_t ?_ ?_; (focus omega); conv => whnf) | ((with_reducible apply Go.Vc.and_leI); (focus omega); conv => whnf))
    have hz9 : (zP : Int) = (2 ^ exG 8 4 i : Nat) := by rw [hzP, Int.toNat_natCast]
    push_cast at hz9
    conv => whnf
    repeat (first | (refine Go.Vc.br_t ?_ ?_; (focus omega); conv => whnf))
    exact ⟨rfl, rfl, rfl⟩
end Go.Proofs.Ytikpfffhcjlcjaa
