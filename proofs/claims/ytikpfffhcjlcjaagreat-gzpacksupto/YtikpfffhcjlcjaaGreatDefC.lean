import Derived.Test.YtikpfffhcjlcjaaGreatInf2
import Derived.Test.YtikpfffhcjlcjaaGreatDefPack
set_option linter.unusedSimpArgs false
namespace Go.Proofs.YtikpfffhcjlcjaaGreat
open Go Go.Vc Go.Huf Go.Dfl
set_option maxRecDepth 20000
set_option linter.unusedVariables false
theorem baseG_mono {least flat group : Nat} {i : Nat} : ∀ {j : Nat}, i ≤ j → baseG least flat group i ≤ baseG least flat group j
  | 0, h => by rw [show i = 0 by omega]; exact Nat.le_refl _
  | j + 1, h => by
    rcases Nat.lt_or_ge i (j + 1) with h1 | h1
    · have := baseG_mono (least := least) (flat := flat) (group := group) (show i ≤ j by omega)
      exact Nat.le_trans this (Nat.le_add_right _ _)
    · rw [show i = j + 1 by omega]; exact Nat.le_refl _
theorem distF_nat {k : Nat} (h : k ≤ 29) : distF (k : Nat) = (((baseG 1 4 2 k : Nat) : Int), ((exG 4 2 k : Nat) : Int), true) := by
  unfold distF
  rw [if_neg (by omega), Int.toNat_natCast]
theorem lengthF_nat {k : Nat} (h : k ≤ 27) : lengthF (257 + (k : Nat)) = (((baseG 3 8 4 k : Nat) : Int), ((exG 8 4 k : Nat) : Int), true) := by
  unfold lengthF
  rw [if_neg (by omega), if_neg (by omega), show (257 + (k : Int) - 257).toNat = k by omega]
theorem dist_lt {n k : Nat} (h : 1 ≤ n ∧ n ≤ 32768) (hk : (k : Int) < symD n) : baseG 1 4 2 k + 2 ^ exG 4 2 k ≤ n := by
  obtain ⟨d1, d2, d3, d4, d5⟩ := dist_val h
  obtain ⟨m, hm⟩ := Int.eq_ofNat_of_zero_le d4
  rw [hm] at d2 hk d5
  rw [distF_nat (by omega)] at d2
  have := baseG_mono (least := 1) (flat := 4) (group := 2) (show k + 1 ≤ m by omega)
  rw [baseG] at this
  have d2' : ((baseG 1 4 2 m : Nat) : Int) ≤ n := d2
  omega
theorem len_lt {n k : Nat} (h : 3 ≤ n ∧ n ≤ 257) (hk : 257 + (k : Int) < symL n) : baseG 3 8 4 k + 2 ^ exG 8 4 k ≤ n := by
  obtain ⟨d1, d2, d3, d4, d5, _⟩ := len_val ⟨n, by omega⟩ h.1
  simp only at d1 d2 d3 d4 d5
  have hne : symL n ≠ 285 := fun e => by
    rw [e] at d2
    have : (lengthF 285).1 = 258 := rfl
    omega
  obtain ⟨m, hm⟩ := Int.eq_ofNat_of_zero_le (show 0 ≤ symL n - 257 by omega)
  rw [show symL n = 257 + (m : Nat) by omega] at d2 hk d5 hne
  rw [lengthF_nat (by omega)] at d2
  have := baseG_mono (least := 3) (flat := 8) (group := 4) (show k + 1 ≤ m by omega)
  rw [baseG] at this
  have d2' : ((baseG 3 8 4 m : Nat) : Int) ≤ n := d2
  omega
theorem baseD_le {k : Nat} (h : k ≤ 30) : baseG 1 4 2 k ≤ 40000 := Nat.le_trans (baseG_mono h) (by decide +kernel)
theorem baseL_le {k : Nat} (h : k ≤ 28) : baseG 3 8 4 k ≤ 1000 := Nat.le_trans (baseG_mono h) (by decide +kernel)
theorem maxq : ∀ i : Fin 29, (if (0 : Int) < IntKind.i64.wrap ((257 + ((i.val : Nat) : Int) - 261).tdiv 4) then IntKind.i64.wrap ((257 + ((i.val : Nat) : Int) - 261).tdiv 4) else 0) = ((exG 8 4 i.val : Nat) : Int) := by decide +kernel
theorem maxd : ∀ i : Fin 30, (if (0 : Int) < ((i.val : Nat) : Int) / 2 - 1 then ((i.val : Nat) : Int) / 2 - 1 else 0) = ((exG 4 2 i.val : Nat) : Int) := by decide +kernel
theorem rlength_spec {h : Heap} {t k : Nat} (hk : k ≤ 27) :
    CallSpec Tryz.prog 94 #[.int .i64 (257 + (k : Nat))] h t (fun v h' t' => v = .tuple #[.int .i64 (baseG 3 8 4 k : Nat), .int .i64 (exG 8 4 k : Nat), .bool true] ∧ h = h' ∧ t = t') := by
  refine Go.Vc.spec_of_vc (fn := Tryz.f94) Tryz.func94 rfl (by kernel_rfl) (by kernel_rfl) (Nat.le_of_ble_eq_true rfl) ?_
  intro hd
  conv => whnf
  repeat (first | (refine Go.Vc.br_f ?_ ?_; (focus omega); conv => whnf))
  refine loop_intro (fun i : Nat => [(0, .int .i64 (257 + (k : Nat))), (5, .int .i64 (baseG 3 8 4 i : Nat)), (6, .int .i64 (257 + (i : Nat)))])
    (fun i h' t' => h = h' ∧ t = t' ∧ i ≤ k) (fun i => k - i) 0 ⟨rfl, rfl, rfl, trivial⟩ ⟨rfl, rfl, by omega⟩ ?_
  rintro i e1 _ _ hd1 ⟨rfl, rfl, hi⟩
  have hbl := baseL_le (k := i) (by omega)
  have hex : exG 8 4 i ≤ 10 := by unfold exG; split <;> omega
  have hmx := maxq ⟨i, by omega⟩
  simp only at hmx
  conv => whnf
  repeat (first | ((with_reducible apply Go.Vc.wr_i64); (focus exact And.intro (by omega) (by omega)); conv => whnf) | ((with_reducible refine And.intro ?_ (And.intro ?_ ?_)); (focus exact rfl); (focus omega); conv => whnf))
  refine ⟨_, rfl, ?_⟩
  conv => whnf
  rw [hmx]
  refine br (fun hb => ?_) (fun hb => ?_)
  · obtain rfl : i = k := by omega
    conv => whnf
    exact ⟨rfl, rfl, rfl⟩
  · have hpw : (2 : Nat) ^ exG 8 4 i ≤ 2 ^ 10 := Nat.pow_le_pow_right (by decide) hex
    conv => whnf
    repeat (first | ((with_reducible apply Go.Vc.wr_i64); (focus exact And.intro (by omega) (by omega)); conv => whnf) | ((with_reducible apply Go.Vc.one_shl); (focus exact And.intro (by omega) (by omega)); intro zP hzP hzP0 hzP1; conv => whnf) | ((with_reducible apply Go.Vc.and_leI); (focus omega); conv => whnf))
    refine round_end (i + 1) (by omega) ⟨rfl, by
      show Value.int .i64 ((baseG 3 8 4 i : Nat) + (zP : Nat)) = _
      rw [hzP, Int.toNat_natCast]; rfl, by show Value.int .i64 (257 + (i : Nat) + 1) = _; rw [show (257 + ((i : Nat) : Int) + 1) = 257 + ((i + 1 : Nat) : Int) by omega], trivial⟩ ⟨rfl, rfl, by omega⟩
theorem rlength0_spec {h : Heap} {t : Nat} {x : Int} (hx : 0 ≤ x ∧ x < 257) :
    CallSpec Tryz.prog 94 #[.int .i64 x] h t (fun v h' t' => v = .tuple #[.int .i64 0, .int .i64 0, .bool false] ∧ h = h' ∧ t = t') := by
  refine Go.Vc.spec_of_vc (fn := Tryz.f94) Tryz.func94 rfl (by kernel_rfl) (by kernel_rfl) (Nat.le_of_ble_eq_true rfl) ?_
  intro hd
  conv => whnf
  repeat (first | (refine Go.Vc.br_t ?_ ?_; (focus omega); conv => whnf) | (refine Go.Vc.br_f ?_ ?_; (focus omega); conv => whnf))
  exact ⟨rfl, rfl, rfl⟩
theorem rdistance_spec {h : Heap} {t k : Nat} (hk : k ≤ 29) :
    CallSpec Tryz.prog 95 #[.int .i64 (k : Nat)] h t (fun v h' t' => v = .tuple #[.int .i64 (baseG 1 4 2 k : Nat), .int .i64 (exG 4 2 k : Nat), .bool true] ∧ h = h' ∧ t = t') := by
  refine Go.Vc.spec_of_vc (fn := Tryz.f95) Tryz.func95 rfl (by kernel_rfl) (by kernel_rfl) (Nat.le_of_ble_eq_true rfl) ?_
  intro hd
  conv => whnf
  repeat (first | (refine Go.Vc.br_f ?_ ?_; (focus omega); conv => whnf))
  refine loop_intro (fun i : Nat => [(0, .int .i64 (k : Nat)), (5, .int .i64 (baseG 1 4 2 i : Nat)), (6, .int .i64 (i : Nat))])
    (fun i h' t' => h = h' ∧ t = t' ∧ i ≤ k) (fun i => k - i) 0 ⟨rfl, rfl, rfl, trivial⟩ ⟨rfl, rfl, by omega⟩ ?_
  rintro i e1 _ _ hd1 ⟨rfl, rfl, hi⟩
  have hbl := baseD_le (k := i) (by omega)
  have hex : exG 4 2 i ≤ 20 := by unfold exG; split <;> omega
  have hmx := maxd ⟨i, by omega⟩
  simp only at hmx
  conv => whnf
  repeat (first | ((with_reducible apply Go.Vc.wr_i64); (focus exact And.intro (by omega) (by omega)); conv => whnf) | ((with_reducible apply Go.Vc.quo_i64); (focus exact And.intro (by omega) (And.intro (by omega) (by omega))); conv => whnf) | ((with_reducible refine And.intro ?_ (And.intro ?_ ?_)); (focus exact rfl); (focus omega); conv => whnf))
  rw [hmx]
  refine br (fun hb => ?_) (fun hb => ?_)
  · obtain rfl : i = k := by omega
    conv => whnf
    exact ⟨rfl, rfl, rfl⟩
  · have hpw : (2 : Nat) ^ exG 4 2 i ≤ 2 ^ 20 := Nat.pow_le_pow_right (by decide) hex
    conv => whnf
    repeat (first | ((with_reducible apply Go.Vc.wr_i64); (focus exact And.intro (by omega) (by omega)); conv => whnf) | ((with_reducible apply Go.Vc.one_shl); (focus exact And.intro (by omega) (by omega)); intro zP hzP hzP0 hzP1; conv => whnf) | ((with_reducible apply Go.Vc.and_leI); (focus omega); conv => whnf))
    refine round_end (i + 1) (by omega) ⟨rfl, by
      show Value.int .i64 ((baseG 1 4 2 i : Nat) + (zP : Nat)) = _
      rw [hzP, Int.toNat_natCast]; rfl, rfl, trivial⟩ ⟨rfl, rfl, by omega⟩
theorem rsymD_spec {h : Heap} {t n : Nat} (hn : 1 ≤ n ∧ n ≤ 32768) :
    CallSpec Tryz.prog 85 #[.int .i64 (n : Nat), .bool true] h t (fun v h' t' => v = .tuple #[.int .i64 (symD n), .int .i64 (distF (symD n)).1, .int .i64 (distF (symD n)).2.1] ∧ h = h' ∧ t = t') := by
  obtain ⟨d1, d2, d3, d4, d5⟩ := dist_val hn
  obtain ⟨m, hm⟩ := Int.eq_ofNat_of_zero_le d4
  have hlt := fun (k : Nat) (hk : (k : Int) < symD n) => dist_lt hn hk
  rw [hm] at d2 d3 d5 hlt ⊢
  rw [distF_nat (by omega)] at d2 d3 ⊢
  simp only at d2 d3
  rw [Int.toNat_natCast] at d3
  refine Go.Vc.spec_of_vc (fn := Tryz.f85) Tryz.func85 rfl (by kernel_rfl) (by kernel_rfl) (Nat.le_of_ble_eq_true rfl) ?_
  intro hd
  conv => whnf
  refine loop_intro (fun i : Nat => [(0, .int .i64 (n : Nat)), (1, .bool true), (7, .int .i64 (i : Nat))])
    (fun i h' t' => h = h' ∧ t = t' ∧ i ≤ m) (fun i => m - i) 0 ⟨rfl, rfl, rfl, trivial⟩ ⟨rfl, rfl, by omega⟩ ?_
  rintro i e1 _ _ hd1 ⟨rfl, rfl, hi⟩
  conv => whnf
  refine (rlength0_spec (by omega)).mono ?_
  rintro _ h2 t2 hd2 ht2 ⟨rfl, rfl, rfl⟩
  have hbl := baseD_le (k := i) (by omega)
  have hex : exG 4 2 i ≤ 20 := by unfold exG; split <;> omega
  have hpw : (2 : Nat) ^ exG 4 2 i ≤ 2 ^ 20 := Nat.pow_le_pow_right (by decide) hex
  conv => whnf
  refine (rdistance_spec (k := i) (by omega)).mono ?_
  rintro _ h3 t3 hd3 ht3 ⟨rfl, rfl, rfl⟩
  rcases Nat.lt_or_ge i m with hlm | hlm
  · have h9 := hlt i (by omega)
    have h10 := Nat.le_trans (Nat.le_add_right _ _) h9
    conv => whnf
    repeat (first | ((with_reducible apply Go.Vc.wr_i64); (focus exact And.intro (by omega) (by omega)); conv => whnf) | ((with_reducible apply Go.Vc.one_shl); (focus exact And.intro (by omega) (by omega)); intro zP hzP hzP0 hzP1; conv => whnf) | (refine Go.Vc.br_t ?_ ?_; (focus omega); conv => whnf) | ((with_reducible apply Go.Vc.and_leI); (focus omega); conv => whnf))
    have hz9 : (zP : Int) = (2 ^ exG 4 2 i : Nat) := by rw [hzP, Int.toNat_natCast]
    conv => whnf
    repeat (first | ((with_reducible apply Go.Vc.wr_i64); (focus exact And.intro (by omega) (by omega)); conv => whnf) | (refine Go.Vc.br_f ?_ ?_; (focus omega); conv => whnf))
    exact round_end (i + 1) (by omega) ⟨rfl, rfl, rfl, trivial⟩ ⟨rfl, rfl, by omega⟩
  · obtain rfl : i = m := by omega
    conv => whnf
    repeat (first | ((with_reducible apply Go.Vc.wr_i64); (focus exact And.intro (by omega) (by omega)); conv => whnf) | ((with_reducible apply Go.Vc.one_shl); (focus exact And.intro (by omega) (by omega)); intro zP hzP hzP0 hzP1; conv => whnf) | (refine Go.Vc.br_t ?_ ?_; (focus omega); conv => whnf) | ((with_reducible apply Go.Vc.and_leI); (focus omega); conv => whnf))
    have hz9 : (zP : Int) = (2 ^ exG 4 2 i : Nat) := by rw [hzP, Int.toNat_natCast]
    push_cast at hz9
    conv => whnf
    repeat (first | (refine Go.Vc.br_t ?_ ?_; (focus omega); conv => whnf))
    exact ⟨rfl, rfl, rfl⟩
theorem rsymL_spec {h : Heap} {t n : Nat} (hn : 3 ≤ n ∧ n ≤ 258) :
    CallSpec Tryz.prog 85 #[.int .i64 (n : Nat), .bool false] h t (fun v h' t' => v = .tuple #[.int .i64 (symL n), .int .i64 (lengthF (symL n)).1, .int .i64 (lengthF (symL n)).2.1] ∧ h = h' ∧ t = t') := by
  obtain ⟨d1, d2, d3, d4, d5, d6⟩ := len_val ⟨n, by omega⟩ hn.1
  simp only at d1 d2 d3 d4 d5 d6
  by_cases h258 : n = 258
  · subst h258
    refine Go.Vc.spec_of_vc (fn := Tryz.f85) Tryz.func85 rfl (by kernel_rfl) (by kernel_rfl) (Nat.le_of_ble_eq_true rfl) ?_
    intro hd
    have e : symL 258 = 285 := by decide +kernel
    rw [e]
    conv => whnf
    repeat (first | (refine Go.Vc.br_t ?_ ?_; (focus omega); conv => whnf))
    exact ⟨rfl, rfl, rfl⟩
  have hne : symL n ≠ 285 := fun e => by
    rw [e] at d2
    have : (lengthF 285).1 = 258 := rfl
    omega
  obtain ⟨m, hm⟩ := Int.eq_ofNat_of_zero_le (show 0 ≤ symL n - 257 by omega)
  have hm' : symL n = 257 + (m : Nat) := by omega
  have hlt := fun (k : Nat) (hk : 257 + (k : Int) < symL n) => len_lt (n := n) ⟨hn.1, by omega⟩ hk
  rw [hm'] at d2 d3 d5 hlt hne ⊢
  rw [lengthF_nat (by omega)] at d2 d3 ⊢
  simp only at d2 d3
  rw [Int.toNat_natCast] at d3
  refine Go.Vc.spec_of_vc (fn := Tryz.f85) Tryz.func85 rfl (by kernel_rfl) (by kernel_rfl) (Nat.le_of_ble_eq_true rfl) ?_
  intro hd
  conv => whnf
  repeat (first | (refine Go.Vc.br_f ?_ ?_; (focus omega); conv => whnf))
  refine loop_intro (fun i : Nat => [(0, .int .i64 (n : Nat)), (1, .bool false), (7, .int .i64 (257 + (i : Nat)))])
    (fun i h' t' => h = h' ∧ t = t' ∧ i ≤ m) (fun i => m - i) 0 ⟨rfl, rfl, rfl, trivial⟩ ⟨rfl, rfl, by omega⟩ ?_
  rintro i e1 _ _ hd1 ⟨rfl, rfl, hi⟩
  conv => whnf
  have hbl := baseL_le (k := i) (by omega)
  have hex : exG 8 4 i ≤ 10 := by unfold exG; split <;> omega
  have hpw : (2 : Nat) ^ exG 8 4 i ≤ 2 ^ 10 := Nat.pow_le_pow_right (by decide) hex
  refine (rlength_spec (k := i) (by omega)).mono ?_
  rintro _ h3 t3 hd3 ht3 ⟨rfl, rfl, rfl⟩
  rcases Nat.lt_or_ge i m with hlm | hlm
  · have h9 := hlt i (by omega)
    have h10 := Nat.le_trans (Nat.le_add_right _ _) h9
    conv => whnf
    repeat (first | ((with_reducible apply Go.Vc.wr_i64); (focus exact And.intro (by omega) (by omega)); conv => whnf) | ((with_reducible apply Go.Vc.one_shl); (focus exact And.intro (by omega) (by omega)); intro zP hzP hzP0 hzP1; conv => whnf) | (refine Go.Vc.br_t ?_ ?_; (focus omega); conv => whnf) | ((with_reducible apply Go.Vc.and_leI); (focus omega); conv => whnf))
    have hz9 : (zP : Int) = (2 ^ exG 8 4 i : Nat) := by rw [hzP, Int.toNat_natCast]
    conv => whnf
    repeat (first | ((with_reducible apply Go.Vc.wr_i64); (focus exact And.intro (by omega) (by omega)); conv => whnf) | (refine Go.Vc.br_f ?_ ?_; (focus omega); conv => whnf))
    exact round_end (i + 1) (by omega) ⟨rfl, rfl, by show Value.int .i64 (257 + (i : Nat) + 1) = _; rw [show (257 + ((i : Nat) : Int) + 1) = 257 + ((i + 1 : Nat) : Int) by omega], trivial⟩ ⟨rfl, rfl, by omega⟩
  · obtain rfl : i = m := by omega
    conv => whnf
    repeat (first | ((with_reducible apply Go.Vc.wr_i64); (focus exact And.intro (by omega) (by omega)); conv => whnf) | ((with_reducible apply Go.Vc.one_shl); (focus exact And.intro (by omega) (by omega)); intro zP hzP hzP0 hzP1; conv => whnf) | (refine Go.Vc.br_t ?_ ?_; (focus omega); conv => whnf) | ((with_reducible apply Go.Vc.and_leI); (focus omega); conv => whnf))
    have hz9 : (zP : Int) = (2 ^ exG 8 4 i : Nat) := by rw [hzP, Int.toNat_natCast]
    push_cast at hz9
    conv => whnf
    repeat (first | (refine Go.Vc.br_t ?_ ?_; (focus omega); conv => whnf))
    exact ⟨rfl, rfl, rfl⟩
end Go.Proofs.YtikpfffhcjlcjaaGreat
set_option linter.unusedSimpArgs false
namespace Go.Proofs.YtikpfffhcjlcjaaGreat
open Go Go.Vc Go.Huf Go.Dfl
set_option maxRecDepth 20000
set_option linter.unusedVariables false
set_option maxHeartbeats 1000000
theorem byteAt_extract {s : ByteArray} {f e p : Nat} (h1 : f + p < e) (h2 : e ≤ s.size) : byteAt (s.extract f e) p = byteAt s (f + p) := by
  unfold byteAt
  rw [ByteArray.data_extract, Array.getD_eq_getD_getElem?, Array.getD_eq_getD_getElem?, Array.getElem?_extract, if_pos (by have : s.data.size = s.size := rfl; omega)]
theorem tok_at {s : ByteArray} {e k p : Nat} {L : List (Nat × Nat)} (he : e ≤ s.size) (hT : toks s p e = L.drop k) (hk : k < L.length) :
    ∃ q, L[k]? = some q ∧ p < e ∧ TokOk s p e q ∧ toks s (p + q.1) e = L.drop (k + 1) ∧ L.drop k = q :: L.drop (k + 1) := by
  obtain ⟨tok, R, hR⟩ : ∃ tok R, L.drop k = tok :: R := by
    cases hc : L.drop k with
    | nil => have := congrArg List.length hc; rw [List.length_drop, List.length_nil] at this; omega
    | cons b R => exact ⟨b, R, rfl⟩
  have hpe : p < e := by
    rcases Nat.lt_or_ge p e with h | h
    · exact h
    · rw [toks_end (by omega), hR] at hT; cases hT
  have hbest : tok = bestT s p e ∧ R = toks s (p + tok.1) e := by
    rw [toks_step hpe, hR] at hT
    injection hT with h1 h2
    exact ⟨h1.symm, by rw [← h1, h2]⟩
  have hLk : L[k]? = some tok := by
    have : (L.drop k)[0]? = some tok := by rw [hR]; rfl
    rw [List.getElem?_drop] at this
    exact this
  have hRk : L.drop (k + 1) = R := by
    rw [← List.drop_drop, hR]; rfl
  have hok := best_ok (s := s) hpe he
  rw [← hbest.1] at hok
  exact ⟨tok, hLk, hpe, hok, by rw [hRk, ← hbest.2], by rw [hRk]; exact hR⟩
theorem rcounts_spec {h : Heap} {t : Nat} (s : ByteArray) {f e : Nat} {L : List (Nat × Nat)} {a : Option Addr} {c : Nat} (hs : s.size ≤ 1000000) (hfe : f ≤ e) (he : e ≤ s.size) (hL : L = toks s f e)
    (sT : Sl h a (L.length * 2) id (L.flatMap tk)) :
    CallSpec Tryz.prog 78 #[.agg #[.slice a L.length c, .string (s.extract f e)]] h t (fun v h' t' => ∃ a1 a2, v = .tuple #[.slice a1 286 286, .slice a2 30 30] ∧
      Sl h' a1 286 (Value.int .i64) (cntF 286 (manyL (partsF s f L))) ∧ Sl h' a2 30 (Value.int .i64) (cntF 30 (farL (partsF s f L))) ∧ Vc.Sub h h' ∧ t ≤ t') := by
  have hLn := toks_len s (to := e) 1000000 f (by omega)
  rw [← hL] at hLn
  have hse : (s.extract f e).size = e - f := by rw [ByteArray.size_extract]; omega
  refine Go.Vc.spec_of_vc (fn := Tryz.f78) Tryz.func78 rfl (by kernel_rfl) (by kernel_rfl) (Nat.le_of_ble_eq_true rfl) ?_
  intro hd
  conv => whnf
  intro r1 hr1
  have hs1 := hd.sub_new hr1 (.cells #[.slice a L.length c, .string (s.extract f e)] 63)
  conv => whnf
  repeat (first | ((with_reducible apply Go.Vc.mk_b); (focus exact And.intro (by omega) (by omega)); (focus exact rfl); (focus omega); intro rM csM hrM hcsM; (first | (replace hcsM := hcsM.trans (Go.Vc.zc (Value.int .i64) 0 _)) | (replace hcsM := hcsM.trans (Go.Vc.zc Go.Vc.bv 0 _)) | (replace hcsM := hcsM.trans (Go.Vc.zc Value.string ByteArray.empty _))); subst hcsM; conv => whnf))
  rename_i rA hrA
  have c0 : (List.replicate (Int.toNat 286) (0 : Int)) = cntF 286 (([] : List Prt).map (·.sym)) := (cntF_nil 286).symm
  have c1 : (List.replicate (Int.toNat 30) (0 : Int)) = cntF 30 (farL []) := (cntF_nil 30).symm
  refine loop_intro3 (fun (k p : Nat) (PS : List Prt) => [(1, .pointer (some ⟨r1, 0, none⟩)), (4, .slice (some ⟨rA, 0, none⟩) 286 286), (5, .slice (some ⟨rM, 0, none⟩) 30 30), (6, .int .i64 (p : Nat)), (7, .int .i64 (k : Nat))])
    (fun k p PS h' t' => k ≤ L.length ∧ f + p ≤ e ∧ PS.length = k ∧ toks s (f + p) e = L.drop k ∧ PS ++ partsF s (f + p) (L.drop k) = partsF s f L ∧ h' r1 = some (.cells #[.slice a L.length c, .string (s.extract f e)] 63 (0, 0)) ∧
      h' rA = some (.cells ((cntF 286 (PS.map (·.sym))).map (Value.int .i64)).toArray 3 (0, 0)) ∧ h' rM = some (.cells ((cntF 30 (farL PS)).map (Value.int .i64)).toArray 3 (0, 0)) ∧ Vc.Sub h h' ∧ rM < t') (fun k _ _ => L.length - k) 0 0 [] ⟨rfl, rfl, rfl, rfl, rfl, trivial⟩
    ⟨by omega, by omega, rfl, by rw [List.drop_zero]; exact hL.symm, by rw [List.drop_zero, List.nil_append]; rfl, ?_, ?_, ?_, ?_, by omega⟩ ?_
  · rw [hset_ne _ _ (by omega), hset_ne _ _ (by omega)]; exact hset_same _ _ _
  · rw [hset_ne _ _ (by omega), ← c0]; exact hset_same _ _ _
  · rw [← c1]; exact hset_same _ _ _
  · intro z o hz
    have := hd _ _ hz
    rw [hset_ne _ _ (by omega), hset_ne _ _ (by omega)]; exact hs1 _ _ hz
  rintro k p PS e1 g t1 hd1 ⟨hk, hp, hPS, hTk, hPk, x1, xA', xM, hsg, ht1⟩
  have sp := sT.sub hsg
  have lA := cntF_len 286 (PS.map (·.sym))
  have lM := cntF_len 30 (farL PS)
  have gA : ∀ {i : Nat} {z : Int}, (cntF 286 (PS.map (·.sym)))[i]? = some z → i < 286 ∧ z = (((PS.map (·.sym)).count i : Nat) : Int) ∧ 0 ≤ z ∧ z ≤ 1000000 := fun {i z} hz => by
    have hi := (List.getElem?_eq_some_iff.1 hz).1
    rw [cntF_len] at hi
    rw [cntF_get _ hi] at hz
    have h1 := Option.some.inj hz
    have h2 := List.count_le_length (a := i) (l := PS.map (·.sym))
    rw [List.length_map] at h2
    exact ⟨hi, h1.symm, by omega, by omega⟩
  have gM : ∀ {i : Nat} {z : Int}, (cntF 30 (farL PS))[i]? = some z → i < 30 ∧ z = (((farL PS).count i : Nat) : Int) ∧ 0 ≤ z ∧ z ≤ 1000000 := fun {i z} hz => by
    have hi := (List.getElem?_eq_some_iff.1 hz).1
    rw [cntF_len] at hi
    rw [cntF_get _ hi] at hz
    have h1 := Option.some.inj hz
    have h2 := List.count_le_length (a := i) (l := farL PS)
    have h3 := List.length_filter_le (fun p : Prt => !p.plain) PS
    have h4 : (farL PS).length ≤ PS.length := by unfold farL; rw [List.length_map]; exact h3
    exact ⟨hi, h1.symm, by omega, by omega⟩
  have setA : ∀ {i : Nat} {z : Int}, i < 286 → z = (((PS.map (·.sym)).count i : Nat) : Int) → (cntF 286 (PS.map (·.sym))).set i (z + 1) = cntF 286 (PS.map (·.sym) ++ [i]) := fun hi hz => by rw [hz]; exact cntF_set _ hi
  have setM : ∀ {i : Nat} {z : Int}, i < 30 → z = (((farL PS).count i : Nat) : Int) → (cntF 30 (farL PS)).set i (z + 1) = cntF 30 (farL PS ++ [i]) := fun hi hz => by rw [hz]; exact cntF_set _ hi
  obtain ⟨CA, hCA⟩ : ∃ CA, cntF 286 (PS.map (·.sym)) = CA := ⟨_, rfl⟩
  obtain ⟨CM, hCM⟩ : ∃ CM, cntF 30 (farL PS) = CM := ⟨_, rfl⟩
  rw [hCA] at lA xA'
  rw [hCM] at lM xM
  simp only [hCA] at gA setA
  simp only [hCM] at gM setM
  conv => whnf
  repeat (first | ((with_reducible apply Go.Vc.ld_i); (focus ((repeat (first | with_reducible assumption | with_reducible exact Go.Vc.hset_same _ _ _ | with_reducible refine (Go.Vc.hset_ne _ _ (by omega)).trans ?_)); done)); (focus exact rfl); conv => whnf))
  refine br (fun hb => ?_) (fun hb => ?_)
  · obtain ⟨q, hTq, hpe, hqok, hTk', hTd⟩ := tok_at he hTk (by omega)
    obtain ⟨q', bP, offP, hq, haP, hrow⟩ := slW_row (i := k) tk_len sp (by decide) (by omega)
    obtain rfl : q' = q := by rw [hTq] at hq; exact (Option.some.inj hq).symm
    obtain ⟨P, hP⟩ : ∃ P, P = prtOf s (f + p) q' := ⟨_, rfl⟩
    have hPk' : (PS ++ [P]) ++ partsF s (f + (p + q'.1)) (L.drop (k + 1)) = partsF s f L := by
      rw [← hPk, hTd, partsF, ← hP, List.append_assoc, ← Nat.add_assoc]; rfl
    have hqle := hqok.le
    subst haP
    conv => whnf
    repeat (first | ((with_reducible apply Go.Vc.own_ix); (focus exact And.intro (by omega) (by omega)); conv => whnf) | ((with_reducible apply Go.Vc.ld_i); (focus ((repeat (first | with_reducible assumption | with_reducible exact Go.Vc.hset_same _ _ _ | with_reducible refine (Go.Vc.hset_ne _ _ (by omega)).trans ?_)); done)); (focus exact rfl); conv => whnf))
    refine hrow.row (W := 2) rfl (by decide) ?_
    conv => whnf
    repeat (first | ((with_reducible apply Go.Vc.strow); (focus ((repeat (first | with_reducible assumption | with_reducible exact Go.Vc.hset_same _ _ _ | with_reducible refine (Go.Vc.hset_ne _ _ (by omega)).trans ?_)); done)); (focus exact rfl); (focus exact rfl); (focus exact rfl); rintro _ rfl; conv => whnf) | ((with_reducible apply Go.Vc.ld_i); (focus ((repeat (first | with_reducible assumption | with_reducible exact Go.Vc.hset_same _ _ _ | with_reducible refine (Go.Vc.hset_ne _ _ (by omega)).trans ?_)); done)); (focus exact rfl); conv => whnf) | (intro _ _; conv => whnf))
    rename_i rb hrb
    have hX : hset (hset g rb (.cells #[.int .i64 0, .int .i64 0] 95)) rb (.cells (tk q').toArray 95) rb = some (.cells #[.int .i64 (q'.1 : Nat), .int .i64 (q'.2 : Nat)] 95 (0, 0)) := hset_same _ _ _
    have hsX : Vc.Sub g (hset (hset g rb (.cells #[.int .i64 0, .int .i64 0] 95)) rb (.cells (tk q').toArray 95)) := fun k o hk => by
      have := hd1 _ _ hk
      rw [hset_ne _ _ (by omega), hset_ne _ _ (by omega)]
      exact hk
    have x1X := hsX _ _ x1
    have xAX := hsX _ _ xA'
    have xMX := hsX _ _ xM
    have hdX := (hd1.set rb (.cells #[.int .i64 0, .int .i64 0] 95) (rb + 1) (by omega) (by omega)).set rb (.cells (tk q').toArray 95) (rb + 1) (by omega) (by omega)
    have htG : rb < rb + 1 := by omega
    refine br (fun hz => ?_) (fun hz => ?_)
    · have h21 : q' = (1, 0) := by
        rcases hqok.cs with e | ⟨_, _, h3, _⟩
        · exact e
        · omega
      have hq1 : q'.1 = 1 := by rw [h21]
      have hbr := byteAt_range s (f + p)
      have hbe := byteAt_extract (s := s) (f := f) (e := e) (p := p) hpe he
      rw [← hbe] at hbr
      have hPe : P = ⟨(byteAt (s.extract f e) p).toNat, 0, 0, 0, 0, 0, true⟩ := by rw [hP, h21, hbe]; rfl
      conv => whnf
      repeat (first | ((with_reducible apply Go.Vc.own_ix); (focus exact And.intro (by omega) (by omega)); conv => whnf) | ((with_reducible refine And.intro (And.intro ?_ ?_) ?_); (focus omega); (focus omega); conv => whnf) | ((with_reducible apply Go.Vc.ld_i); (focus ((repeat (first | with_reducible assumption | with_reducible exact Go.Vc.hset_same _ _ _ | with_reducible refine (Go.Vc.hset_ne _ _ (by omega)).trans ?_)); done)); (focus exact rfl); conv => whnf) | ((with_reducible apply Go.Vc.ar_ld); (focus ((repeat (first | with_reducible assumption | with_reducible exact Go.Vc.hset_same _ _ _ | with_reducible refine (Go.Vc.hset_ne _ _ (by omega)).trans ?_)); done)); (focus exact rfl); (focus (first | omega | (simp; done) | (simp; omega))); intro xA hxA; conv => whnf) | (intro _ _; conv => whnf))
      have hxA' : CA[(byteAt (s.extract f e) p).toNat]? = some xA := hxA
      obtain ⟨y1, y2, y3, y4⟩ := gA hxA'
      conv => whnf
      repeat (first | ((with_reducible apply Go.Vc.own_ix); (focus exact And.intro (by omega) (by omega)); conv => whnf) | ((with_reducible apply Go.Vc.ld_i); (focus ((repeat (first | with_reducible assumption | with_reducible exact Go.Vc.hset_same _ _ _ | with_reducible refine (Go.Vc.hset_ne _ _ (by omega)).trans ?_)); done)); (focus exact rfl); conv => whnf) | ((with_reducible apply Go.Vc.ar_st); (focus ((repeat (first | with_reducible assumption | with_reducible exact Go.Vc.hset_same _ _ _ | with_reducible refine (Go.Vc.hset_ne _ _ (by omega)).trans ?_)); done)); (focus exact rfl); (focus exact rfl); (focus (first | omega | (simp; done) | (simp; omega))); (focus exact rfl); intro heqA; (conv => whnf); intro cA hcA; rw [heqA] at hcA; clear heqA; subst hcA; conv => whnf) | ((with_reducible apply Go.Vc.wr_i64); (focus exact And.intro (by omega) (by omega)); conv => whnf))
      rw [show ((q'.1 : Nat) : Int) = 1 by omega]
      refine round_end3 (k + 1) (p + q'.1) (PS ++ [P]) (by omega) ⟨rfl, rfl, rfl, by rw [hq1]; rfl, rfl, trivial⟩ ⟨by omega, by omega, by rw [List.length_append]; simp; omega, by rw [← Nat.add_assoc]; exact hTk', hPk', ?_, ?_, ?_, ?_, by omega⟩
      · exact (hset_ne _ _ (by omega)).trans x1X
      · refine (hset_same _ _ _).trans ?_
        rw [List.map_append, List.map_singleton, hPe, Int.toNat_natCast, setA y1 y2]
      · refine (hset_ne _ _ (by omega)).trans (xMX.trans ?_)
        rw [← hCM]
        unfold farL
        rw [List.filter_append]
        simp [hPe]
      · intro z o hz
        have := hd _ _ hz
        exact (hset_ne _ _ (by omega)).trans (hsX _ _ (hsg _ _ hz))
    · have h21 : 3 ≤ q'.1 ∧ q'.1 ≤ 258 ∧ 1 ≤ q'.2 ∧ q'.2 ≤ 32768 := by
        rcases hqok.cs with e | ⟨h1, h2, h3, _, h5, _⟩
        · rw [e] at hz; exact absurd rfl hz
        · exact ⟨h1, h2, h3, h5⟩
      conv => whnf
      repeat (first | ((with_reducible apply Go.Vc.ld_i); (focus ((repeat (first | with_reducible assumption | with_reducible exact Go.Vc.hset_same _ _ _ | with_reducible refine (Go.Vc.hset_ne _ _ (by omega)).trans ?_)); done)); (focus exact rfl); conv => whnf))
      refine (rsymL_spec ⟨h21.1, h21.2.1⟩).mono ?_
      rintro _ G2 u2 hd2 hu2 ⟨rfl, rfl, rfl⟩
      conv => whnf
      repeat (first | ((with_reducible apply Go.Vc.ld_i); (focus ((repeat (first | with_reducible assumption | with_reducible exact Go.Vc.hset_same _ _ _ | with_reducible refine (Go.Vc.hset_ne _ _ (by omega)).trans ?_)); done)); (focus exact rfl); conv => whnf))
      refine (rsymD_spec ⟨h21.2.2.1, h21.2.2.2⟩).mono ?_
      rintro _ G3 u3 hd3 hu3 ⟨rfl, rfl, rfl⟩
      obtain ⟨v1, v2, v3, v4, v5, v6⟩ := len_val ⟨q'.1, by omega⟩ h21.1
      obtain ⟨w1, w2, w3, w4, w5⟩ := dist_val ⟨h21.2.2.1, h21.2.2.2⟩
      simp only at v1 v2 v3 v4 v5 v6
      have hPe : P = ⟨(symL q'.1).toNat, ((q'.1 : Int) - (lengthF (symL q'.1)).1).toNat, (lengthF (symL q'.1)).2.1.toNat, (symD q'.2).toNat, ((q'.2 : Int) - (distF (symD q'.2)).1).toNat, (distF (symD q'.2)).2.1.toNat, false⟩ := by
        rw [hP]; unfold prtOf; rw [if_neg (by omega)]
      conv => whnf
      repeat (first | ((with_reducible apply Go.Vc.own_ix); (focus exact And.intro (by omega) (by omega)); conv => whnf) | ((with_reducible apply Go.Vc.ar_ld); (focus ((repeat (first | with_reducible assumption | with_reducible exact Go.Vc.hset_same _ _ _ | with_reducible refine (Go.Vc.hset_ne _ _ (by omega)).trans ?_)); done)); (focus exact rfl); (focus (first | omega | (simp; done) | (simp; omega))); intro xA hxA; conv => whnf))
      have hxA' : CA[(symL q'.1).toNat]? = some xA := hxA
      obtain ⟨y1, y2, y3, y4⟩ := gA hxA'
      clear hxA
      obtain ⟨yA, hyA⟩ : ∃ yA, xA = yA := ⟨_, rfl⟩
      rw [hyA] at y2 y3 y4 ⊢
      clear hxA' hyA xA
      have xMY := (hset_ne (hset (hset g rb (.cells #[.int .i64 0, .int .i64 0] 95)) rb (.cells (tk q').toArray 95)) (.cells (List.map (Value.int .i64) (CA.set (symL q'.1).toNat (yA + 1))).toArray 3 (0, 0)) (show rM ≠ rA by omega)).trans xMX
      conv => whnf
      repeat (first | ((with_reducible apply Go.Vc.own_ix); (focus exact And.intro (by omega) (by omega)); conv => whnf) | ((with_reducible apply Go.Vc.ar_ld); (focus ((repeat (first | with_reducible assumption | with_reducible exact Go.Vc.hset_same _ _ _ | with_reducible refine (Go.Vc.hset_ne _ _ (by omega)).trans ?_)); done)); (focus exact rfl); (focus (first | omega | (simp; done) | (simp; omega))); intro xA hxA; conv => whnf) | ((with_reducible apply Go.Vc.ar_st); (focus ((repeat (first | with_reducible assumption | with_reducible exact Go.Vc.hset_same _ _ _ | with_reducible refine (Go.Vc.hset_ne _ _ (by omega)).trans ?_)); done)); (focus exact rfl); (focus exact rfl); (focus (first | omega | (simp; done) | (simp; omega))); (focus exact rfl); intro heqA; (conv => whnf); intro cA hcA; rw [heqA] at hcA; clear heqA; subst hcA; conv => whnf) | ((with_reducible apply Go.Vc.wr_i64); (focus exact And.intro (by omega) (by omega)); conv => whnf))
      have hxM' : CM[(symD q'.2).toNat]? = some xA := hxA
      obtain ⟨z1, z2, z3, z4⟩ := gM hxM'
      conv => whnf
      repeat (first | ((with_reducible apply Go.Vc.own_ix); (focus exact And.intro (by omega) (by omega)); conv => whnf) | ((with_reducible apply Go.Vc.ld_i); (focus ((repeat (first | with_reducible assumption | with_reducible exact Go.Vc.hset_same _ _ _ | with_reducible refine (Go.Vc.hset_ne _ _ (by omega)).trans ?_)); done)); (focus exact rfl); conv => whnf) | ((with_reducible apply Go.Vc.ar_st); (focus ((repeat (first | with_reducible assumption | with_reducible exact Go.Vc.hset_same _ _ _ | with_reducible refine (Go.Vc.hset_ne _ _ (by omega)).trans ?_)); done)); (focus exact rfl); (focus exact rfl); (focus (first | omega | (simp; done) | (simp; omega))); (focus exact rfl); intro heqA; (conv => whnf); intro cA hcA; rw [heqA] at hcA; clear heqA; subst hcA; conv => whnf) | ((with_reducible apply Go.Vc.wr_i64); (focus exact And.intro (by omega) (by omega)); conv => whnf))
      refine round_end3 (k + 1) (p + q'.1) (PS ++ [P]) (by omega) ⟨rfl, rfl, rfl, rfl, rfl, trivial⟩ ⟨by omega, by omega, by rw [List.length_append]; simp; omega, by rw [← Nat.add_assoc]; exact hTk', hPk', ?_, ?_, ?_, ?_, by omega⟩
      · exact (hset_ne _ _ (by omega)).trans ((hset_ne _ _ (by omega)).trans x1X)
      · refine (hset_ne _ _ (by omega)).trans ((hset_same _ _ _).trans ?_)
        rw [List.map_append, List.map_singleton, hPe, setA y1 y2]
      · refine (hset_same _ _ _).trans ?_
        rw [setM z1 z2]
        unfold farL
        rw [List.filter_append, List.map_append, hPe]
        rfl
      · intro z o hz
        have := hd _ _ hz
        exact (hset_ne _ _ (by omega)).trans ((hset_ne _ _ (by omega)).trans (hsX _ _ (hsg _ _ hz)))
  · obtain rfl : k = L.length := by omega
    conv => whnf
    repeat (first | ((with_reducible apply Go.Vc.own_ix); (focus exact And.intro (by omega) (by omega)); conv => whnf) | ((with_reducible apply Go.Vc.ar_ld); (focus ((repeat (first | with_reducible assumption | with_reducible exact Go.Vc.hset_same _ _ _ | with_reducible refine (Go.Vc.hset_ne _ _ (by omega)).trans ?_)); done)); (focus exact rfl); (focus (first | omega | (simp; done) | (simp; omega))); intro xA hxA; conv => whnf))
    have hxA' : CA[256]? = some xA := hxA
    obtain ⟨y1, y2, y3, y4⟩ := gA hxA'
    conv => whnf
    repeat (first | ((with_reducible apply Go.Vc.own_ix); (focus exact And.intro (by omega) (by omega)); conv => whnf) | ((with_reducible apply Go.Vc.ar_st); (focus ((repeat (first | with_reducible assumption | with_reducible exact Go.Vc.hset_same _ _ _ | with_reducible refine (Go.Vc.hset_ne _ _ (by omega)).trans ?_)); done)); (focus exact rfl); (focus exact rfl); (focus (first | omega | (simp; done) | (simp; omega))); (focus exact rfl); intro heqA; (conv => whnf); intro cA hcA; rw [heqA] at hcA; clear heqA; subst hcA; conv => whnf) | ((with_reducible apply Go.Vc.wr_i64); (focus exact And.intro (by omega) (by omega)); conv => whnf))
    have hPS' : partsF s f L = PS := by
      rw [← hPk, List.drop_length, partsF, List.append_nil]
    refine ⟨_, _, rfl, ?_, ?_, ?_, by omega⟩
    · have e2 : CA.set (Int.toNat 256) (xA + 1) = cntF 286 (manyL (partsF s f L)) := by
        rw [show Int.toNat 256 = 256 from rfl, setA y1 y2, hPS']
        unfold cntF manyL
        refine List.map_congr_left fun i _ => ?_
        rw [List.count_append, List.count_cons, List.count_cons, List.count_nil]
        congr 1
        omega
      rw [← e2]
      exact ar_sl (hset_same _ _ _) (by rw [List.length_set]; exact lA)
    · rw [hPS', hCM]
      exact ar_sl ((hset_ne _ _ (by omega)).trans xM) lM
    · intro z o hz
      have := hd _ _ hz
      exact (hset_ne _ _ (by omega)).trans (hsg _ _ hz)
end Go.Proofs.YtikpfffhcjlcjaaGreat
set_option linter.unusedSimpArgs false
namespace Go.Proofs.YtikpfffhcjlcjaaGreat
open Go Go.Vc Go.Huf Go.Dfl
set_option maxRecDepth 20000
set_option linter.unusedVariables false
set_option maxHeartbeats 1000000
theorem rcoded_spec {h : Heap} {t w : Nat} {d : Option Nat} {bs : List Bool} (W : Wr 59 h w d bs) (hbl : bs.length ≤ 5000000) (s : ByteArray) {f e : Nat} {T : List (Nat × Nat)} {a a1 a2 : Option Addr} {c n1 c1 n2 c2 : Nat} {L B : List Int}
    (hs : s.size ≤ 1000000) (hf : f ≤ 32768) (hfe : f ≤ e) (he : e ≤ s.size) (hl : e ≤ f + 32768) (hT : T = toks s f e) (sT : Sl h a (T.length * 2) id (T.flatMap tk))
    (s1 : Sl h a1 n1 (Value.int .i64) L) (s2 : Sl h a2 n2 (Value.int .i64) B) (hL : Huf.err L = 0) (hB : Huf.err B = 0) (h256 : 256 < L.length) (hok : ∀ p ∈ partsF s f T, PrtOk L B p)
    (f0 : 0 < T.length → ∀ b, owner a = some b → b ≠ w ∧ d ≠ some b) (f1 : ∀ b, owner a1 = some b → b ≠ w ∧ d ≠ some b) (f2 : ∀ b, owner a2 = some b → b ≠ w ∧ d ≠ some b) :
    CallSpec Tryz.prog 54 #[.agg #[.slice a T.length c, .string (s.extract f e)], .pointer (some ⟨w, 0, none⟩), .slice a1 n1 c1, .slice a2 n2 c2] h t (fun v h' t' => v = .tuple #[] ∧ WrTo 59 w h t d (bs ++ tellF L B (partsF s f T)) h' t') := by
  have hl1 := s1.1
  have hl2 := s2.1
  have hTn := toks_len s (to := e) 32768 f (by omega)
  rw [← hT] at hTn
  have hse : (s.extract f e).size = e - f := by rw [ByteArray.size_extract]; omega
  have hL3 := Huf.err_zero hL
  have hB3 := Huf.err_zero hB
  refine Go.Vc.spec_of_vc (fn := Tryz.f54) Tryz.func54 rfl (by kernel_rfl) (by kernel_rfl) (Nat.le_of_ble_eq_true rfl) ?_
  intro hd
  conv => whnf
  intro r4 hr4
  have hs4 := hd.sub_new hr4 (.cells #[.slice a T.length c, .string (s.extract f e)] 63)
  conv => whnf
  refine (refCodes_spec (s1.sub hs4) (by omega)).mono ?_
  rintro _ g1 u1 hg1 hu1 ⟨ca, cn, rfl, hs5, oc, hwc⟩
  rw [if_pos hL] at oc
  conv => whnf
  refine (refCodes_spec (s2.sub (hs4.trans hs5)) (by omega)).mono ?_
  rintro _ g2 u2 hg2 hu2 ⟨da, dn, rfl, hs6, od, hwd⟩
  rw [if_pos hB] at od
  have hsg : Vc.Sub h g2 := hs4.trans (hs5.trans hs6)
  have r4g : g2 r4 = some (.cells #[.slice a T.length c, .string (s.extract f e)] 63 (0, 0)) := hs6 _ _ (hs5 _ _ (hset_same _ _ _))
  have W2 := W.sub hsg
  have hwt := W.lt hd
  have hdt := W.dlt hd
  have oc2 := Own.fr oc fun b x _ hx => hs6 b x hx
  conv => whnf
  have ec := oc.1
  rw [Huf.codes_length, hl1] at ec
  subst ec
  have ed := od.1
  rw [Huf.codes_length, hl2] at ed
  subst ed
  have sT2 := sT.sub hsg
  have s1g := s1.sub hsg
  have s2g := s2.sub hsg
  have fc : ∀ b, owner ca = some b → b ≠ w ∧ d ≠ some b := fun b hb => by
    have := hwc b hb
    exact ⟨by omega, fun e => by have := hdt b e; omega⟩
  have fd : ∀ b, owner da = some b → b ≠ w ∧ d ≠ some b := fun b hb => by
    have := hwd b hb
    exact ⟨by omega, fun e => by have := hdt b e; omega⟩
  have f4 : d ≠ some r4 := fun e => by have := hdt r4 e; omega
  have htp : ∀ (l : List Prt), (∀ p ∈ l, PrtOk L B p) → (l.flatMap (tellP L B)).length ≤ 70 * l.length := fun l => tell_len hL hB l
  refine loop_intro3 (fun (k p : Nat) (PS : List Prt) => [(1, .pointer (some ⟨w, 0, none⟩)), (2, .slice a1 n1 c1), (3, .slice a2 n2 c2), (4, .pointer (some ⟨r4, 0, none⟩)), (8, .slice ca n1 n1), (10, .slice da n2 n2), (12, .int .i64 (p : Nat)), (13, .int .i64 (k : Nat))])
    (fun k p PS h' t' => k ≤ T.length ∧ f + p ≤ e ∧ PS.length = k ∧ toks s (f + p) e = T.drop k ∧ PS ++ partsF s (f + p) (T.drop k) = partsF s f T ∧ WrTo 59 w g2 u2 d (bs ++ PS.flatMap (tellP L B)) h' t') (fun k _ _ => T.length - k) 0 0 [] ⟨rfl, rfl, rfl, rfl, rfl, rfl, rfl, rfl, trivial⟩
    ⟨by omega, by omega, rfl, by rw [List.drop_zero]; exact hT.symm, by rw [List.drop_zero, List.nil_append]; rfl, by simpa using W2.start⟩ ?_
  rintro k p PS e1 g t1 hd1 ⟨hk, hp, hPS, hTk, hPk, d1, W1, fr1, hdd, ht1⟩
  have sp := sl_frW sT2 (fun h => f0 (by omega)) fr1
  have sl1' := sl_frW s1g (fun _ => f1) fr1
  have sl2' := sl_frW s2g (fun _ => f2) fr1
  have slc := sl_frW (oc2.sl) (fun _ => fc) fr1
  have sld := sl_frW (od.sl) (fun _ => fd) fr1
  have r4G := fr1 r4 _ (by omega) f4 r4g
  have hPSok : ∀ p ∈ PS, PrtOk L B p := fun p hp => hok p (by rw [← hPk]; exact List.mem_append_left _ hp)
  have hbt := htp PS hPSok
  conv => whnf
  repeat (first | ((with_reducible apply Go.Vc.ld_i); (focus ((repeat (first | with_reducible assumption | with_reducible exact Go.Vc.hset_same _ _ _ | with_reducible refine (Go.Vc.hset_ne _ _ (by omega)).trans ?_)); done)); (focus exact rfl); conv => whnf))
  refine br (fun hb => ?_) (fun hb => ?_)
  · obtain ⟨q, hTq, hpe, hqok, hTk', hTd⟩ := tok_at he hTk (by omega)
    obtain ⟨q', bP, offP, hq, haP, hrow⟩ := slW_row (i := k) tk_len sp (by decide) (by omega)
    obtain rfl : q' = q := by rw [hTq] at hq; exact (Option.some.inj hq).symm
    obtain ⟨P, hP⟩ : ∃ P, P = prtOf s (f + p) q' := ⟨_, rfl⟩
    have hPk' : (PS ++ [P]) ++ partsF s (f + (p + q'.1)) (T.drop (k + 1)) = partsF s f T := by
      rw [← hPk, hTd, partsF, ← hP, List.append_assoc, ← Nat.add_assoc]; rfl
    have hpo : PrtOk L B P := hok P (by rw [← hPk']; exact List.mem_append_left _ (by simp))
    subst haP
    have hqle := hqok.le
    have htk : bs ++ (PS ++ [P]).flatMap (tellP L B) = bs ++ PS.flatMap (tellP L B) ++ tellP L B P := by
      rw [List.flatMap_append, List.append_assoc]
      simp
    obtain ⟨m1, hm1, hm15, em1⟩ := err_get hL hpo.s1
    obtain ⟨o1, o2, o3, o4, o5, o6⟩ := hpo
    have hwg := W1.lt hd1
    have hd1g := W1.dlt hd1
    conv => whnf
    repeat (first | ((with_reducible apply Go.Vc.own_ix); (focus exact And.intro (by omega) (by omega)); conv => whnf) | ((with_reducible apply Go.Vc.ld_i); (focus ((repeat (first | with_reducible assumption | with_reducible exact Go.Vc.hset_same _ _ _ | with_reducible refine (Go.Vc.hset_ne _ _ (by omega)).trans ?_)); done)); (focus exact rfl); conv => whnf))
    refine hrow.row (W := 2) rfl (by decide) ?_
    conv => whnf
    repeat (first | ((with_reducible apply Go.Vc.strow); (focus ((repeat (first | with_reducible assumption | with_reducible exact Go.Vc.hset_same _ _ _ | with_reducible refine (Go.Vc.hset_ne _ _ (by omega)).trans ?_)); done)); (focus exact rfl); (focus exact rfl); (focus exact rfl); rintro _ rfl; conv => whnf) | ((with_reducible apply Go.Vc.ld_i); (focus ((repeat (first | with_reducible assumption | with_reducible exact Go.Vc.hset_same _ _ _ | with_reducible refine (Go.Vc.hset_ne _ _ (by omega)).trans ?_)); done)); (focus exact rfl); conv => whnf) | (intro _ _; conv => whnf))
    rename_i rb hrb
    have hX : hset (hset g rb (.cells #[.int .i64 0, .int .i64 0] 95)) rb (.cells (tk q').toArray 95) rb = some (.cells #[.int .i64 (q'.1 : Nat), .int .i64 (q'.2 : Nat)] 95 (0, 0)) := hset_same _ _ _
    have hsX : Vc.Sub g (hset (hset g rb (.cells #[.int .i64 0, .int .i64 0] 95)) rb (.cells (tk q').toArray 95)) := fun k o hk => by
      have := hd1 _ _ hk
      rw [hset_ne _ _ (by omega), hset_ne _ _ (by omega)]
      exact hk
    have WX := W1.sub hsX
    have sl1X := sl1'.sub hsX
    have sl2X := sl2'.sub hsX
    have slcX := slc.sub hsX
    have sldX := sld.sub hsX
    have r4X := hsX _ _ r4G
    have fX : FrW w d1 g _ := FrW.of_sub (w := w) (d := d1) hsX
    have hdX := (hd1.set rb (.cells #[.int .i64 0, .int .i64 0] 95) (rb + 1) (by omega) (by omega)).set rb (.cells (tk q').toArray 95) (rb + 1) (by omega) (by omega)
    have hcr := Huf.code_range hL o1
    refine br (fun hz => ?_) (fun hz => ?_)
    · have h21 : q' = (1, 0) := by
        rcases hqok.cs with e | ⟨_, _, h3, _⟩
        · exact e
        · omega
      have hq1 : q'.1 = 1 := by rw [h21]
      have hbr := byteAt_range s (f + p)
      have hbe := byteAt_extract (s := s) (f := f) (e := e) (p := p) hpe he
      rw [← hbe] at hbr
      have hPe : P = ⟨(byteAt (s.extract f e) p).toNat, 0, 0, 0, 0, 0, true⟩ := by rw [hP, h21, hbe]; rfl
      have hPs : P.sym = (byteAt (s.extract f e) p).toNat := by rw [hPe]
      rw [hPs] at o1 hm1 em1 hcr
      conv => whnf
      refine Go.Vc.draw_intro [⟨0, false, false, false, 0⟩, ⟨1, false, false, false, 0⟩, ⟨2, false, false, false, 0⟩, ⟨3, false, false, false, 4⟩, ⟨4, false, false, false, 0⟩, ⟨5, false, false, false, 28⟩, ⟨6, false, false, false, 62⟩, ⟨7, false, false, false, 126⟩, ⟨8, false, false, false, 0⟩, ⟨9, false, false, false, 0⟩, ⟨10, false, false, false, 512⟩, ⟨11, false, false, false, 0⟩, ⟨12, false, false, false, 3584⟩, ⟨13, false, false, false, 7936⟩, ⟨14, false, false, false, 16128⟩, ⟨15, true, false, false, 32767⟩] (hs := (fun _ => none)) (hsub := (fun _ _ h => nomatch h)) (hm := by kernel_rfl) (hpl := by kernel_rfl) ?_
      conv => whnf
      conv => whnf
      repeat (first | ((with_reducible apply Go.Vc.sl_ix); (focus with_reducible assumption); (focus exact And.intro (by omega) (by omega)); intro xI bI offI hxI hcI; conv => whnf) | ((with_reducible refine And.intro (And.intro ?_ ?_) ?_); (focus omega); (focus omega); conv => whnf) | ((with_reducible apply Go.Vc.ld_i); (focus ((repeat (first | with_reducible assumption | with_reducible exact Go.Vc.hset_same _ _ _ | with_reducible refine (Go.Vc.hset_ne _ _ (by omega)).trans ?_)); done)); (focus exact rfl); conv => whnf) | ((with_reducible apply Go.Vc.cell_i); (focus assumption); conv => whnf) | (intro _ _; conv => whnf))
      rename_i x1 b1 q1 hx1 hc1 y1 y2
      have ex1 : x1 = Huf.codeAt L (byteAt (s.extract f e) p).toNat := by
        have e : (codes L)[(byteAt (s.extract f e) p).toNat]? = some x1 := hx1
        rw [Huf.codes_get o1] at e
        exact (Option.some.inj e).symm
      have ex2 : xI = (m1 : Int) := by
        have e : L[(byteAt (s.extract f e) p).toNat]? = some xI := hxI
        rw [hm1] at e
        exact (Option.some.inj e).symm
      subst ex1
      subst ex2
      refine (rcode_spec WX (many := m1) (by omega) (by rw [List.length_append]; omega) (by omega)).mono ?_
      rintro _ h3 t3 hd3 ht3 ⟨rfl, V1⟩
      obtain ⟨d3, B3, f3, hdd3, ht3'⟩ := id V1
      have hr3 := f3 _ _ (show rb ≠ w by omega) (fun e => by have := hd1g rb e; omega) hX
      have K3 := WrTo.step hg2 fr1 hdd ht1 (WrTo.step hd1 fX (.inl rfl) (show t1 ≤ rb + 1 by omega) V1)
      conv => whnf
      repeat (first | ((with_reducible apply Go.Vc.ld_i); (focus ((repeat (first | with_reducible assumption | with_reducible exact Go.Vc.hset_same _ _ _ | with_reducible refine (Go.Vc.hset_ne _ _ (by omega)).trans ?_)); done)); (focus exact rfl); conv => whnf) | ((with_reducible apply Go.Vc.wr_i64); (focus exact And.intro (by omega) (by omega)); conv => whnf))
      refine round_end3 (k + 1) (p + q'.1) (PS ++ [P]) (by omega) ⟨rfl, rfl, rfl, rfl, rfl, rfl, rfl, rfl, trivial⟩ ⟨by omega, by omega, by rw [List.length_append]; simp; omega, by rw [← Nat.add_assoc]; exact hTk', hPk', ?_⟩
      have hpl : P.plain = true := by rw [hPe]
      have hpn : P.n = 0 := by rw [hPe]
      rw [htk, tellP, hpl, if_pos rfl, List.append_nil, hPs, em1, hpn]
      have : bitsL ((P.v : Nat) : Int) 0 = [] := rfl
      rw [this, List.append_nil]
      exact K3
    · have h21 : 3 ≤ q'.1 ∧ q'.1 ≤ 258 ∧ 1 ≤ q'.2 ∧ q'.2 ≤ 32768 := by
        rcases hqok.cs with e | ⟨h1, h2, h3, _, h5, _⟩
        · rw [e] at hz; exact absurd rfl hz
        · exact ⟨h1, h2, h3, h5⟩
      obtain ⟨v1, v2, v3, v4, v5, v6⟩ := len_val ⟨q'.1, by omega⟩ h21.1
      obtain ⟨w1, w2, w3, w4, w5⟩ := dist_val ⟨h21.2.2.1, h21.2.2.2⟩
      simp only at v1 v2 v3 v4 v5 v6
      have hPe : P = ⟨(symL q'.1).toNat, ((q'.1 : Int) - (lengthF (symL q'.1)).1).toNat, (lengthF (symL q'.1)).2.1.toNat, (symD q'.2).toNat, ((q'.2 : Int) - (distF (symD q'.2)).1).toNat, (distF (symD q'.2)).2.1.toNat, false⟩ := by
        rw [hP]; unfold prtOf; rw [if_neg (by omega)]
      have g1 : symL q'.1 = (P.sym : Nat) := by rw [hPe]; show _ = ((Int.toNat _ : Nat) : Int); omega
      have g2' : (q'.1 : Int) - (lengthF (symL q'.1)).1 = (P.v : Nat) := by rw [hPe]; show _ = ((Int.toNat _ : Nat) : Int); omega
      have g3 : (lengthF (symL q'.1)).2.1 = (P.n : Nat) := by rw [hPe]; show _ = ((Int.toNat _ : Nat) : Int); omega
      have k2 := dist_ok (symD q'.2)
      have g4 : symD q'.2 = (P.sym2 : Nat) := by rw [hPe]; show _ = ((Int.toNat _ : Nat) : Int); omega
      have g5 : (q'.2 : Int) - (distF (symD q'.2)).1 = (P.v2 : Nat) := by rw [hPe]; show _ = ((Int.toNat _ : Nat) : Int); omega
      have g6 : (distF (symD q'.2)).2.1 = (P.n2 : Nat) := by rw [hPe]; show _ = ((Int.toNat _ : Nat) : Int); omega
      have hpl : P.plain = false := by rw [hPe]
      have k1 := length_ok (symL q'.1)
      obtain ⟨m2, hm2, hm25, em2⟩ := err_get hB (o4 hpl)
      have o4' := o4 hpl
      conv => whnf
      repeat (first | ((with_reducible apply Go.Vc.ld_i); (focus ((repeat (first | with_reducible assumption | with_reducible exact Go.Vc.hset_same _ _ _ | with_reducible refine (Go.Vc.hset_ne _ _ (by omega)).trans ?_)); done)); (focus exact rfl); conv => whnf))
      refine (rsymL_spec ⟨h21.1, h21.2.1⟩).mono ?_
      rintro _ G2 u2' hd2 hu2 ⟨rfl, rfl, rfl⟩
      obtain ⟨LB, hLB⟩ : ∃ z, (lengthF (symL q'.1)).1 = z := ⟨_, rfl⟩
      rw [hLB] at g2' v2 k1 ⊢
      rw [g3, g1]
      conv => whnf
      repeat (first | ((with_reducible apply Go.Vc.ld_i); (focus ((repeat (first | with_reducible assumption | with_reducible exact Go.Vc.hset_same _ _ _ | with_reducible refine (Go.Vc.hset_ne _ _ (by omega)).trans ?_)); done)); (focus exact rfl); conv => whnf))
      refine (rsymD_spec ⟨h21.2.2.1, h21.2.2.2⟩).mono ?_
      rintro _ G3 u3 hd3 hu3 ⟨rfl, rfl, rfl⟩
      obtain ⟨DB, hDB⟩ : ∃ z, (distF (symD q'.2)).1 = z := ⟨_, rfl⟩
      rw [hDB] at g5 w2 k2 ⊢
      rw [g6, g4]
      conv => whnf
      refine Go.Vc.draw_intro [⟨0, false, false, false, 0⟩, ⟨1, false, false, false, 0⟩, ⟨2, false, false, false, 0⟩, ⟨3, false, false, false, 6⟩, ⟨4, false, false, false, 14⟩, ⟨5, false, false, false, 0⟩, ⟨6, false, false, false, 0⟩, ⟨7, false, false, false, 96⟩, ⟨8, false, false, false, 224⟩, ⟨9, true, false, false, 511⟩] (hs := (fun _ => none)) (hsub := (fun _ _ h => nomatch h)) (hm := by kernel_rfl) (hpl := by kernel_rfl) ?_
      conv => whnf
      conv => whnf
      repeat (first | ((with_reducible apply Go.Vc.sl_ix); (focus with_reducible assumption); (focus exact And.intro (by omega) (by omega)); intro xI bI offI hxI hcI; conv => whnf) | ((with_reducible apply Go.Vc.cell_i); (focus assumption); conv => whnf))
      rename_i x1 b1 q1 hx1 hc1
      have ex1 : x1 = Huf.codeAt L P.sym := by
        have e := hx1
        rw [show ((P.sym : Nat) : Int).toNat = P.sym from rfl, Huf.codes_get o1] at e
        exact (Option.some.inj e).symm
      have ex2 : xI = (m1 : Int) := by
        have e := hxI
        rw [show ((P.sym : Nat) : Int).toNat = P.sym from rfl, hm1] at e
        exact (Option.some.inj e).symm
      subst ex1
      subst ex2
      refine (rcode_spec WX (many := m1) (by omega) (by rw [List.length_append]; omega) (by omega)).mono ?_
      rintro _ h3 t3 hd3 ht3 ⟨rfl, V1⟩
      obtain ⟨d3, B3, f3, hdd3, ht3'⟩ := id V1
      have hr3 := f3 _ _ (show rb ≠ w by omega) (fun e => by have := hd1g rb e; omega) hX
      conv => whnf
      repeat (first | ((with_reducible apply Go.Vc.ld_i); (focus ((repeat (first | with_reducible assumption | with_reducible exact Go.Vc.hset_same _ _ _ | with_reducible refine (Go.Vc.hset_ne _ _ (by omega)).trans ?_)); done)); (focus exact rfl); conv => whnf) | ((with_reducible apply Go.Vc.wr_i64); (focus exact And.intro (by omega) (by omega)); conv => whnf))
      rw [g2']
      refine (number_spec B3 (many := P.n) (by omega) (by rw [List.length_append, List.length_append, bitsH_len]; omega) (by omega)).mono ?_
      rintro _ h4 t4 hd4 ht4 ⟨rfl, V2⟩
      obtain ⟨d4, B4, f4', hdd4, ht4'⟩ := id V2
      have hd3g := B3.dlt hd3
      have hd3n : d3 ≠ some rb := fun e => by
        rcases hdd3 with h1 | ⟨r, h1, hr⟩
        · rw [h1] at e; have := hd1g rb e; omega
        · rw [h1] at e; cases e; omega
      have hr4' := f4' _ _ (show rb ≠ w by omega) hd3n hr3
      have V12 := WrTo.step hdX f3 hdd3 ht3' V2
      have K4 := WrTo.step hg2 fr1 hdd ht1 (WrTo.step hd1 fX (.inl rfl) (show t1 ≤ rb + 1 by omega) V12)
      obtain ⟨d5, B5, fr5, hdd5, ht5⟩ := id K4
      obtain rfl := B5.uniq B4
      have hd5n : d5 ≠ some rb := fun e => by
        rcases hdd4 with h1 | ⟨r, h1, hr⟩
        · rw [h1] at e; exact hd3n e
        · rw [h1] at e; cases e; omega
      have sl2'' := sl_frW s2g (fun _ => f2) fr5
      have sld'' := sl_frW od.sl (fun _ => fd) fr5
      conv => whnf
      refine Go.Vc.draw_intro [⟨0, false, false, false, 0⟩, ⟨1, false, false, false, 0⟩, ⟨2, false, false, false, 0⟩, ⟨3, false, false, false, 6⟩, ⟨4, false, false, false, 14⟩, ⟨5, false, false, false, 0⟩, ⟨6, false, false, false, 0⟩, ⟨7, false, false, false, 96⟩, ⟨8, false, false, false, 224⟩, ⟨9, true, false, false, 511⟩] (hs := (fun _ => none)) (hsub := (fun _ _ h => nomatch h)) (hm := by kernel_rfl) (hpl := by kernel_rfl) ?_
      conv => whnf
      conv => whnf
      repeat (first | ((with_reducible apply Go.Vc.sl_ix); (focus with_reducible assumption); (focus exact And.intro (by omega) (by omega)); intro xI bI offI hxI hcI; conv => whnf) | ((with_reducible apply Go.Vc.cell_i); (focus assumption); conv => whnf))
      rename_i x5 b5 q5 hx5 hc5
      have ex5 : x5 = Huf.codeAt B P.sym2 := by
        have e := hx5
        rw [show ((P.sym2 : Nat) : Int).toNat = P.sym2 from rfl, Huf.codes_get o4'] at e
        exact (Option.some.inj e).symm
      have ex6 : xI = (m2 : Int) := by
        have e := hxI
        rw [show ((P.sym2 : Nat) : Int).toNat = P.sym2 from rfl, hm2] at e
        exact (Option.some.inj e).symm
      subst ex5
      subst ex6
      have hcr2 := Huf.code_range hB o4'
      refine (rcode_spec B5 (many := m2) (by omega) (by rw [List.length_append, List.length_append, List.length_append, bitsH_len, bitsL_len]; omega) (by omega)).mono ?_
      rintro _ h6 t6 hd6 ht6 ⟨rfl, V3⟩
      obtain ⟨d6, B6, f6, hdd6, ht6'⟩ := id V3
      have hr6 := f6 _ _ (show rb ≠ w by omega) hd5n hr4'
      conv => whnf
      repeat (first | ((with_reducible apply Go.Vc.ld_i); (focus ((repeat (first | with_reducible assumption | with_reducible exact Go.Vc.hset_same _ _ _ | with_reducible refine (Go.Vc.hset_ne _ _ (by omega)).trans ?_)); done)); (focus exact rfl); conv => whnf) | ((with_reducible apply Go.Vc.wr_i64); (focus exact And.intro (by omega) (by omega)); conv => whnf))
      rw [g5]
      refine (number_spec B6 (many := P.n2) (by omega) (by rw [List.length_append, List.length_append, List.length_append, List.length_append, bitsH_len, bitsH_len, bitsL_len]; omega) (by omega)).mono ?_
      rintro _ h7 t7 hd7 ht7 ⟨rfl, V4⟩
      have hd6n : d6 ≠ some rb := fun e => by
        rcases hdd6 with h1 | ⟨r, h1, hr⟩
        · rw [h1] at e; exact hd5n e
        · rw [h1] at e; cases e; have := hd4 _ _ hr4'; omega
      obtain ⟨d7, B7, f7, hdd7, ht7'⟩ := id V4
      have hr7 := f7 _ _ (show rb ≠ w by omega) hd6n hr6
      conv => whnf
      repeat (first | ((with_reducible apply Go.Vc.ld_i); (focus ((repeat (first | with_reducible assumption | with_reducible exact Go.Vc.hset_same _ _ _ | with_reducible refine (Go.Vc.hset_ne _ _ (by omega)).trans ?_)); done)); (focus exact rfl); conv => whnf) | ((with_reducible apply Go.Vc.wr_i64); (focus exact And.intro (by omega) (by omega)); conv => whnf))
      refine round_end3 (k + 1) (p + q'.1) (PS ++ [P]) (by omega) ⟨rfl, rfl, rfl, rfl, rfl, rfl, rfl, rfl, trivial⟩ ⟨by omega, by omega, by rw [List.length_append]; simp; omega, by rw [← Nat.add_assoc]; exact hTk', hPk', ?_⟩
      have K7 := WrTo.step hg2 fr5 hdd5 ht5 (WrTo.step hd4 f6 hdd6 ht6' V4)
      rw [htk, tellP, hpl, em1, em2]
      simp only [Bool.false_eq_true, if_false, ← List.append_assoc]
      exact K7
  · obtain rfl : k = T.length := by omega
    obtain ⟨m1, hm1, hm15, em1⟩ := err_get hL h256
    have hPS' : partsF s f T = PS := by
      rw [← hPk, List.drop_length, partsF, List.append_nil]
    conv => whnf
    refine Go.Vc.draw_intro [⟨0, false, false, false, 0⟩, ⟨1, false, false, false, 0⟩, ⟨2, false, false, false, 2⟩, ⟨3, false, false, false, 6⟩, ⟨4, false, false, false, 0⟩, ⟨5, false, false, false, 16⟩, ⟨6, false, false, false, 48⟩, ⟨7, true, false, false, 127⟩] (hs := (fun _ => none)) (hsub := (fun _ _ h => nomatch h)) (hm := by kernel_rfl) (hpl := by kernel_rfl) ?_
    conv => whnf
    conv => whnf
    repeat (first | ((with_reducible apply Go.Vc.sl_ix); (focus with_reducible assumption); (focus exact And.intro (by omega) (by omega)); intro xI bI offI hxI hcI; conv => whnf) | ((with_reducible apply Go.Vc.cell_i); (focus assumption); conv => whnf))
    rename_i x1 b1 q1 hx1 hc1
    have ex1 : x1 = Huf.codeAt L 256 := by
      have e := hx1
      rw [show Int.toNat 256 = 256 from rfl, Huf.codes_get h256] at e
      exact (Option.some.inj e).symm
    have ex2 : xI = (m1 : Int) := by
      have e := hxI
      rw [show Int.toNat 256 = 256 from rfl, hm1] at e
      exact (Option.some.inj e).symm
    subst ex1
    subst ex2
    have hcr := Huf.code_range hL h256
    refine (rcode_spec W1 (many := m1) (by omega) (by rw [List.length_append]; omega) (by omega)).mono ?_
    rintro _ h3 t3 hd3 ht3 ⟨rfl, V1⟩
    conv => whnf
    refine ⟨rfl, ?_⟩
    rw [hPS', tellF, em1, ← List.append_assoc]
    exact WrTo.step hd (FrW.of_sub hsg) (.inl rfl) (by omega) (WrTo.step hg2 fr1 hdd ht1 V1)
end Go.Proofs.YtikpfffhcjlcjaaGreat
