/- DeflateTold answers true, by its contract. -/
import Derived.Test.YtikpfffhcjlcjaaDefTold
import Derived.Test.YtikpfffhcjlcjaaDefMade
set_option linter.unusedSimpArgs false
namespace Go.Proofs.Ytikpfffhcjlcjaa
open Go Go.Vc Go.Huf Go.Dfl
set_option maxRecDepth 10000
set_option linter.unusedVariables false

theorem bool_eq (x y : Bool) (K : Bool → Prop) (h : Heap) (hk : K (x == y)) : genR Try.prog (Op.equal 4 (.bool x) (.bool y)) K h := by
  unfold Op.equal Op.maxDepth
  show genR Try.prog (Op.equalIn (9999 + 1) _ _ _) K h
  unfold Op.equalIn
  rw [genR_b, genR_underlying Try.underlying4]
  simpa [genR_p] using hk
theorem bool_neq (xo yo : Operand) (a b : Bool) {K : Value → Heap → Nat → Prop} {h : Heap} {t : Nat} (hk : K (.bool (!(a == b))) h t) :
    gen Try.prog (do eqGuard .neq 4 xo yo (.bool a) (.bool b); binOp .neq 4 (.bool a) (.bool b)) K h t := by
  simp only [eqGuard, gen_b, gen_p, Bool.not_true, Bool.false_eq_true, if_false, binOp]
  exact gen_of_genR _ (bool_eq a b (fun r => r = (a == b)) h rfl) (by rintro _ rfl; exact hk)

theorem DeflateTold_spec (h : Heap) (t : Nat) (s : ByteArray) (hs : s.size ≤ 1048576) (from_ : Int) (hf : IntKind.min .i64 ≤ from_ ∧ from_ ≤ IntKind.max .i64) :
    CallSpec Try.prog 6 #[.string s, .int .i64 from_] h t (fun v h' _ => v = .bool true ∧ Vc.Sub h h') := by
  refine Go.Vc.spec_of_vc (fn := Try.f6) Try.func6 rfl (by kernel_rfl) (by kernel_rfl) (Nat.le_of_ble_eq_true rfl) ?_
  intro hd
  conv => whnf
  refine (examples_spec h t).mono ?_
  rintro _ h1 t1 hd1 ht1 ⟨rfl, hs1, _⟩
  rw [show IntKind.min .i64 = -2^63 from rfl, show IntKind.max .i64 = 2^63 - 1 from rfl] at hf
  conv => whnf
  repeat (first | ((with_reducible refine And.intro (And.intro ?_ ?_) ?_); (focus omega); (focus omega); conv => whnf))
  have hS : (s.extract 0 (if (600 : Int) < (s.size : Nat) then (600 : Int) else (s.size : Nat)).toNat).size ≤ 600 := by
    rw [ByteArray.size_extract]; split <;> omega
  generalize s.extract 0 (if (600 : Int) < (s.size : Nat) then (600 : Int) else (s.size : Nat)).toNat = S at hS ⊢
  refine br (fun hb => ?_) (fun hb => ?_)
  · obtain ⟨x, hx⟩ : ∃ x, x = 0 - (from_ + 1) := ⟨_, rfl⟩
    conv => whnf
    repeat (first | ((with_reducible apply Go.Vc.wr_i64); (focus exact And.intro (by omega) (by omega)); conv => whnf) | ((with_reducible apply Go.Vc.rem_i); (focus omega); conv => whnf) | ((with_reducible refine And.intro ?_ (And.intro ?_ ?_)); (focus exact rfl); (focus omega); conv => whnf))
    rw [← hx]
    have hm0 := Int.emod_nonneg x (show ((S.size : Nat) : Int) + 1 ≠ 0 by omega)
    have hm1 := Int.emod_lt_of_pos x (show (0 : Int) < ((S.size : Nat) : Int) + 1 by omega)
    obtain ⟨f, hf⟩ := Int.eq_ofNat_of_zero_le hm0
    rw [hf] at hm1 ⊢
    refine (tokens_spec S (from_ := (f : Nat)) (to := (S.size : Nat)) (by omega) (by omega) (by omega) (.inl (by omega))).mono ?_
    rintro _ h2 t2 hd2 ht2 ⟨a, c, rfl, ho, hw, hs2, _⟩
    have htk : tokensF S (f : Nat) (S.size : Nat) = toks S f S.size := by
      unfold tokensF
      rw [if_neg (by omega), Int.toNat_natCast, Int.toNat_natCast]
    rw [htk] at ho ⊢
    have hLn := toks_len S (to := S.size) 600 f (by omega)
    obtain ⟨L, hL⟩ : ∃ L, toks S f S.size = L := ⟨_, rfl⟩
    rw [hL] at ho hLn ⊢
    have hsub : Vc.Sub h h2 := hs1.trans hs2
    conv => whnf
    refine loop_intro2 (fun (k p : Nat) => [(0, .string S), (5, .bool true), (6, .slice a L.length c), (7, .int .i64 (p : Nat)), (8, .int .i64 (k : Nat))])
      (fun k p h' t' => k ≤ L.length ∧ p ≤ S.size ∧ toks S p S.size = L.drop k ∧ Vc.Sub h2 h' ∧ t2 ≤ t') (fun k _ => L.length - k) 0 f ⟨rfl, rfl, rfl, rfl, rfl, trivial⟩
      ⟨by omega, by omega, hL, Sub.refl _, by omega⟩ ?_
    rintro k p e1 g t3 hd3 ⟨hk, hp, hT, hsg, ht3⟩
    have hoT := Own.fr ho fun b x _ hx => hsg b x hx
    conv => whnf
    refine br (fun hb1 => ?_) (fun hb1 => ?_)
    · obtain ⟨q, R, hR⟩ : ∃ q R, L.drop k = q :: R := by
        cases hc : L.drop k with
        | nil => have := congrArg List.length hc; rw [List.length_drop, List.length_nil] at this; omega
        | cons b R => exact ⟨b, R, rfl⟩
      have hpe : p < S.size := by
        rcases Nat.lt_or_ge p S.size with h | h
        · exact h
        · rw [toks_end (by omega), hR] at hT; cases hT
      have hbest : q = bestT S p S.size ∧ R = toks S (p + q.1) S.size := by
        rw [toks_step hpe, hR] at hT
        injection hT with h1 h2
        exact ⟨h1.symm, by rw [← h1, h2]⟩
      have hLk : L[k]? = some q := by
        have : (L.drop k)[0]? = some q := by rw [hR]; rfl
        rw [List.getElem?_drop] at this
        exact this
      have hRk : L.drop (k + 1) = R := by
        rw [← List.drop_drop, hR]; rfl
      have hok := best_ok (s := S) hpe (Nat.le_refl _)
      rw [← hbest.1] at hok
      obtain ⟨q', bP, offP, hq, haP, hrow⟩ := slW_row (i := k) tk_len hoT.sl (by decide) (by omega)
      obtain rfl : q' = q := by rw [hLk] at hq; exact (Option.some.inj hq).symm
      conv => whnf
      repeat (first | ((with_reducible refine And.intro (And.intro ?_ ?_) ?_); (focus omega); (focus omega); conv => whnf))
      refine ⟨bP, offP, haP, ?_⟩
      conv => whnf
      refine hrow.row (W := 2) rfl (by decide) ?_
      conv => whnf
      repeat (first | ((with_reducible apply Go.Vc.strow); (focus ((repeat (first | with_reducible assumption | with_reducible exact Go.Vc.hset_same _ _ _ | with_reducible refine (Go.Vc.hset_ne _ _ (by omega)).trans ?_)); done)); (focus exact rfl); (focus exact rfl); (focus exact rfl); rintro _ rfl; conv => whnf) | ((with_reducible apply Go.Vc.ld_i); (focus ((repeat (first | with_reducible assumption | with_reducible exact Go.Vc.hset_same _ _ _ | with_reducible refine (Go.Vc.hset_ne _ _ (by omega)).trans ?_)); done)); (focus exact rfl); conv => whnf) | (intro _ _; conv => whnf))
      rename_i r hr
      have hqr := hset_same (hset g r (.cells #[.int .i64 0, .int .i64 0] 28)) r (.cells #[.int .i64 (q'.1 : Nat), .int .i64 (q'.2 : Nat)] 28 (0, 0))
      have hle := hok.le
      have hpos : 1 ≤ q'.1 ∧ q'.1 ≤ 258 ∧ q'.2 ≤ p := by
        rcases hok.cs with h | ⟨h1, h2, h3, h4, h5, _⟩
        · rw [h]; omega
        · omega
      have hbq : (decide (((q'.2 : Nat) : Int) = 0) == decide (((q'.1 : Nat) : Int) = 1)) = true := by
        rcases hok.cs with h | ⟨h1, h2, h3, h4, h5, _⟩
        · rw [h]; rfl
        · rw [decide_eq_false (by omega), decide_eq_false (by omega)]; rfl
      conv => whnf
      repeat (first | ((with_reducible apply Go.Vc.ld_i); (focus ((repeat (first | with_reducible assumption | with_reducible exact Go.Vc.hset_same _ _ _ | with_reducible refine (Go.Vc.hset_ne _ _ (by omega)).trans ?_)); done)); (focus exact rfl); conv => whnf) | ((with_reducible apply Go.Vc.wr_i64); (focus exact And.intro (by omega) (by omega)); conv => whnf) | (refine Go.Vc.br_f ?_ ?_; (focus omega); conv => whnf))
      refine bsel_f (by rw [opq_eq, opq_eq, hbq]; rfl) ?_
      have hsr : Vc.Sub h2 (hset (hset g r (.cells #[.int .i64 0, .int .i64 0] 28)) r (.cells #[.int .i64 (q'.1 : Nat), .int .i64 (q'.2 : Nat)] 28)) := fun b o hb => by
        have h1 := hsg b o hb
        have := hd3 _ _ h1
        rw [hset_ne _ _ (by omega), hset_ne _ _ (by omega)]
        exact h1
      rcases hok.cs with hcs | ⟨h1, h2', h3, h4, h5, hby⟩
      · have hc1 : q'.1 = 1 := by rw [hcs]
        have hc2 : q'.2 = 0 := by rw [hcs]
        conv => whnf
        repeat (first | ((with_reducible apply Go.Vc.ld_i); (focus ((repeat (first | with_reducible assumption | with_reducible exact Go.Vc.hset_same _ _ _ | with_reducible refine (Go.Vc.hset_ne _ _ (by omega)).trans ?_)); done)); (focus exact rfl); conv => whnf) | (refine Go.Vc.br_f ?_ ?_; (focus omega); conv => whnf))
        refine loop_intro (fun j : Nat => [(0, .string S), (5, .bool true), (6, .slice a L.length c), (7, .int .i64 (p : Nat)), (8, .int .i64 (k : Nat)), (9, .pointer (some ⟨r, 0, none⟩)), (10, .int .i64 (j : Nat))])
          (fun j h' t' => j ≤ q'.1 ∧ h' r = some (.cells #[.int .i64 (q'.1 : Nat), .int .i64 (q'.2 : Nat)] 28 (0, 0)) ∧ Vc.Sub h2 h' ∧ t2 ≤ t') (fun j => q'.1 - j) 0 ⟨rfl, rfl, rfl, rfl, rfl, rfl, rfl, trivial⟩ ⟨by omega, hqr, hsr, by omega⟩ ?_
        rintro j e7 g7 t7 hd7 ⟨hj, hqr7, hs7, ht7⟩
        conv => whnf
        repeat (first | ((with_reducible apply Go.Vc.ld_i); (focus ((repeat (first | with_reducible assumption | with_reducible exact Go.Vc.hset_same _ _ _ | with_reducible refine (Go.Vc.hset_ne _ _ (by omega)).trans ?_)); done)); (focus exact rfl); conv => whnf))
        refine br (fun hj1 => ?_) (fun hj1 => ?_)
        · conv => whnf
          repeat (first | ((with_reducible apply Go.Vc.ld_i); (focus ((repeat (first | with_reducible assumption | with_reducible exact Go.Vc.hset_same _ _ _ | with_reducible refine (Go.Vc.hset_ne _ _ (by omega)).trans ?_)); done)); (focus exact rfl); conv => whnf) | ((with_reducible apply Go.Vc.wr_i64); (focus exact And.intro (by omega) (by omega)); conv => whnf) | (refine Go.Vc.br_f ?_ ?_; (focus omega); conv => whnf))
          exact round_end2 (k + 1) (p + q'.1) (by omega) ⟨rfl, rfl, rfl, rfl, rfl, trivial⟩ ⟨by omega, hle, by rw [hRk, ← hbest.2], hs7, by omega⟩
        · conv => whnf
          repeat (first | ((with_reducible apply Go.Vc.ld_i); (focus ((repeat (first | with_reducible assumption | with_reducible exact Go.Vc.hset_same _ _ _ | with_reducible refine (Go.Vc.hset_ne _ _ (by omega)).trans ?_)); done)); (focus exact rfl); conv => whnf) | ((with_reducible apply Go.Vc.wr_i64); (focus exact And.intro (by omega) (by omega)); conv => whnf))
          exact round_end2 (k + 1) (p + q'.1) (by omega) ⟨rfl, rfl, rfl, rfl, rfl, trivial⟩ ⟨by omega, hle, by rw [hRk, ← hbest.2], hs7, by omega⟩
      · conv => whnf
        repeat (first | ((with_reducible apply Go.Vc.ld_i); (focus ((repeat (first | with_reducible assumption | with_reducible exact Go.Vc.hset_same _ _ _ | with_reducible refine (Go.Vc.hset_ne _ _ (by omega)).trans ?_)); done)); (focus exact rfl); conv => whnf) | (refine Go.Vc.br_t ?_ ?_; (focus omega); conv => whnf) | (refine Go.Vc.br_f ?_ ?_; (focus omega); conv => whnf))
        refine loop_intro (fun j : Nat => [(0, .string S), (5, .bool true), (6, .slice a L.length c), (7, .int .i64 (p : Nat)), (8, .int .i64 (k : Nat)), (9, .pointer (some ⟨r, 0, none⟩)), (10, .int .i64 (j : Nat))])
          (fun j h' t' => j ≤ q'.1 ∧ h' r = some (.cells #[.int .i64 (q'.1 : Nat), .int .i64 (q'.2 : Nat)] 28 (0, 0)) ∧ Vc.Sub h2 h' ∧ t2 ≤ t') (fun j => q'.1 - j) 0 ⟨rfl, rfl, rfl, rfl, rfl, rfl, rfl, trivial⟩ ⟨by omega, hqr, hsr, by omega⟩ ?_
        rintro j e7 g7 t7 hd7 ⟨hj, hqr7, hs7, ht7⟩
        conv => whnf
        repeat (first | ((with_reducible apply Go.Vc.ld_i); (focus ((repeat (first | with_reducible assumption | with_reducible exact Go.Vc.hset_same _ _ _ | with_reducible refine (Go.Vc.hset_ne _ _ (by omega)).trans ?_)); done)); (focus exact rfl); conv => whnf))
        refine br (fun hj1 => ?_) (fun hj1 => ?_)
        · conv => whnf
          repeat (first | ((with_reducible apply Go.Vc.ld_i); (focus ((repeat (first | with_reducible assumption | with_reducible exact Go.Vc.hset_same _ _ _ | with_reducible refine (Go.Vc.hset_ne _ _ (by omega)).trans ?_)); done)); (focus exact rfl); conv => whnf) | (refine Go.Vc.br_t ?_ ?_; (focus omega); conv => whnf))
          refine Go.Vc.draw_intro [⟨0, false, false, false, 0⟩, ⟨1, false, false, false, 0⟩, ⟨2, false, false, false, 0⟩, ⟨3, false, false, false, 6⟩, ⟨4, false, false, false, 15⟩, ⟨5, false, false, false, 0⟩, ⟨6, false, false, false, 0⟩, ⟨7, false, false, false, 0⟩, ⟨8, false, false, false, 192⟩, ⟨9, false, false, false, 0⟩, ⟨10, false, false, false, 512⟩, ⟨11, false, false, false, 1984⟩, ⟨12, false, false, false, 4064⟩, ⟨13, false, false, false, 8191⟩] (hs := g7) (hsub := (Sub.refl _)) (hm := by kernel_rfl) (hpl := by kernel_rfl) ?_
          conv => whnf
          conv => whnf
          repeat (first | ((with_reducible refine And.intro (And.intro ?_ ?_) ?_); (focus omega); (focus omega); conv => whnf) | ((with_reducible apply Go.Vc.ld_i); (focus ((repeat (first | with_reducible assumption | with_reducible exact Go.Vc.hset_same _ _ _ | with_reducible refine (Go.Vc.hset_ne _ _ (by omega)).trans ?_)); done)); (focus exact rfl); conv => whnf) | (intro _ _; conv => whnf) | ((with_reducible apply Go.Vc.wr_i64); (focus exact And.intro (by omega) (by omega)); conv => whnf))
          have hbj := hby j (by omega)
          rw [show ((p : Int) + (j : Int)).toNat = p + j by omega, show ((p : Int) + (j : Int) - (q'.2 : Int)).toNat = p + j - q'.2 by omega, hbj]
          refine br_f (by simp) ?_
          conv => whnf
          repeat (first | ((with_reducible apply Go.Vc.wr_i64); (focus exact And.intro (by omega) (by omega)); conv => whnf))
          exact round_end (j + 1) (by omega) ⟨rfl, rfl, rfl, rfl, rfl, rfl, rfl, trivial⟩ ⟨by omega, hqr7, hs7, by omega⟩
        · conv => whnf
          repeat (first | ((with_reducible apply Go.Vc.ld_i); (focus ((repeat (first | with_reducible assumption | with_reducible exact Go.Vc.hset_same _ _ _ | with_reducible refine (Go.Vc.hset_ne _ _ (by omega)).trans ?_)); done)); (focus exact rfl); conv => whnf) | ((with_reducible apply Go.Vc.wr_i64); (focus exact And.intro (by omega) (by omega)); conv => whnf))
          exact round_end2 (k + 1) (p + q'.1) (by omega) ⟨rfl, rfl, rfl, rfl, rfl, trivial⟩ ⟨by omega, hle, by rw [hRk, ← hbest.2], hs7, by omega⟩
    · conv => whnf
      have hpS : p = S.size := by
        rcases Nat.lt_or_ge p S.size with h | h
        · rw [toks_step h, List.drop_eq_nil_of_le (by omega)] at hT; cases hT
        · omega
      refine ⟨?_, hsub.trans hsg⟩
      rw [hpS, opq_eq, decide_eq_true rfl]
  · obtain ⟨x, hx⟩ : ∃ x, x = from_ := ⟨_, rfl⟩
    conv => whnf
    repeat (first | ((with_reducible apply Go.Vc.wr_i64); (focus exact And.intro (by omega) (by omega)); conv => whnf) | ((with_reducible apply Go.Vc.rem_i); (focus omega); conv => whnf) | ((with_reducible refine And.intro ?_ (And.intro ?_ ?_)); (focus exact rfl); (focus omega); conv => whnf))
    rw [← hx]
    have hm0 := Int.emod_nonneg x (show ((S.size : Nat) : Int) + 1 ≠ 0 by omega)
    have hm1 := Int.emod_lt_of_pos x (show (0 : Int) < ((S.size : Nat) : Int) + 1 by omega)
    obtain ⟨f, hf⟩ := Int.eq_ofNat_of_zero_le hm0
    rw [hf] at hm1 ⊢
    refine (tokens_spec S (from_ := (f : Nat)) (to := (S.size : Nat)) (by omega) (by omega) (by omega) (.inl (by omega))).mono ?_
    rintro _ h2 t2 hd2 ht2 ⟨a, c, rfl, ho, hw, hs2, _⟩
    have htk : tokensF S (f : Nat) (S.size : Nat) = toks S f S.size := by
      unfold tokensF
      rw [if_neg (by omega), Int.toNat_natCast, Int.toNat_natCast]
    rw [htk] at ho ⊢
    have hLn := toks_len S (to := S.size) 600 f (by omega)
    obtain ⟨L, hL⟩ : ∃ L, toks S f S.size = L := ⟨_, rfl⟩
    rw [hL] at ho hLn ⊢
    have hsub : Vc.Sub h h2 := hs1.trans hs2
    conv => whnf
    refine loop_intro2 (fun (k p : Nat) => [(0, .string S), (5, .bool true), (6, .slice a L.length c), (7, .int .i64 (p : Nat)), (8, .int .i64 (k : Nat))])
      (fun k p h' t' => k ≤ L.length ∧ p ≤ S.size ∧ toks S p S.size = L.drop k ∧ Vc.Sub h2 h' ∧ t2 ≤ t') (fun k _ => L.length - k) 0 f ⟨rfl, rfl, rfl, rfl, rfl, trivial⟩
      ⟨by omega, by omega, hL, Sub.refl _, by omega⟩ ?_
    rintro k p e1 g t3 hd3 ⟨hk, hp, hT, hsg, ht3⟩
    have hoT := Own.fr ho fun b x _ hx => hsg b x hx
    conv => whnf
    refine br (fun hb1 => ?_) (fun hb1 => ?_)
    · obtain ⟨q, R, hR⟩ : ∃ q R, L.drop k = q :: R := by
        cases hc : L.drop k with
        | nil => have := congrArg List.length hc; rw [List.length_drop, List.length_nil] at this; omega
        | cons b R => exact ⟨b, R, rfl⟩
      have hpe : p < S.size := by
        rcases Nat.lt_or_ge p S.size with h | h
        · exact h
        · rw [toks_end (by omega), hR] at hT; cases hT
      have hbest : q = bestT S p S.size ∧ R = toks S (p + q.1) S.size := by
        rw [toks_step hpe, hR] at hT
        injection hT with h1 h2
        exact ⟨h1.symm, by rw [← h1, h2]⟩
      have hLk : L[k]? = some q := by
        have : (L.drop k)[0]? = some q := by rw [hR]; rfl
        rw [List.getElem?_drop] at this
        exact this
      have hRk : L.drop (k + 1) = R := by
        rw [← List.drop_drop, hR]; rfl
      have hok := best_ok (s := S) hpe (Nat.le_refl _)
      rw [← hbest.1] at hok
      obtain ⟨q', bP, offP, hq, haP, hrow⟩ := slW_row (i := k) tk_len hoT.sl (by decide) (by omega)
      obtain rfl : q' = q := by rw [hLk] at hq; exact (Option.some.inj hq).symm
      conv => whnf
      repeat (first | ((with_reducible refine And.intro (And.intro ?_ ?_) ?_); (focus omega); (focus omega); conv => whnf))
      refine ⟨bP, offP, haP, ?_⟩
      conv => whnf
      refine hrow.row (W := 2) rfl (by decide) ?_
      conv => whnf
      repeat (first | ((with_reducible apply Go.Vc.strow); (focus ((repeat (first | with_reducible assumption | with_reducible exact Go.Vc.hset_same _ _ _ | with_reducible refine (Go.Vc.hset_ne _ _ (by omega)).trans ?_)); done)); (focus exact rfl); (focus exact rfl); (focus exact rfl); rintro _ rfl; conv => whnf) | ((with_reducible apply Go.Vc.ld_i); (focus ((repeat (first | with_reducible assumption | with_reducible exact Go.Vc.hset_same _ _ _ | with_reducible refine (Go.Vc.hset_ne _ _ (by omega)).trans ?_)); done)); (focus exact rfl); conv => whnf) | (intro _ _; conv => whnf))
      rename_i r hr
      have hqr := hset_same (hset g r (.cells #[.int .i64 0, .int .i64 0] 28)) r (.cells #[.int .i64 (q'.1 : Nat), .int .i64 (q'.2 : Nat)] 28 (0, 0))
      have hle := hok.le
      have hpos : 1 ≤ q'.1 ∧ q'.1 ≤ 258 ∧ q'.2 ≤ p := by
        rcases hok.cs with h | ⟨h1, h2, h3, h4, h5, _⟩
        · rw [h]; omega
        · omega
      have hbq : (decide (((q'.2 : Nat) : Int) = 0) == decide (((q'.1 : Nat) : Int) = 1)) = true := by
        rcases hok.cs with h | ⟨h1, h2, h3, h4, h5, _⟩
        · rw [h]; rfl
        · rw [decide_eq_false (by omega), decide_eq_false (by omega)]; rfl
      conv => whnf
      repeat (first | ((with_reducible apply Go.Vc.ld_i); (focus ((repeat (first | with_reducible assumption | with_reducible exact Go.Vc.hset_same _ _ _ | with_reducible refine (Go.Vc.hset_ne _ _ (by omega)).trans ?_)); done)); (focus exact rfl); conv => whnf) | ((with_reducible apply Go.Vc.wr_i64); (focus exact And.intro (by omega) (by omega)); conv => whnf) | (refine Go.Vc.br_f ?_ ?_; (focus omega); conv => whnf))
      refine bsel_f (by rw [opq_eq, opq_eq, hbq]; rfl) ?_
      have hsr : Vc.Sub h2 (hset (hset g r (.cells #[.int .i64 0, .int .i64 0] 28)) r (.cells #[.int .i64 (q'.1 : Nat), .int .i64 (q'.2 : Nat)] 28)) := fun b o hb => by
        have h1 := hsg b o hb
        have := hd3 _ _ h1
        rw [hset_ne _ _ (by omega), hset_ne _ _ (by omega)]
        exact h1
      rcases hok.cs with hcs | ⟨h1, h2', h3, h4, h5, hby⟩
      · have hc1 : q'.1 = 1 := by rw [hcs]
        have hc2 : q'.2 = 0 := by rw [hcs]
        conv => whnf
        repeat (first | ((with_reducible apply Go.Vc.ld_i); (focus ((repeat (first | with_reducible assumption | with_reducible exact Go.Vc.hset_same _ _ _ | with_reducible refine (Go.Vc.hset_ne _ _ (by omega)).trans ?_)); done)); (focus exact rfl); conv => whnf) | (refine Go.Vc.br_f ?_ ?_; (focus omega); conv => whnf))
        refine loop_intro (fun j : Nat => [(0, .string S), (5, .bool true), (6, .slice a L.length c), (7, .int .i64 (p : Nat)), (8, .int .i64 (k : Nat)), (9, .pointer (some ⟨r, 0, none⟩)), (10, .int .i64 (j : Nat))])
          (fun j h' t' => j ≤ q'.1 ∧ h' r = some (.cells #[.int .i64 (q'.1 : Nat), .int .i64 (q'.2 : Nat)] 28 (0, 0)) ∧ Vc.Sub h2 h' ∧ t2 ≤ t') (fun j => q'.1 - j) 0 ⟨rfl, rfl, rfl, rfl, rfl, rfl, rfl, trivial⟩ ⟨by omega, hqr, hsr, by omega⟩ ?_
        rintro j e7 g7 t7 hd7 ⟨hj, hqr7, hs7, ht7⟩
        conv => whnf
        repeat (first | ((with_reducible apply Go.Vc.ld_i); (focus ((repeat (first | with_reducible assumption | with_reducible exact Go.Vc.hset_same _ _ _ | with_reducible refine (Go.Vc.hset_ne _ _ (by omega)).trans ?_)); done)); (focus exact rfl); conv => whnf))
        refine br (fun hj1 => ?_) (fun hj1 => ?_)
        · conv => whnf
          repeat (first | ((with_reducible apply Go.Vc.ld_i); (focus ((repeat (first | with_reducible assumption | with_reducible exact Go.Vc.hset_same _ _ _ | with_reducible refine (Go.Vc.hset_ne _ _ (by omega)).trans ?_)); done)); (focus exact rfl); conv => whnf) | ((with_reducible apply Go.Vc.wr_i64); (focus exact And.intro (by omega) (by omega)); conv => whnf) | (refine Go.Vc.br_f ?_ ?_; (focus omega); conv => whnf))
          exact round_end2 (k + 1) (p + q'.1) (by omega) ⟨rfl, rfl, rfl, rfl, rfl, trivial⟩ ⟨by omega, hle, by rw [hRk, ← hbest.2], hs7, by omega⟩
        · conv => whnf
          repeat (first | ((with_reducible apply Go.Vc.ld_i); (focus ((repeat (first | with_reducible assumption | with_reducible exact Go.Vc.hset_same _ _ _ | with_reducible refine (Go.Vc.hset_ne _ _ (by omega)).trans ?_)); done)); (focus exact rfl); conv => whnf) | ((with_reducible apply Go.Vc.wr_i64); (focus exact And.intro (by omega) (by omega)); conv => whnf))
          exact round_end2 (k + 1) (p + q'.1) (by omega) ⟨rfl, rfl, rfl, rfl, rfl, trivial⟩ ⟨by omega, hle, by rw [hRk, ← hbest.2], hs7, by omega⟩
      · conv => whnf
        repeat (first | ((with_reducible apply Go.Vc.ld_i); (focus ((repeat (first | with_reducible assumption | with_reducible exact Go.Vc.hset_same _ _ _ | with_reducible refine (Go.Vc.hset_ne _ _ (by omega)).trans ?_)); done)); (focus exact rfl); conv => whnf) | (refine Go.Vc.br_t ?_ ?_; (focus omega); conv => whnf) | (refine Go.Vc.br_f ?_ ?_; (focus omega); conv => whnf))
        refine loop_intro (fun j : Nat => [(0, .string S), (5, .bool true), (6, .slice a L.length c), (7, .int .i64 (p : Nat)), (8, .int .i64 (k : Nat)), (9, .pointer (some ⟨r, 0, none⟩)), (10, .int .i64 (j : Nat))])
          (fun j h' t' => j ≤ q'.1 ∧ h' r = some (.cells #[.int .i64 (q'.1 : Nat), .int .i64 (q'.2 : Nat)] 28 (0, 0)) ∧ Vc.Sub h2 h' ∧ t2 ≤ t') (fun j => q'.1 - j) 0 ⟨rfl, rfl, rfl, rfl, rfl, rfl, rfl, trivial⟩ ⟨by omega, hqr, hsr, by omega⟩ ?_
        rintro j e7 g7 t7 hd7 ⟨hj, hqr7, hs7, ht7⟩
        conv => whnf
        repeat (first | ((with_reducible apply Go.Vc.ld_i); (focus ((repeat (first | with_reducible assumption | with_reducible exact Go.Vc.hset_same _ _ _ | with_reducible refine (Go.Vc.hset_ne _ _ (by omega)).trans ?_)); done)); (focus exact rfl); conv => whnf))
        refine br (fun hj1 => ?_) (fun hj1 => ?_)
        · conv => whnf
          repeat (first | ((with_reducible apply Go.Vc.ld_i); (focus ((repeat (first | with_reducible assumption | with_reducible exact Go.Vc.hset_same _ _ _ | with_reducible refine (Go.Vc.hset_ne _ _ (by omega)).trans ?_)); done)); (focus exact rfl); conv => whnf) | (refine Go.Vc.br_t ?_ ?_; (focus omega); conv => whnf))
          refine Go.Vc.draw_intro [⟨0, false, false, false, 0⟩, ⟨1, false, false, false, 0⟩, ⟨2, false, false, false, 0⟩, ⟨3, false, false, false, 6⟩, ⟨4, false, false, false, 15⟩, ⟨5, false, false, false, 0⟩, ⟨6, false, false, false, 0⟩, ⟨7, false, false, false, 0⟩, ⟨8, false, false, false, 192⟩, ⟨9, false, false, false, 0⟩, ⟨10, false, false, false, 512⟩, ⟨11, false, false, false, 1984⟩, ⟨12, false, false, false, 4064⟩, ⟨13, false, false, false, 8191⟩] (hs := g7) (hsub := (Sub.refl _)) (hm := by kernel_rfl) (hpl := by kernel_rfl) ?_
          conv => whnf
          conv => whnf
          repeat (first | ((with_reducible refine And.intro (And.intro ?_ ?_) ?_); (focus omega); (focus omega); conv => whnf) | ((with_reducible apply Go.Vc.ld_i); (focus ((repeat (first | with_reducible assumption | with_reducible exact Go.Vc.hset_same _ _ _ | with_reducible refine (Go.Vc.hset_ne _ _ (by omega)).trans ?_)); done)); (focus exact rfl); conv => whnf) | (intro _ _; conv => whnf) | ((with_reducible apply Go.Vc.wr_i64); (focus exact And.intro (by omega) (by omega)); conv => whnf))
          have hbj := hby j (by omega)
          rw [show ((p : Int) + (j : Int)).toNat = p + j by omega, show ((p : Int) + (j : Int) - (q'.2 : Int)).toNat = p + j - q'.2 by omega, hbj]
          refine br_f (by simp) ?_
          conv => whnf
          repeat (first | ((with_reducible apply Go.Vc.wr_i64); (focus exact And.intro (by omega) (by omega)); conv => whnf))
          exact round_end (j + 1) (by omega) ⟨rfl, rfl, rfl, rfl, rfl, rfl, rfl, trivial⟩ ⟨by omega, hqr7, hs7, by omega⟩
        · conv => whnf
          repeat (first | ((with_reducible apply Go.Vc.ld_i); (focus ((repeat (first | with_reducible assumption | with_reducible exact Go.Vc.hset_same _ _ _ | with_reducible refine (Go.Vc.hset_ne _ _ (by omega)).trans ?_)); done)); (focus exact rfl); conv => whnf) | ((with_reducible apply Go.Vc.wr_i64); (focus exact And.intro (by omega) (by omega)); conv => whnf))
          exact round_end2 (k + 1) (p + q'.1) (by omega) ⟨rfl, rfl, rfl, rfl, rfl, trivial⟩ ⟨by omega, hle, by rw [hRk, ← hbest.2], hs7, by omega⟩
    · conv => whnf
      have hpS : p = S.size := by
        rcases Nat.lt_or_ge p S.size with h | h
        · rw [toks_step h, List.drop_eq_nil_of_le (by omega)] at hT; cases hT
        · omega
      refine ⟨?_, hsub.trans hsg⟩
      rw [hpS, opq_eq, decide_eq_true rfl]
end Go.Proofs.Ytikpfffhcjlcjaa
