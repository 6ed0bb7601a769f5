import Derived.Test.YtlkpgjicpjjlcaaGreatDoorVc15
/- A number's digits. -/
set_option linter.unusedSimpArgs false
namespace Go.Tile
open Go Go.Vc
theorem wrap8 (m : Nat) : IntKind.u8.wrap (m : Int) = (((UInt8.ofNat m).toNat : Nat) : Int) := by
  rw [wu8, UInt8.toNat_ofNat']
  omega
theorem wb8 {m : Nat} {Q : Int → Prop} (hk : Q (((UInt8.ofNat m).toNat : Nat) : Int)) : ∃ z, z = IntKind.u8.wrap (m : Int) ∧ Q z := ⟨_, (wrap8 m).symm, hk⟩
theorem readB_off {h : Heap} {b off n : Nat} {l : List UInt8} {T : TypeId} {fr : Nat × Nat} (hb : h b = some (.cells (List.map bv l).toArray T fr)) (hn : off + n = l.length) : ReadB h ⟨b, off, none⟩ n (l.drop off) := by
  refine ⟨by rw [List.length_drop]; omega, fun i hi => ?_⟩
  rw [addr_add]
  refine ⟨_, T, fr, hb, rfl, ?_⟩
  simp [bv, List.getD_eq_getElem?_getD, List.getElem?_drop, List.getElem?_eq_getElem (show off + i < l.length by omega)]
theorem readB_arr {h : Heap} {b n : Nat} {l : List UInt8} {T : TypeId} {fr : Nat × Nat} (hb : h b = some (.cells (List.map bv l).toArray T fr)) (hn : l.length = n) : ReadB h ⟨b, 0, none⟩ n l := by
  have := readB_off (off := 0) (n := n) hb (by omega)
  rwa [List.drop_zero] at this
def digit (m : Nat) : UInt8 := UInt8.ofNat (48 + m % 10)
/-- The digits of a number, the last one last. -/
def numR : Nat → Nat → List UInt8
  | 0, _ => []
  | f + 1, n => if n < 10 then [digit n] else numR f (n / 10) ++ [digit n]
def numL (n : Nat) : List UInt8 := numR 20 n
def numS (n : Nat) : ByteArray := ⟨(numL n).toArray⟩
theorem numR_len : ∀ {f n : Nat}, (numR f n).length ≤ f
  | 0, _ => Nat.le_refl _
  | f + 1, n => by
    rw [numR]
    split
    · simp
    · rw [List.length_append]
      have := numR_len (f := f) (n := n / 10)
      simp; omega
theorem digit_val (m : Nat) : ((digit m).toNat : Nat) = 48 + m % 10 := by
  unfold digit
  rw [UInt8.toNat_ofNat']
  omega
theorem pow10 {i m n : Nat} (hn : n ≤ 2 ^ 62) (hm : m = n / 10 ^ i) (h1 : 1 ≤ m) : i ≤ 18 := by
  apply Classical.byContradiction
  intro hc
  have h2 : 10 ^ 19 ≤ 10 ^ i := Nat.pow_le_pow_right (by decide) (by omega)
  have h3 : n / 10 ^ i = 0 := Nat.div_eq_of_lt (by have : (2 : Nat) ^ 62 < 10 ^ 19 := by decide
                                                   omega)
  omega
end Go.Tile
namespace Go.Proofs.YtlkpgjicpjjlcaaGreatDoor
open Go Go.Vc Go.Tile
set_option maxRecDepth 20000
set_option linter.unusedVariables false
theorem number_spec {h : Heap} {t : Nat} (n : Nat) (hn : n ≤ 2 ^ 62) :
    CallSpec Tryz.prog 30 #[.int .i64 (n : Nat)] h t (fun v h' t' => v = .tuple #[.string (numS n), .bool true] ∧ Vc.Sub h h' ∧ t ≤ t') := by
  refine Go.Vc.spec_of_vc (fn := Tryz.f30) Tryz.func30 rfl (by kernel_rfl) (by kernel_rfl) (Nat.le_of_ble_eq_true rfl) ?_
  intro hd
  conv => whnf
  repeat (first | (intro _ _; conv => whnf) | (refine Go.Vc.br_f ?_ ?_; (focus omega); conv => whnf))
  rename_i r hr
  refine loop_intro (fun i : Nat => [(0, .int .i64 (n / 10 ^ i : Nat)), (4, .pointer (some ⟨r, 0, none⟩)), (5, .int .i64 (20 - i : Nat))])
    (fun i h' t' => i ≤ 19 ∧ (i = 0 ∨ 1 ≤ n / 10 ^ i) ∧ (∃ B : List UInt8, B.length = 20 ∧ h' r = some (.cells (B.map bv).toArray 113 (0, 0)) ∧ numL n = numR (20 - i) (n / 10 ^ i) ++ B.drop (20 - i)) ∧ Vc.Sub h h' ∧ r < t') (fun i => 20 - i) 0 ⟨by rw [Nat.pow_zero, Nat.div_one]; rfl, rfl, rfl, trivial⟩
    ⟨by omega, .inl rfl, ⟨List.replicate 20 0, rfl, (hset_same _ _ _).trans rfl, by rw [Nat.pow_zero, Nat.div_one]; simp [numL]⟩, hd.sub_new hr _, by omega⟩ ?_
  rintro i e1 g t1 hd1 ⟨hi, hpos, ⟨B, hBl, hB, hnum⟩, hs1, ht1⟩
  obtain ⟨m, hm⟩ : ∃ m, m = n / 10 ^ i := ⟨_, rfl⟩
  have hmn : m ≤ n := hm ▸ Nat.div_le_self _ _
  have hm10 : n / 10 ^ (i + 1) = m / 10 := by rw [Nat.pow_succ, ← Nat.div_div_eq_div_mul, hm]
  rw [← hm] at hpos hnum ⊢
  have hi2 : 20 - i = (19 - i) + 1 := by omega
  conv => whnf
  repeat (first | ((with_reducible refine And.intro (And.intro ?_ ?_) ?_); (focus omega); (focus omega); conv => whnf) | ((with_reducible apply Go.Vc.wr_i64); (focus exact And.intro (by omega) (by omega)); conv => whnf) | ((with_reducible apply Go.Vc.wr_u8); (focus exact And.intro (by omega) (by omega)); conv => whnf) | ((with_reducible apply Go.Vc.rem_i); (focus omega); conv => whnf) | ((with_reducible refine And.intro ?_ (And.intro ?_ ?_)); (focus exact rfl); (focus omega); conv => whnf))
  rw [show ((48 : Int) + (m : Int) % 10) = (((digit m).toNat : Nat) : Int) by rw [digit_val]; omega, show ((((20 - i : Nat) : Int)) - 1).toNat = 19 - i by omega]
  conv => whnf
  repeat (first | ((with_reducible apply Go.Vc.ar_st); (focus ((repeat (first | with_reducible assumption | with_reducible exact Go.Vc.hset_same _ _ _ | with_reducible refine (Go.Vc.hset_ne _ _ (by omega)).trans ?_)); done)); (focus exact rfl); (focus exact rfl); (focus (first | omega | (simp; done) | (simp; omega))); (focus exact rfl); intro heqA; (conv => whnf); intro cA hcA; rw [heqA] at hcA; clear heqA; subst hcA; conv => whnf) | ((with_reducible apply Go.Vc.quo_i64); (focus exact And.intro (by omega) (And.intro (by omega) (by omega))); conv => whnf) | ((with_reducible refine And.intro ?_ (And.intro ?_ ?_)); (focus exact rfl); (focus omega); conv => whnf))
  have hB2l : (B.set (19 - i) (digit m)).length = 20 := by rw [List.length_set, hBl]
  have hdrop : (B.set (19 - i) (digit m)).drop (19 - i) = digit m :: B.drop (20 - i) := by
    rw [List.drop_set, if_neg (by omega), Nat.sub_self, hi2, List.drop_eq_getElem_cons (i := 19 - i) (by omega)]
    rfl
  have hsg : Vc.Sub h (hset g r (.cells ((B.set (19 - i) (digit m)).map bv).toArray 113 (0, 0))) := fun b o hb' => by
    have := hd _ _ hb'
    rw [hset_ne _ _ (by omega)]
    exact hs1 _ _ hb'
  refine br (fun hb => ?_) (fun hb => ?_)
  · conv => whnf
    repeat (first | ((with_reducible refine And.intro (And.intro ?_ ?_) ?_); (focus omega); (focus omega); conv => whnf) | (intro _ _; conv => whnf))
    rename_i a9 ha9
    have ea : a9 = some ⟨r, 19 - i, none⟩ := by
      rw [ha9, show ((((20 - i : Nat) : Int)) - 1).toNat = 19 - i by omega]
      unfold cutA
      rw [if_neg (by omega)]
      show some (Addr.add _ _) = _
      rw [addr_add]
      simp
      exact Nat.mul_one _
    subst ea
    conv => whnf
    rw [show 20 - ((((20 - i : Nat) : Int)) - 1).toNat = i + 1 by omega]
    refine ⟨_, readB_off (off := 19 - i) (n := i + 1) (hset_same _ _ _) (by omega), ?_⟩
    rw [hdrop]
    conv => whnf
    refine ⟨?_, hsg, by omega⟩
    rw [hi2, numR, if_pos (by omega)] at hnum
    unfold numS
    rw [hnum, hi2]
    rfl
  · conv => whnf
    refine round_end (i + 1) (by omega) ⟨?_, rfl, ?_, trivial⟩ ⟨?_, .inr ?_, ⟨B.set (19 - i) (digit m), hB2l, hset_same _ _ _, ?_⟩, hsg, by omega⟩
    · rw [hm10]; rfl
    · rw [show 20 - (i + 1) = 19 - i by omega, show ((19 - i : Nat) : Int) = ((20 - i : Nat) : Int) - 1 by omega]; rfl
    · have := pow10 (i := i) hn hm (by omega); omega
    · rw [hm10]; omega
    · rw [show 20 - (i + 1) = 19 - i by omega, hdrop, hm10, hnum, hi2, numR, if_neg (by omega), List.append_assoc]
      rfl
theorem number_neg {h : Heap} {t : Nat} (n : Int) (hn : n < 0) :
    CallSpec Tryz.prog 30 #[.int .i64 n] h t (fun v h' t' => v = .tuple #[.string ByteArray.empty, .bool false] ∧ h = h' ∧ t = t') := by
  refine Go.Vc.spec_of_vc (fn := Tryz.f30) Tryz.func30 rfl (by kernel_rfl) (by kernel_rfl) (Nat.le_of_ble_eq_true rfl) ?_
  intro hd
  conv => whnf
  repeat (first | (refine Go.Vc.br_t ?_ ?_; (focus omega); conv => whnf))
  exact ⟨rfl, rfl, rfl⟩
end Go.Proofs.YtlkpgjicpjjlcaaGreatDoor
