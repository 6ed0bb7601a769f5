import Derived.Test.YtlkpgjicpjjlcaaGreatDoorTileRPure
/- The document's numbers. -/
set_option linter.unusedSimpArgs false
namespace Go.Proofs.YtlkpgjicpjjlcaaGreatDoor
open Go Go.Vc Go.Tile
set_option maxRecDepth 20000
set_option linter.unusedVariables false
theorem dig_nat (n : Nat) : UInt8.ofNat (((digit n).toNat : Nat) : Int).toNat = digit n := by simp
theorem dig_int (n : Nat) : ((48 : Int) + (n : Int) % 10) = (((digit n).toNat : Nat) : Int) := by rw [digit_toNat]; omega
theorem rnumber_spec {h : Heap} {t : Nat} (N : Nat) (hN : N ≤ 9223372036854775807) :
    CallSpec Tryz.prog 33 #[.int .i64 (N : Nat)] h t (fun v h' t' => v = .tuple #[.string (numS N), .bool true] ∧ Vc.Sub h h' ∧ t ≤ t') := by
  refine Go.Vc.spec_of_vc (fn := Tryz.f33) Tryz.func33 rfl (by kernel_rfl) (by kernel_rfl) (Nat.le_of_ble_eq_true rfl) ?_
  intro hd
  conv => whnf
  repeat (first | (intro _ _; conv => whnf) | ((with_reducible apply Go.Vc.wr_i64); (focus exact And.intro (by omega) (by omega)); conv => whnf) | ((with_reducible apply Go.Vc.wr_u8); (focus exact And.intro (by omega) (by omega)); conv => whnf) | ((with_reducible apply Go.Vc.rem_i); (focus omega); conv => whnf) | (refine Go.Vc.br_f ?_ ?_; (focus omega); conv => whnf) | ((with_reducible refine And.intro ?_ (And.intro ?_ ?_)); (focus exact rfl); (focus omega); conv => whnf))
  rename_i r1 hr1
  rw [dig_int]
  have hdl : (digit N).toNat < 256 := UInt8.toNat_lt _
  refine Go.Vc.readB1 (by (repeat (first | with_reducible assumption | with_reducible exact Go.Vc.hset_same _ _ _ | with_reducible refine (Go.Vc.hset_ne _ _ (by omega)).trans ?_)); done) (by omega) ?_
  rintro _ rfl
  rw [dig_nat]
  conv => whnf
  refine loop_intro2 (fun (n : Nat) (rest : List UInt8) => [(0, .int .i64 (n : Nat)), (4, .string ⟨(digit n :: rest).toArray⟩)])
    (fun n rest h' t' => n ≤ N ∧ rest.length ≤ 20 ∧ (∃ f, 1 ≤ f ∧ f + rest.length = 20 ∧ n < 10 ^ f ∧ numL N = numR f n ++ rest) ∧ Vc.Sub h h' ∧ t ≤ t') (fun n _ => n) N [] ⟨rfl, rfl, trivial⟩
    ⟨Nat.le_refl _, by simp, ⟨20, by omega, rfl, by omega, by rw [List.append_nil]; rfl⟩, hd.sub_new hr1 _, by omega⟩ ?_
  rintro n rest e3 g t3 hd3 ⟨hn, hrl, ⟨f, hf1, hf, hnf, hnum⟩, hs3, ht3⟩
  conv => whnf
  refine br (fun h1 => ?_) (fun h1 => ?_)
  · conv => whnf
    repeat (first | (intro _ _; conv => whnf) | ((with_reducible apply Go.Vc.wr_i64); (focus exact And.intro (by omega) (by omega)); conv => whnf) | ((with_reducible apply Go.Vc.wr_u8); (focus exact And.intro (by omega) (by omega)); conv => whnf) | ((with_reducible apply Go.Vc.quo_i64); (focus exact And.intro (by omega) (And.intro (by omega) (by omega))); conv => whnf) | ((with_reducible apply Go.Vc.rem_i); (focus omega); conv => whnf) | ((with_reducible refine And.intro ?_ (And.intro ?_ ?_)); (focus exact rfl); (focus omega); conv => whnf))
    rename_i r2 hr2
    rw [show ((n : Int) / 10) = ((n / 10 : Nat) : Int) by omega, dig_int]
    have hdl2 : (digit (n / 10)).toNat < 256 := UInt8.toNat_lt _
    refine Go.Vc.readB1 (by (repeat (first | with_reducible assumption | with_reducible exact Go.Vc.hset_same _ _ _ | with_reducible refine (Go.Vc.hset_ne _ _ (by omega)).trans ?_)); done) (by omega) ?_
    rintro _ rfl
    rw [dig_nat]
    have k1 : ({ data := [digit (n / 10)].toArray } : ByteArray).size = 1 := rfl
    have k2 : ({ data := (digit n :: rest).toArray } : ByteArray).size = rest.length + 1 := rfl
    conv => whnf
    repeat (first | ((with_reducible apply Go.Vc.and_leN); (focus (first | omega | (simp only [ByteArray.size, List.size_toArray, List.length_cons, List.length_nil] at *; omega))); conv => whnf))
    cases f with
    | zero => omega
    | succ f =>
      rw [numR, if_neg (by omega), List.append_assoc] at hnum
      exact round_end2 (n / 10) (digit n :: rest) (by omega) ⟨rfl, rfl, trivial⟩ ⟨by omega, by simp; omega, ⟨f, by rcases Nat.eq_zero_or_pos f with rfl | h; (rw [Nat.pow_one] at hnf; omega); exact h, by simp; omega, by rw [Nat.pow_succ] at hnf; omega, hnum⟩, hs3.trans (hd3.sub_new hr2 _), by omega⟩
  · conv => whnf
    refine ⟨?_, hs3, ht3⟩
    cases f with
    | zero => omega
    | succ f =>
      rw [numR, if_pos (by omega)] at hnum
      unfold numS
      rw [hnum]
      rfl
theorem rtake_spec {h : Heap} {t : Nat} (s : ByteArray) (hsz : s.size ≤ 1099511627776) :
    CallSpec Tryz.prog 41 #[.string s] h t (fun v h' t' => ∃ (n : Int) (b : Bool), v = .tuple #[.int .i64 n, .bool b] ∧ 0 ≤ n ∧ n ≤ 2 ^ 62 ∧ (∀ k : Nat, k ≤ 2 ^ 62 → s = numS k → n = k ∧ b = true) ∧ Vc.Sub h h' ∧ t ≤ t') := by
  refine Go.Vc.spec_of_vc (fn := Tryz.f41) Tryz.func41 rfl (by kernel_rfl) (by kernel_rfl) (Nat.le_of_ble_eq_true rfl) ?_
  intro hd
  have hsl : s.data.toList.length = s.size := rfl
  conv => whnf
  refine loop_intro2 (fun (i n : Nat) => [(0, .string s), (4, .int .i64 (n : Nat)), (5, .int .i64 (i : Nat))])
    (fun i n h' t' => i ≤ s.size ∧ n ≤ 4611686018427387909 ∧ (∀ k : Nat, k ≤ 2 ^ 62 → s = numS k → n = digV ((numL k).take i)) ∧ Vc.Sub h h' ∧ t ≤ t') (fun i n => s.size - i) 0 0 ⟨rfl, rfl, rfl, trivial⟩
    ⟨by omega, by omega, fun k _ _ => rfl, Vc.Sub.refl _, Nat.le_refl _⟩ ?_
  rintro i n e1 g t1 hd1 ⟨hi, hn, hnum, hs1, ht1⟩
  conv => whnf
  refine br (fun h1 => ?_) (fun h1 => ?_)
  · have hip : i < s.data.toList.length := by omega
    obtain ⟨c, hc⟩ : ∃ c, c = (s.data.toList[i]).toNat := ⟨_, rfl⟩
    have hby : byteAt s ((i : Int)).toNat = (c : Int) := by rw [hc]; exact byteAt_get hip
    have hxl : c < 256 := by rw [hc]; exact UInt8.toNat_lt _
    have hstep : ∀ k : Nat, k ≤ 2 ^ 62 → s = numS k → (48 ≤ c ∧ c ≤ 57 ∧ n * 10 + (c - 48) ≤ 2 ^ 62) ∧ n * 10 + (c - 48) = digV ((numL k).take (i + 1)) := by
      intro k hk he
      have hn' := hnum k hk he
      subst he
      have hip' : i < (numL k).length := hip
      obtain ⟨m, hm⟩ := numR_mem (List.getElem_mem hip' : (numL k)[i] ∈ numR 20 k)
      have hg : ((numS k).data.toList[i]).toNat = 48 + m % 10 := by
        have : (numS k).data.toList[i] = digit m := hm
        rw [this, digit_toNat]
      have hc2 : c = 48 + m % 10 := hc.trans hg
      have e1 : digV ((numL k).take (i + 1)) = digV ((numL k).take i) * 10 + m % 10 := by
        rw [List.take_succ_eq_append_getElem hip', digV_app, hm, digit_toNat, Nat.add_sub_cancel_left]
      have e2 := digV_take (l := numL k) (i + 1)
      have e3 : digV (numL k) = k := digV_numR (Nat.lt_of_le_of_lt hk (by decide))
      omega
    clear hc
    conv => whnf
    repeat (first | ((with_reducible refine And.intro (And.intro ?_ ?_) ?_); (focus omega); (focus omega); conv => whnf) | (intro _ _; conv => whnf))
    rw [hby]
    refine br (fun h2 => ?_) (fun h2 => ?_)
    · conv => whnf
      exact ⟨_, _, rfl, by omega, by omega, fun k hk he => by have := (hstep k hk he).1; omega, hs1, by omega⟩
    · conv => whnf
      repeat (first | ((with_reducible refine And.intro (And.intro ?_ ?_) ?_); (focus omega); (focus omega); conv => whnf) | (intro _ _; conv => whnf))
      rw [hby]
      refine br (fun h3 => ?_) (fun h3 => ?_)
      · conv => whnf
        exact ⟨_, _, rfl, by omega, by omega, fun k hk he => by have := (hstep k hk he).1; omega, hs1, by omega⟩
      · conv => whnf
        refine br (fun h4 => ?_) (fun h4 => ?_)
        · conv => whnf
          exact ⟨_, _, rfl, by omega, by omega, fun k hk he => by have := (hstep k hk he).1; omega, hs1, by omega⟩
        · conv => whnf
          repeat (first | ((with_reducible refine And.intro (And.intro ?_ ?_) ?_); (focus omega); (focus omega); conv => whnf) | (intro _ _; conv => whnf) | ((with_reducible apply Go.Vc.wr_i64); (focus exact And.intro (by omega) (by omega)); conv => whnf) | ((with_reducible apply Go.Vc.wr_u8); (focus exact And.intro (by omega) (by omega)); conv => whnf))
          rw [hby]
          conv => whnf
          refine round_end2 (i + 1) (n * 10 + (c - 48)) (by omega) ⟨rfl, ?_, rfl, trivial⟩ ⟨by omega, by omega, fun k hk he => (hstep k hk he).2, hs1, by omega⟩
          show Value.int .i64 _ = Value.int .i64 _
          congr 1
          omega
  · obtain rfl : i = s.size := by omega
    have hfin : ∀ k : Nat, k ≤ 2 ^ 62 → s = numS k → n = k := by
      intro k hk he
      rw [hnum k hk he, List.take_of_length_le (by rw [← numS_size, ← he]; omega)]
      exact digV_numR (Nat.lt_of_le_of_lt hk (by decide))
    conv => whnf
    refine (rnumber_spec n (by omega)).mono ?_
    rintro _ g2 t2 hd2 ht2 ⟨rfl, hs2, _⟩
    conv => whnf
    refine br (fun h2 => ?_) (fun h2 => ?_)
    · conv => whnf
      exact ⟨_, _, rfl, by omega, by omega, fun k hk he => absurd (by rw [hfin k hk he, he]) h2, hs1.trans hs2, by omega⟩
    · conv => whnf
      refine br (fun h3 => ?_) (fun h3 => ?_)
      · conv => whnf
        exact ⟨_, _, rfl, by omega, by omega, fun k hk he => by have := hfin k hk he; omega, hs1.trans hs2, by omega⟩
      · conv => whnf
        exact ⟨_, _, rfl, by omega, by omega, fun k hk he => ⟨by have := hfin k hk he; omega, rfl⟩, hs1.trans hs2, by omega⟩
end Go.Proofs.YtlkpgjicpjjlcaaGreatDoor
