import Derived.Test.YtlkpgjicpjjlcaaGreatDoorTileStr
/- A number out of its digits. -/
set_option linter.unusedSimpArgs false
namespace Go.Tile
open Go Go.Vc
theorem digV_take {l : List UInt8} (j : Nat) : digV (l.take j) ≤ digV l := by
  suffices h : ∀ n, digV (l.take j) ≤ digV (l.take (j + n)) by
    have := h (l.length)
    rwa [List.take_of_length_le (by omega : l.length ≤ j + l.length)] at this
  intro n
  induction n with
  | zero => exact Nat.le_refl _
  | succ n ih =>
    by_cases hj : j + n < l.length
    · rw [show j + (n + 1) = (j + n) + 1 from rfl, List.take_succ_eq_append_getElem hj, digV_app]
      omega
    · rw [List.take_of_length_le (by omega : l.length ≤ j + (n + 1))]
      rwa [List.take_of_length_le (by omega : l.length ≤ j + n)] at ih
theorem numR_head : ∀ {f n : Nat}, 1 ≤ n → n < 10 ^ f → ∃ m l, numR f n = digit m :: l ∧ 1 ≤ m ∧ m ≤ 9
  | 0, n, h, h2 => by rw [Nat.pow_zero] at h2; omega
  | f + 1, n, h, h2 => by
    rw [numR]
    split
    · exact ⟨n, [], rfl, h, by omega⟩
    · obtain ⟨m, l, e, h3⟩ := numR_head (f := f) (n := n / 10) (by omega) (by rw [Nat.pow_succ] at h2; omega)
      exact ⟨m, l ++ [digit n], by rw [e]; rfl, h3⟩
theorem numS_lead {k : Nat} (hk : k ≤ 2 ^ 62) (h1 : 1 < (numS k).size) (h0 : byteAt (numS k) 0 = 48) : False := by
  rw [numS_size] at h1
  have hk1 : 1 ≤ k := by
    rcases Nat.eq_zero_or_pos k with rfl | h
    · exact absurd h1 (by decide)
    · exact h
  obtain ⟨m, l, e, h3, h4⟩ := numR_head (f := 20) (n := k) hk1 (Nat.lt_of_le_of_lt hk (by decide))
  have hg : byteAt (numS k) 0 = ((digit m).toNat : Int) := by
    unfold byteAt
    show (((numL k).toArray.getD 0 0).toNat : Int) = _
    rw [show numL k = digit m :: l from e]
    rfl
  rw [hg, digit_toNat] at h0
  omega
theorem num_step {k pos : Nat} (hk : k ≤ 2 ^ 62) (hp : pos < (numS k).size) : ∃ d, d ≤ 9 ∧ Utf8.decode (numS k) pos = (48 + d, 1) ∧ digV ((numL k).take (pos + 1)) = digV ((numL k).take pos) * 10 + d ∧ digV ((numL k).take (pos + 1)) ≤ k := by
  have hp' : pos < (numL k).length := by rw [numS_size] at hp; exact hp
  obtain ⟨m, hm⟩ := numR_mem (List.getElem_mem hp' : (numL k)[pos] ∈ numR 20 k)
  have hg : (numS k)[pos]'hp = digit m := by
    rw [← hm]
    rfl
  refine ⟨m % 10, by omega, ?_, ?_, ?_⟩
  · rw [decode_ascii (numS k) pos hp (by rw [hg, digit_toNat]; omega), hg, digit_toNat]
  · rw [List.take_succ_eq_append_getElem hp', digV_app, hm, digit_toNat, Nat.add_sub_cancel_left]
  · have h1 := digV_take (l := numL k) (pos + 1)
    have h2 : digV (numL k) = k := digV_numR (Nat.lt_of_le_of_lt hk (by decide))
    omega
end Go.Tile
namespace Go.Proofs.YtlkpgjicpjjlcaaGreatDoor
open Go Go.Vc Go.Tile
set_option maxRecDepth 20000
set_option linter.unusedVariables false
theorem takenumber_spec {h : Heap} {t : Nat} (s : ByteArray) (hsz : s.size ≤ 1048576) :
    CallSpec Tryz.prog 36 #[.string s] h t (fun v h' t' => ∃ (n : Int) (b : Bool), v = .tuple #[.int .i64 n, .bool b] ∧ 0 ≤ n ∧ n ≤ 2 ^ 62 ∧ (∀ k : Nat, k ≤ 2 ^ 62 → s = numS k → n = k ∧ b = true) ∧ Vc.Sub h h' ∧ t ≤ t') := by
  refine Go.Vc.spec_of_vcI (fn := Tryz.f36) Tryz.func36 rfl (by kernel_rfl) (by kernel_rfl) (Nat.le_of_ble_eq_true rfl) ?_
  intro hd
  conv => whnf
  refine br (fun h1 => ?_) (fun h1 => ?_)
  · conv => whnf
    exact ⟨_, _, rfl, by omega, by omega, fun k _ hk => by have := (numS_le k).1; rw [← hk, h1] at this; exact absurd this (by decide), Vc.Sub.refl _, Nat.le_refl _⟩
  · conv => whnf
    refine br (fun h2 => ?_) (fun h2 => ?_)
    · conv => whnf
      repeat (first | ((with_reducible refine And.intro (And.intro ?_ ?_) ?_); (focus omega); (focus omega); conv => whnf) | (intro _ _; conv => whnf))
      refine br (fun h3 => ?_) (fun h3 => ?_)
      · conv => whnf
        exact ⟨_, _, rfl, by omega, by omega, fun k hk he => by rw [he] at h2 h3; exact (numS_lead hk (by omega) h3).elim, Vc.Sub.refl _, Nat.le_refl _⟩
      · conv => whnf
        refine range_s Tryz.underlying9 (fun r hr => ?_)
        conv => whnf
        refine loop_introI2 (fun (pos n : Nat) => [(0, .string s), (4, .int .i64 (n : Nat)), (21, .pointer (some ⟨r, 0, none⟩))])
          (fun pos n h' t' => pos ≤ s.size ∧ n ≤ 2 ^ 62 ∧ (∀ k : Nat, k ≤ 2 ^ 62 → s = numS k → n = digV ((numL k).take pos)) ∧ h' r = some (.stringIter s pos) ∧ Vc.Sub h h' ∧ r < t') (fun pos n => s.size - pos) 0 0 ⟨rfl, rfl, rfl, trivial⟩
          ⟨by omega, by omega, fun k _ _ => rfl, hset_same _ _ _, hd.sub_new hr _, by omega⟩ ?_
        rintro pos n e1 g t1 hd1 ⟨hpos, hn, hnum, hr1, hs1, ht1⟩
        conv => whnf
        refine next_s hr1 (fun hp => ?_) (fun hp => ?_)
        · conv => whnf
          refine ⟨_, _, rfl, by omega, by omega, fun k hk he => ⟨?_, rfl⟩, hs1, by omega⟩
          rw [hnum k hk he, List.take_of_length_le (by rw [← numS_size, ← he]; omega), show digV (numL k) = k from digV_numR (Nat.lt_of_le_of_lt hk (by decide))]
        · obtain ⟨hdb1, hdb2, hdb3⟩ := decode_bounds s pos
          have hstep : ∀ k : Nat, k ≤ 2 ^ 62 → s = numS k → (48 ≤ (Utf8.decode s pos).1 ∧ (Utf8.decode s pos).1 ≤ 57 ∧ n * 10 + ((Utf8.decode s pos).1 - 48) ≤ 2 ^ 62) ∧ n * 10 + ((Utf8.decode s pos).1 - 48) = digV ((numL k).take (pos + (Utf8.decode s pos).2)) := by
            intro k hk he
            have hn' := hnum k hk he
            subst he
            obtain ⟨d, hd9, hdec, hd1, hd2⟩ := num_step hk hp
            rw [hdec]
            dsimp only
            rw [Nat.add_sub_cancel_left, hd1, hn']
            omega
          generalize hcw : Utf8.decode s pos = cw at hdb1 hdb2 hdb3 hstep ⊢
          obtain ⟨c, w⟩ := cw
          dsimp only at hdb1 hdb2 hdb3 hstep ⊢
          have hsub2 : Vc.Sub h (hset g r (.stringIter s (pos + w))) := fun b o hb => by
            have := hd b o hb
            rw [hset_ne _ _ (by omega)]
            exact hs1 _ _ hb
          conv => whnf
          repeat (first | ((with_reducible apply Go.Vc.wr_i64); (focus exact And.intro (by omega) (by omega)); conv => whnf) | ((with_reducible apply Go.Vc.wr_i32); (focus exact And.intro (by omega) (by omega)); conv => whnf))
          refine br (fun h7 => ?_) (fun h7 => ?_)
          · conv => whnf
            exact ⟨_, _, rfl, by omega, by omega, fun k hk he => by have := (hstep k hk he).1; omega, hsub2, by omega⟩
          · conv => whnf
            refine br (fun h8 => ?_) (fun h8 => ?_)
            · conv => whnf
              exact ⟨_, _, rfl, by omega, by omega, fun k hk he => by have := (hstep k hk he).1; omega, hsub2, by omega⟩
            · conv => whnf
              repeat (first | ((with_reducible apply Go.Vc.wr_i64); (focus exact And.intro (by omega) (by omega)); conv => whnf) | ((with_reducible apply Go.Vc.quo_i64); (focus exact And.intro (by omega) (And.intro (by omega) (by omega))); conv => whnf) | ((with_reducible refine And.intro ?_ (And.intro ?_ ?_)); (focus exact rfl); (focus omega); conv => whnf))
              refine br (fun h9 => ?_) (fun h9 => ?_)
              · conv => whnf
                exact ⟨_, _, rfl, by omega, by omega, fun k hk he => by have := (hstep k hk he).1; omega, hsub2, by omega⟩
              · conv => whnf
                repeat (first | ((with_reducible apply Go.Vc.wr_i64); (focus exact And.intro (by omega) (by omega)); conv => whnf))
                refine ⟨rfl, round_end2 (pos + w) (n * 10 + (c - 48)) (by omega) ⟨rfl, ?_, rfl, trivial⟩ ⟨by omega, by omega, fun k hk he => (hstep k hk he).2, hset_same _ _ _, hsub2, by omega⟩⟩
                show Value.int .i64 _ = Value.int .i64 _
                congr 1
                omega
    · conv => whnf
      refine range_s Tryz.underlying9 (fun r hr => ?_)
      conv => whnf
      refine loop_introI2 (fun (pos n : Nat) => [(0, .string s), (4, .int .i64 (n : Nat)), (21, .pointer (some ⟨r, 0, none⟩))])
        (fun pos n h' t' => pos ≤ s.size ∧ n ≤ 2 ^ 62 ∧ (∀ k : Nat, k ≤ 2 ^ 62 → s = numS k → n = digV ((numL k).take pos)) ∧ h' r = some (.stringIter s pos) ∧ Vc.Sub h h' ∧ r < t') (fun pos n => s.size - pos) 0 0 ⟨rfl, rfl, rfl, trivial⟩
        ⟨by omega, by omega, fun k _ _ => rfl, hset_same _ _ _, hd.sub_new hr _, by omega⟩ ?_
      rintro pos n e1 g t1 hd1 ⟨hpos, hn, hnum, hr1, hs1, ht1⟩
      conv => whnf
      refine next_s hr1 (fun hp => ?_) (fun hp => ?_)
      · conv => whnf
        refine ⟨_, _, rfl, by omega, by omega, fun k hk he => ⟨?_, rfl⟩, hs1, by omega⟩
        rw [hnum k hk he, List.take_of_length_le (by rw [← numS_size, ← he]; omega), show digV (numL k) = k from digV_numR (Nat.lt_of_le_of_lt hk (by decide))]
      · obtain ⟨hdb1, hdb2, hdb3⟩ := decode_bounds s pos
        have hstep : ∀ k : Nat, k ≤ 2 ^ 62 → s = numS k → (48 ≤ (Utf8.decode s pos).1 ∧ (Utf8.decode s pos).1 ≤ 57 ∧ n * 10 + ((Utf8.decode s pos).1 - 48) ≤ 2 ^ 62) ∧ n * 10 + ((Utf8.decode s pos).1 - 48) = digV ((numL k).take (pos + (Utf8.decode s pos).2)) := by
          intro k hk he
          have hn' := hnum k hk he
          subst he
          obtain ⟨d, hd9, hdec, hd1, hd2⟩ := num_step hk hp
          rw [hdec]
          dsimp only
          rw [Nat.add_sub_cancel_left, hd1, hn']
          omega
        generalize hcw : Utf8.decode s pos = cw at hdb1 hdb2 hdb3 hstep ⊢
        obtain ⟨c, w⟩ := cw
        dsimp only at hdb1 hdb2 hdb3 hstep ⊢
        have hsub2 : Vc.Sub h (hset g r (.stringIter s (pos + w))) := fun b o hb => by
          have := hd b o hb
          rw [hset_ne _ _ (by omega)]
          exact hs1 _ _ hb
        conv => whnf
        repeat (first | ((with_reducible apply Go.Vc.wr_i64); (focus exact And.intro (by omega) (by omega)); conv => whnf) | ((with_reducible apply Go.Vc.wr_i32); (focus exact And.intro (by omega) (by omega)); conv => whnf))
        refine br (fun h7 => ?_) (fun h7 => ?_)
        · conv => whnf
          exact ⟨_, _, rfl, by omega, by omega, fun k hk he => by have := (hstep k hk he).1; omega, hsub2, by omega⟩
        · conv => whnf
          refine br (fun h8 => ?_) (fun h8 => ?_)
          · conv => whnf
            exact ⟨_, _, rfl, by omega, by omega, fun k hk he => by have := (hstep k hk he).1; omega, hsub2, by omega⟩
          · conv => whnf
            repeat (first | ((with_reducible apply Go.Vc.wr_i64); (focus exact And.intro (by omega) (by omega)); conv => whnf) | ((with_reducible apply Go.Vc.quo_i64); (focus exact And.intro (by omega) (And.intro (by omega) (by omega))); conv => whnf) | ((with_reducible refine And.intro ?_ (And.intro ?_ ?_)); (focus exact rfl); (focus omega); conv => whnf))
            refine br (fun h9 => ?_) (fun h9 => ?_)
            · conv => whnf
              exact ⟨_, _, rfl, by omega, by omega, fun k hk he => by have := (hstep k hk he).1; omega, hsub2, by omega⟩
            · conv => whnf
              repeat (first | ((with_reducible apply Go.Vc.wr_i64); (focus exact And.intro (by omega) (by omega)); conv => whnf))
              refine ⟨rfl, round_end2 (pos + w) (n * 10 + (c - 48)) (by omega) ⟨rfl, ?_, rfl, trivial⟩ ⟨by omega, by omega, fun k hk he => (hstep k hk he).2, hset_same _ _ _, hsub2, by omega⟩⟩
              show Value.int .i64 _ = Value.int .i64 _
              congr 1
              omega
end Go.Proofs.YtlkpgjicpjjlcaaGreatDoor
