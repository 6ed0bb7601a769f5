import Derived.Test.YtikpfffhcjlcjaaInf5
import Derived.Test.YtikpfffhcjlcjaaDefPack
set_option linter.unusedSimpArgs false
namespace Go.Proofs.Ytikpfffhcjlcjaa
open Go Go.Vc Go.Huf Go.Dfl
set_option maxRecDepth 20000
set_option linter.unusedVariables false
set_option maxHeartbeats 1000000
def Kind (s : ByteArray) (k : Nat) (bs : List Bool) : Prop :=
  (k = 0 ∧ bs = bitsL 0 5 ++ (bitsL (s.size : Nat) 16 ++ (bitsL (65535 - (s.size : Nat)) 16 ++ sBits s))) ∨ (k = 1 ∧ bs = rest fixedL fixedB s 0) ∨ (k = 2 ∧ bs = dynF (partsF s 0 (toks s 0 s.size)))
theorem kind_of (s : ByteArray) (h : s.size ≤ 32768) : ∃ k bs, k ≤ 2 ∧ Kind s k bs ∧ packBits s = bitsL 1 1 ++ (bitsL (k : Nat) 2 ++ bs) := by
  have he : s.extract 0 s.size = s := ByteArray.extract_zero_size
  unfold packBits
  rw [if_neg (by omega)]
  unfold pieceF
  rw [he]
  unfold blockF
  split
  · refine ⟨0, _, by omega, .inl ⟨rfl, rfl⟩, ?_⟩
    have h1 : skipOf 0 = 5 := by decide
    rw [h1]
    have h2 : bitsL 0 (2 + 5) = bitsL 0 2 ++ bitsL 0 5 := by decide
    rw [h2]
    simp only [List.append_assoc]
    rfl
  · split
    · exact ⟨1, _, by omega, .inr (.inl ⟨rfl, rfl⟩), rfl⟩
    · exact ⟨2, _, by omega, .inr (.inr ⟨rfl, rfl⟩), rfl⟩
theorem open_spec {h : Heap} {t : Nat} {x s : ByteArray} {most : Nat} {more : List Int} (hs : s.size ≤ 32768) (hm : most ≤ 1048576) (hx : tx x = packB (packBits s) ++ more) (hxs : x.size ≤ 10000000) :
    CallSpec Try.prog 22 #[.string x, .int .i64 (most : Nat)] h t (fun v h' t' => v = (if s.size ≤ most then .tuple #[.string s, .int .i64 ((packL s).length : Nat), .int .i64 0] else .tuple #[.string ByteArray.empty, .int .i64 0, .int .i64 9]) ∧ Vc.Sub h h' ∧ t ≤ t') := by
  obtain ⟨k, bs, hk2, hK, hpb⟩ := kind_of s hs
  have hstr : Str x 0 (packBits s) := str_pack hx
  rw [hpb] at hstr
  have hst1 := hstr.left
  have hst2 := hstr.right
  rw [bitsL_len] at hst2
  have hst3 := hst2.left
  have hst4 := hst2.right
  rw [bitsL_len] at hst4
  refine Go.Vc.spec_of_vcI (fn := Try.f22) Try.func22 rfl (by kernel_rfl) (by kernel_rfl) (Nat.le_of_ble_eq_true rfl) ?_
  intro hd
  conv => whnf
  repeat (first | (intro _ _; conv => whnf) | (refine Go.Vc.br_f ?_ ?_; (focus omega); conv => whnf))
  rename_i r hr
  have hs1 := hd.sub_new hr (.cells #[.string x, .int .i64 0, .slice none 0 0, .int .i64 (most : Nat), .int .i64 0] 77)
  have hd0 := hd.set r (.cells #[.string x, .int .i64 0, .slice none 0 0, .int .i64 (most : Nat), .int .i64 0] 77) (r + 1) (by omega) (by omega)
  have R0 : Rd (hset h r (.cells #[.string x, .int .i64 0, .slice none 0 0, .int .i64 (most : Nat), .int .i64 0] 77)) r none x 0 [] most 0 := ⟨none, 0, hset_same _ _ _, Own.nil _ _ _, rfl⟩
  refine loop_introI (fun _ : Nat => [(7, .pointer (some ⟨r, 0, none⟩))])
    (fun _ h' t' => hset h r (.cells #[.string x, .int .i64 0, .slice none 0 0, .int .i64 (most : Nat), .int .i64 0] 77) = h' ∧ r + 1 = t') (fun _ => 0) 0 ⟨rfl, trivial⟩ ⟨rfl, rfl⟩ ?_
  rintro _ e1 _ _ _ ⟨rfl, rfl⟩
  conv => whnf
  refine (number_ok R0 (by omega) (n := 1) (m := 1) (by omega) (by omega) hst1).mono ?_
  rintro _ h1 t1 hd1 ht1 ⟨rfl, d1, R1, f1, dd1, l1⟩
  conv => whnf
  repeat (first | (intro _ _; conv => whnf))
  rename_i rk hrk
  have s2 := hd1.sub_new hrk (.cells #[.func (.func 36) #[.pointer (some ⟨r, 0, none⟩)] #[], .func (.func 37) #[.pointer (some ⟨r, 0, none⟩)] #[], .func (.func 38) #[.pointer (some ⟨r, 0, none⟩)] #[]] 1)
  refine (number_ok (R1.sub s2) (by omega) (n := (k : Nat)) (m := 2) (by omega) (by omega) hst3).mono ?_
  rintro _ h3 t3 hd3 ht3 ⟨rfl, d3, R3, f3, dd3, l3⟩
  have hd1r := R1.dlt hd1
  have hk3 := f3 rk _ (by omega) (fun e => by have := hd1r _ e; omega) (hset_same _ _ _)
  obtain ⟨a3, c3, hw3, o3, e3⟩ := id R3
  have f03 : ∀ z o, z ≠ r → hset h r (.cells #[.string x, .int .i64 0, .slice none 0 0, .int .i64 (most : Nat), .int .i64 0] 77) z = some o → h3 z = some o := fun z o h4 h5 => f3 z o h4 (fun e => by
    rcases dd1 with h6 | ⟨q, h6, hq⟩
    · rw [h6] at e; cases e
    · rw [h6] at e; cases e
      have := hd0 _ _ h5
      omega) (s2 _ _ (f1 z o h4 (fun e => by cases e) h5))
  have hd3f : ∀ q, d3 = some q → r + 1 ≤ q := fun q hq => by
    rcases dd3 with h6 | ⟨q', h6, hq'⟩
    · rcases dd1 with h7 | ⟨q', h7, hq'⟩
      · rw [h6, h7] at hq; cases hq
      · rw [h6, h7] at hq; cases hq; omega
    · rw [h6] at hq; cases hq; omega
  have hP : (packBits s).length = 1 + 2 + bs.length := by
    rw [hpb, List.length_append, List.length_append, bitsL_len, bitsL_len]
    omega
  have hpn : (packL s).length = ((packBits s).length + 7) / 8 := by unfold packL; rw [List.length_map, packB_len]
  have hPx : (packBits s).length ≤ 100000000 := by
    have h5 : (tx x).length = x.size := tx_len x
    rw [hx, List.length_append, packB_len] at h5
    omega
  rcases hK with ⟨rfl, rfl⟩ | ⟨rfl, rfl⟩ | ⟨rfl, rfl⟩
  · conv => whnf
    repeat (first | ((with_reducible apply Go.Vc.own_ix); (focus exact And.intro (by omega) (by omega)); conv => whnf) | ((with_reducible apply Go.Vc.ld_i); (focus ((repeat (first | with_reducible assumption | with_reducible exact Go.Vc.hset_same _ _ _ | with_reducible refine (Go.Vc.hset_ne _ _ (by omega)).trans ?_)); done)); (focus exact rfl); conv => whnf) | (refine Go.Vc.br_f ?_ ?_; (focus omega); conv => whnf))
    have hst5 := hst4.right
    rw [bitsL_len] at hst5
    have hpos : 8 + 32 + 8 * s.size = (packBits s).length := by
      rw [hP]
      simp only [List.length_append, bitsL_len, sBits_len]
      omega
    refine (stored_spec R3 (by omega) (s := s) (by omega) (q := 8) (by omega) rfl (by omega) hst5).mono ?_
    rintro _ h4 t4 hd4 ht4 ⟨rfl, hE⟩
    rw [hpos] at hE
    rcases hE with ⟨hf, d4, R4, f4, dd4, l4⟩ | ⟨hf, p2, o2, d4, R4, f4, dd4, l4⟩
    · obtain ⟨a4, c4, hw4, o4, e4⟩ := id R4
      have hsub : Vc.Sub h h4 := fun z o hz => by
        have := hd _ _ hz
        exact f4 z o (by omega) (fun e => by have := hd3f _ e; omega) (f03 z o (by omega) ((hset_ne _ _ (by omega)).trans hz))
      rw [if_pos hf]
      have hse : (⟨s.data.toList.toArray⟩ : ByteArray) = s := by rw [Array.toArray_toList]
      rcases hp4 : a4 with _ | ⟨⟨bb, off, _ | sp⟩⟩
      · subst hp4
        have hz0 : s.size = 0 := by
          have h5 := o4.sl
          rcases Nat.eq_zero_or_pos s.size with h6 | h6
          · exact h6
          · obtain ⟨b, off, _, _, _, e, _⟩ := h5.2 (by rw [tx_len]; exact h6)
            cases e
        have hs0 : s = ByteArray.empty := by
          apply ByteArray.ext
          exact Array.eq_empty_of_size_eq_zero hz0
        conv => whnf
        repeat (first | ((with_reducible apply Go.Vc.ld_i); (focus ((repeat (first | with_reducible assumption | with_reducible exact Go.Vc.hset_same _ _ _ | with_reducible refine (Go.Vc.hset_ne _ _ (by omega)).trans ?_)); done)); (focus exact rfl); conv => whnf) | (refine Go.Vc.br_t ?_ ?_; (focus omega); conv => whnf) | (refine Go.Vc.br_f ?_ ?_; (focus omega); conv => whnf))
        refine Go.Vc.draw_intro [⟨0, false, false, false, 0⟩, ⟨1, false, false, false, 1⟩, ⟨2, false, false, false, 3⟩, ⟨3, false, false, false, 7⟩, ⟨4, false, false, false, 15⟩, ⟨5, false, false, false, 0⟩, ⟨6, false, false, false, 32⟩, ⟨7, false, false, false, 96⟩, ⟨8, false, false, false, 224⟩, ⟨9, false, false, false, 480⟩, ⟨10, false, false, false, 992⟩, ⟨11, false, false, false, 31⟩, ⟨12, false, false, false, 4095⟩, ⟨13, false, false, false, 8191⟩] (hs := (fun _ => none)) (hsub := (fun _ _ h => nomatch h)) (hm := by kernel_rfl) (hpl := by kernel_rfl) ?_
        conv => whnf
        conv => whnf
        repeat (first | ((with_reducible apply Go.Vc.ld_i); (focus ((repeat (first | with_reducible assumption | with_reducible exact Go.Vc.hset_same _ _ _ | with_reducible refine (Go.Vc.hset_ne _ _ (by omega)).trans ?_)); done)); (focus exact rfl); conv => whnf) | ((with_reducible apply Go.Vc.wr_i64); (focus exact And.intro (by omega) (by omega)); conv => whnf) | ((with_reducible apply Go.Vc.quo_i64); (focus exact And.intro (by omega) (And.intro (by omega) (by omega))); conv => whnf) | ((with_reducible refine And.intro ?_ (And.intro ?_ ?_)); (focus exact rfl); (focus omega); conv => whnf))
        have e5 : (((packBits s).length : Int) + 7) / 8 = ((packL s).length : Nat) := by rw [hpn]; omega
        rw [e5, ← hs0]
        exact ⟨rfl, hsub, by omega⟩
      · subst hp4
        have rb := readB_sl (l := s.data.toList) o4.sl
        conv => whnf
        repeat (first | ((with_reducible apply Go.Vc.ld_i); (focus ((repeat (first | with_reducible assumption | with_reducible exact Go.Vc.hset_same _ _ _ | with_reducible refine (Go.Vc.hset_ne _ _ (by omega)).trans ?_)); done)); (focus exact rfl); conv => whnf) | (refine Go.Vc.br_t ?_ ?_; (focus omega); conv => whnf) | (refine Go.Vc.br_f ?_ ?_; (focus omega); conv => whnf))
        refine Go.Vc.draw_intro [⟨0, false, false, false, 0⟩, ⟨1, false, false, false, 1⟩, ⟨2, false, false, false, 3⟩, ⟨3, false, false, false, 7⟩, ⟨4, false, false, false, 15⟩, ⟨5, false, false, false, 0⟩, ⟨6, false, false, false, 32⟩, ⟨7, false, false, false, 96⟩, ⟨8, false, false, false, 224⟩, ⟨9, false, false, false, 480⟩, ⟨10, false, false, false, 992⟩, ⟨11, false, false, false, 31⟩, ⟨12, false, false, false, 4095⟩, ⟨13, false, false, false, 8191⟩] (hs := (fun _ => none)) (hsub := (fun _ _ h => nomatch h)) (hm := by kernel_rfl) (hpl := by kernel_rfl) ?_
        conv => whnf
        conv => whnf
        repeat (first | ((with_reducible apply Go.Vc.ld_i); (focus ((repeat (first | with_reducible assumption | with_reducible exact Go.Vc.hset_same _ _ _ | with_reducible refine (Go.Vc.hset_ne _ _ (by omega)).trans ?_)); done)); (focus exact rfl); conv => whnf))
        refine ⟨_, rb, ?_⟩
        conv => whnf
        repeat (first | ((with_reducible apply Go.Vc.ld_i); (focus ((repeat (first | with_reducible assumption | with_reducible exact Go.Vc.hset_same _ _ _ | with_reducible refine (Go.Vc.hset_ne _ _ (by omega)).trans ?_)); done)); (focus exact rfl); conv => whnf) | ((with_reducible apply Go.Vc.wr_i64); (focus exact And.intro (by omega) (by omega)); conv => whnf) | ((with_reducible apply Go.Vc.quo_i64); (focus exact And.intro (by omega) (And.intro (by omega) (by omega))); conv => whnf) | ((with_reducible refine And.intro ?_ (And.intro ?_ ?_)); (focus exact rfl); (focus omega); conv => whnf))
        have e5 : (((packBits s).length : Int) + 7) / 8 = ((packL s).length : Nat) := by rw [hpn]; omega
        rw [e5, hse]
        exact ⟨rfl, hsub, by omega⟩
      · exfalso
        subst hp4
        rcases o4.2 with ⟨h5, _⟩ | ⟨_, _, _, _, h5, _⟩ <;> cases h5
    · obtain ⟨a4, c4, hw4, o4, e4⟩ := id R4
      have hsub : Vc.Sub h h4 := fun z o hz => by
        have := hd _ _ hz
        exact f4 z o (by omega) (fun e => by have := hd3f _ e; omega) (f03 z o (by omega) ((hset_ne _ _ (by omega)).trans hz))
      rw [if_neg hf]
      conv => whnf
      repeat (first | ((with_reducible apply Go.Vc.ld_i); (focus ((repeat (first | with_reducible assumption | with_reducible exact Go.Vc.hset_same _ _ _ | with_reducible refine (Go.Vc.hset_ne _ _ (by omega)).trans ?_)); done)); (focus exact rfl); conv => whnf) | (refine Go.Vc.br_t ?_ ?_; (focus omega); conv => whnf))
      refine Go.Vc.draw_intro [⟨0, false, false, false, 0⟩, ⟨1, false, false, false, 1⟩, ⟨2, false, false, false, 3⟩, ⟨3, false, false, false, 7⟩, ⟨4, false, false, false, 0⟩, ⟨5, false, false, false, 16⟩, ⟨6, false, false, false, 63⟩] (hs := (fun _ => none)) (hsub := (fun _ _ h => nomatch h)) (hm := by kernel_rfl) (hpl := by kernel_rfl) ?_
      conv => whnf
      conv => whnf
      repeat (first | ((with_reducible apply Go.Vc.ld_i); (focus ((repeat (first | with_reducible assumption | with_reducible exact Go.Vc.hset_same _ _ _ | with_reducible refine (Go.Vc.hset_ne _ _ (by omega)).trans ?_)); done)); (focus exact rfl); conv => whnf) | ((with_reducible refine And.intro ?_ (And.intro ?_ ?_)); (focus exact rfl); (focus omega); conv => whnf))
      exact show t ≤ t4 by omega
  · conv => whnf
    repeat (first | ((with_reducible apply Go.Vc.own_ix); (focus exact And.intro (by omega) (by omega)); conv => whnf) | ((with_reducible apply Go.Vc.ld_i); (focus ((repeat (first | with_reducible assumption | with_reducible exact Go.Vc.hset_same _ _ _ | with_reducible refine (Go.Vc.hset_ne _ _ (by omega)).trans ?_)); done)); (focus exact rfl); conv => whnf) | (refine Go.Vc.br_f ?_ ?_; (focus omega); conv => whnf))
    have hpos : 0 + 1 + 2 + (rest fixedL fixedB s 0).length = (packBits s).length := by rw [hP]
    refine (ffixed_spec R3 (by omega) (s := s) (by omega) (by omega) hst4).mono ?_
    rintro _ h4 t4 hd4 ht4 ⟨rfl, hE⟩
    rw [hpos] at hE
    rcases hE with ⟨hf, d4, R4, f4, dd4, l4⟩ | ⟨hf, p2, o2, d4, R4, f4, dd4, l4⟩
    · obtain ⟨a4, c4, hw4, o4, e4⟩ := id R4
      have hsub : Vc.Sub h h4 := fun z o hz => by
        have := hd _ _ hz
        exact f4 z o (by omega) (fun e => by have := hd3f _ e; omega) (f03 z o (by omega) ((hset_ne _ _ (by omega)).trans hz))
      rw [if_pos hf]
      have hse : (⟨s.data.toList.toArray⟩ : ByteArray) = s := by rw [Array.toArray_toList]
      rcases hp4 : a4 with _ | ⟨⟨bb, off, _ | sp⟩⟩
      · subst hp4
        have hz0 : s.size = 0 := by
          have h5 := o4.sl
          rcases Nat.eq_zero_or_pos s.size with h6 | h6
          · exact h6
          · obtain ⟨b, off, _, _, _, e, _⟩ := h5.2 (by rw [tx_len]; exact h6)
            cases e
        have hs0 : s = ByteArray.empty := by
          apply ByteArray.ext
          exact Array.eq_empty_of_size_eq_zero hz0
        conv => whnf
        repeat (first | ((with_reducible apply Go.Vc.ld_i); (focus ((repeat (first | with_reducible assumption | with_reducible exact Go.Vc.hset_same _ _ _ | with_reducible refine (Go.Vc.hset_ne _ _ (by omega)).trans ?_)); done)); (focus exact rfl); conv => whnf) | (refine Go.Vc.br_t ?_ ?_; (focus omega); conv => whnf) | (refine Go.Vc.br_f ?_ ?_; (focus omega); conv => whnf))
        refine Go.Vc.draw_intro [⟨0, false, false, false, 0⟩, ⟨1, false, false, false, 1⟩, ⟨2, false, false, false, 3⟩, ⟨3, false, false, false, 7⟩, ⟨4, false, false, false, 15⟩, ⟨5, false, false, false, 0⟩, ⟨6, false, false, false, 32⟩, ⟨7, false, false, false, 96⟩, ⟨8, false, false, false, 224⟩, ⟨9, false, false, false, 480⟩, ⟨10, false, false, false, 992⟩, ⟨11, false, false, false, 31⟩, ⟨12, false, false, false, 4095⟩, ⟨13, false, false, false, 8191⟩] (hs := (fun _ => none)) (hsub := (fun _ _ h => nomatch h)) (hm := by kernel_rfl) (hpl := by kernel_rfl) ?_
        conv => whnf
        conv => whnf
        repeat (first | ((with_reducible apply Go.Vc.ld_i); (focus ((repeat (first | with_reducible assumption | with_reducible exact Go.Vc.hset_same _ _ _ | with_reducible refine (Go.Vc.hset_ne _ _ (by omega)).trans ?_)); done)); (focus exact rfl); conv => whnf) | ((with_reducible apply Go.Vc.wr_i64); (focus exact And.intro (by omega) (by omega)); conv => whnf) | ((with_reducible apply Go.Vc.quo_i64); (focus exact And.intro (by omega) (And.intro (by omega) (by omega))); conv => whnf) | ((with_reducible refine And.intro ?_ (And.intro ?_ ?_)); (focus exact rfl); (focus omega); conv => whnf))
        have e5 : (((packBits s).length : Int) + 7) / 8 = ((packL s).length : Nat) := by rw [hpn]; omega
        rw [e5, ← hs0]
        exact ⟨rfl, hsub, by omega⟩
      · subst hp4
        have rb := readB_sl (l := s.data.toList) o4.sl
        conv => whnf
        repeat (first | ((with_reducible apply Go.Vc.ld_i); (focus ((repeat (first | with_reducible assumption | with_reducible exact Go.Vc.hset_same _ _ _ | with_reducible refine (Go.Vc.hset_ne _ _ (by omega)).trans ?_)); done)); (focus exact rfl); conv => whnf) | (refine Go.Vc.br_t ?_ ?_; (focus omega); conv => whnf) | (refine Go.Vc.br_f ?_ ?_; (focus omega); conv => whnf))
        refine Go.Vc.draw_intro [⟨0, false, false, false, 0⟩, ⟨1, false, false, false, 1⟩, ⟨2, false, false, false, 3⟩, ⟨3, false, false, false, 7⟩, ⟨4, false, false, false, 15⟩, ⟨5, false, false, false, 0⟩, ⟨6, false, false, false, 32⟩, ⟨7, false, false, false, 96⟩, ⟨8, false, false, false, 224⟩, ⟨9, false, false, false, 480⟩, ⟨10, false, false, false, 992⟩, ⟨11, false, false, false, 31⟩, ⟨12, false, false, false, 4095⟩, ⟨13, false, false, false, 8191⟩] (hs := (fun _ => none)) (hsub := (fun _ _ h => nomatch h)) (hm := by kernel_rfl) (hpl := by kernel_rfl) ?_
        conv => whnf
        conv => whnf
        repeat (first | ((with_reducible apply Go.Vc.ld_i); (focus ((repeat (first | with_reducible assumption | with_reducible exact Go.Vc.hset_same _ _ _ | with_reducible refine (Go.Vc.hset_ne _ _ (by omega)).trans ?_)); done)); (focus exact rfl); conv => whnf))
        refine ⟨_, rb, ?_⟩
        conv => whnf
        repeat (first | ((with_reducible apply Go.Vc.ld_i); (focus ((repeat (first | with_reducible assumption | with_reducible exact Go.Vc.hset_same _ _ _ | with_reducible refine (Go.Vc.hset_ne _ _ (by omega)).trans ?_)); done)); (focus exact rfl); conv => whnf) | ((with_reducible apply Go.Vc.wr_i64); (focus exact And.intro (by omega) (by omega)); conv => whnf) | ((with_reducible apply Go.Vc.quo_i64); (focus exact And.intro (by omega) (And.intro (by omega) (by omega))); conv => whnf) | ((with_reducible refine And.intro ?_ (And.intro ?_ ?_)); (focus exact rfl); (focus omega); conv => whnf))
        have e5 : (((packBits s).length : Int) + 7) / 8 = ((packL s).length : Nat) := by rw [hpn]; omega
        rw [e5, hse]
        exact ⟨rfl, hsub, by omega⟩
      · exfalso
        subst hp4
        rcases o4.2 with ⟨h5, _⟩ | ⟨_, _, _, _, h5, _⟩ <;> cases h5
    · obtain ⟨a4, c4, hw4, o4, e4⟩ := id R4
      have hsub : Vc.Sub h h4 := fun z o hz => by
        have := hd _ _ hz
        exact f4 z o (by omega) (fun e => by have := hd3f _ e; omega) (f03 z o (by omega) ((hset_ne _ _ (by omega)).trans hz))
      rw [if_neg hf]
      conv => whnf
      repeat (first | ((with_reducible apply Go.Vc.ld_i); (focus ((repeat (first | with_reducible assumption | with_reducible exact Go.Vc.hset_same _ _ _ | with_reducible refine (Go.Vc.hset_ne _ _ (by omega)).trans ?_)); done)); (focus exact rfl); conv => whnf) | (refine Go.Vc.br_t ?_ ?_; (focus omega); conv => whnf))
      refine Go.Vc.draw_intro [⟨0, false, false, false, 0⟩, ⟨1, false, false, false, 1⟩, ⟨2, false, false, false, 3⟩, ⟨3, false, false, false, 7⟩, ⟨4, false, false, false, 0⟩, ⟨5, false, false, false, 16⟩, ⟨6, false, false, false, 63⟩] (hs := (fun _ => none)) (hsub := (fun _ _ h => nomatch h)) (hm := by kernel_rfl) (hpl := by kernel_rfl) ?_
      conv => whnf
      conv => whnf
      repeat (first | ((with_reducible apply Go.Vc.ld_i); (focus ((repeat (first | with_reducible assumption | with_reducible exact Go.Vc.hset_same _ _ _ | with_reducible refine (Go.Vc.hset_ne _ _ (by omega)).trans ?_)); done)); (focus exact rfl); conv => whnf) | ((with_reducible refine And.intro ?_ (And.intro ?_ ?_)); (focus exact rfl); (focus omega); conv => whnf))
      exact show t ≤ t4 by omega
  · conv => whnf
    repeat (first | ((with_reducible apply Go.Vc.own_ix); (focus exact And.intro (by omega) (by omega)); conv => whnf) | ((with_reducible apply Go.Vc.ld_i); (focus ((repeat (first | with_reducible assumption | with_reducible exact Go.Vc.hset_same _ _ _ | with_reducible refine (Go.Vc.hset_ne _ _ (by omega)).trans ?_)); done)); (focus exact rfl); conv => whnf) | (refine Go.Vc.br_f ?_ ?_; (focus omega); conv => whnf))
    have hpos : 0 + 1 + 2 + (dynF (partsF s 0 (toks s 0 s.size))).length = (packBits s).length := by rw [hP]
    refine (fdyn_spec R3 (by omega) (s := s) (by omega) (by omega) rfl hst4).mono ?_
    rintro _ h4 t4 hd4 ht4 ⟨rfl, hE⟩
    rw [hpos] at hE
    rcases hE with ⟨hf, d4, R4, f4, dd4, l4⟩ | ⟨hf, p2, o2, d4, R4, f4, dd4, l4⟩
    · obtain ⟨a4, c4, hw4, o4, e4⟩ := id R4
      have hsub : Vc.Sub h h4 := fun z o hz => by
        have := hd _ _ hz
        exact f4 z o (by omega) (fun e => by have := hd3f _ e; omega) (f03 z o (by omega) ((hset_ne _ _ (by omega)).trans hz))
      rw [if_pos hf]
      have hse : (⟨s.data.toList.toArray⟩ : ByteArray) = s := by rw [Array.toArray_toList]
      rcases hp4 : a4 with _ | ⟨⟨bb, off, _ | sp⟩⟩
      · subst hp4
        have hz0 : s.size = 0 := by
          have h5 := o4.sl
          rcases Nat.eq_zero_or_pos s.size with h6 | h6
          · exact h6
          · obtain ⟨b, off, _, _, _, e, _⟩ := h5.2 (by rw [tx_len]; exact h6)
            cases e
        have hs0 : s = ByteArray.empty := by
          apply ByteArray.ext
          exact Array.eq_empty_of_size_eq_zero hz0
        conv => whnf
        repeat (first | ((with_reducible apply Go.Vc.ld_i); (focus ((repeat (first | with_reducible assumption | with_reducible exact Go.Vc.hset_same _ _ _ | with_reducible refine (Go.Vc.hset_ne _ _ (by omega)).trans ?_)); done)); (focus exact rfl); conv => whnf) | (refine Go.Vc.br_t ?_ ?_; (focus omega); conv => whnf) | (refine Go.Vc.br_f ?_ ?_; (focus omega); conv => whnf))
        refine Go.Vc.draw_intro [⟨0, false, false, false, 0⟩, ⟨1, false, false, false, 1⟩, ⟨2, false, false, false, 3⟩, ⟨3, false, false, false, 7⟩, ⟨4, false, false, false, 15⟩, ⟨5, false, false, false, 0⟩, ⟨6, false, false, false, 32⟩, ⟨7, false, false, false, 96⟩, ⟨8, false, false, false, 224⟩, ⟨9, false, false, false, 480⟩, ⟨10, false, false, false, 992⟩, ⟨11, false, false, false, 31⟩, ⟨12, false, false, false, 4095⟩, ⟨13, false, false, false, 8191⟩] (hs := (fun _ => none)) (hsub := (fun _ _ h => nomatch h)) (hm := by kernel_rfl) (hpl := by kernel_rfl) ?_
        conv => whnf
        conv => whnf
        repeat (first | ((with_reducible apply Go.Vc.ld_i); (focus ((repeat (first | with_reducible assumption | with_reducible exact Go.Vc.hset_same _ _ _ | with_reducible refine (Go.Vc.hset_ne _ _ (by omega)).trans ?_)); done)); (focus exact rfl); conv => whnf) | ((with_reducible apply Go.Vc.wr_i64); (focus exact And.intro (by omega) (by omega)); conv => whnf) | ((with_reducible apply Go.Vc.quo_i64); (focus exact And.intro (by omega) (And.intro (by omega) (by omega))); conv => whnf) | ((with_reducible refine And.intro ?_ (And.intro ?_ ?_)); (focus exact rfl); (focus omega); conv => whnf))
        have e5 : (((packBits s).length : Int) + 7) / 8 = ((packL s).length : Nat) := by rw [hpn]; omega
        rw [e5, ← hs0]
        exact ⟨rfl, hsub, by omega⟩
      · subst hp4
        have rb := readB_sl (l := s.data.toList) o4.sl
        conv => whnf
        repeat (first | ((with_reducible apply Go.Vc.ld_i); (focus ((repeat (first | with_reducible assumption | with_reducible exact Go.Vc.hset_same _ _ _ | with_reducible refine (Go.Vc.hset_ne _ _ (by omega)).trans ?_)); done)); (focus exact rfl); conv => whnf) | (refine Go.Vc.br_t ?_ ?_; (focus omega); conv => whnf) | (refine Go.Vc.br_f ?_ ?_; (focus omega); conv => whnf))
        refine Go.Vc.draw_intro [⟨0, false, false, false, 0⟩, ⟨1, false, false, false, 1⟩, ⟨2, false, false, false, 3⟩, ⟨3, false, false, false, 7⟩, ⟨4, false, false, false, 15⟩, ⟨5, false, false, false, 0⟩, ⟨6, false, false, false, 32⟩, ⟨7, false, false, false, 96⟩, ⟨8, false, false, false, 224⟩, ⟨9, false, false, false, 480⟩, ⟨10, false, false, false, 992⟩, ⟨11, false, false, false, 31⟩, ⟨12, false, false, false, 4095⟩, ⟨13, false, false, false, 8191⟩] (hs := (fun _ => none)) (hsub := (fun _ _ h => nomatch h)) (hm := by kernel_rfl) (hpl := by kernel_rfl) ?_
        conv => whnf
        conv => whnf
        repeat (first | ((with_reducible apply Go.Vc.ld_i); (focus ((repeat (first | with_reducible assumption | with_reducible exact Go.Vc.hset_same _ _ _ | with_reducible refine (Go.Vc.hset_ne _ _ (by omega)).trans ?_)); done)); (focus exact rfl); conv => whnf))
        refine ⟨_, rb, ?_⟩
        conv => whnf
        repeat (first | ((with_reducible apply Go.Vc.ld_i); (focus ((repeat (first | with_reducible assumption | with_reducible exact Go.Vc.hset_same _ _ _ | with_reducible refine (Go.Vc.hset_ne _ _ (by omega)).trans ?_)); done)); (focus exact rfl); conv => whnf) | ((with_reducible apply Go.Vc.wr_i64); (focus exact And.intro (by omega) (by omega)); conv => whnf) | ((with_reducible apply Go.Vc.quo_i64); (focus exact And.intro (by omega) (And.intro (by omega) (by omega))); conv => whnf) | ((with_reducible refine And.intro ?_ (And.intro ?_ ?_)); (focus exact rfl); (focus omega); conv => whnf))
        have e5 : (((packBits s).length : Int) + 7) / 8 = ((packL s).length : Nat) := by rw [hpn]; omega
        rw [e5, hse]
        exact ⟨rfl, hsub, by omega⟩
      · exfalso
        subst hp4
        rcases o4.2 with ⟨h5, _⟩ | ⟨_, _, _, _, h5, _⟩ <;> cases h5
    · obtain ⟨a4, c4, hw4, o4, e4⟩ := id R4
      have hsub : Vc.Sub h h4 := fun z o hz => by
        have := hd _ _ hz
        exact f4 z o (by omega) (fun e => by have := hd3f _ e; omega) (f03 z o (by omega) ((hset_ne _ _ (by omega)).trans hz))
      rw [if_neg hf]
      conv => whnf
      repeat (first | ((with_reducible apply Go.Vc.ld_i); (focus ((repeat (first | with_reducible assumption | with_reducible exact Go.Vc.hset_same _ _ _ | with_reducible refine (Go.Vc.hset_ne _ _ (by omega)).trans ?_)); done)); (focus exact rfl); conv => whnf) | (refine Go.Vc.br_t ?_ ?_; (focus omega); conv => whnf))
      refine Go.Vc.draw_intro [⟨0, false, false, false, 0⟩, ⟨1, false, false, false, 1⟩, ⟨2, false, false, false, 3⟩, ⟨3, false, false, false, 7⟩, ⟨4, false, false, false, 0⟩, ⟨5, false, false, false, 16⟩, ⟨6, false, false, false, 63⟩] (hs := (fun _ => none)) (hsub := (fun _ _ h => nomatch h)) (hm := by kernel_rfl) (hpl := by kernel_rfl) ?_
      conv => whnf
      conv => whnf
      repeat (first | ((with_reducible apply Go.Vc.ld_i); (focus ((repeat (first | with_reducible assumption | with_reducible exact Go.Vc.hset_same _ _ _ | with_reducible refine (Go.Vc.hset_ne _ _ (by omega)).trans ?_)); done)); (focus exact rfl); conv => whnf) | ((with_reducible refine And.intro ?_ (And.intro ?_ ?_)); (focus exact rfl); (focus omega); conv => whnf))
      exact show t ≤ t4 by omega
end Go.Proofs.Ytikpfffhcjlcjaa
