/- BucketSwaps answers true, by its contract. -/
import Derived.Test.YtjolbngckdfelaaBucket4
namespace Go.Proofs.Ytjolbngckdfelaa
open Go Go.Vc
set_option maxRecDepth 10000
set_option linter.unusedVariables false

theorem swap_cases (s : BS) (r : Int) (xi : ByteArray) : ∃ (e : Int) (s' : BS), callR s true (fun s => swapR s (r + s.ver) xi) = (e, s') ∧
    (s'.lock = xi ∧ s'.ver = s.ver + 1 ∧ r = 0 ∧ (e = 0 ∨ e = 7) ∨ s'.lock = s.lock ∧ s'.ver = s.ver ∧ (e = 6 ∨ e = 7)) := by
  unfold callR swapR BS.next
  have h1 : ((true : Bool) = false) = False := by simp
  simp only [h1, if_false]
  by_cases f1 : fateOf s.fs = 1
  · rw [if_pos f1]; exact ⟨7, _, rfl, .inr ⟨rfl, rfl, .inr rfl⟩⟩
  · rw [if_neg f1]
    by_cases hr : r + s.ver = s.ver
    · have hr0 : r = 0 := by omega
      by_cases f0 : fateOf s.fs = 0
      · rw [if_pos f0, if_pos hr, hr]; exact ⟨0, _, rfl, .inl ⟨rfl, rfl, hr0, .inl rfl⟩⟩
      · rw [if_neg f0, if_pos hr]; exact ⟨7, _, rfl, .inl ⟨rfl, by show r + s.ver + 1 = _; omega, hr0, .inr rfl⟩⟩
    · by_cases f0 : fateOf s.fs = 0
      · rw [if_pos f0, if_neg hr]; exact ⟨6, _, rfl, .inr ⟨rfl, rfl, .inl rfl⟩⟩
      · rw [if_neg f0, if_neg hr]; exact ⟨7, _, rfl, .inr ⟨rfl, rfl, .inr rfl⟩⟩

theorem swapR_next (s : BS) (v : Int) (x : ByteArray) : callR s true (fun s' => swapR s' v x) = callR s true (fun s' => swapR s' ((v - s.ver) + s'.ver) x) := by
  have : v - s.ver + s.next.ver = v := by simp [BS.next]
  simp only [callR, this]

theorem BucketSwaps_spec (h : Heap) (t : Nat) (a0 : Option Addr) (n0 c0 : Nat) (l0 : List Int) (s0 : Sl h a0 n0 (Value.int .i64) l0) (hn0 : n0 ≤ 1048576) (hc0 : n0 ≤ c0) (hb0 : ∀ z ∈ l0, IntKind.min .i64 ≤ z ∧ z ≤ IntKind.max .i64)
    (a1 : Option Addr) (n1 c1 : Nat) (l1 : List Int) (s1 : Sl h a1 n1 (Value.int .i64) l1) (hn1 : n1 ≤ 1048576) (hc1 : n1 ≤ c1) (hb1 : ∀ z ∈ l1, IntKind.min .i64 ≤ z ∧ z ≤ IntKind.max .i64) (x : ByteArray) (hx : x.size ≤ 1048576) :
    CallSpec Try.prog 3 #[.slice a0 n0 c0, .slice a1 n1 c1, .string x] h t (fun v h' _ => v = .bool true ∧ Sub h h') := by
  refine Go.Vc.spec_of_vc (fn := Try.f3) Try.func3 rfl (by kernel_rfl) (by kernel_rfl) (Nat.le_of_ble_eq_true rfl) ?_
  intro hd
  conv => whnf
  refine (examples_spec h t).mono ?_
  rintro _ _ t1 hd1 ht1 ⟨rfl, rfl⟩
  conv => whnf
  refine (new_spec _ t1).mono ?_
  rintro _ h2 t2 hd2 ht2 ⟨b, m, rfl, hb, hm, hbt, hmt, B2, hs2⟩
  conv => whnf
  refine (fates_spec (l := l1) B2 (s1.sub hs2) (by simp; omega)).mono ?_
  rintro _ h3 t3 hd3 ht3 ⟨rfl, d, B3, f3, _⟩
  conv => whnf
  refine loop_intro (fun s : Nat × BS => [(0, .slice a0 n0 c0), (2, .string x), (7, .bool true), (8, .pointer (some ⟨b, 0, none⟩)), (9, .int .i64 (s.1 : Nat))])
    (fun s h' t' => s.1 ≤ n0 ∧ s.1 ≤ 40 ∧ t3 ≤ t' ∧ Bkt h' b m d s.2 ∧ FrB b m h2 h' ∧ 0 ≤ s.2.ver ∧ s.2.ver ≤ s.1) (fun s => 40 - s.1) (0, _) ⟨rfl, rfl, rfl, rfl, rfl, trivial⟩ ⟨by omega, by omega, by omega, B3, f3, by simp, by simp⟩ ?_
  rintro ⟨i, s⟩ g h4 t4 hd4 ⟨hi, hi40, ht4, B4, f4, hv0, hv1⟩
  simp only at hi hi40 B4 hv0 hv1
  have hsub : Sub h h4 := by
    intro k o ho
    have := hd k o ho
    exact f4 k o (by omega) (by omega) (hs2 k o ho)
  conv => whnf
  refine br (fun hb1 => ?_) (fun hb1 => ?_)
  · conv => whnf
    have hlt : i < n0 := by omega
    refine br (fun hb2 => ?_) (fun hb2 => ?_)
    · conv => whnf
      have hlt2 : i < 40 := by omega
      refine (held_spec B4).mono ?_
      rintro _ _ _ _ _ ⟨rfl, rfl, rfl⟩
      conv => whnf
      refine Go.Vc.draw_intro [⟨0, false, true, false, 0⟩, ⟨1, false, true, false, 0⟩, ⟨2, false, true, false, 0⟩, ⟨3, false, true, false, 6⟩, ⟨4, false, true, false, 14⟩, ⟨5, false, true, false, 30⟩, ⟨6, false, true, false, 0⟩, ⟨7, false, true, false, 126⟩, ⟨8, false, true, false, 0⟩, ⟨9, false, false, false, 0⟩, ⟨10, false, false, false, 512⟩, ⟨11, true, false, true, 1536⟩, ⟨12, false, false, false, 3584⟩, ⟨13, false, false, false, 7936⟩, ⟨14, true, false, false, 16383⟩, ⟨15, false, false, false, 32767⟩] (hs := h4) (hsub := (Sub.refl h4)) (hm := by kernel_rfl) (hpl := by kernel_rfl) ?_
      conv => whnf
      refine ⟨⟨by omega, by omega⟩, ?_⟩
      obtain ⟨b2, off2, ha, hc⟩ := (s0.sub hsub).at 0 (i := (i : Int)) (by omega) (by omega)
      refine ⟨b2, off2, ha, ?_⟩
      conv => whnf
      refine ⟨_, hc, ?_⟩
      conv => whnf
      refine ⟨rfl, by decide, ?_⟩
      conv => whnf
      intro r hr
      refine ⟨hd4.sub_new hr _, ?_⟩
      conv => whnf
      have hz := wu8_range ((i : Nat) : Int)
      obtain ⟨l1, hl1⟩ : ∃ l1, l1 = [UInt8.ofNat (IntKind.u8.wrap ((i : Nat) : Int)).toNat] := ⟨_, rfl⟩
      refine ⟨l1, by rw [hl1]; exact readB_one (hset_same _ _ _) hz.1 hz.2, ?_⟩
      have hl2 : l1.length = 1 := by rw [hl1]; rfl
      conv => whnf
      refine ⟨by show x.size + l1.length ≤ _; omega, ?_⟩
      conv => whnf
      have hr3 : -2 ≤ (l0.getD (i : Int).toNat 0).tmod 3 ∧ (l0.getD (i : Int).toNat 0).tmod 3 ≤ 2 := by have := tmod_range (l0.getD (i : Int).toNat 0) (k := 3) (by omega); omega
      have hw : IntKind.i64.wrap ((l0.getD (i : Int).toNat 0).tmod 3 + s.ver) = (l0.getD (i : Int).toNat 0).tmod 3 + s.ver := wi (by omega) (by omega)
      refine (swap_spec (B4.sub (hd4.sub_new hr _)) (v := IntKind.i64.wrap ((l0.getD (i : Int).toNat 0).tmod 3 + s.ver)) _ (by omega) (by omega)).mono ?_
      rintro _ h5 t5 hd5 ht5 ⟨hv, B5, f5⟩
      rw [hw, swapR_next, show (l0.getD (i : Int).toNat 0).tmod 3 + s.ver - s.ver = (l0.getD (i : Int).toNat 0).tmod 3 from by omega] at hv B5
      have f6 : FrB b m h2 h5 := f4.trans ((FrB.of_sub (hd4.sub_new hr _)).trans f5)
      have hsub5 : Sub h h5 := by
        intro k o ho
        have := hd k o ho
        exact f6 k o (by omega) (by omega) (hs2 k o ho)
      obtain ⟨e, s', hcall, hcs⟩ := swap_cases s ((l0.getD (i : Int).toNat 0).tmod 3) (x ++ ⟨l1.toArray⟩)
      rw [hcall] at hv B5
      have hv : _ = Value.int .i64 e := hv
      have B5 : Bkt h5 b m d s' := B5
      subst hv
      conv => whnf
      refine (held_spec B5).mono ?_
      rintro _ _ _ _ _ ⟨rfl, rfl, rfl⟩
      conv => whnf
      have hw1 : IntKind.i64.wrap (s.ver + 1) = s.ver + 1 := wi (by omega) (by omega)
      rw [hw1]
      rcases hcs with ⟨hlk, hvr, hr0, he⟩ | ⟨hlk, hvr, he⟩
      · refine br_t hvr ?_
        conv => whnf
        intro r2 hr2
        conv => whnf
        refine ⟨l1, by rw [hl1]; exact readB_one (hset_same _ _ _) hz.1 hz.2, ?_⟩
        conv => whnf
        refine ⟨by show x.size + l1.length ≤ _; omega, ?_⟩
        conv => whnf
        refine br_f (by omega) ?_
        conv => whnf
        refine brn_f hlk ?_
        conv => whnf
        refine br (fun he0 => ?_) (fun he0 => ?_)
        · conv => whnf
          refine brn_f hlk ?_
          conv => whnf
          refine br_f (by omega) ?_
          conv => whnf
          refine br_t hlk ?_
          conv => whnf
          refine ⟨⟨by omega, by omega⟩, ?_⟩
          obtain ⟨b3, off3, ha3, hc3⟩ := ((s0.sub hsub5).sub (hd5.sub_new hr2 _)).at 0 (i := (i : Int)) (by omega) (by omega)
          refine ⟨b3, off3, ha3, ?_⟩
          conv => whnf
          refine ⟨_, hc3, ?_⟩
          conv => whnf
          refine ⟨rfl, by decide, ?_⟩
          conv => whnf
          refine br_f (fun hne => hne hr0) ?_
          conv => whnf
          refine round_end (i + 1, s') (by dsimp only; omega) ⟨rfl, rfl, rfl, rfl, wi_congr (by omega) (by omega) (by dsimp only; omega), trivial⟩ ⟨by dsimp only; omega, by dsimp only; omega, by omega, B5.sub (hd5.sub_new hr2 _), f6.trans (FrB.of_sub (hd5.sub_new hr2 _)), by dsimp only; omega, by dsimp only; omega⟩
        · conv => whnf
          refine br_f (by omega) ?_
          conv => whnf
          refine br_t hlk ?_
          conv => whnf
          refine ⟨⟨by omega, by omega⟩, ?_⟩
          obtain ⟨b3, off3, ha3, hc3⟩ := ((s0.sub hsub5).sub (hd5.sub_new hr2 _)).at 0 (i := (i : Int)) (by omega) (by omega)
          refine ⟨b3, off3, ha3, ?_⟩
          conv => whnf
          refine ⟨_, hc3, ?_⟩
          conv => whnf
          refine ⟨rfl, by decide, ?_⟩
          conv => whnf
          refine br_f (fun hne => hne hr0) ?_
          conv => whnf
          refine round_end (i + 1, s') (by dsimp only; omega) ⟨rfl, rfl, rfl, rfl, wi_congr (by omega) (by omega) (by dsimp only; omega), trivial⟩ ⟨by dsimp only; omega, by dsimp only; omega, by omega, B5.sub (hd5.sub_new hr2 _), f6.trans (FrB.of_sub (hd5.sub_new hr2 _)), by dsimp only; omega, by dsimp only; omega⟩
      · refine br_f (by omega) ?_
        conv => whnf
        refine br_t (by omega) ?_
        conv => whnf
        refine brn_f hlk ?_
        conv => whnf
        refine br_f (by omega) ?_
        conv => whnf
        refine br (fun he0 => ?_) (fun he0 => ?_)
        · conv => whnf
          refine brn_f hlk ?_
          conv => whnf
          refine round_end (i + 1, s') (by dsimp only; omega) ⟨rfl, rfl, rfl, rfl, wi_congr (by omega) (by omega) (by dsimp only; omega), trivial⟩ ⟨by dsimp only; omega, by dsimp only; omega, by omega, B5, f6, by dsimp only; omega, by dsimp only; omega⟩
        · conv => whnf
          refine round_end (i + 1, s') (by dsimp only; omega) ⟨rfl, rfl, rfl, rfl, wi_congr (by omega) (by omega) (by dsimp only; omega), trivial⟩ ⟨by dsimp only; omega, by dsimp only; omega, by omega, B5, f6, by dsimp only; omega, by dsimp only; omega⟩
    · conv => whnf
      exact ⟨rfl, hsub⟩
  · conv => whnf
    exact ⟨rfl, hsub⟩
end Go.Proofs.Ytjolbngckdfelaa
