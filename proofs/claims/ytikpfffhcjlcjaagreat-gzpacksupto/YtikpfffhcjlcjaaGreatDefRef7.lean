import Derived.Test.YtikpfffhcjlcjaaGreatDefRef5
import Derived.Test.YtikpfffhcjlcjaaGreatDefRef6
import Derived.Test.YtikpfffhcjlcjaaGreatInf4
set_option linter.unusedSimpArgs false
namespace Go.Proofs.YtikpfffhcjlcjaaGreat
open Go Go.Vc Go.Huf Go.Dfl
set_option maxRecDepth 20000
set_option linter.unusedVariables false
set_option maxHeartbeats 1000000
theorem rput_spec {h : Heap} {t w : Nat} {d : Option Nat} {bs : List Bool} (W : Wr 59 h w d bs) (hbl : bs.length ≤ 2900000) (s : ByteArray) {f e : Nat} {T : List (Nat × Nat)} {a : Option Addr} {c last : Nat} (hlast : last ≤ 1)
    (hs : s.size ≤ 1000000) (hf : f ≤ 32768) (hfe : f ≤ e) (he : e ≤ s.size) (hl : e ≤ f + 32768) (hT : T = toks s f e) (sT : Sl h a (T.length * 2) id (T.flatMap tk))
    (f0 : 0 < T.length → ∀ b, owner a = some b → b ≠ w ∧ d ≠ some b) :
    CallSpec Tryz.prog 28 #[.agg #[.slice a T.length c, .string (s.extract f e)], .pointer (some ⟨w, 0, none⟩), .int .i64 (last : Nat)] h t (fun v h' t' => v = .tuple #[] ∧ WrTo 59 w h t d (bs ++ blockF bs.length (s.extract f e) (partsF s f T) last) h' t') := by
  have hTn := toks_len s (to := e) 32768 f (by omega)
  rw [← hT] at hTn
  obtain ⟨ps, hps⟩ : ∃ ps, partsF s f T = ps := ⟨_, rfl⟩
  have hpl : ps.length = T.length := by rw [← hps]; exact parts_len _ _ _
  have hok : ∀ p ∈ ps, SymOk p := by rw [← hps, hT]; exact parts_ok (s := s) (to := e) he _ f (Nat.le_refl _)
  have hse : (s.extract f e).size = e - f := by rw [ByteArray.size_extract]; omega
  refine Go.Vc.spec_of_vc (fn := Tryz.f28) Tryz.func28 rfl (by kernel_rfl) (by kernel_rfl) (Nat.le_of_ble_eq_true rfl) ?_
  intro hd
  conv => whnf
  intro r3 hr3
  have hs3 := hd.sub_new hr3 (.cells #[.slice a T.length c, .string (s.extract f e)] 63)
  have hd3 := hd.set r3 (.cells #[.slice a T.length c, .string (s.extract f e)] 63) (r3 + 1) (by omega) (by omega)
  conv => whnf
  intro r6 hr6
  have hs6 := hd3.sub_new hr6 (.cells #[.slice none 0 0, .int .i64 0] 59)
  have hd6 := hd3.set r6 (.cells #[.slice none 0 0, .int .i64 0] 59) (r6 + 1) (by omega) (by omega)
  have hs0 := hs3.trans hs6
  have b3 := hs6 _ _ (hset_same h r3 (.cells #[.slice a T.length c, .string (s.extract f e)] 63))
  have W6 : Wr 59 (hset (hset h r3 (.cells #[.slice a T.length c, .string (s.extract f e)] 63)) r6 (.cells #[.slice none 0 0, .int .i64 0] 59)) r6 none [] :=
    ⟨none, 0, hset_same _ _ _, Own.nil _ _ _, rfl⟩
  have hpd : 0 < T.length → ∀ b, owner a = some b → b < t := fun h0 => sl_dom sT (by omega) hd
  have hwt := W.lt hd
  have hdt := W.dlt hd
  conv => whnf
  refine ldrow b3 rfl ?_
  rintro _ rfl
  conv => whnf
  refine (rdynamic_spec W6 (by simp) s hs hf hfe he hl hT (sT.sub hs0) (fun h0 b hb => ⟨by have := hpd h0 b hb; omega, fun e => by cases e⟩)).mono ?_
  rintro _ h1 t1 hd1 ht1 ⟨rfl, d6, B6, f6, dd6, _⟩
  rw [List.nil_append, hps] at B6
  have b3' := f6 _ _ (show r3 ≠ r6 by omega) (fun e => by cases e) b3
  have hs1 : Vc.Sub h h1 := fun k o hk => f6 k o (by have := hd _ _ hk; omega) (fun e => by cases e) (hs0 _ _ hk)
  conv => whnf
  intro r7 hr7
  have hs7 := hd1.sub_new hr7 (.cells #[.slice none 0 0, .int .i64 0] 59)
  have hd7 := hd1.set r7 (.cells #[.slice none 0 0, .int .i64 0] 59) (r7 + 1) (by omega) (by omega)
  have W7 : Wr 59 (hset h1 r7 (.cells #[.slice none 0 0, .int .i64 0] 59)) r7 none [] :=
    ⟨none, 0, hset_same _ _ _, Own.nil _ _ _, rfl⟩
  conv => whnf
  refine rfixed_spec.mono ?_
  rintro _ h2 t2 hd2 ht2 ⟨aF, cF, aB, rfl, sF, sB, wF, wB, hs8, _⟩
  have b32 := hs8 _ _ (hs7 _ _ b3')
  have hs2 := hs1.trans (hs7.trans hs8)
  have hlF : fixedL.length = 288 := by decide +kernel
  conv => whnf
  repeat (first | ((with_reducible apply Go.Vc.ldrow); (focus ((repeat (first | with_reducible assumption | with_reducible exact Go.Vc.hset_same _ _ _ | with_reducible refine (Go.Vc.hset_ne _ _ (by omega)).trans ?_)); done)); (focus exact rfl); rintro _ rfl; conv => whnf))
  refine (rcoded_spec (W7.sub hs8) (by simp) s hs hf hfe he hl hT (sT.sub hs2) sF sB fixedL_err fixedB_err (by omega) (fun p hp => (hok p (hps ▸ hp)).fixed) (fun h0 b hb => ⟨by have := hpd h0 b hb; omega, fun e => by cases e⟩) (fun b hb => ⟨by have := wF b hb; omega, fun e => by cases e⟩) (fun b hb => ⟨by have := wB b hb; omega, fun e => by cases e⟩)).mono ?_
  rintro _ g2 u2 hg2 hu2 ⟨rfl, d7, B7, f7, dd7, _⟩
  rw [List.nil_append, hps] at B7
  have k2 : Vc.Sub h g2 := fun k o hk => f7 k o (by have := hd _ _ hk; omega) (fun e => by cases e) (hs2 _ _ hk)
  have b33 := f7 _ _ (show r3 ≠ r7 by omega) (fun e => by cases e) b32
  obtain ⟨a6, c6, x6, _, _⟩ := B6
  obtain ⟨a7, c7, x7, _, _⟩ := B7
  have x62 := f7 _ _ (show r6 ≠ r7 by omega) (fun e => by cases e) (hs8 _ _ (hs7 _ _ x6))
  rw [show (tellF fixedL fixedB ps).length = oneL ps from rfl] at x7
  rw [show (dynF ps).length = twoL ps from rfl] at x62
  have Wg := W.sub k2
  obtain ⟨a0, c0, x0, _, _⟩ := id Wg
  conv => whnf
  refine Go.Vc.draw_intro [⟨0, false, false, false, 0⟩, ⟨1, false, false, false, 1⟩, ⟨2, false, false, false, 3⟩, ⟨3, false, false, false, 7⟩, ⟨4, false, false, false, 0⟩, ⟨5, false, false, false, 16⟩, ⟨6, false, false, false, 48⟩, ⟨7, false, false, false, 112⟩, ⟨8, false, false, false, 255⟩, ⟨9, false, false, false, 511⟩] (hs := (fun _ => none)) (hsub := (fun _ _ h => nomatch h)) (hm := by kernel_rfl) (hpl := by kernel_rfl) ?_
  conv => whnf
  conv => whnf
  repeat (first | ((with_reducible apply Go.Vc.ld_i); (focus ((repeat (first | with_reducible assumption | with_reducible exact Go.Vc.hset_same _ _ _ | with_reducible refine (Go.Vc.hset_ne _ _ (by omega)).trans ?_)); done)); (focus exact rfl); conv => whnf) | ((with_reducible apply Go.Vc.wr_i64); (focus exact And.intro (by omega) (by omega)); conv => whnf) | ((with_reducible apply Go.Vc.rem_i); (focus omega); conv => whnf) | ((with_reducible refine And.intro ?_ (And.intro ?_ ?_)); (focus exact rfl); (focus omega); conv => whnf))
  rw [show (8 - ((bs.length : Int) + 3) % 8) % 8 = ((skipOf bs.length : Nat) : Int) by unfold skipOf; omega]
  refine (number_spec Wg (many := 1) (by omega) (by omega) (by omega)).mono ?_
  rintro _ h3 t3 hd3' ht3 ⟨rfl, V3⟩
  have K3 := WrTo.step hd (FrW.of_sub k2) (.inl rfl) (show t ≤ u2 by omega) V3
  obtain ⟨d3, B3, f3, dd3, le3⟩ := id V3
  obtain ⟨d3', B3', f3', dd3', le3'⟩ := id K3
  obtain rfl := B3'.uniq B3
  have hdr : ∀ {r : Nat}, t ≤ r → d ≠ some r := fun hr e => by have := hdt _ e; omega
  have y3 := f3 _ _ (show r3 ≠ w by omega) (hdr (by omega)) b33
  have y6 := f3 _ _ (show r6 ≠ w by omega) (hdr (by omega)) x62
  have y7 := f3 _ _ (show r7 ≠ w by omega) (hdr (by omega)) x7
  have hbl3 : (bs ++ bitsL (last : Nat) 1).length = bs.length + 1 := by rw [List.length_append, bitsL_len]
  have hsk : skipOf bs.length ≤ 7 := by unfold skipOf; omega
  have hmin : (if (twoL ps : Int) < (oneL ps : Nat) then ((twoL ps : Nat) : Int) else (oneL ps : Nat)) = ((min (oneL ps) (twoL ps) : Nat) : Int) := by split <;> omega
  rw [hps]
  generalize hS : s.extract f e = S at *
  rw [hmin]
  conv => whnf
  repeat (first | ((with_reducible apply Go.Vc.ld_i); (focus ((repeat (first | with_reducible assumption | with_reducible exact Go.Vc.hset_same _ _ _ | with_reducible refine (Go.Vc.hset_ne _ _ (by omega)).trans ?_)); done)); (focus exact rfl); conv => whnf) | ((with_reducible apply Go.Vc.wr_i64); (focus exact And.intro (by omega) (by omega)); conv => whnf))
  have nx : ∀ {dA dB : Option Nat} {uA : Nat}, dA ≠ some r3 → r3 < uA → (dB = dA ∨ ∃ q, dB = some q ∧ uA ≤ q) → dB ≠ some r3 := fun h1 h2 h3 e => by
    rcases h3 with h | ⟨q, h, hq⟩
    · exact h1 (h ▸ e)
    · rw [h] at e; cases e; omega
  have n3 : d3' ≠ some r3 := nx (hdr (by omega)) (hg2 _ _ b33) dd3
  have sFg := sl_frW sF (fun _ b hb => ⟨by have := wF b hb; omega, fun e => by cases e⟩) f7
  have sBg := sl_frW sB (fun _ b hb => ⟨by have := wB b hb; omega, fun e => by cases e⟩) f7
  have sTg := sT.sub k2
  refine br (fun hst => ?_) (fun hst => ?_)
  · have hst' : skipOf bs.length + 32 + 8 * S.size < min (oneL ps) (twoL ps) := by omega
    obtain ⟨b6, hb6⟩ : ∃ b6, bs ++ bitsL (last : Nat) 1 ++ bitsL 0 (2 + skipOf bs.length) ++ bitsL (S.size : Nat) 16 ++ bitsL (65535 - (S.size : Nat)) 16 = b6 := ⟨_, rfl⟩
    have hF : bs ++ blockF bs.length S ps last = b6 ++ sBits S := by
      unfold blockF
      rw [if_pos hst', ← hb6]
      simp only [List.append_assoc]
    rw [hF]
    conv => whnf
    repeat (first | ((with_reducible apply Go.Vc.wr_i64); (focus exact And.intro (by omega) (by omega)); conv => whnf))
    rw [show (2 : Int) + (skipOf bs.length : Nat) = ((2 + skipOf bs.length : Nat) : Int) by omega]
    refine (number_spec B3 (n := 0) (many := 2 + skipOf bs.length) (by omega) (by rw [hbl3]; omega) (by omega)).mono ?_
    rintro _ h4 t4 hd4 ht4 ⟨rfl, V4⟩
    obtain ⟨d4, B4, f4, dd4, le4⟩ := id V4
    have K4 := WrTo.step hd f3' dd3' le3' V4
    have z4 := f4 _ _ (show r3 ≠ w by omega) n3 y3
    have n4 : d4 ≠ some r3 := nx n3 (hd3' _ _ y3) dd4
    conv => whnf
    repeat (first | ((with_reducible apply Go.Vc.ld_i); (focus ((repeat (first | with_reducible assumption | with_reducible exact Go.Vc.hset_same _ _ _ | with_reducible refine (Go.Vc.hset_ne _ _ (by omega)).trans ?_)); done)); (focus exact rfl); conv => whnf))
    refine (number_spec B4 (n := (S.size : Nat)) (many := 16) (by omega) (by rw [List.length_append, hbl3, bitsL_len]; omega) (by omega)).mono ?_
    rintro _ h5 t5 hd5 ht5 ⟨rfl, V5⟩
    obtain ⟨d5, B5, f5, dd5, le5⟩ := id V5
    have K5 : WrTo 59 w h t d (bs ++ bitsL (last : Nat) 1 ++ bitsL 0 (2 + skipOf bs.length) ++ bitsL (S.size : Nat) 16) h5 t5 := by
      obtain ⟨q4, Q4, g4, gg4, l4⟩ := K4
      obtain rfl := Q4.uniq B4
      exact WrTo.step hd g4 gg4 l4 V5
    have z5 := f5 _ _ (show r3 ≠ w by omega) n4 z4
    have n5 : d5 ≠ some r3 := nx n4 (hd4 _ _ z4) dd5
    conv => whnf
    repeat (first | ((with_reducible apply Go.Vc.ld_i); (focus ((repeat (first | with_reducible assumption | with_reducible exact Go.Vc.hset_same _ _ _ | with_reducible refine (Go.Vc.hset_ne _ _ (by omega)).trans ?_)); done)); (focus exact rfl); conv => whnf) | ((with_reducible apply Go.Vc.wr_i64); (focus exact And.intro (by omega) (by omega)); conv => whnf))
    refine (number_spec B5 (n := 65535 - (S.size : Nat)) (many := 16) (by omega) (by rw [List.length_append, List.length_append, hbl3, bitsL_len, bitsL_len]; omega) (by omega)).mono ?_
    rintro _ h6 t6 hd6' ht6 ⟨rfl, V6⟩
    obtain ⟨d6', B6', f6', dd6', le6'⟩ := id V6
    have K6 : WrTo 59 w h t d (bs ++ bitsL (last : Nat) 1 ++ bitsL 0 (2 + skipOf bs.length) ++ bitsL (S.size : Nat) 16 ++ bitsL (65535 - (S.size : Nat)) 16) h6 t6 := by
      obtain ⟨q4, Q4, g4, gg4, l4⟩ := K5
      obtain rfl := Q4.uniq B5
      exact WrTo.step hd g4 gg4 l4 V6
    have z6 := f6' _ _ (show r3 ≠ w by omega) n5 z5
    have n6 : d6' ≠ some r3 := nx n5 (hd5 _ _ z5) dd6'
    rw [hb6] at K6 B6'
    have hb6l : b6.length ≤ bs.length + 60 := by
      rw [← hb6]
      simp only [List.length_append, bitsL_len]
      omega
    obtain ⟨q6, Q6, g6, gg6, l6⟩ := K6
    obtain rfl := Q6.uniq B6'
    conv => whnf
    refine loop_intro (fun i : Nat => [(1, .pointer (some ⟨w, 0, none⟩)), (3, .pointer (some ⟨r3, 0, none⟩)), (12, .int .i64 (i : Nat))])
      (fun i h' t' => i ≤ S.size ∧ h' r3 = some (.cells #[.slice a T.length c, .string S] 63 (0, 0)) ∧ r3 < t' ∧ ∃ dq, Wr 59 h' w dq (b6 ++ byteBits (S.data.toList.take i)) ∧ FrW w d h h' ∧ (dq = d ∨ ∃ q, dq = some q ∧ t ≤ q) ∧ t ≤ t' ∧ dq ≠ some r3) (fun i => S.size - i) 0 ⟨rfl, rfl, rfl, trivial⟩
      ⟨by omega, z6, hd6' _ _ z6, _, by simpa [byteBits] using Q6, g6, gg6, l6, n6⟩ ?_
    rintro i e8 g t8 hd8 ⟨hi, z8, hz8, dq, Q8, g8, gg8, l8, n8⟩
    have hbb : (byteBits (S.data.toList.take i)).length ≤ 8 * i := by rw [byteBits_len, List.length_take]; omega
    conv => whnf
    repeat (first | ((with_reducible apply Go.Vc.ld_i); (focus ((repeat (first | with_reducible assumption | with_reducible exact Go.Vc.hset_same _ _ _ | with_reducible refine (Go.Vc.hset_ne _ _ (by omega)).trans ?_)); done)); (focus exact rfl); conv => whnf))
    refine br (fun hb => ?_) (fun hb => ?_)
    · have hbr := byteAt_range S i
      conv => whnf
      repeat (first | ((with_reducible refine And.intro (And.intro ?_ ?_) ?_); (focus omega); (focus omega); conv => whnf) | ((with_reducible apply Go.Vc.ld_i); (focus ((repeat (first | with_reducible assumption | with_reducible exact Go.Vc.hset_same _ _ _ | with_reducible refine (Go.Vc.hset_ne _ _ (by omega)).trans ?_)); done)); (focus exact rfl); conv => whnf) | (intro _ _; conv => whnf) | ((with_reducible apply Go.Vc.wr_i64); (focus exact And.intro (by omega) (by omega)); conv => whnf))
      refine (number_spec Q8 (n := byteAt S i) (many := 8) (by omega) (by rw [List.length_append]; omega) (by omega)).mono ?_
      rintro _ h9 t9 hd9 ht9 ⟨rfl, V9⟩
      obtain ⟨d9, B9, f9, dd9, le9⟩ := id V9
      obtain ⟨q9, Q9, g9, gg9, l9⟩ := WrTo.step hd g8 gg8 l8 V9
      obtain rfl := Q9.uniq B9
      have z9 := f9 _ _ (show r3 ≠ w by omega) n8 z8
      conv => whnf
      repeat (first | ((with_reducible apply Go.Vc.wr_i64); (focus exact And.intro (by omega) (by omega)); conv => whnf))
      refine round_end (i + 1) (by omega) ⟨rfl, rfl, rfl, trivial⟩ ⟨by omega, z9, hd9 _ _ z9, q9, ?_, g9, gg9, l9, nx n8 hz8 dd9⟩
      have hjl : i < S.data.toList.length := by rw [Array.length_toList]; show i < S.size; omega
      have hbe : byteBits (S.data.toList.take (i + 1)) = byteBits (S.data.toList.take i) ++ bitsL (byteAt S i) 8 := by
        have h2 := tx_get (s := S) (i := i) (by omega)
        unfold tx at h2
        rw [List.getElem?_map, List.getElem?_eq_getElem hjl] at h2
        rw [List.take_add_one, List.getElem?_eq_getElem hjl, ← Option.some.inj h2]
        unfold byteBits
        rw [List.flatMap_append]
        simp
      rw [hbe, ← List.append_assoc]
      exact Q9
    · obtain rfl : i = S.size := by omega
      rw [List.take_of_length_le (by rw [Array.length_toList]; exact Nat.le_refl _)] at Q8
      conv => whnf
      exact ⟨rfl, dq, Q8, g8, gg8, l8⟩
  · have hst' : ¬ skipOf bs.length + 32 + 8 * S.size < min (oneL ps) (twoL ps) := by omega
    conv => whnf
    repeat (first | ((with_reducible apply Go.Vc.ld_i); (focus ((repeat (first | with_reducible assumption | with_reducible exact Go.Vc.hset_same _ _ _ | with_reducible refine (Go.Vc.hset_ne _ _ (by omega)).trans ?_)); done)); (focus exact rfl); conv => whnf))
    refine br (fun h1 => ?_) (fun h1 => ?_)
    · have h12 : oneL ps ≤ twoL ps := by omega
      have hF : bs ++ blockF bs.length S ps last = bs ++ bitsL (last : Nat) 1 ++ bitsL 1 2 ++ tellF fixedL fixedB ps := by
        unfold blockF
        rw [if_neg hst', if_pos h12]
        simp only [List.append_assoc]
      rw [hF]
      conv => whnf
      refine (number_spec B3 (n := 1) (many := 2) (by omega) (by rw [hbl3]; omega) (by omega)).mono ?_
      rintro _ h4 t4 hd4 ht4 ⟨rfl, V4⟩
      obtain ⟨d4, B4, f4, dd4, le4⟩ := id V4
      have z4 := f4 _ _ (show r3 ≠ w by omega) n3 y3
      have K4 := WrTo.step hd f3' dd3' le3' V4
      obtain ⟨q4, Q4, g4, gg4, l4⟩ := id K4
      obtain rfl := Q4.uniq B4
      have K34 := WrTo.step hg2 f3 dd3 le3 V4
      obtain ⟨p4, P4, fp4, ddp4, lp4⟩ := id K34
      obtain rfl := P4.uniq B4
      conv => whnf
      refine ldrow z4 rfl ?_
      rintro _ rfl
      conv => whnf
      have ngen : ∀ {b : Nat}, b < u2 → b ≠ w → d ≠ some b → p4 ≠ some b := fun h1 h2 h3 e => by
        rcases ddp4 with h | ⟨q, h, hq⟩
        · exact h3 (h ▸ e)
        · rw [h] at e; cases e; omega
      have oF : ∀ b, owner aF = some b → b ≠ w ∧ d ≠ some b := fun b hb => by have := wF b hb; exact ⟨by omega, hdr (by omega)⟩
      have oB : ∀ b, owner aB = some b → b ≠ w ∧ d ≠ some b := fun b hb => by have := wB b hb; exact ⟨by omega, hdr (by omega)⟩
      rw [← hS]
      refine (rcoded_spec P4 (by rw [List.length_append, hbl3, bitsL_len]; omega) s hs hf hfe he hl hT (sl_frW sTg (fun h => f0 (by omega)) fp4) (sl_frW sFg (fun _ => oF) fp4) (sl_frW sBg (fun _ => oB) fp4) fixedL_err fixedB_err (by omega) (fun p hp => (hok p (hps ▸ hp)).fixed)
        (fun h0 b hb => ⟨(f0 h0 b hb).1, ngen (sl_dom sTg (by omega) hg2 b hb) (f0 h0 b hb).1 (f0 h0 b hb).2⟩) (fun b hb => ⟨(oF b hb).1, ngen (sl_dom sFg (by omega) hg2 b hb) (oF b hb).1 (oF b hb).2⟩) (fun b hb => ⟨(oB b hb).1, ngen (sl_dom sBg (by omega) hg2 b hb) (oB b hb).1 (oB b hb).2⟩)).mono ?_
      rintro _ h9 t9 hd9 ht9 ⟨rfl, V9⟩
      rw [hps] at V9
      conv => whnf
      exact ⟨rfl, WrTo.step hd g4 gg4 l4 V9⟩
    · have h12 : ¬ oneL ps ≤ twoL ps := by omega
      have hF : bs ++ blockF bs.length S ps last = bs ++ bitsL (last : Nat) 1 ++ bitsL 2 2 ++ dynF ps := by
        unfold blockF
        rw [if_neg hst', if_neg h12]
        simp only [List.append_assoc]
      rw [hF]
      conv => whnf
      refine (number_spec B3 (n := 2) (many := 2) (by omega) (by rw [hbl3]; omega) (by omega)).mono ?_
      rintro _ h4 t4 hd4 ht4 ⟨rfl, V4⟩
      obtain ⟨d4, B4, f4, dd4, le4⟩ := id V4
      have z4 := f4 _ _ (show r3 ≠ w by omega) n3 y3
      have K4 := WrTo.step hd f3' dd3' le3' V4
      obtain ⟨q4, Q4, g4, gg4, l4⟩ := id K4
      obtain rfl := Q4.uniq B4
      have K34 := WrTo.step hg2 f3 dd3 le3 V4
      obtain ⟨p4, P4, fp4, ddp4, lp4⟩ := id K34
      obtain rfl := P4.uniq B4
      conv => whnf
      refine ldrow z4 rfl ?_
      rintro _ rfl
      conv => whnf
      have ngen : ∀ {b : Nat}, b < u2 → b ≠ w → d ≠ some b → p4 ≠ some b := fun h1 h2 h3 e => by
        rcases ddp4 with h | ⟨q, h, hq⟩
        · exact h3 (h ▸ e)
        · rw [h] at e; cases e; omega
      rw [← hS]
      refine (rdynamic_spec P4 (by rw [List.length_append, hbl3, bitsL_len]; omega) s hs hf hfe he hl hT (sl_frW sTg (fun h => f0 (by omega)) fp4) (fun h0 b hb => ⟨(f0 h0 b hb).1, ngen (sl_dom sTg (by omega) hg2 b hb) (f0 h0 b hb).1 (f0 h0 b hb).2⟩)).mono ?_
      rintro _ h9 t9 hd9 ht9 ⟨rfl, V9⟩
      rw [hps] at V9
      conv => whnf
      exact ⟨rfl, WrTo.step hd g4 gg4 l4 V9⟩
theorem block_pos (n : Nat) (s : ByteArray) (ps : List Prt) (last : Nat) : 1 ≤ (blockF n s ps last).length := by
  unfold blockF
  rw [List.length_append, bitsL_len]
  omega
theorem pack_pos (s : ByteArray) : 1 ≤ (packBits s).length := by
  unfold packBits pieceF
  split
  · rw [List.length_append]
    have := block_pos 0 (s.extract 0 32768) (partsF s 0 (toks s 0 32768)) 0
    omega
  · exact block_pos _ _ _ _
theorem rpack_spec {h : Heap} {t : Nat} (s : ByteArray) (hs : s.size ≤ 65536) :
    CallSpec Tryz.prog 12 #[.string s] h t (fun v h' t' => v = .string (packS s) ∧ Vc.Sub h h' ∧ t ≤ t') := by
  refine Go.Vc.spec_of_vc (fn := Tryz.f12) Tryz.func12 rfl (by kernel_rfl) (by kernel_rfl) (Nat.le_of_ble_eq_true rfl) ?_
  intro hd
  conv => whnf
  repeat (first | (intro _ _; conv => whnf))
  rename_i w hw
  have hs1 := hd.sub_new hw (.cells #[.slice none 0 0, .int .i64 0] 59)
  refine loop_intro4 (fun (f : Nat) (bs : List Bool) (d : Option Nat) (z : Bool) => [(0, .string s), (3, .pointer (some ⟨w, 0, none⟩)), (4, .int .i64 (f : Nat))])
    (fun f bs d z h' t' => bs.length ≤ 6000000 ∧ Wr 59 h' w d bs ∧ (∀ b, d = some b → t ≤ b) ∧ Vc.Sub h h' ∧ w < t' ∧ t ≤ t' ∧ ((z = false ∧ packSt s f bs ∧ f ≤ 32768 ∧ bs.length ≤ 80 * f + 60) ∨ (z = true ∧ bs = packBits s ∧ s.size ≤ f ∧ f ≤ 100000 ∧ f ≠ 0))) (fun f _ _ z => if z then 0 else s.size + 1 - f) 0 [] none false ⟨rfl, rfl, rfl, trivial⟩
    ⟨by simp, ⟨none, 0, hset_same _ _ _, Own.nil _ _ _, rfl⟩, (fun b hb => by cases hb), hs1, by omega, by omega, .inl ⟨rfl, .inl ⟨rfl, rfl⟩, by omega, by simp⟩⟩ ?_
  rintro f bs d z e1 g t1 hd1 ⟨hbl, W1, hdt, hs2, htw, ht1, (⟨rfl, hpk, hf3, hbf⟩ | ⟨rfl, hbe, hsf, hfb, hf0⟩)⟩
  · have hfs : f = 0 ∨ f < s.size := by
      rcases hpk with ⟨h1, _⟩ | ⟨h1, h2, _⟩ <;> omega
    obtain ⟨e, he⟩ : ∃ e, e = min (f + 32768) s.size := ⟨_, rfl⟩
    have hfe : f ≤ e := by
      rcases hpk with ⟨h1, _⟩ | ⟨h1, h2, _⟩ <;> omega
    have htk : tokensF s (f : Nat) (e : Nat) = toks s f e := by
      unfold tokensF
      rw [if_neg (by omega), Int.toNat_natCast, Int.toNat_natCast]
    have htl := toks_len s (to := e) (e - f) f (by omega)
    have hok := parts_ok (s := s) (to := e) (by omega) _ f (Nat.le_refl _)
    have hpl : (partsF s f (toks s f e)).length = (toks s f e).length := parts_len _ _ _
    have hse : (s.extract f e).size = e - f := by rw [ByteArray.size_extract]; omega
    have hwl := W1.lt hd1
    have hdl := W1.dlt hd1
    have hpk' := hpk
    rcases hpk' with ⟨q1, q2⟩ | ⟨q1, q2, q3⟩
    · conv => whnf
      repeat (first | ((with_reducible apply Go.Vc.wr_i64); (focus exact And.intro (by omega) (by omega)); conv => whnf) | (refine Go.Vc.br_t ?_ ?_; (focus omega); conv => whnf))
      rw [show (if ((s.size : Nat) : Int) < (f : Int) + 32768 then ((s.size : Nat) : Int) else (f : Int) + 32768) = (e : Nat) by split <;> omega]
      conv => whnf
      refine br (fun hb => ?_) (fun hb => ?_)
      · have hes : e = s.size := by omega
        conv => whnf
        refine Go.Vc.draw_intro [⟨0, false, false, false, 0⟩, ⟨1, false, false, false, 0⟩, ⟨2, false, false, false, 0⟩, ⟨4, false, true, false, 0⟩, ⟨5, false, true, false, 0⟩, ⟨6, false, true, false, 0⟩, ⟨7, false, true, false, 112⟩, ⟨9, false, true, false, 0⟩, ⟨10, false, true, false, 0⟩, ⟨3, true, false, true, 7⟩, ⟨8, false, false, false, 255⟩, ⟨11, true, false, false, 2047⟩] (hs := (fun _ => none)) (hsub := (fun _ _ h => nomatch h)) (hm := by kernel_rfl) (hpl := by kernel_rfl) ?_
        conv => whnf
        conv => whnf
        repeat (first | ((with_reducible refine And.intro (And.intro ?_ ?_) ?_); (focus omega); (focus omega); conv => whnf))
        refine (reftoks_spec s (from_ := (f : Nat)) (to := (e : Nat)) (by omega) (by omega) (by omega)).mono ?_
        rintro _ h2 t2 hd2 ht2 ⟨a, c, rfl, ho, hwo, hs3, _⟩
        rw [htk] at ho ⊢
        refine ⟨(fun _ _ h => by cases h), ?_⟩
        conv => whnf
        have hbk := block_len (n := bs.length) (s := s.extract f e) (last := 1) hok (by omega) (by omega)
        have hfin : bs ++ blockF bs.length (s.extract f e) (partsF s f (toks s f e)) 1 = packBits s := by
          rw [hes]
          unfold packBits
          rcases hpk with ⟨q1, q2⟩ | ⟨q1, q2, q3⟩
          · rw [q1, q2, if_neg (by omega)]; rfl
          · rw [if_pos q2, q1, q3]; rfl
        refine (rput_spec (W1.sub hs3) (by omega) s (f := f) (e := e) (last := 1) (by omega) (by omega) (by omega) (by omega) (by omega) (by omega) rfl ho.sl (fun _ b hb => ⟨by have := hwo b hb; omega, fun hc => by have := hwo b hb; have := hdl b hc; omega⟩)).mono ?_
        rintro _ h4 t4 hd4 ht4 ⟨rfl, d4, B4, f4, dd4, le4⟩
        have hsub : Vc.Sub h h4 := fun b o hb => f4 b o (by have := hd _ _ hb; omega) (fun hc => by have := hdt b hc; have := hd _ _ hb; omega) (hs3 _ _ (hs2 _ _ hb))
        have hd4' : ∀ b, d4 = some b → t ≤ b := fun b hb => by
          rcases dd4 with h | ⟨q, h, hq⟩
          · exact hdt b (h ▸ hb)
          · rw [h] at hb; cases hb; omega
        conv => whnf
        repeat (first | ((with_reducible apply Go.Vc.wr_i64); (focus exact And.intro (by omega) (by omega)); conv => whnf))
        refine round_end4 (f + 32768) (packBits s) d4 true (by simp; omega) ⟨rfl, rfl, rfl, trivial⟩ ⟨?_, by rw [← hfin]; exact B4, hd4', hsub, by omega, by omega, .inr ⟨rfl, rfl, by omega, by omega, by omega⟩⟩
        rw [← hfin, List.length_append]
        omega
      · have hbig : 32768 < s.size := by omega
        have hee : e = 32768 := by omega
        conv => whnf
        refine Go.Vc.draw_intro [⟨0, false, false, false, 0⟩, ⟨1, false, false, false, 0⟩, ⟨2, false, false, false, 0⟩, ⟨4, false, true, false, 0⟩, ⟨5, false, true, false, 0⟩, ⟨6, false, true, false, 0⟩, ⟨7, false, true, false, 112⟩, ⟨9, false, true, false, 0⟩, ⟨10, false, true, false, 0⟩, ⟨3, true, false, true, 7⟩, ⟨8, false, false, false, 255⟩, ⟨11, true, false, false, 2047⟩] (hs := (fun _ => none)) (hsub := (fun _ _ h => nomatch h)) (hm := by kernel_rfl) (hpl := by kernel_rfl) ?_
        conv => whnf
        conv => whnf
        repeat (first | ((with_reducible refine And.intro (And.intro ?_ ?_) ?_); (focus omega); (focus omega); conv => whnf))
        refine (reftoks_spec s (from_ := (f : Nat)) (to := (e : Nat)) (by omega) (by omega) (by omega)).mono ?_
        rintro _ h2 t2 hd2 ht2 ⟨a, c, rfl, ho, hwo, hs3, _⟩
        rw [htk] at ho ⊢
        refine ⟨(fun _ _ h => by cases h), ?_⟩
        conv => whnf
        have hbk := block_len (n := bs.length) (s := s.extract f e) (last := 0) hok (by omega) (by omega)
        have hfin : bs ++ blockF bs.length (s.extract f e) (partsF s f (toks s f e)) 0 = pieceF s 0 32768 0 0 := by
          rw [hee, q1, q2]; rfl
        refine (rput_spec (W1.sub hs3) (by omega) s (f := f) (e := e) (last := 0) (by omega) (by omega) (by omega) (by omega) (by omega) (by omega) rfl ho.sl (fun _ b hb => ⟨by have := hwo b hb; omega, fun hc => by have := hwo b hb; have := hdl b hc; omega⟩)).mono ?_
        rintro _ h4 t4 hd4 ht4 ⟨rfl, d4, B4, f4, dd4, le4⟩
        have hsub : Vc.Sub h h4 := fun b o hb => f4 b o (by have := hd _ _ hb; omega) (fun hc => by have := hdt b hc; have := hd _ _ hb; omega) (hs3 _ _ (hs2 _ _ hb))
        have hd4' : ∀ b, d4 = some b → t ≤ b := fun b hb => by
          rcases dd4 with h | ⟨q, h, hq⟩
          · exact hdt b (h ▸ hb)
          · rw [h] at hb; cases hb; omega
        conv => whnf
        repeat (first | ((with_reducible apply Go.Vc.wr_i64); (focus exact And.intro (by omega) (by omega)); conv => whnf))
        have hll : (pieceF s 0 32768 0 0).length ≤ 70 * (e - f) + 60 := by
          rw [← hfin, List.length_append, q2, List.length_nil]
          rw [q2, List.length_nil] at hbk
          omega
        refine round_end4 32768 (pieceF s 0 32768 0 0) d4 false (by simp; omega) ⟨rfl, rfl, by show Value.int .i64 ((f : Nat) + 32768) = _; rw [q1]; rfl, trivial⟩ ⟨by omega, by rw [← hfin]; exact B4, hd4', hsub, by omega, by omega, .inl ⟨rfl, .inr ⟨rfl, hbig, rfl⟩, by omega, by omega⟩⟩
    · conv => whnf
      repeat (first | ((with_reducible apply Go.Vc.wr_i64); (focus exact And.intro (by omega) (by omega)); conv => whnf) | (refine Go.Vc.br_t ?_ ?_; (focus omega); conv => whnf) | (refine Go.Vc.br_f ?_ ?_; (focus omega); conv => whnf))
      rw [show (if ((s.size : Nat) : Int) < (f : Int) + 32768 then ((s.size : Nat) : Int) else (f : Int) + 32768) = (e : Nat) by split <;> omega]
      have hes : e = s.size := by omega
      conv => whnf
      refine Go.Vc.draw_intro [⟨0, false, false, false, 0⟩, ⟨1, false, false, false, 0⟩, ⟨2, false, false, false, 0⟩, ⟨4, false, true, false, 0⟩, ⟨5, false, true, false, 0⟩, ⟨6, false, true, false, 0⟩, ⟨7, false, true, false, 112⟩, ⟨9, false, true, false, 0⟩, ⟨10, false, true, false, 0⟩, ⟨3, true, false, true, 7⟩, ⟨8, false, false, false, 255⟩, ⟨11, true, false, false, 2047⟩] (hs := (fun _ => none)) (hsub := (fun _ _ h => nomatch h)) (hm := by kernel_rfl) (hpl := by kernel_rfl) ?_
      conv => whnf
      conv => whnf
      repeat (first | ((with_reducible refine And.intro (And.intro ?_ ?_) ?_); (focus omega); (focus omega); conv => whnf))
      refine (reftoks_spec s (from_ := (f : Nat)) (to := (e : Nat)) (by omega) (by omega) (by omega)).mono ?_
      rintro _ h2 t2 hd2 ht2 ⟨a, c, rfl, ho, hwo, hs3, _⟩
      rw [htk] at ho ⊢
      refine ⟨(fun _ _ h => by cases h), ?_⟩
      conv => whnf
      have hbk := block_len (n := bs.length) (s := s.extract f e) (last := 1) hok (by omega) (by omega)
      have hfin : bs ++ blockF bs.length (s.extract f e) (partsF s f (toks s f e)) 1 = packBits s := by
        rw [hes]
        unfold packBits
        rcases hpk with ⟨q1, q2⟩ | ⟨q1, q2, q3⟩
        · rw [q1, q2, if_neg (by omega)]; rfl
        · rw [if_pos q2, q1, q3]; rfl
      refine (rput_spec (W1.sub hs3) (by omega) s (f := f) (e := e) (last := 1) (by omega) (by omega) (by omega) (by omega) (by omega) (by omega) rfl ho.sl (fun _ b hb => ⟨by have := hwo b hb; omega, fun hc => by have := hwo b hb; have := hdl b hc; omega⟩)).mono ?_
      rintro _ h4 t4 hd4 ht4 ⟨rfl, d4, B4, f4, dd4, le4⟩
      have hsub : Vc.Sub h h4 := fun b o hb => f4 b o (by have := hd _ _ hb; omega) (fun hc => by have := hdt b hc; have := hd _ _ hb; omega) (hs3 _ _ (hs2 _ _ hb))
      have hd4' : ∀ b, d4 = some b → t ≤ b := fun b hb => by
        rcases dd4 with h | ⟨q, h, hq⟩
        · exact hdt b (h ▸ hb)
        · rw [h] at hb; cases hb; omega
      conv => whnf
      repeat (first | ((with_reducible apply Go.Vc.wr_i64); (focus exact And.intro (by omega) (by omega)); conv => whnf))
      refine round_end4 (f + 32768) (packBits s) d4 true (by simp; omega) ⟨rfl, rfl, rfl, trivial⟩ ⟨?_, by rw [← hfin]; exact B4, hd4', hsub, by omega, by omega, .inr ⟨rfl, rfl, by omega, by omega, by omega⟩⟩
      rw [← hfin, List.length_append]
      omega
  · obtain ⟨a4, c4, x4, o4, e4⟩ := id W1
    rw [hbe, ← packL_ints] at o4 x4
    have hpos : 0 < ((packL s).map (fun x => ((x.toNat : Nat) : Int))).length := by
      rw [packL_ints, packB_len]
      have := pack_pos s
      omega
    obtain ⟨b4, off4, rfl⟩ := Own.at o4 hpos
    conv => whnf
    repeat (first | ((with_reducible apply Go.Vc.ld_i); (focus ((repeat (first | with_reducible assumption | with_reducible exact Go.Vc.hset_same _ _ _ | with_reducible refine (Go.Vc.hset_ne _ _ (by omega)).trans ?_)); done)); (focus exact rfl); conv => whnf) | (refine Go.Vc.br_f ?_ ?_; (focus omega); conv => whnf))
    refine ⟨packL s, readB_sl o4.sl, ?_⟩
    conv => whnf
    repeat (first | ((with_reducible refine And.intro ?_ (And.intro ?_ ?_)); (focus exact rfl); (focus omega); conv => whnf))
    exact show t ≤ t1 by omega
end Go.Proofs.YtikpfffhcjlcjaaGreat
