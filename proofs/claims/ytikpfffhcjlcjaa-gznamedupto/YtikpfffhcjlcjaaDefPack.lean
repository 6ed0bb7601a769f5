import Derived.Test.YtikpfffhcjlcjaaDefMade
set_option linter.unusedSimpArgs false
namespace Go.Proofs.Ytikpfffhcjlcjaa
open Go Go.Vc Go.Dfl
set_option maxRecDepth 20000
set_option linter.unusedVariables false
def pieceF (s : ByteArray) (f e n last : Nat) : List Bool := blockF n (s.extract f e) (partsF s f (toks s f e)) last
def packBits (s : ByteArray) : List Bool :=
  if 32768 < s.size then pieceF s 0 32768 0 0 ++ pieceF s 32768 s.size (pieceF s 0 32768 0 0).length 1 else pieceF s 0 s.size 0 1
def packSt (s : ByteArray) (f : Nat) (bs : List Bool) : Prop := (f = 0 ∧ bs = []) ∨ (f = 32768 ∧ 32768 < s.size ∧ bs = pieceF s 0 32768 0 0)
def packL (s : ByteArray) : List UInt8 := (packB (packBits s)).map fun z => UInt8.ofNat z.toNat
def packS (s : ByteArray) : ByteArray := ⟨(packL s).toArray⟩
theorem packL_ints (s : ByteArray) : (packL s).map (fun x => ((x.toNat : Nat) : Int)) = packB (packBits s) := by
  unfold packL
  rw [List.map_map]
  refine (List.map_congr_left (g := id) fun x hx => ?_).trans (List.map_id _)
  have := packB_byte hx
  show (((UInt8.ofNat x.toNat).toNat : Nat) : Int) = x
  rw [UInt8.toNat_ofNat', Nat.mod_eq_of_lt (by omega)]
  omega
theorem tell_len {L B : List Int} (hL : Huf.err L = 0) (hB : Huf.err B = 0) : ∀ (ps : List Prt), (∀ p ∈ ps, PrtOk L B p) → (ps.flatMap (tellP L B)).length ≤ 70 * ps.length
  | [], _ => by simp
  | p :: l, hk => by
    have h1 := tellP_len hL hB (hk p (by simp))
    have h2 := tell_len hL hB l fun q hq => hk q (by simp [hq])
    rw [List.flatMap_cons, List.length_append, List.length_cons]
    omega
theorem one_len {ps : List Prt} (h : ∀ p ∈ ps, SymOk p) : oneL ps ≤ 70 * ps.length + 20 := by
  have h1 := tell_len fixedL_err fixedB_err ps fun p hp => (h p hp).fixed
  unfold oneL tellF
  rw [List.length_append, bitsH_len]
  have : (fixedL.getD 256 0).toNat = 7 := by decide +kernel
  omega
theorem block_len {n : Nat} {s : ByteArray} {ps : List Prt} {last : Nat} (h : ∀ p ∈ ps, SymOk p) (hs : s.size ≤ 32768) (hp : ps.length ≤ s.size) : (blockF n s ps last).length ≤ 70 * s.size + 60 := by
  have h1 := one_len h
  have hsk : skipOf n ≤ 7 := by unfold skipOf; omega
  unfold blockF
  rw [List.length_append, bitsL_len]
  split
  · simp only [List.length_append, bitsL_len, sBits_len]
    omega
  · split
    · rw [List.length_append, bitsL_len]
      show 1 + (2 + oneL ps) ≤ _
      omega
    · rw [List.length_append, bitsL_len]
      show 1 + (2 + twoL ps) ≤ _
      omega
theorem pack_spec {h : Heap} {t : Nat} (s : ByteArray) (hs : s.size ≤ 65536) :
    CallSpec Try.prog 20 #[.string s] h t (fun v h' t' => v = .string (packS s) ∧ Vc.Sub h h' ∧ t ≤ t') := by
  refine Go.Vc.spec_of_vc (fn := Try.f20) Try.func20 rfl (by kernel_rfl) (by kernel_rfl) (Nat.le_of_ble_eq_true rfl) ?_
  intro hd
  conv => whnf
  repeat (first | (intro _ _; conv => whnf))
  rename_i w hw
  have hs1 := hd.sub_new hw (.cells #[.slice none 0 0, .int .i64 0] 63)
  refine loop_intro3 (fun (f : Nat) (bs : List Bool) (d : Option Nat) => [(0, .string s), (3, .pointer (some ⟨w, 0, none⟩)), (4, .int .i64 (f : Nat))])
    (fun f bs d h' t' => f ≤ s.size ∧ f ≤ 32768 ∧ bs.length ≤ 100 * f ∧ Wr 63 h' w d bs ∧ (∀ b, d = some b → t ≤ b) ∧ Vc.Sub h h' ∧ w < t' ∧ t ≤ t' ∧ packSt s f bs) (fun f _ _ => s.size - f) 0 [] none ⟨rfl, rfl, rfl, trivial⟩
    ⟨by omega, by omega, by simp, ⟨none, 0, hset_same _ _ _, Own.nil _ _ _, rfl⟩, (fun b hb => by cases hb), hs1, by omega, by omega, .inl ⟨rfl, rfl⟩⟩ ?_
  rintro f bs d e1 g t1 hd1 ⟨hfs, hf3, hbl, W1, hdt, hs2, htw, ht1, hpk⟩
  obtain ⟨e, he⟩ : ∃ e, e = min (f + 32768) s.size := ⟨_, rfl⟩
  conv => whnf
  repeat (first | ((with_reducible apply Go.Vc.wr_i64); (focus exact And.intro (by omega) (by omega)); conv => whnf))
  rw [show (if ((s.size : Nat) : Int) < (f : Int) + 32768 then ((s.size : Nat) : Int) else (f : Int) + 32768) = (e : Nat) by split <;> omega]
  have hpl : (partsF s f (toks s f e)).length = (toks s f e).length := parts_len _ _ _
  have htl := toks_len s (to := e) (e - f) f (by omega)
  have hok := parts_ok (s := s) (to := e) (by omega) _ f (Nat.le_refl _)
  have hse : (s.extract f e).size = e - f := by rw [ByteArray.size_extract]; omega
  conv => whnf
  refine br (fun hb => ?_) (fun hb => ?_)
  · obtain rfl : e = s.size := by omega
    conv => whnf
    refine (made_spec s (f := f) (e := s.size) (by omega) (by omega) (by omega) (by omega) (by omega)).mono ?_
    rintro _ h2 t2 hd2 ht2 ⟨a, c, rfl, ho, hwo, hs3, _⟩
    have hwlt := W1.lt hd1
    have hdlt := W1.dlt hd1
    conv => whnf
    refine (bwrite_spec (W1.sub hs3) (by omega) (ps := partsF s f (toks s f s.size)) (pa := a) (pn := (toks s f s.size).length) (pc := c) (s := s.extract f s.size) (last := 1) (by omega) ho.sl (by omega) hok (fun _ b hb => ⟨by have := hwo b hb; omega, fun hc => by have := hwo b hb; have := hdlt b hc; omega⟩) (by omega)).mono ?_
    rintro _ h4 t4 hd4 ht4 ⟨rfl, d4, B4, f4, dd4, le4⟩
    have hbk := block_len (n := bs.length) (s := s.extract f s.size) (last := 1) hok (by omega) (by omega)
    have hsub : Vc.Sub h h4 := fun b o hb => f4 b o (by have := hd _ _ hb; omega) (fun hc => by have := hdt b hc; have := hd _ _ hb; omega) (hs3 _ _ (hs2 _ _ hb))
    have hfin : bs ++ blockF bs.length (s.extract f s.size) (partsF s f (toks s f s.size)) 1 = packBits s := by
      unfold packBits
      rcases hpk with ⟨rfl, rfl⟩ | ⟨rfl, h1, rfl⟩
      · rw [if_neg (by omega)]; rfl
      · rw [if_pos h1]; rfl
    rw [hfin] at B4
    obtain ⟨a4, c4, x4, o4, e4⟩ := B4
    rw [← packL_ints] at o4 x4
    have hpos : 0 < ((packL s).map (fun x => ((x.toNat : Nat) : Int))).length := by
      rw [packL_ints, packB_len, ← hfin, List.length_append]
      have : 1 ≤ (blockF bs.length (s.extract f s.size) (partsF s f (toks s f s.size)) 1).length := by
        unfold blockF
        rw [List.length_append, bitsL_len]
        omega
      omega
    obtain ⟨b4, off4, rfl⟩ := Own.at o4 hpos
    conv => whnf
    repeat (first | ((with_reducible apply Go.Vc.ld_i); (focus ((repeat (first | with_reducible assumption | with_reducible exact Go.Vc.hset_same _ _ _ | with_reducible refine (Go.Vc.hset_ne _ _ (by omega)).trans ?_)); done)); (focus exact rfl); conv => whnf) | (refine Go.Vc.br_t ?_ ?_; (focus omega); conv => whnf))
    refine ⟨packL s, readB_sl o4.sl, ?_⟩
    conv => whnf
    repeat (first | ((with_reducible refine And.intro ?_ (And.intro ?_ ?_)); (focus exact rfl); (focus omega); conv => whnf))
    exact show t ≤ t4 by omega
  · conv => whnf
    refine (made_spec s (f := f) (e := e) (by omega) (by omega) (by omega) (by omega) (by omega)).mono ?_
    rintro _ h2 t2 hd2 ht2 ⟨a, c, rfl, ho, hwo, hs3, _⟩
    have hwlt := W1.lt hd1
    have hdlt := W1.dlt hd1
    conv => whnf
    refine (bwrite_spec (W1.sub hs3) (by omega) (ps := partsF s f (toks s f e)) (pa := a) (pn := (toks s f e).length) (pc := c) (s := s.extract f e) (last := 0) (by omega) ho.sl (by omega) hok (fun _ b hb => ⟨by have := hwo b hb; omega, fun hc => by have := hwo b hb; have := hdlt b hc; omega⟩) (by omega)).mono ?_
    rintro _ h4 t4 hd4 ht4 ⟨rfl, d4, B4, f4, dd4, le4⟩
    have hbk := block_len (n := bs.length) (s := s.extract f e) (last := 0) hok (by omega) (by omega)
    have hsub : Vc.Sub h h4 := fun b o hb => f4 b o (by have := hd _ _ hb; omega) (fun hc => by have := hdt b hc; have := hd _ _ hb; omega) (hs3 _ _ (hs2 _ _ hb))
    conv => whnf
    repeat (first | ((with_reducible apply Go.Vc.wr_i64); (focus exact And.intro (by omega) (by omega)); conv => whnf) | (refine Go.Vc.br_f ?_ ?_; (focus omega); conv => whnf))
    have h0 : f = 0 ∧ bs = [] ∧ 32768 < s.size := by
      rcases hpk with ⟨h1, h2⟩ | ⟨h1, h2, _⟩
      · exact ⟨h1, h2, by omega⟩
      · omega
    obtain ⟨rfl, rfl, hbig⟩ := h0
    obtain rfl : e = 32768 := by omega
    refine round_end3 32768 (pieceF s 0 32768 0 0) d4 (by omega) ⟨rfl, rfl, rfl, trivial⟩ ⟨by omega, by omega, ?_, B4, ?_, hsub, by omega, by omega, .inr ⟨rfl, hbig, rfl⟩⟩
    · unfold pieceF
      have := hbk
      rw [List.length_nil] at this
      omega
    · rcases dd4 with h4 | ⟨r, h4, hr⟩
      · intro b hb; rw [h4] at hb; exact hdt b hb
      · intro b hb; rw [h4] at hb; cases hb; omega
end Go.Proofs.Ytikpfffhcjlcjaa
