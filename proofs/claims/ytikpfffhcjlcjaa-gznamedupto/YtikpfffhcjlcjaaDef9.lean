import Derived.Test.YtikpfffhcjlcjaaDef8
import Derived.Test.YtikpfffhcjlcjaaDefStore
set_option linter.unusedSimpArgs false
namespace Go.Proofs.Ytikpfffhcjlcjaa
open Go Go.Vc Go.Dfl
set_option maxRecDepth 20000
set_option linter.unusedVariables false
set_option maxHeartbeats 1000000
def oneL (ps : List Prt) : Nat := (tellF fixedL fixedB ps).length
def twoL (ps : List Prt) : Nat := (dynF ps).length
def skipOf (n : Nat) : Nat := (8 - (n + 1 + 2) % 8) % 8
def blockF (n : Nat) (s : ByteArray) (ps : List Prt) (last : Nat) : List Bool :=
  bitsL (last : Nat) 1 ++ (if skipOf n + 32 + 8 * s.size < min (oneL ps) (twoL ps) then bitsL 0 (2 + skipOf n) ++ bitsL (s.size : Nat) 16 ++ bitsL (65535 - (s.size : Nat)) 16 ++ sBits s
    else if oneL ps ≤ twoL ps then bitsL 1 2 ++ tellF fixedL fixedB ps else bitsL 2 2 ++ dynF ps)
theorem SymOk.fixed {p : Prt} (o : SymOk p) : PrtOk fixedL fixedB p := by
  obtain ⟨o1, o2, o3, o4, o5, o6⟩ := o
  have e1 : fixedL.length = 288 := by decide +kernel
  have e2 : fixedB.length = 32 := by decide +kernel
  exact ⟨by omega, o2, o3, fun h => by have := o4 h; omega, o5, o6⟩
def pick2 (h : Heap) (a b : Nat) : Heap := fun k => if k = a ∨ k = b then h k else none
theorem pick2_get {h : Heap} {a b k : Nat} {o : Obj} (hk : pick2 h a b k = some o) : h k = some o := by
  unfold pick2 at hk
  split at hk
  · exact hk
  · cases hk
theorem pick2_or {h : Heap} {a b k : Nat} {o : Obj} (hk : pick2 h a b k = some o) : k = a ∨ k = b := by
  unfold pick2 at hk
  split at hk
  · assumption
  · cases hk
theorem app_s8 {ty : TypeId} {h : Heap} {t : Nat} {a : Option Addr} {n c : Nat} {l : List Int} {s : ByteArray}
    (ho : Vc.Own h 5 a n c (Value.int .u8) l) (hl : ∀ x ∈ l, 0 ≤ x ∧ x ≤ 255) (hb : n + s.size ≤ 400000000) (hdm : Dom h t) {K : Value → Heap → Nat → Prop}
    (hK : ∀ a' c' h' t', Vc.Own h' 5 a' (n + s.size) c' (Value.int .u8) (l ++ s.data.toList.map fun x => ((x.toNat : Nat) : Int)) → t ≤ t' → Dom h' t' → (∀ k, k < t → owner a ≠ some k → h' k = h k) → (owner a' = owner a ∨ ∃ r, owner a' = some r ∧ t ≤ r) → K (.slice a' (n + s.size) c') h' t') :
    AppVC Try.prog #[39, 9] ty (.slice a n c) (.string s) K h t := by
  have hz : ∀ x ∈ l, (((UInt8.ofNat x.toNat).toNat : Nat) : Int) = x := fun x hx => by
    have := hl x hx
    rw [UInt8.toNat_ofNat', Nat.mod_eq_of_lt (by omega)]
    omega
  refine app_str (inf := Try.types[5]) Try.underlying39 Try.underlying9 rfl (by kernel_rfl) (by kernel_rfl) (ho.conv (g := bv) (fun z => UInt8.ofNat z.toNat) (fun x hx => by show Value.int .u8 x = Value.int .u8 _; rw [hz x hx])) (by
    show (n + s.size) * 1 ≤ 2 ^ 40
    omega) (by omega) (by show 1 ≤ 1000; decide) hdm ?_
  intro a' c' h' t' ho' h1 h2 h3 h4
  refine hK a' c' h' t' ?_ h1 h2 h3 h4
  have := ho'.conv (g := Value.int .u8) (fun x => ((x.toNat : Nat) : Int)) (fun x _ => rfl)
  rw [List.map_append, List.map_map] at this
  rw [show l.map ((fun x : UInt8 => ((x.toNat : Nat) : Int)) ∘ fun z => UInt8.ofNat z.toNat) = l from by
    exact (List.map_congr_left (g := id) (fun x hx => hz x hx)).trans (List.map_id l)] at this
  exact this
theorem bwrite_spec {h : Heap} {t w : Nat} {d : Option Nat} {bs : List Bool} (W : Wr 63 h w d bs) (hbl : bs.length ≤ 8000000) {s : ByteArray} {pa : Option Addr} {pn pc : Nat} {ps : List Prt} {last : Nat} (hlast : last ≤ 1)
    (hps : Sl h pa (pn * 7) id (ps.flatMap pcells)) (hpn : pn ≤ 100000) (hok : ∀ p ∈ ps, SymOk p) (f0 : 0 < pn → ∀ b, owner pa = some b → b ≠ w ∧ d ≠ some b) (hss : s.size ≤ 1000000) :
    CallSpec Try.prog 33 #[.agg #[.string s, .slice pa pn pc], .pointer (some ⟨w, 0, none⟩), .int .i64 (last : Nat)] h t (fun v h' t' => v = .tuple #[] ∧ WrTo 63 w h t d (bs ++ blockF bs.length s ps last) h' t') := by
  refine Go.Vc.spec_of_vc (fn := Try.f33) Try.func33 rfl (by kernel_rfl) (by kernel_rfl) (Nat.le_of_ble_eq_true rfl) ?_
  intro hd
  conv => whnf
  intro r3 hr3
  have hs3 := hd.sub_new hr3 (.cells #[.string s, .slice pa pn pc] 66)
  have hd3 := hd.set r3 (.cells #[.string s, .slice pa pn pc] 66) (r3 + 1) (by omega) (by omega)
  conv => whnf
  intro r6 hr6
  have hs6 := hd3.sub_new hr6 (.cells #[.slice none 0 0, .int .i64 0] 63)
  have hd6 := hd3.set r6 (.cells #[.slice none 0 0, .int .i64 0] 63) (r6 + 1) (by omega) (by omega)
  conv => whnf
  intro r7 hr7
  have hs7 := hd6.sub_new hr7 (.cells #[.slice none 0 0, .int .i64 0] 63)
  have hd7 := hd6.set r7 (.cells #[.slice none 0 0, .int .i64 0] 63) (r7 + 1) (by omega) (by omega)
  have hs0 := hs3.trans (hs6.trans hs7)
  have b3 := hs7 _ _ (hs6 _ _ (hset_same h r3 (.cells #[.string s, .slice pa pn pc] 66)))
  have W6 : Wr 63 (hset (hset (hset h r3 (.cells #[.string s, .slice pa pn pc] 66)) r6 (.cells #[.slice none 0 0, .int .i64 0] 63)) r7 (.cells #[.slice none 0 0, .int .i64 0] 63)) r6 none [] :=
    ⟨none, 0, hs7 _ _ (hset_same _ _ _), Own.nil _ _ _, rfl⟩
  have W7 : Wr 63 (hset (hset (hset h r3 (.cells #[.string s, .slice pa pn pc] 66)) r6 (.cells #[.slice none 0 0, .int .i64 0] 63)) r7 (.cells #[.slice none 0 0, .int .i64 0] 63)) r7 none [] :=
    ⟨none, 0, hset_same _ _ _, Own.nil _ _ _, rfl⟩
  have hpd : 0 < pn → ∀ b, owner pa = some b → b < t := fun h0 => sl_dom hps (by omega) hd
  have hwt := W.lt hd
  have hdt := W.dlt hd
  conv => whnf
  refine ldrow b3 rfl ?_
  rintro _ rfl
  conv => whnf
  refine (bfixed_spec W6 (by simp) (hps.sub hs0) hpn (fun p hp => (hok p hp).fixed) (fun h0 b hb => ⟨by have := hpd h0 b hb; omega, fun e => by cases e⟩)).mono ?_
  rintro _ h1 t1 hd1 ht1 ⟨rfl, d6, B6, f6, dd6, _⟩
  rw [List.nil_append] at B6
  have b3' := f6 _ _ (show r3 ≠ r6 by omega) (fun e => by cases e) b3
  have hs1 : Vc.Sub h h1 := fun k o hk => f6 k o (by have := hd _ _ hk; omega) (fun e => by cases e) (hs0 _ _ hk)
  have W7' : Wr 63 h1 r7 none [] := ⟨none, 0, f6 _ _ (by omega) (fun e => by cases e) (hset_same _ _ _), Own.nil _ _ _, rfl⟩
  conv => whnf
  refine ldrow b3' rfl ?_
  rintro _ rfl
  conv => whnf
  refine (dyn_spec W7' (by simp) (hps.sub hs1) hpn hok (fun h0 b hb => ⟨by have := hpd h0 b hb; omega, fun e => by cases e⟩)).mono ?_
  rintro _ h2 t2 hd2 ht2 ⟨rfl, d7, B7, f7, dd7, _⟩
  rw [List.nil_append] at B7
  have hs2 : Vc.Sub h h2 := fun k o hk => f7 k o (by have := hd _ _ hk; omega) (fun e => by cases e) (hs1 _ _ hk)
  have b32 := f7 _ _ (show r3 ≠ r7 by omega) (fun e => by cases e) b3'
  obtain ⟨a6, c6, x6, _, _⟩ := B6
  obtain ⟨a7, c7, x7, _, _⟩ := B7
  have x62 := f7 _ _ (show r6 ≠ r7 by omega) (fun e => by cases e) x6
  conv => whnf
  refine (bits_spec (W.sub hs2) (many := 1) (by omega) (by omega) (by omega)).mono ?_
  rintro _ h3 t3 hd3' ht3 ⟨rfl, V3⟩
  have K3 := WrTo.step hd (FrW.of_sub hs2) (.inl rfl) (show t ≤ t2 by omega) V3
  obtain ⟨d3, B3, f3, dd3, le3⟩ := id V3
  obtain ⟨d3', B3', f3', dd3', le3'⟩ := id K3
  obtain rfl := B3'.uniq B3
  have hdr : ∀ {r : Nat}, t ≤ r → d ≠ some r := fun hr e => by have := hdt _ e; omega
  have y3 := f3 _ _ (show r3 ≠ w by omega) (hdr (by omega)) b32
  have y6 := f3 _ _ (show r6 ≠ w by omega) (hdr (by omega)) x62
  have y7 := f3 _ _ (show r7 ≠ w by omega) (hdr (by omega)) x7
  obtain ⟨a3, c3, x3, _, _⟩ := id B3
  have hbl3 : (bs ++ bitsL (last : Nat) 1).length = bs.length + 1 := by rw [List.length_append, bitsL_len]
  rw [hbl3] at x3
  rw [show (tellF fixedL fixedB ps).length = oneL ps from rfl] at y6
  rw [show (dynF ps).length = twoL ps from rfl] at y7
  conv => whnf
  repeat (first | ((with_reducible apply Go.Vc.ld_i); (focus ((repeat (first | with_reducible assumption | with_reducible exact Go.Vc.hset_same _ _ _ | with_reducible refine (Go.Vc.hset_ne _ _ (by omega)).trans ?_)); done)); (focus exact rfl); conv => whnf) | ((with_reducible apply Go.Vc.wr_i64); (focus exact And.intro (by omega) (by omega)); conv => whnf) | ((with_reducible apply Go.Vc.rem_i); (focus omega); conv => whnf) | ((with_reducible refine And.intro ?_ (And.intro ?_ ?_)); (focus exact rfl); (focus omega); conv => whnf))
  refine Go.Vc.draw_intro [⟨0, false, false, false, 0⟩, ⟨1, false, false, false, 1⟩, ⟨2, false, false, false, 0⟩, ⟨3, false, false, false, 4⟩, ⟨4, false, false, false, 12⟩, ⟨5, false, false, false, 28⟩, ⟨6, false, false, false, 63⟩, ⟨7, false, false, false, 0⟩, ⟨8, false, false, false, 128⟩, ⟨9, false, false, false, 384⟩, ⟨10, false, false, false, 896⟩, ⟨11, false, false, false, 0⟩, ⟨12, false, false, false, 2048⟩, ⟨13, false, false, false, 6144⟩, ⟨14, false, false, false, 14336⟩, ⟨15, false, false, false, 32640⟩, ⟨16, false, false, false, 65535⟩] (hs := (fun _ => none)) (hsub := (fun _ _ h => nomatch h)) (hm := by kernel_rfl) (hpl := by kernel_rfl) ?_
  conv => whnf
  conv => whnf
  repeat (first | ((with_reducible apply Go.Vc.ld_i); (focus ((repeat (first | with_reducible assumption | with_reducible exact Go.Vc.hset_same _ _ _ | with_reducible refine (Go.Vc.hset_ne _ _ (by omega)).trans ?_)); done)); (focus exact rfl); conv => whnf) | ((with_reducible apply Go.Vc.wr_i64); (focus exact And.intro (by omega) (by omega)); conv => whnf))
  refine br (fun hst => ?_) (fun hst => ?_)
  · have hst' : skipOf bs.length + 32 + 8 * s.size < min (oneL ps) (twoL ps) := by unfold skipOf; omega
    have hsk : skipOf bs.length ≤ 7 := by unfold skipOf; omega
    conv => whnf
    repeat (first | ((with_reducible apply Go.Vc.wr_i64); (focus exact And.intro (by omega) (by omega)); conv => whnf))
    rw [show (2 : Int) + (8 - (((bs.length + 1 : Nat) : Int) + 2) % 8) % 8 = ((2 + skipOf bs.length : Nat) : Int) by unfold skipOf; omega]
    refine (bits_spec B3 (n := 0) (many := 2 + skipOf bs.length) (by omega) (by rw [hbl3]; omega) (by omega)).mono ?_
    rintro _ h4 t4 hd4 ht4 ⟨rfl, V4⟩
    obtain ⟨d4, B4, f4, dd4, le4⟩ := id V4
    obtain ⟨d4', B4', f4', dd4', le4'⟩ := WrTo.step hd f3' dd3' le3' V4
    obtain rfl := B4'.uniq B4
    have dn : ∀ {d1 d2 : Option Nat} {g : Heap} {u : Nat} {x : Obj}, Dom g u → g r3 = some x → d1 ≠ some r3 → (d2 = d1 ∨ ∃ r, d2 = some r ∧ u ≤ r) → d2 ≠ some r3 := fun hg hx h1 h2 e => by
      rcases h2 with h2 | ⟨r, h2, hr⟩
      · exact h1 (h2 ▸ e)
      · rw [h2] at e; cases e
        have := hg _ _ hx
        omega
    have d3n : d3' ≠ some r3 := dn hd2 b32 (hdr (by omega)) dd3
    have z3 := f4 _ _ (show r3 ≠ w by omega) d3n y3
    have d4n : d4' ≠ some r3 := dn hd3' y3 d3n dd4
    conv => whnf
    repeat (first | ((with_reducible apply Go.Vc.ld_i); (focus ((repeat (first | with_reducible assumption | with_reducible exact Go.Vc.hset_same _ _ _ | with_reducible refine (Go.Vc.hset_ne _ _ (by omega)).trans ?_)); done)); (focus exact rfl); conv => whnf))
    refine (bits_spec B4 (n := (s.size : Nat)) (many := 16) (by omega) (by rw [List.length_append, hbl3, bitsL_len]; omega) (by omega)).mono ?_
    rintro _ h5 t5 hd5 ht5 ⟨rfl, V5⟩
    obtain ⟨d5, B5, f5, dd5, le5⟩ := id V5
    obtain ⟨d5', B5', f5', dd5', le5'⟩ := WrTo.step hd f4' dd4' le4' V5
    obtain rfl := B5'.uniq B5
    have z5 := f5 _ _ (show r3 ≠ w by omega) d4n z3
    have d5n : d5' ≠ some r3 := dn hd4 z3 d4n dd5
    conv => whnf
    repeat (first | ((with_reducible apply Go.Vc.ld_i); (focus ((repeat (first | with_reducible assumption | with_reducible exact Go.Vc.hset_same _ _ _ | with_reducible refine (Go.Vc.hset_ne _ _ (by omega)).trans ?_)); done)); (focus exact rfl); conv => whnf))
    refine not_i64 (by omega) ?_
    conv => whnf
    rw [show -((s.size : Nat) : Int) - 1 = -((s.size : Nat) : Int) - 1 from rfl]
    refine (bits_spec B5 (n := -((s.size : Nat) : Int) - 1) (many := 16) (by omega) (by rw [List.length_append, List.length_append, hbl3, bitsL_len, bitsL_len]; omega) (by omega)).mono ?_
    rintro _ h6 t6 hd6' ht6 ⟨rfl, V6⟩
    rw [dbit_16] at V6
    obtain ⟨d6, B6, f6', dd6', le6⟩ := id V6
    obtain ⟨d6', B6', f6'', dd6'', le6'⟩ := WrTo.step hd f5' dd5' le5' V6
    obtain rfl := B6'.uniq B6
    have z6 := f6' _ _ (show r3 ≠ w by omega) d5n z5
    have d6n : d6' ≠ some r3 := dn hd5 z5 d5n dd6'
    conv => whnf
    refine Go.Vc.draw_intro [⟨0, false, true, false, 0⟩, ⟨1, false, false, false, 0⟩, ⟨2, false, false, false, 2⟩, ⟨3, false, false, false, 6⟩, ⟨4, false, false, false, 14⟩, ⟨5, false, false, false, 0⟩, ⟨6, false, false, false, 32⟩, ⟨7, true, false, true, 126⟩, ⟨8, false, false, false, 255⟩, ⟨9, false, false, false, 511⟩, ⟨10, true, false, false, 1023⟩] (hs := (pick2 h6 r3 w)) (hsub := (fun _ _ => pick2_get)) (hm := by kernel_rfl) (hpl := by kernel_rfl) ?_
    conv => whnf
    have hl6 : (bs ++ bitsL (last : Nat) 1 ++ bitsL 0 (2 + skipOf bs.length) ++ bitsL (s.size : Nat) 16 ++ bitsL (65535 - (s.size : Nat)) 16).length = bs.length + 1 + (2 + skipOf bs.length) + 16 + 16 := by
      simp only [List.length_append, bitsL_len]
    have hm6 : (bs.length + 1 + (2 + skipOf bs.length) + 16 + 16) % 8 = 0 := by unfold skipOf; omega
    have hF : bs ++ blockF bs.length s ps last = bs ++ bitsL (last : Nat) 1 ++ bitsL 0 (2 + skipOf bs.length) ++ bitsL (s.size : Nat) 16 ++ bitsL (65535 - (s.size : Nat)) 16 ++ sBits s := by
      unfold blockF
      rw [if_pos hst']
      simp only [List.append_assoc]
    rw [hF]
    generalize bs ++ bitsL (last : Nat) 1 ++ bitsL 0 (2 + skipOf bs.length) ++ bitsL (s.size : Nat) 16 ++ bitsL (65535 - (s.size : Nat)) 16 = b6 at *
    obtain ⟨a6', c6', x6', o6, e6⟩ := id B6
    have p6 := packB_len b6
    conv => whnf
    repeat (first | ((with_reducible apply Go.Vc.ld_i); (focus ((repeat (first | with_reducible assumption | with_reducible exact Go.Vc.hset_same _ _ _ | with_reducible refine (Go.Vc.hset_ne _ _ (by omega)).trans ?_)); done)); (focus exact rfl); conv => whnf))
    refine app_s8 o6 (fun x hx => packB_byte hx) (by omega) hd6' ?_
    intro a9 c9 h9 t9 o9 ht9 hd9 hk9 hown9
    have hw6 : w < t6 := hd6' _ _ x6'
    have h36 : r3 < t6 := hd6' _ _ z6
    have x9 : h9 w = _ := (hk9 w hw6 (own_ne o6 x6' (by decide))).trans x6'
    have z9 : h9 r3 = _ := (hk9 r3 h36 (own_ne o6 z6 (by decide))).trans z6
    conv => whnf
    refine ⟨fun k o hk => ?_, ?_⟩
    · rcases pick2_or hk with e | e
      · have h1 := pick2_get hk
        rw [e] at h1 ⊢
        rw [z9, ← z6]; exact h1
      · have h1 := pick2_get hk
        rw [e] at h1 ⊢
        rw [x9, ← x6']; exact h1
    conv => whnf
    repeat (first | ((with_reducible apply Go.Vc.st_i); (focus ((repeat (first | with_reducible assumption | with_reducible exact Go.Vc.hset_same _ _ _ | with_reducible refine (Go.Vc.hset_ne _ _ (by omega)).trans ?_)); done)); (focus exact rfl); (focus exact rfl); (focus exact rfl); (conv => whnf); intro cA hcA; (first | (simp only [List.setIfInBounds_toArray, List.set_cons_succ, List.set_cons_zero] at hcA; subst hcA) | subst hcA); conv => whnf))
    have z10 : hset h9 w (.cells #[.slice a9 ((packB b6).length + s.size) c9, .int .i64 (b6.length : Nat)] 63 (0, 0)) r3 = _ := (hset_ne _ _ (show r3 ≠ w by omega)).trans z9
    refine Go.Vc.draw_intro [⟨0, false, false, false, 0⟩, ⟨1, false, false, false, 1⟩, ⟨2, false, false, false, 3⟩, ⟨3, false, false, false, 7⟩, ⟨4, false, false, false, 0⟩, ⟨5, false, false, false, 16⟩, ⟨6, false, false, false, 48⟩, ⟨7, false, false, false, 112⟩, ⟨8, false, false, false, 255⟩, ⟨9, false, false, false, 511⟩, ⟨10, false, false, false, 1023⟩, ⟨11, true, false, false, 2047⟩] (hs := (fun _ => none)) (hsub := (fun _ _ h => nomatch h)) (hm := by kernel_rfl) (hpl := by kernel_rfl) ?_
    conv => whnf
    conv => whnf
    repeat (first | ((with_reducible apply Go.Vc.ld_i); (focus ((repeat (first | with_reducible assumption | with_reducible exact Go.Vc.hset_same _ _ _ | with_reducible refine (Go.Vc.hset_ne _ _ (by omega)).trans ?_)); done)); (focus exact rfl); conv => whnf) | ((with_reducible apply Go.Vc.st_i); (focus ((repeat (first | with_reducible assumption | with_reducible exact Go.Vc.hset_same _ _ _ | with_reducible refine (Go.Vc.hset_ne _ _ (by omega)).trans ?_)); done)); (focus exact rfl); (focus exact rfl); (focus exact rfl); (conv => whnf); intro cA hcA; (first | (simp only [List.setIfInBounds_toArray, List.set_cons_succ, List.set_cons_zero] at hcA; subst hcA) | subst hcA); conv => whnf) | ((with_reducible apply Go.Vc.wr_i64); (focus exact And.intro (by omega) (by omega)); conv => whnf))
    have hpl : (packB (b6 ++ sBits s)).length = (packB b6).length + s.size := by
      rw [packB_store (by omega), List.length_append, List.length_map, Array.length_toList]
      rfl
    have hbl9 : (b6 ++ sBits s).length = b6.length + 8 * s.size := by rw [List.length_append, sBits_len]
    have hnw := own_ne o9 x9 (by decide)
    refine ⟨rfl, owner a9, ⟨a9, c9, ?_, ?_, rfl⟩, fun k o h1 h2 h3 => ?_, ?_, ?_⟩
    · rw [hpl, hbl9]
      exact hset_same _ _ _
    · rw [hpl, packB_store (by omega)]
      refine Own.fr o9 fun b x hb hx => ?_
      have hbw : b ≠ w := fun e => hnw (by rw [hb, e])
      rw [hset_ne _ _ hbw, hset_ne _ _ hbw]
      exact hx
    · rw [hset_ne _ _ h1, hset_ne _ _ h1]
      have hk6 := f6'' k o h1 h2 h3
      rw [hk9 k (hd6' _ _ hk6) (fun e => ?_)]
      · exact hk6
      · have hkt := hd _ _ h3
        rcases dd6'' with h4 | ⟨r, h4, hr⟩
        · exact h2 (by rw [← h4, ← e6]; exact e)
        · rw [e6, h4] at e; cases e; omega
    · rcases hown9 with h4 | ⟨r, h4, hr⟩
      · rw [h4, e6]
        exact dd6''
      · exact .inr ⟨r, h4, by omega⟩
    · omega
  have hns : ¬ skipOf bs.length + 32 + 8 * s.size < min (oneL ps) (twoL ps) := by unfold skipOf; omega
  conv => whnf
  refine Go.Vc.draw_intro [⟨0, false, false, false, 0⟩, ⟨1, false, false, false, 1⟩, ⟨2, false, false, false, 3⟩, ⟨3, false, false, false, 7⟩, ⟨4, false, false, false, 0⟩, ⟨5, false, false, false, 16⟩, ⟨6, false, false, false, 48⟩, ⟨7, false, false, false, 112⟩, ⟨8, false, false, false, 255⟩] (hs := (fun _ => none)) (hsub := (fun _ _ h => nomatch h)) (hm := by kernel_rfl) (hpl := by kernel_rfl) ?_
  conv => whnf
  conv => whnf
  repeat (first | ((with_reducible apply Go.Vc.ld_i); (focus ((repeat (first | with_reducible assumption | with_reducible exact Go.Vc.hset_same _ _ _ | with_reducible refine (Go.Vc.hset_ne _ _ (by omega)).trans ?_)); done)); (focus exact rfl); conv => whnf))
  refine br (fun hb => ?_) (fun hb => ?_)
  · conv => whnf
    refine (bits_spec B3 (n := 1) (many := 2) (by omega) (by rw [hbl3]; omega) (by omega)).mono ?_
    rintro _ h4 t4 hd4 ht4 ⟨rfl, V4⟩
    obtain ⟨d4, B4, f4, dd4, le4⟩ := id V4
    obtain ⟨d4', B4', f4', dd4', le4'⟩ := WrTo.step hd f3' dd3' le3' V4
    obtain rfl := B4'.uniq B4
    have d3n : d3' ≠ some r3 := fun e => by
      rcases dd3 with h1 | ⟨r, h1, hr⟩
      · exact hdr (show t ≤ r3 by omega) (h1 ▸ e)
      · rw [h1] at e; cases e
        have := hd2 _ _ b32
        omega
    have z3 := f4 _ _ (show r3 ≠ w by omega) d3n y3
    have d4n : d4' ≠ some r3 := fun e => by
      rcases dd4 with h1 | ⟨r, h1, hr⟩
      · exact d3n (h1 ▸ e)
      · rw [h1] at e; cases e
        have := hd3' _ _ y3
        omega
    conv => whnf
    refine ldrow z3 rfl ?_
    rintro _ rfl
    conv => whnf
    refine (bfixed_spec B4 (by rw [List.length_append, hbl3, bitsL_len]; omega) (sl_frW hps (fun h0 => f0 (by omega)) f4') hpn (fun p hp => (hok p hp).fixed) (fun h0 b hb => ⟨(f0 h0 b hb).1, fun e => ?_⟩)).mono ?_
    · have hbt := hpd h0 b hb
      rcases dd4' with h1 | ⟨r, h1, hr⟩
      · exact (f0 h0 b hb).2 (h1 ▸ e)
      · rw [h1] at e; cases e; omega
    rintro _ h5 t5 hd5 ht5 ⟨rfl, V5⟩
    have V6 := WrTo.step hd f4' dd4' le4' V5
    conv => whnf
    refine ⟨rfl, ?_⟩
    unfold blockF
    rw [if_neg hns, if_pos (by omega)]
    simp only [List.append_assoc] at V6 ⊢
    exact V6
  · conv => whnf
    refine (bits_spec B3 (n := 2) (many := 2) (by omega) (by rw [hbl3]; omega) (by omega)).mono ?_
    rintro _ h4 t4 hd4 ht4 ⟨rfl, V4⟩
    obtain ⟨d4, B4, f4, dd4, le4⟩ := id V4
    obtain ⟨d4', B4', f4', dd4', le4'⟩ := WrTo.step hd f3' dd3' le3' V4
    obtain rfl := B4'.uniq B4
    have d3n : d3' ≠ some r3 := fun e => by
      rcases dd3 with h1 | ⟨r, h1, hr⟩
      · exact hdr (show t ≤ r3 by omega) (h1 ▸ e)
      · rw [h1] at e; cases e
        have := hd2 _ _ b32
        omega
    have z3 := f4 _ _ (show r3 ≠ w by omega) d3n y3
    conv => whnf
    refine ldrow z3 rfl ?_
    rintro _ rfl
    conv => whnf
    refine (dyn_spec B4 (by rw [List.length_append, hbl3, bitsL_len]; omega) (sl_frW hps (fun h0 => f0 (by omega)) f4') hpn hok (fun h0 b hb => ⟨(f0 h0 b hb).1, fun e => ?_⟩)).mono ?_
    · have hbt := hpd h0 b hb
      rcases dd4' with h1 | ⟨r, h1, hr⟩
      · exact (f0 h0 b hb).2 (h1 ▸ e)
      · rw [h1] at e; cases e; omega
    rintro _ h5 t5 hd5 ht5 ⟨rfl, V5⟩
    have V6 := WrTo.step hd f4' dd4' le4' V5
    conv => whnf
    refine ⟨rfl, ?_⟩
    unfold blockF
    rw [if_neg hns, if_neg (by omega)]
    simp only [List.append_assoc] at V6 ⊢
    exact V6
theorem readB_sl {h : Heap} {b off n : Nat} {l : List UInt8} (s : Sl h (some ⟨b, off, none⟩) n (Value.int .u8) (l.map fun x => ((x.toNat : Nat) : Int))) : ReadB h ⟨b, off, none⟩ n l := by
  obtain ⟨hl, hs⟩ := s
  rw [List.length_map] at hl
  refine ⟨hl, fun i hi => ?_⟩
  obtain ⟨b', off', cs, T, fr, ha, hb, hc⟩ := hs (by omega)
  cases ha
  have h1 := hc i (by rw [List.length_map]; omega)
  rw [addr_add]
  refine ⟨cs, T, fr, hb, rfl, ?_⟩
  rw [h1]
  simp [List.getD_eq_getElem?_getD, List.getElem?_eq_getElem (show i < l.length by omega)]
end Go.Proofs.Ytikpfffhcjlcjaa
