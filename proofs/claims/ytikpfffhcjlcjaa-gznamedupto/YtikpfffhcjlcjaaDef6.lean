import Derived.Test.YtikpfffhcjlcjaaDefLib
import Derived.Test.YtikpfffhcjlcjaaHuffPlain
import Derived.Test.YtikpfffhcjlcjaaHuff9
set_option linter.unusedSimpArgs false
namespace Go.Proofs.Ytikpfffhcjlcjaa
open Go Go.Vc Go.Dfl
set_option maxRecDepth 20000
set_option linter.unusedVariables false
theorem Wr.sub {T : TypeId} {h h' : Heap} {w : Nat} {d : Option Nat} {bs : List Bool} (B : Wr T h w d bs) (hs : Vc.Sub h h') : Wr T h' w d bs := by
  obtain ⟨a, c, h1, h2, h3⟩ := B
  exact ⟨a, c, hs _ _ h1, Own.fr h2 fun b x _ hx => hs b x hx, h3⟩
theorem WrTo.sub {T : TypeId} {h h' h'' : Heap} {t t' t'' w : Nat} {d : Option Nat} {bs : List Bool} (B : WrTo T w h t d bs h' t') (hs : Vc.Sub h' h'') (ht : t' ≤ t'') : WrTo T w h t d bs h'' t'' := by
  obtain ⟨d', h1, h2, h3, h4⟩ := B
  exact ⟨d', h1.sub hs, fun k o a b c => hs k o (h2 k o a b c), h3, by omega⟩
theorem Wr.dlt {T : TypeId} {h : Heap} {t w : Nat} {d : Option Nat} {bs : List Bool} (B : Wr T h w d bs) (hd : Dom h t) : ∀ b, d = some b → b < t := fun b hb => by
  obtain ⟨a, c, h1, h2, rfl⟩ := B
  obtain ⟨cs, fr, hh⟩ := own_tag h2 hb
  exact hd _ _ hh
theorem Wr.uniq {T : TypeId} {h : Heap} {w : Nat} {d d' : Option Nat} {bs bs' : List Bool} (B : Wr T h w d bs) (B' : Wr T h w d' bs') : d = d' := by
  obtain ⟨a, c, h1, _, rfl⟩ := B
  obtain ⟨a', c', h1', _, rfl⟩ := B'
  rw [h1] at h1'
  simp only [Option.some.injEq, Obj.cells.injEq] at h1'
  have := h1'.1
  simp at this
  rw [this.1.1]
theorem FrW.of_sub {w : Nat} {d : Option Nat} {h h' : Heap} (hs : Vc.Sub h h') : FrW w d h h' := fun k o _ _ ho => hs k o ho
theorem sl_frW {α : Type} {h h' : Heap} {w : Nat} {d : Option Nat} {a : Option Addr} {n : Nat} {f : α → Value} {l : List α} (s : Sl h a n f l) (hk : 0 < n → ∀ b, owner a = some b → b ≠ w ∧ d ≠ some b) (fr : FrW w d h h') : Sl h' a n f l := by
  refine ⟨s.1, fun hn => ?_⟩
  obtain ⟨b, off, cs, T, ff, e1, e2, e3⟩ := s.2 hn
  have := hk hn b (by rw [e1]; rfl)
  exact ⟨b, off, cs, T, ff, e1, fr b _ this.1 this.2 e2, e3⟩
theorem sl_dom {α : Type} {h : Heap} {t : Nat} {a : Option Addr} {n : Nat} {f : α → Value} {l : List α} (s : Sl h a n f l) (hn : 0 < n) (hd : Dom h t) : ∀ b, owner a = some b → b < t := fun b hb => by
  obtain ⟨b', off, cs, T, ff, e1, e2, e3⟩ := s.2 hn
  rw [e1] at hb
  have e : some b' = some b := hb
  cases e
  exact hd _ _ e2
structure Prt where
  sym : Nat
  v : Nat
  n : Nat
  sym2 : Nat
  v2 : Nat
  n2 : Nat
  plain : Bool
def pcells (p : Prt) : List Value := [.int .i64 (p.sym : Nat), .int .i64 (p.v : Nat), .int .i64 (p.n : Nat), .int .i64 (p.sym2 : Nat), .int .i64 (p.v2 : Nat), .int .i64 (p.n2 : Nat), .bool p.plain]
theorem pcells_len (p : Prt) : (pcells p).length = 7 := rfl
def tellP (L B : List Int) (p : Prt) : List Bool :=
  bitsH (Huf.codeAt L p.sym) (L.getD p.sym 0).toNat ++ bitsL (p.v : Nat) p.n ++ (if p.plain then [] else bitsH (Huf.codeAt B p.sym2) (B.getD p.sym2 0).toNat ++ bitsL (p.v2 : Nat) p.n2)
def tellF (L B : List Int) (ps : List Prt) : List Bool := ps.flatMap (tellP L B) ++ bitsH (Huf.codeAt L 256) (L.getD 256 0).toNat
structure PrtOk (L B : List Int) (p : Prt) : Prop where
  s1 : p.sym < L.length
  n1 : p.n ≤ 20
  v1 : p.v ≤ 1000000
  s2 : p.plain = false → p.sym2 < B.length
  n2 : p.n2 ≤ 20
  v2 : p.v2 ≤ 1000000
theorem bitsH_len (n : Int) (m : Nat) : (bitsH n m).length = m := by simp [bitsH]
theorem bitsL_len (n : Int) (m : Nat) : (bitsL n m).length = m := by simp [bitsL]
theorem err_get {L : List Int} (h : Huf.err L = 0) {i : Nat} (hi : i < L.length) : ∃ m : Nat, L[i]? = some (m : Int) ∧ m ≤ 15 ∧ (L.getD i 0).toNat = m := by
  have hg := (Huf.err_zero h).2.1
  rw [List.all_eq_true] at hg
  have h1 := Huf.good_iff.1 (hg _ (List.getElem_mem hi))
  obtain ⟨m, hm⟩ := Int.eq_ofNat_of_zero_le h1.1
  refine ⟨m, by rw [List.getElem?_eq_getElem hi, hm], by omega, by rw [List.getD_eq_getElem?_getD, List.getElem?_eq_getElem hi, hm]; rfl⟩
theorem tellP_len {L B : List Int} (hL : Huf.err L = 0) (hB : Huf.err B = 0) {p : Prt} (ok : PrtOk L B p) : (tellP L B p).length ≤ 70 := by
  obtain ⟨m, _, hm, e⟩ := err_get hL ok.s1
  have h1 := ok.n1
  have h2 := ok.n2
  unfold tellP
  rw [e]
  cases hp : p.plain
  · obtain ⟨m2, _, hm2, e2⟩ := err_get hB (ok.s2 hp)
    rw [e2]
    simp only [List.length_append, bitsH_len, bitsL_len, Bool.false_eq_true, if_false]
    omega
  · simp only [List.length_append, bitsH_len, bitsL_len, if_true, List.length_nil]
    omega
theorem btell_spec {h : Heap} {t w : Nat} {d : Option Nat} {bs : List Bool} (W : Wr 63 h w d bs) (hbl : bs.length ≤ 10000000) {s : ByteArray} {pa a1 a2 : Option Addr} {pn pc n1 c1 n2 c2 : Nat} {ps : List Prt} {L B : List Int}
    (hps : Sl h pa (pn * 7) id (ps.flatMap pcells)) (hpn : pn ≤ 100000) (s1 : Sl h a1 n1 (Value.int .i64) L) (s2 : Sl h a2 n2 (Value.int .i64) B) (hL : Huf.err L = 0) (hB : Huf.err B = 0) (h256 : 256 < L.length) (hok : ∀ p ∈ ps, PrtOk L B p)
    (f0 : 0 < pn → ∀ b, owner pa = some b → b ≠ w ∧ d ≠ some b) (f1 : ∀ b, owner a1 = some b → b ≠ w ∧ d ≠ some b) (f2 : ∀ b, owner a2 = some b → b ≠ w ∧ d ≠ some b) :
    CallSpec Try.prog 70 #[.agg #[.string s, .slice pa pn pc], .pointer (some ⟨w, 0, none⟩), .slice a1 n1 c1, .slice a2 n2 c2] h t (fun v h' t' => v = .tuple #[] ∧ WrTo 63 w h t d (bs ++ tellF L B ps) h' t') := by
  have hl1 := s1.1
  have hl2 := s2.1
  have hpl : ps.length = pn := by
    have := hps.1
    rw [flat_len pcells_len] at this
    omega
  have hL3 := Huf.err_zero hL
  have hB3 := Huf.err_zero hB
  refine Go.Vc.spec_of_vc (fn := Try.f70) Try.func70 rfl (by kernel_rfl) (by kernel_rfl) (Nat.le_of_ble_eq_true rfl) ?_
  intro hd
  conv => whnf
  intro r4 hr4
  have hs4 := hd.sub_new hr4 (.cells #[.string s, .slice pa pn pc] 66)
  conv => whnf
  refine (codes_spec (s1.sub hs4) (by omega)).mono ?_
  rintro _ g1 u1 hg1 hu1 ⟨ca, cn, rfl, hs5, oc, hwc⟩
  rw [if_pos hL] at oc
  conv => whnf
  refine (codes_spec (s2.sub (hs4.trans hs5)) (by omega)).mono ?_
  rintro _ g2 u2 hg2 hu2 ⟨da, dn, rfl, hs6, od, hwd⟩
  rw [if_pos hB] at od
  have hsg : Vc.Sub h g2 := hs4.trans (hs5.trans hs6)
  have r4g : g2 r4 = some (.cells #[.string s, .slice pa pn pc] 66 (0, 0)) := hs6 _ _ (hs5 _ _ (hset_same _ _ _))
  have W2 := W.sub hsg
  have hwt := W.lt hd
  have hdt := W.dlt hd
  have oc2 := Own.fr oc fun b x _ hx => hs6 b x hx
  conv => whnf
  repeat (first | ((with_reducible apply Go.Vc.ld_i); (focus ((repeat (first | with_reducible assumption | with_reducible exact Go.Vc.hset_same _ _ _ | with_reducible refine (Go.Vc.hset_ne _ _ (by omega)).trans ?_)); done)); (focus exact rfl); conv => whnf))
  have ec := oc.1
  rw [Huf.codes_length, hl1] at ec
  subst ec
  have ed := od.1
  rw [Huf.codes_length, hl2] at ed
  subst ed
  have hps2 := hps.sub hsg
  have s1g := s1.sub hsg
  have s2g := s2.sub hsg
  have fc : ∀ b, owner ca = some b → b ≠ w ∧ d ≠ some b := fun b hb => by
    have := hwc b hb
    exact ⟨by omega, fun e => by have := hdt b e; omega⟩
  have fd : ∀ b, owner da = some b → b ≠ w ∧ d ≠ some b := fun b hb => by
    have := hwd b hb
    exact ⟨by omega, fun e => by have := hdt b e; omega⟩
  have f4 : d ≠ some r4 := fun e => by have := hdt r4 e; omega
  have htp : ∀ (l : List Prt), (∀ p ∈ l, PrtOk L B p) → (l.flatMap (tellP L B)).length ≤ 70 * l.length := fun l => by
    induction l with
    | nil => intro _; simp
    | cons p l ih =>
      intro hk
      have h1 := tellP_len hL hB (hk p (by simp))
      have h2 := ih fun q hq => hk q (by simp [hq])
      rw [List.flatMap_cons, List.length_append, List.length_cons]
      omega
  refine loop_intro (fun i : Nat => [(1, .pointer (some ⟨w, 0, none⟩)), (2, .slice a1 n1 c1), (3, .slice a2 n2 c2), (4, .pointer (some ⟨r4, 0, none⟩)), (8, .slice ca n1 n1), (10, .slice da n2 n2), (25, .slice pa pn pc), (26, .int .i64 (pn : Nat)), (27, .int .i64 (i : Nat))])
    (fun i h' t' => i ≤ pn ∧ WrTo 63 w g2 u2 d (bs ++ (ps.take i).flatMap (tellP L B)) h' t') (fun i => pn - i) 0 ⟨rfl, rfl, rfl, rfl, rfl, rfl, rfl, rfl, rfl, trivial⟩
    ⟨by omega, by simpa using W2.start⟩ ?_
  rintro i e g t1 hd1 ⟨hi, d1, W1, fr1, hdd, ht1⟩
  have sp := sl_frW hps2 (fun h => f0 (by omega)) fr1
  have sl1' := sl_frW s1g (fun _ => f1) fr1
  have sl2' := sl_frW s2g (fun _ => f2) fr1
  have slc := sl_frW (oc2.sl) (fun _ => fc) fr1
  have sld := sl_frW (od.sl) (fun _ => fd) fr1
  have hbt := htp (ps.take i) fun p hp => hok p (List.mem_of_mem_take hp)
  rw [List.length_take] at hbt
  conv => whnf
  refine br (fun hb => ?_) (fun hb => ?_)
  · obtain ⟨p, bP, offP, hp, haP, hrow⟩ := slW_row (i := i) pcells_len sp (by decide) (by omega)
    subst haP
    have hpo := hok p (List.mem_of_getElem? hp)
    have htk : bs ++ (ps.take (i + 1)).flatMap (tellP L B) = bs ++ (ps.take i).flatMap (tellP L B) ++ tellP L B p := by
      rw [List.take_add_one, hp, List.flatMap_append, List.append_assoc]
      simp
    obtain ⟨m1, hm1, hm15, em1⟩ := err_get hL hpo.s1
    obtain ⟨o1, o2, o3, o4, o5, o6⟩ := hpo
    conv => whnf
    repeat (first | ((with_reducible apply Go.Vc.own_ix); (focus exact And.intro (by omega) (by omega)); conv => whnf))
    refine hrow.row (W := 7) rfl (by decide) ?_
    conv => whnf
    repeat (first | ((with_reducible apply Go.Vc.strow); (focus ((repeat (first | with_reducible assumption | with_reducible exact Go.Vc.hset_same _ _ _ | with_reducible refine (Go.Vc.hset_ne _ _ (by omega)).trans ?_)); done)); (focus exact rfl); (focus exact rfl); (focus exact rfl); rintro _ rfl; conv => whnf) | (intro _ _; conv => whnf))
    rename_i rb hrb
    have hX := hset_same (hset g rb (.cells #[.int .i64 0, .int .i64 0, .int .i64 0, .int .i64 0, .int .i64 0, .int .i64 0, .bool false] 94)) rb (.cells (pcells p).toArray 94)
    have hsX : Vc.Sub g (hset (hset g rb (.cells #[.int .i64 0, .int .i64 0, .int .i64 0, .int .i64 0, .int .i64 0, .int .i64 0, .bool false] 94)) rb (.cells (pcells p).toArray 94)) := fun k o hk => by
      have := hd1 _ _ hk
      rw [hset_ne _ _ (by omega), hset_ne _ _ (by omega)]
      exact hk
    have WX := W1.sub hsX
    have sl1X := sl1'.sub hsX
    have sl2X := sl2'.sub hsX
    have slcX := slc.sub hsX
    have sldX := sld.sub hsX
    have fX : FrW w d1 g _ := FrW.of_sub (w := w) (d := d1) hsX
    have hwg := W1.lt hd1
    have hd1g := W1.dlt hd1
    have hdX := (hd1.set rb (.cells #[.int .i64 0, .int .i64 0, .int .i64 0, .int .i64 0, .int .i64 0, .int .i64 0, .bool false] 94) (rb + 1) (by omega) (by omega)).set rb (.cells (pcells p).toArray 94) (rb + 1) (by omega) (by omega)
    refine Go.Vc.draw_intro [⟨0, false, false, false, 0⟩, ⟨1, false, false, false, 0⟩, ⟨2, false, false, false, 0⟩, ⟨3, false, false, false, 4⟩, ⟨4, false, false, false, 12⟩, ⟨5, false, false, false, 30⟩, ⟨6, false, false, false, 62⟩, ⟨7, false, false, false, 0⟩, ⟨8, false, false, false, 0⟩, ⟨9, false, false, false, 256⟩, ⟨10, false, false, false, 768⟩, ⟨11, false, false, false, 1920⟩, ⟨12, false, false, false, 3968⟩, ⟨13, true, false, false, 8191⟩] (hs := (fun _ => none)) (hsub := (fun _ _ h => nomatch h)) (hm := by kernel_rfl) (hpl := by kernel_rfl) ?_
    conv => whnf
    conv => whnf
    repeat (first | ((with_reducible apply Go.Vc.sl_ix); (focus with_reducible assumption); (focus exact And.intro (by omega) (by omega)); intro xI bI offI hxI hcI; conv => whnf) | ((with_reducible apply Go.Vc.ld_i); (focus ((repeat (first | with_reducible assumption | with_reducible exact Go.Vc.hset_same _ _ _ | with_reducible refine (Go.Vc.hset_ne _ _ (by omega)).trans ?_)); done)); (focus exact rfl); conv => whnf) | ((with_reducible apply Go.Vc.cell_i); (focus assumption); conv => whnf))
    rename_i x1 b1 q1 hx1 hc1
    have ex1 : x1 = Huf.codeAt L p.sym := by
      have e := hx1
      rw [show ((p.sym : Nat) : Int).toNat = p.sym from rfl, Huf.codes_get o1] at e
      exact (Option.some.inj e).symm
    have ex2 : xI = (m1 : Int) := by
      have e := hxI
      rw [show ((p.sym : Nat) : Int).toNat = p.sym from rfl, hm1] at e
      exact (Option.some.inj e).symm
    subst ex1
    subst ex2
    have hcr := Huf.code_range hL o1
    refine (code_spec WX (many := m1) (by omega) (by rw [List.length_append]; omega) (by omega)).mono ?_
    rintro _ h3 t3 hd3 ht3 ⟨rfl, V1⟩
    obtain ⟨d3, B3, f3, hdd3, ht3'⟩ := id V1
    have hr3 := f3 _ _ (show rb ≠ w by omega) (fun e => by have := hd1g rb e; omega) hX
    conv => whnf
    repeat (first | ((with_reducible apply Go.Vc.ld_i); (focus ((repeat (first | with_reducible assumption | with_reducible exact Go.Vc.hset_same _ _ _ | with_reducible refine (Go.Vc.hset_ne _ _ (by omega)).trans ?_)); done)); (focus exact rfl); conv => whnf))
    refine (bits_spec B3 (many := p.n) (by omega) (by rw [List.length_append, List.length_append, bitsH_len]; omega) (by omega)).mono ?_
    rintro _ h4 t4 hd4 ht4 ⟨rfl, V2⟩
    obtain ⟨d4, B4, f4', hdd4, ht4'⟩ := id V2
    have hd3g := B3.dlt hd3
    have hd3n : d3 ≠ some rb := fun e => by
      rcases hdd3 with h1 | ⟨r, h1, hr⟩
      · rw [h1] at e; have := hd1g rb e; omega
      · rw [h1] at e; cases e; omega
    have hr4' := f4' _ _ (show rb ≠ w by omega) hd3n hr3
    have V12 := WrTo.step hdX f3 hdd3 ht3' V2
    have K4 := WrTo.step hg2 fr1 hdd ht1 (WrTo.step hd1 fX (.inl rfl) (show t1 ≤ rb + 1 by omega) V12)
    conv => whnf
    repeat (first | ((with_reducible apply Go.Vc.ld_i); (focus ((repeat (first | with_reducible assumption | with_reducible exact Go.Vc.hset_same _ _ _ | with_reducible refine (Go.Vc.hset_ne _ _ (by omega)).trans ?_)); done)); (focus exact rfl); conv => whnf))
    cases hpp : p.plain with
    | true =>
      conv => whnf
      repeat (first | ((with_reducible apply Go.Vc.wr_i64); (focus exact And.intro (by omega) (by omega)); conv => whnf))
      refine round_end (i + 1) (by omega) ⟨rfl, rfl, rfl, rfl, rfl, rfl, rfl, rfl, rfl, trivial⟩ ⟨by omega, ?_⟩
      rw [htk, tellP, hpp, if_pos rfl, List.append_nil, em1, ← List.append_assoc]
      exact K4
    | false =>
      obtain ⟨m2, hm2, hm25, em2⟩ := err_get hB (o4 hpp)
      have o4' := o4 hpp
      obtain ⟨d5, B5, fr5, hdd5, ht5⟩ := id K4
      obtain rfl := B5.uniq B4
      have hd5n : d5 ≠ some rb := fun e => by
        rcases hdd4 with h1 | ⟨r, h1, hr⟩
        · rw [h1] at e; exact hd3n e
        · rw [h1] at e; cases e; omega
      have sl2'' := sl_frW s2g (fun _ => f2) fr5
      have sld'' := sl_frW od.sl (fun _ => fd) fr5
      conv => whnf
      refine Go.Vc.draw_intro [⟨0, false, false, false, 0⟩, ⟨1, false, false, false, 0⟩, ⟨2, false, false, false, 0⟩, ⟨3, false, false, false, 4⟩, ⟨4, false, false, false, 12⟩, ⟨5, false, false, false, 30⟩, ⟨6, false, false, false, 62⟩, ⟨7, false, false, false, 0⟩, ⟨8, false, false, false, 0⟩, ⟨9, false, false, false, 256⟩, ⟨10, false, false, false, 768⟩, ⟨11, false, false, false, 1920⟩, ⟨12, false, false, false, 3968⟩, ⟨13, true, false, false, 8191⟩] (hs := (fun _ => none)) (hsub := (fun _ _ h => nomatch h)) (hm := by kernel_rfl) (hpl := by kernel_rfl) ?_
      conv => whnf
      conv => whnf
      repeat (first | ((with_reducible apply Go.Vc.sl_ix); (focus with_reducible assumption); (focus exact And.intro (by omega) (by omega)); intro xI bI offI hxI hcI; conv => whnf) | ((with_reducible apply Go.Vc.ld_i); (focus ((repeat (first | with_reducible assumption | with_reducible exact Go.Vc.hset_same _ _ _ | with_reducible refine (Go.Vc.hset_ne _ _ (by omega)).trans ?_)); done)); (focus exact rfl); conv => whnf) | ((with_reducible apply Go.Vc.cell_i); (focus assumption); conv => whnf))
      rename_i x5 b5 q5 hx5 hc5
      have ex5 : x5 = Huf.codeAt B p.sym2 := by
        have e := hx5
        rw [show ((p.sym2 : Nat) : Int).toNat = p.sym2 from rfl, Huf.codes_get (o4 hpp)] at e
        exact (Option.some.inj e).symm
      have ex6 : xI = (m2 : Int) := by
        have e := hxI
        rw [show ((p.sym2 : Nat) : Int).toNat = p.sym2 from rfl, hm2] at e
        exact (Option.some.inj e).symm
      subst ex5
      subst ex6
      have hcr2 := Huf.code_range hB (o4 hpp)
      refine (code_spec B5 (many := m2) (by omega) (by rw [List.length_append, List.length_append, List.length_append, bitsH_len, bitsL_len]; omega) (by omega)).mono ?_
      rintro _ h6 t6 hd6 ht6 ⟨rfl, V3⟩
      obtain ⟨d6, B6, f6, hdd6, ht6'⟩ := id V3
      have hr6 := f6 _ _ (show rb ≠ w by omega) hd5n hr4'
      conv => whnf
      repeat (first | ((with_reducible apply Go.Vc.ld_i); (focus ((repeat (first | with_reducible assumption | with_reducible exact Go.Vc.hset_same _ _ _ | with_reducible refine (Go.Vc.hset_ne _ _ (by omega)).trans ?_)); done)); (focus exact rfl); conv => whnf))
      refine (bits_spec B6 (many := p.n2) (by omega) (by rw [List.length_append, List.length_append, List.length_append, List.length_append, bitsH_len, bitsH_len, bitsL_len]; omega) (by omega)).mono ?_
      rintro _ h7 t7 hd7 ht7 ⟨rfl, V4⟩
      conv => whnf
      repeat (first | ((with_reducible apply Go.Vc.wr_i64); (focus exact And.intro (by omega) (by omega)); conv => whnf))
      refine round_end (i + 1) (by omega) ⟨rfl, rfl, rfl, rfl, rfl, rfl, rfl, rfl, rfl, trivial⟩ ⟨by omega, ?_⟩
      have K7 := WrTo.step hg2 fr5 hdd5 ht5 (WrTo.step hd4 f6 hdd6 ht6' V4)
      rw [htk, tellP, hpp, em1, em2]
      simp only [Bool.false_eq_true, if_false, ← List.append_assoc]
      exact K7
  · obtain rfl : i = pn := by omega
    obtain ⟨m1, hm1, hm15, em1⟩ := err_get hL h256
    conv => whnf
    refine Go.Vc.draw_intro [⟨0, false, false, false, 0⟩, ⟨1, false, false, false, 0⟩, ⟨2, false, false, false, 2⟩, ⟨3, false, false, false, 6⟩, ⟨4, false, false, false, 0⟩, ⟨5, false, false, false, 16⟩, ⟨6, false, false, false, 48⟩, ⟨7, true, false, false, 127⟩] (hs := (fun _ => none)) (hsub := (fun _ _ h => nomatch h)) (hm := by kernel_rfl) (hpl := by kernel_rfl) ?_
    conv => whnf
    conv => whnf
    repeat (first | ((with_reducible apply Go.Vc.sl_ix); (focus with_reducible assumption); (focus exact And.intro (by omega) (by omega)); intro xI bI offI hxI hcI; conv => whnf) | ((with_reducible apply Go.Vc.cell_i); (focus assumption); conv => whnf))
    rename_i x1 b1 q1 hx1 hc1
    have ex1 : x1 = Huf.codeAt L 256 := by
      have e := hx1
      rw [show Int.toNat 256 = 256 from rfl, Huf.codes_get h256] at e
      exact (Option.some.inj e).symm
    have ex2 : xI = (m1 : Int) := by
      have e := hxI
      rw [show Int.toNat 256 = 256 from rfl, hm1] at e
      exact (Option.some.inj e).symm
    subst ex1
    subst ex2
    have hcr := Huf.code_range hL h256
    refine (code_spec W1 (many := m1) (by omega) (by rw [List.length_append]; omega) (by omega)).mono ?_
    rintro _ h3 t3 hd3 ht3 ⟨rfl, V1⟩
    conv => whnf
    refine ⟨rfl, ?_⟩
    rw [tellF, em1, ← List.append_assoc]
    rw [List.take_of_length_le (by omega)] at V1
    exact WrTo.step hd (FrW.of_sub hsg) (.inl rfl) (by omega) (WrTo.step hg2 fr1 hdd ht1 V1)
end Go.Proofs.Ytikpfffhcjlcjaa
