import Derived.Test.YtikpfffhcjlcjaaInfPure
import Derived.Test.YtikpfffhcjlcjaaDef9
set_option linter.unusedSimpArgs false
namespace Go.Proofs.Ytikpfffhcjlcjaa
open Go Go.Vc Go.Huf Go.Dfl
set_option maxRecDepth 20000
set_option linter.unusedVariables false
def Rd (h : Heap) (r : Nat) (d : Option Nat) (s : ByteArray) (p : Nat) (out : List Int) (most : Nat) (e : Int) : Prop :=
  ∃ a c, h r = some (.cells #[.string s, .int .i64 (p : Nat), .slice a out.length c, .int .i64 (most : Nat), .int .i64 e] 77 (0, 0)) ∧ Vc.Own h 5 a out.length c (Value.int .u8) out ∧ owner a = d
def RdTo (r : Nat) (h : Heap) (t : Nat) (d : Option Nat) (s : ByteArray) (p : Nat) (out : List Int) (most : Nat) (e : Int) (h' : Heap) (t' : Nat) : Prop :=
  ∃ d', Rd h' r d' s p out most e ∧ FrW r d h h' ∧ (d' = d ∨ ∃ q, d' = some q ∧ t ≤ q) ∧ t ≤ t'
theorem Rd.lt {h : Heap} {t r : Nat} {d : Option Nat} {s : ByteArray} {p : Nat} {out : List Int} {most : Nat} {e : Int} (B : Rd h r d s p out most e) (hd : Dom h t) : r < t := by
  obtain ⟨a, c, hw, _⟩ := B
  exact hd _ _ hw
theorem Rd.dlt {h : Heap} {t r : Nat} {d : Option Nat} {s : ByteArray} {p : Nat} {out : List Int} {most : Nat} {e : Int} (B : Rd h r d s p out most e) (hd : Dom h t) : ∀ b, d = some b → b < t := fun b hb => by
  obtain ⟨a, c, _, o, rfl⟩ := B
  obtain ⟨cs, fr, hh⟩ := own_tag o hb
  exact hd _ _ hh
theorem Rd.ne {h : Heap} {r : Nat} {d : Option Nat} {s : ByteArray} {p : Nat} {out : List Int} {most : Nat} {e : Int} (B : Rd h r d s p out most e) : d ≠ some r := by
  obtain ⟨a, c, hw, o, rfl⟩ := B
  exact own_ne o hw (by decide)
theorem Rd.start {h : Heap} {t r : Nat} {d : Option Nat} {s : ByteArray} {p : Nat} {out : List Int} {most : Nat} {e : Int} (B : Rd h r d s p out most e) : RdTo r h t d s p out most e h t := ⟨d, B, fun _ _ _ _ ho => ho, .inl rfl, Nat.le_refl _⟩
theorem Rd.sub {h h' : Heap} {r : Nat} {d : Option Nat} {s : ByteArray} {p : Nat} {out : List Int} {most : Nat} {e : Int} (B : Rd h r d s p out most e) (hs : Vc.Sub h h') : Rd h' r d s p out most e := by
  obtain ⟨a, c, hw, o, rfl⟩ := B
  exact ⟨a, c, hs _ _ hw, Own.fr o fun b x _ hx => hs b x hx, rfl⟩
theorem fr_step {h h' h'' : Heap} {t t' r : Nat} {d d' d'' : Option Nat} (hd : Dom h t) (f : FrW r d h h') (hdd : d' = d ∨ ∃ q, d' = some q ∧ t ≤ q) (ht : t ≤ t') (f2 : FrW r d' h' h'') (he : d'' = d' ∨ ∃ q, d'' = some q ∧ t' ≤ q) :
    FrW r d h h'' ∧ (d'' = d ∨ ∃ q, d'' = some q ∧ t ≤ q) := by
  refine ⟨fun k o h1 h2 ho => f2 k o h1 (fun hc => ?_) (f k o h1 h2 ho), ?_⟩
  · rcases hdd with rfl | ⟨r, rfl, hr⟩
    · exact h2 hc
    · cases hc
      have := hd k o ho
      omega
  · rcases he with rfl | ⟨r, rfl, hr⟩
    · exact hdd
    · exact .inr ⟨r, rfl, by omega⟩
theorem RdTo.step {h h' h'' : Heap} {t t' t'' r : Nat} {d d' : Option Nat} {s : ByteArray} {p : Nat} {out : List Int} {most : Nat} {e : Int} (hd : Dom h t) (f : FrW r d h h') (hdd : d' = d ∨ ∃ q, d' = some q ∧ t ≤ q) (ht : t ≤ t') (g : RdTo r h' t' d' s p out most e h'' t'') : RdTo r h t d s p out most e h'' t'' := by
  obtain ⟨d2, B, f2, he, ht2⟩ := g
  obtain ⟨h1, h2⟩ := fr_step hd f hdd ht f2 he
  exact ⟨d2, B, h1, h2, by omega⟩
theorem Cod.fr {h h' : Heap} {b r : Nat} {L : List Int} {d : Option Nat} {s : ByteArray} {p : Nat} {out : List Int} {most : Nat} {e : Int} (c : Cod h b L) (B : Rd h r d s p out most e) (hb : b ≠ r ∧ d ≠ some b) (f : FrW r d h h') : Cod h' b L := by
  obtain ⟨m, o, T, h1, h2, h3, h4⟩ := c
  have hm : ∃ es cl, o = .map es cl := by
    obtain ⟨es, cl, rfl, _⟩ := h3
    exact ⟨es, cl, rfl⟩
  obtain ⟨es, cl, rfl⟩ := hm
  obtain ⟨a, c, hw, ow, rfl⟩ := B
  refine ⟨m, _, T, f b _ hb.1 hb.2 h1, f m _ (fun e => ?_) (fun e => ?_) h2, h3, h4⟩
  · rw [e, hw] at h2; cases h2
  · obtain ⟨cs, fr, hh⟩ := own_tag ow e
    rw [hh] at h2; cases h2
theorem fail_spec {h : Heap} {t r : Nat} {d : Option Nat} {s : ByteArray} {p : Nat} {out : List Int} {most : Nat} {e : Int} (B : Rd h r d s p out most e) (x : Int) :
    CallSpec Try.prog 39 #[.pointer (some ⟨r, 0, none⟩), .int .i64 x] h t (fun v h' t' => v = .tuple #[] ∧ RdTo r h t d s p out most (if e = 0 then x else e) h' t') := by
  refine Go.Vc.spec_of_vc (fn := Try.f39) Try.func39 rfl (by kernel_rfl) (by kernel_rfl) (Nat.le_of_ble_eq_true rfl) ?_
  intro hd
  have hlt := B.lt hd
  have hne := B.ne
  obtain ⟨a, c, hw, o, rfl⟩ := B
  conv => whnf
  repeat (first | ((with_reducible apply Go.Vc.ld_i); (focus ((repeat (first | with_reducible assumption | with_reducible exact Go.Vc.hset_same _ _ _ | with_reducible refine (Go.Vc.hset_ne _ _ (by omega)).trans ?_)); done)); (focus exact rfl); conv => whnf))
  refine br (fun hb => ?_) (fun hb => ?_)
  · rw [if_pos hb]
    conv => whnf
    repeat (first | ((with_reducible apply Go.Vc.st_i); (focus ((repeat (first | with_reducible assumption | with_reducible exact Go.Vc.hset_same _ _ _ | with_reducible refine (Go.Vc.hset_ne _ _ (by omega)).trans ?_)); done)); (focus exact rfl); (focus exact rfl); (focus exact rfl); (conv => whnf); intro cA hcA; (first | (simp only [List.setIfInBounds_toArray, List.set_cons_succ, List.set_cons_zero] at hcA; subst hcA) | subst hcA); conv => whnf))
    refine ⟨rfl, owner a, ⟨a, c, hset_same _ _ _, Own.fr o fun b y hb hy => ?_, rfl⟩, fun k y h1 h2 h3 => ?_, .inl rfl, Nat.le_refl _⟩
    · rw [hset_ne _ _ (fun e => hne (by rw [hb, e]))]; exact hy
    · rw [hset_ne _ _ h1]; exact h3
  · rw [if_neg hb]
    conv => whnf
    exact ⟨rfl, owner a, ⟨a, c, hw, o, rfl⟩, fun k y _ _ h3 => h3, .inl rfl, Nat.le_refl _⟩
theorem number_ok {h : Heap} {t r : Nat} {d : Option Nat} {s : ByteArray} {p : Nat} {out : List Int} {most : Nat} (B : Rd h r d s p out most 0) (hss : s.size ≤ 100000000) {n : Int} {m : Nat} (hm : m ≤ 30) (hn : 0 ≤ n ∧ n < 2 ^ m) (hs : Str s p (bitsL n m)) :
    CallSpec Try.prog 35 #[.pointer (some ⟨r, 0, none⟩), .int .i64 (m : Nat)] h t (fun v h' t' => v = .int .i64 n ∧ RdTo r h t d s (p + m) out most 0 h' t') := by
  refine Go.Vc.spec_of_vc (fn := Try.f35) Try.func35 rfl (by kernel_rfl) (by kernel_rfl) (Nat.le_of_ble_eq_true rfl) ?_
  intro hd
  conv => whnf
  refine loop_intro (fun i : Nat => [(0, .pointer (some ⟨r, 0, none⟩)), (5, .int .i64 (n % 2 ^ i)), (7, .int .i64 (m : Nat)), (8, .int .i64 (i : Nat))])
    (fun i h' t' => i ≤ m ∧ RdTo r h t d s (p + i) out most 0 h' t') (fun i => m - i) 0 ⟨rfl, by rw [Int.pow_zero, Int.emod_one]; rfl, rfl, rfl, trivial⟩ ⟨by omega, B.start⟩ ?_
  rintro i e1 g t1 hd1 ⟨hi, d1, B1, f1, dd1, le1⟩
  have hlt := B1.lt hd1
  have hne := B1.ne
  obtain ⟨a, c, hw, o, rfl⟩ := B1
  conv => whnf
  refine br (fun hb => ?_) (fun hb => ?_)
  · obtain ⟨hp1, hp2⟩ := hs i _ (bitsL_get (by omega))
    rw [dbit_i] at hp2
    conv => whnf
    repeat (first | ((with_reducible apply Go.Vc.ld_i); (focus ((repeat (first | with_reducible assumption | with_reducible exact Go.Vc.hset_same _ _ _ | with_reducible refine (Go.Vc.hset_ne _ _ (by omega)).trans ?_)); done)); (focus exact rfl); conv => whnf) | (refine Go.Vc.br_f ?_ ?_; (focus omega); conv => whnf))
    refine Go.Vc.draw_intro [⟨0, false, false, false, 0⟩, ⟨1, false, false, false, 1⟩, ⟨2, false, false, false, 3⟩, ⟨3, false, false, false, 7⟩, ⟨4, false, false, false, 15⟩, ⟨5, false, false, false, 0⟩, ⟨6, false, false, false, 32⟩, ⟨7, false, false, false, 96⟩, ⟨8, false, false, false, 224⟩, ⟨9, false, false, false, 480⟩, ⟨10, false, false, false, 1023⟩] (hs := (fun _ => none)) (hsub := (fun _ _ h => nomatch h)) (hm := by kernel_rfl) (hpl := by kernel_rfl) ?_
    conv => whnf
    conv => whnf
    repeat (first | ((with_reducible apply Go.Vc.ld_i); (focus ((repeat (first | with_reducible assumption | with_reducible exact Go.Vc.hset_same _ _ _ | with_reducible refine (Go.Vc.hset_ne _ _ (by omega)).trans ?_)); done)); (focus exact rfl); conv => whnf) | ((with_reducible apply Go.Vc.quo_i64); (focus exact And.intro (by omega) (And.intro (by omega) (by omega))); conv => whnf) | (refine Go.Vc.br_f ?_ ?_; (focus omega); conv => whnf) | ((with_reducible refine And.intro ?_ (And.intro ?_ ?_)); (focus exact rfl); (focus omega); conv => whnf))
    refine Go.Vc.draw_intro [⟨0, false, false, false, 0⟩, ⟨1, false, false, false, 0⟩, ⟨2, false, false, false, 2⟩, ⟨3, false, false, false, 6⟩, ⟨4, false, false, false, 14⟩, ⟨5, false, false, false, 0⟩, ⟨6, false, false, false, 32⟩, ⟨7, false, false, false, 96⟩, ⟨8, false, false, false, 224⟩, ⟨9, false, false, false, 480⟩, ⟨10, false, false, false, 1022⟩, ⟨11, false, false, false, 0⟩, ⟨12, false, false, false, 2048⟩, ⟨13, false, false, false, 6144⟩, ⟨14, false, false, false, 14336⟩, ⟨15, false, false, false, 30720⟩, ⟨16, false, false, false, 65534⟩, ⟨17, false, false, false, 131070⟩, ⟨18, false, false, false, 262142⟩, ⟨19, false, false, false, 0⟩, ⟨20, false, false, false, 1048574⟩, ⟨21, false, false, false, 2097151⟩, ⟨22, false, false, false, 4194303⟩] (hs := (fun _ => none)) (hsub := (fun _ _ h => nomatch h)) (hm := by kernel_rfl) (hpl := by kernel_rfl) ?_
    conv => whnf
    conv => whnf
    repeat (first | ((with_reducible refine And.intro (And.intro ?_ ?_) ?_); (focus omega); (focus omega); conv => whnf) | ((with_reducible apply Go.Vc.ld_i); (focus ((repeat (first | with_reducible assumption | with_reducible exact Go.Vc.hset_same _ _ _ | with_reducible refine (Go.Vc.hset_ne _ _ (by omega)).trans ?_)); done)); (focus exact rfl); conv => whnf) | (intro _ _; conv => whnf) | ((with_reducible apply Go.Vc.shr_u8); (focus exact And.intro (by omega) (by omega)); intro zS hzS hzS0 hzS1; conv => whnf) | ((with_reducible apply Go.Vc.quo_i64); (focus exact And.intro (by omega) (And.intro (by omega) (by omega))); conv => whnf) | ((with_reducible apply Go.Vc.rem_i); (focus omega); conv => whnf) | ((with_reducible apply Go.Vc.and_leI); (focus omega); conv => whnf) | ((with_reducible refine And.intro ?_ (And.intro ?_ ?_)); (focus exact rfl); (focus omega); conv => whnf))
    refine and1_u8 (by omega) ?_
    have hzb : zS % 2 = n / 2 ^ i % 2 := by rw [← hp2, hzS]; rfl
    have hb01 : n / 2 ^ i % 2 = 0 ∨ n / 2 ^ i % 2 = 1 := by omega
    have h0i : (0 : Int) < 2 ^ i := Int.pow_pos (by decide)
    have hni : 0 ≤ n % 2 ^ i ∧ n % 2 ^ i < 2 ^ i := ⟨Int.emod_nonneg _ (by omega), Int.emod_lt_of_pos _ h0i⟩
    conv => whnf
    repeat (first | ((with_reducible apply Go.Vc.wr_i64); (focus exact And.intro (by omega) (by omega)); conv => whnf) | ((with_reducible apply Go.Vc.and_leI); (focus omega); conv => whnf))
    refine shl_bit (by rw [hzb]; exact hb01) (by omega) ?_
    conv => whnf
    refine or_acc hni (by rw [hzb]; exact hb01) (by omega) ?_
    rw [hzb, ← emod_step]
    conv => whnf
    repeat (first | ((with_reducible apply Go.Vc.ld_i); (focus ((repeat (first | with_reducible assumption | with_reducible exact Go.Vc.hset_same _ _ _ | with_reducible refine (Go.Vc.hset_ne _ _ (by omega)).trans ?_)); done)); (focus exact rfl); conv => whnf) | ((with_reducible apply Go.Vc.st_i); (focus ((repeat (first | with_reducible assumption | with_reducible exact Go.Vc.hset_same _ _ _ | with_reducible refine (Go.Vc.hset_ne _ _ (by omega)).trans ?_)); done)); (focus exact rfl); (focus exact rfl); (focus exact rfl); (conv => whnf); intro cA hcA; (first | (simp only [List.setIfInBounds_toArray, List.set_cons_succ, List.set_cons_zero] at hcA; subst hcA) | subst hcA); conv => whnf) | ((with_reducible apply Go.Vc.wr_i64); (focus exact And.intro (by omega) (by omega)); conv => whnf))
    refine round_end (i + 1) (by omega) ⟨rfl, rfl, rfl, rfl, trivial⟩ ⟨by omega, ?_⟩
    refine RdTo.step hd f1 dd1 le1 ⟨owner a, ⟨a, c, hset_same _ _ _, Own.fr o fun b y hb hy => ?_, rfl⟩, fun k y h1 h2 h3 => ?_, .inl rfl, Nat.le_refl _⟩
    · rw [hset_ne _ _ (fun e => hne (by rw [hb, e]))]; exact hy
    · rw [hset_ne _ _ h1]; exact h3
  · obtain rfl : i = m := by omega
    conv => whnf
    rw [Int.emod_eq_of_lt hn.1 hn.2]
    exact ⟨rfl, owner a, ⟨a, c, hw, o, rfl⟩, f1, dd1, le1⟩
theorem symbol_ok {h : Heap} {t r b : Nat} {d : Option Nat} {s : ByteArray} {p : Nat} {out : List Int} {most : Nat} {L : List Int} (B : Rd h r d s p out most 0) (hss : s.size ≤ 100000000) (hc : Cod h b L) (he : err L = 0) {k : Nat} (hk : k < L.length) (h1 : 1 ≤ (L.getD k 0).toNat)
    (hs : Str s p (bitsH (codeAt L k) (L.getD k 0).toNat)) :
    CallSpec Try.prog 63 #[.pointer (some ⟨r, 0, none⟩), .pointer (some ⟨b, 0, none⟩)] h t (fun v h' t' => v = .int .i64 (k : Nat) ∧ RdTo r h t d s (p + (L.getD k 0).toNat) out most 0 h' t') := by
  have hn := next_sym he hk h1 hs
  have hpr := (hs 0 _ (bitsH_get (by omega))).1
  refine Go.Vc.spec_of_vc (fn := Try.f63) Try.func63 rfl (by kernel_rfl) (by kernel_rfl) (Nat.le_of_ble_eq_true rfl) ?_
  intro hd
  have hlt := B.lt hd
  have hne := B.ne
  obtain ⟨a, c, hw, o, rfl⟩ := B
  conv => whnf
  repeat (first | ((with_reducible apply Go.Vc.ld_i); (focus ((repeat (first | with_reducible assumption | with_reducible exact Go.Vc.hset_same _ _ _ | with_reducible refine (Go.Vc.hset_ne _ _ (by omega)).trans ?_)); done)); (focus exact rfl); conv => whnf) | (refine Go.Vc.br_f ?_ ?_; (focus omega); conv => whnf))
  refine Go.Vc.draw_intro [⟨0, false, false, false, 0⟩, ⟨1, false, false, false, 0⟩, ⟨2, false, false, false, 2⟩, ⟨3, false, false, false, 6⟩, ⟨4, false, false, false, 14⟩, ⟨5, false, false, false, 0⟩, ⟨6, false, false, false, 32⟩, ⟨7, false, false, false, 96⟩, ⟨8, false, false, false, 224⟩, ⟨9, true, false, false, 511⟩, ⟨10, false, false, false, 1023⟩, ⟨11, false, false, false, 2047⟩, ⟨12, false, false, false, 2047⟩, ⟨13, false, false, false, 2047⟩, ⟨14, false, false, false, 4095⟩, ⟨15, false, false, false, 24575⟩, ⟨16, false, false, false, 65535⟩] (hs := (fun _ => none)) (hsub := (fun _ _ h => nomatch h)) (hm := by kernel_rfl) (hpl := by kernel_rfl) ?_
  conv => whnf
  conv => whnf
  repeat (first | ((with_reducible apply Go.Vc.ld_i); (focus ((repeat (first | with_reducible assumption | with_reducible exact Go.Vc.hset_same _ _ _ | with_reducible refine (Go.Vc.hset_ne _ _ (by omega)).trans ?_)); done)); (focus exact rfl); conv => whnf))
  refine (next_spec hc s (by omega) ((p : Nat) : Int) (by omega)).mono ?_
  rintro _ h2 t2 hd2 ht2 ⟨hs2, rfl⟩
  rw [hn]
  have hw2 := hs2 _ _ hw
  conv => whnf
  refine br_f (fun h => h rfl) ?_
  conv => whnf
  repeat (first | ((with_reducible apply Go.Vc.st_i); (focus ((repeat (first | with_reducible assumption | with_reducible exact Go.Vc.hset_same _ _ _ | with_reducible refine (Go.Vc.hset_ne _ _ (by omega)).trans ?_)); done)); (focus exact rfl); (focus exact rfl); (focus exact rfl); (conv => whnf); intro cA hcA; (first | (simp only [List.setIfInBounds_toArray, List.set_cons_succ, List.set_cons_zero] at hcA; subst hcA) | subst hcA); conv => whnf))
  refine ⟨rfl, owner a, ⟨a, c, hset_same _ _ _, Own.fr o fun b y hb hy => ?_, rfl⟩, fun k y h1 h2 h3 => ?_, .inl rfl, ht2⟩
  · rw [hset_ne _ _ (fun e => hne (by rw [hb, e]))]; exact hs2 _ _ hy
  · rw [hset_ne _ _ h1]; exact hs2 _ _ h3
theorem say_ok {h : Heap} {t r : Nat} {d : Option Nat} {s : ByteArray} {p : Nat} {out : List Int} {most : Nat} (B : Rd h r d s p out most 0) (hm : out.length < most) (hmo : most ≤ 100000000) (x : Int) :
    CallSpec Try.prog 58 #[.pointer (some ⟨r, 0, none⟩), .int .u8 x] h t (fun v h' t' => v = .bool true ∧ RdTo r h t d s p (out ++ [x]) most 0 h' t') := by
  refine Go.Vc.spec_of_vc (fn := Try.f58) Try.func58 rfl (by kernel_rfl) (by kernel_rfl) (Nat.le_of_ble_eq_true rfl) ?_
  intro hd
  have hlt := B.lt hd
  have hne := B.ne
  obtain ⟨a, c, hw, o, rfl⟩ := B
  conv => whnf
  refine Go.Vc.draw_intro [⟨0, false, false, false, 0⟩, ⟨1, false, false, false, 1⟩, ⟨2, false, false, false, 3⟩, ⟨3, false, false, false, 7⟩, ⟨4, false, false, false, 15⟩, ⟨5, false, false, false, 31⟩, ⟨6, false, false, false, 63⟩, ⟨7, false, false, false, 127⟩, ⟨8, false, false, false, 255⟩, ⟨9, false, false, false, 511⟩, ⟨10, false, false, false, 1023⟩, ⟨11, false, false, false, 63⟩, ⟨12, false, false, false, 2111⟩, ⟨13, false, false, false, 6207⟩, ⟨14, false, false, false, 14399⟩, ⟨15, false, false, false, 32767⟩, ⟨16, false, false, false, 65535⟩] (hs := (fun _ => none)) (hsub := (fun _ _ h => nomatch h)) (hm := by kernel_rfl) (hpl := by kernel_rfl) ?_
  conv => whnf
  conv => whnf
  repeat (first | ((with_reducible apply Go.Vc.ld_i); (focus ((repeat (first | with_reducible assumption | with_reducible exact Go.Vc.hset_same _ _ _ | with_reducible refine (Go.Vc.hset_ne _ _ (by omega)).trans ?_)); done)); (focus exact rfl); conv => whnf) | (intro _ _; conv => whnf) | (refine Go.Vc.br_t ?_ ?_; (focus omega); conv => whnf) | (refine Go.Vc.br_f ?_ ?_; (focus omega); conv => whnf))
  rename_i q hq
  have hsq := hd.sub_new hq (.cells #[.int .u8 x] 5)
  refine app_u8 (l2 := [x]) (Own.fr o (fun k o _ hk => hsq k o hk)) (sl1 (hset_same _ _ _)) (by omega) (hd.set q _ (q + 1) (by omega) (by omega)) ?_
  intro a' c' h' t' ho' ht' hd' hk' hown'
  have hw2 : h' r = _ := (hk' r (by omega) hne).trans ((hset_ne _ _ (by omega)).trans hw)
  have hne2 := own_ne ho' hw2 (by decide)
  conv => whnf
  repeat (first | ((with_reducible apply Go.Vc.st_i); (focus ((repeat (first | with_reducible assumption | with_reducible exact Go.Vc.hset_same _ _ _ | with_reducible refine (Go.Vc.hset_ne _ _ (by omega)).trans ?_)); done)); (focus exact rfl); (focus exact rfl); (focus exact rfl); (conv => whnf); intro cA hcA; (first | (simp only [List.setIfInBounds_toArray, List.set_cons_succ, List.set_cons_zero] at hcA; subst hcA) | subst hcA); conv => whnf))
  refine ⟨rfl, owner a', ⟨a', c', ?_, ?_, rfl⟩, fun k y h1 h2 h3 => ?_, ?_, ?_⟩
  · rw [List.length_append]; exact hset_same _ _ _
  · rw [List.length_append]
    refine Own.fr ho' fun b y hb hy => ?_
    rw [hset_ne _ _ (fun e => hne2 (by rw [hb, e]))]; exact hy
  · have := hd _ _ h3
    rw [hset_ne _ _ h1, hk' k (by omega) h2, hset_ne _ _ (by omega)]; exact h3
  · rcases hown' with e | ⟨z, e, hz⟩
    · exact .inl e
    · exact .inr ⟨z, e, by omega⟩
  · omega
theorem say_full {h : Heap} {t r : Nat} {d : Option Nat} {s : ByteArray} {p : Nat} {out : List Int} {most : Nat} (B : Rd h r d s p out most 0) (hm : out.length = most) (x : Int) :
    CallSpec Try.prog 58 #[.pointer (some ⟨r, 0, none⟩), .int .u8 x] h t (fun v h' t' => v = .bool false ∧ RdTo r h t d s p out most 9 h' t') := by
  refine Go.Vc.spec_of_vc (fn := Try.f58) Try.func58 rfl (by kernel_rfl) (by kernel_rfl) (Nat.le_of_ble_eq_true rfl) ?_
  intro hd
  obtain ⟨a, c, hw, o, rfl⟩ := id B
  conv => whnf
  refine Go.Vc.draw_intro [⟨0, false, false, false, 0⟩, ⟨1, false, false, false, 1⟩, ⟨2, false, false, false, 3⟩, ⟨3, false, false, false, 7⟩, ⟨4, false, false, false, 15⟩, ⟨5, false, false, false, 31⟩, ⟨6, false, false, false, 63⟩, ⟨7, false, false, false, 127⟩, ⟨8, false, false, false, 255⟩, ⟨9, false, false, false, 511⟩, ⟨10, false, false, false, 1023⟩, ⟨11, false, false, false, 63⟩, ⟨12, false, false, false, 2111⟩, ⟨13, false, false, false, 6207⟩, ⟨14, false, false, false, 14399⟩, ⟨15, false, false, false, 32767⟩, ⟨16, false, false, false, 65535⟩] (hs := (fun _ => none)) (hsub := (fun _ _ h => nomatch h)) (hm := by kernel_rfl) (hpl := by kernel_rfl) ?_
  conv => whnf
  conv => whnf
  repeat (first | ((with_reducible apply Go.Vc.ld_i); (focus ((repeat (first | with_reducible assumption | with_reducible exact Go.Vc.hset_same _ _ _ | with_reducible refine (Go.Vc.hset_ne _ _ (by omega)).trans ?_)); done)); (focus exact rfl); conv => whnf) | (refine Go.Vc.br_t ?_ ?_; (focus omega); conv => whnf))
  refine (fail_spec B 9).mono ?_
  rintro _ h2 t2 hd2 ht2 ⟨rfl, d2, B2, f2, dd2, le2⟩
  rw [if_pos rfl] at B2
  obtain ⟨a2, c2, hw2, o2, rfl⟩ := id B2
  conv => whnf
  repeat (first | ((with_reducible apply Go.Vc.ld_i); (focus ((repeat (first | with_reducible assumption | with_reducible exact Go.Vc.hset_same _ _ _ | with_reducible refine (Go.Vc.hset_ne _ _ (by omega)).trans ?_)); done)); (focus exact rfl); conv => whnf) | (refine Go.Vc.br_t ?_ ?_; (focus omega); conv => whnf))
  exact ⟨rfl, owner a2, B2, f2, dd2, le2⟩
end Go.Proofs.Ytikpfffhcjlcjaa
