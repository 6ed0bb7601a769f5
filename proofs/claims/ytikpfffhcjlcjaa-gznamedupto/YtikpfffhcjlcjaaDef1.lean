import Derived.Test.YtikpfffhcjlcjaaDefA
import Derived.Test.YtikpfffhcjlcjaaVcC
import Derived.Test.YtikpfffhcjlcjaaHuff4
set_option linter.unusedSimpArgs false
namespace Go.Proofs.Ytikpfffhcjlcjaa
open Go Go.Vc Go.Dfl
set_option maxRecDepth 20000
set_option linter.unusedVariables false
def Wr (T : TypeId) (h : Heap) (w : Nat) (d : Option Nat) (bs : List Bool) : Prop :=
  ∃ a c, h w = some (.cells #[.slice a (packB bs).length c, .int .i64 (bs.length : Nat)] T (0, 0)) ∧ Vc.Own h 5 a (packB bs).length c (Value.int .u8) (packB bs) ∧ owner a = d
def FrW (w : Nat) (d : Option Nat) (h h' : Heap) : Prop := ∀ k o, k ≠ w → d ≠ some k → h k = some o → h' k = some o
def WrTo (T : TypeId) (w : Nat) (h : Heap) (t : Nat) (d : Option Nat) (bs : List Bool) (h' : Heap) (t' : Nat) : Prop :=
  ∃ d', Wr T h' w d' bs ∧ FrW w d h h' ∧ (d' = d ∨ ∃ r, d' = some r ∧ t ≤ r) ∧ t ≤ t'
theorem Wr.lt {T : TypeId} {h : Heap} {t w : Nat} {d : Option Nat} {bs : List Bool} (B : Wr T h w d bs) (hd : Dom h t) : w < t := by
  obtain ⟨a, c, hw, _⟩ := B
  exact hd _ _ hw
theorem Wr.start {T : TypeId} {h : Heap} {t w : Nat} {d : Option Nat} {bs : List Bool} (B : Wr T h w d bs) : WrTo T w h t d bs h t := ⟨d, B, fun _ _ _ _ ho => ho, .inl rfl, Nat.le_refl _⟩
theorem WrTo.step {T : TypeId} {h h' h'' : Heap} {t t' t'' w : Nat} {d d' : Option Nat} {bs' : List Bool} (hd : Dom h t) (f : FrW w d h h') (hdd : d' = d ∨ ∃ r, d' = some r ∧ t ≤ r) (ht : t ≤ t') (g : WrTo T w h' t' d' bs' h'' t'') : WrTo T w h t d bs' h'' t'' := by
  obtain ⟨e, B, f2, he, ht2⟩ := g
  refine ⟨e, B, fun k o h1 h2 ho => f2 k o h1 (fun hc => ?_) (f k o h1 h2 ho), ?_, by omega⟩
  · rcases hdd with rfl | ⟨r, rfl, hr⟩
    · exact h2 hc
    · cases hc
      have := hd k o ho
      omega
  · rcases he with rfl | ⟨r, rfl, hr⟩
    · exact hdd
    · exact .inr ⟨r, rfl, by omega⟩
theorem div_range {n : Int} (hn : -2^63 ≤ n ∧ n < 2^63) (k : Nat) : -2^63 ≤ n / 2 ^ k ∧ n / 2 ^ k < 2^63 := by
  have h0 : (0 : Int) < 2 ^ k := Int.pow_pos (by omega)
  have h1 : (1 : Int) ≤ 2 ^ k := by omega
  constructor
  · refine Int.le_ediv_of_mul_le h0 (Int.le_trans ?_ hn.1)
    have : (-2^63 : Int) * 2 ^ k ≤ (-2^63) * 1 := Int.mul_le_mul_of_nonpos_left (by decide) h1
    omega
  · refine Int.ediv_lt_of_lt_mul h0 (Int.lt_of_lt_of_le hn.2 ?_)
    have : (2^63 : Int) * 1 ≤ 2^63 * 2 ^ k := Int.mul_le_mul_of_nonneg_left h1 (by decide)
    omega
theorem sl1 {h : Heap} {r : Nat} {k : IntKind} {x : Int} {T : TypeId} (hb : h r = some (.cells #[.int k x] T (0, 0))) : Sl h (some ⟨r, 0, none⟩) 1 (Value.int k) [x] :=
  ⟨rfl, fun _ => ⟨r, 0, _, _, _, rfl, hb, fun i hi => by
    have : i = 0 := by simpa using hi
    subst this
    rfl⟩⟩
theorem app_u8 {ty : TypeId} {h : Heap} {t : Nat} {a : Option Addr} {n c : Nat} {l l2 : List Int} {xa : Option Addr} {xc m : Nat}
    (ho : Vc.Own h 5 a n c (Value.int .u8) l) (hx : Sl h xa m (Value.int .u8) l2) (hb : n + m ≤ 400000000) (hdm : Dom h t) {K : Value → Heap → Nat → Prop}
    (hK : ∀ a' c' h' t', Vc.Own h' 5 a' (n + m) c' (Value.int .u8) (l ++ l2) → t ≤ t' → Dom h' t' → (∀ k, k < t → owner a ≠ some k → h' k = h k) → (owner a' = owner a ∨ ∃ r, owner a' = some r ∧ t ≤ r) → K (.slice a' (n + m) c') h' t') :
    AppVC Try.prog #[39, 39] ty (.slice a n c) (.slice xa m xc) K h t :=
  app_vc (f := Value.int .u8) (inf := Try.types[5]) (z := .int .u8 0) (E := 5) Try.underlying39 Try.underlying39 rfl (by kernel_rfl) (by kernel_rfl) (by kernel_rfl) rfl ho ⟨_, _, rfl, hx⟩ (fun y => rfl) (by
    show (n + m) * 1 ≤ 2 ^ 40
    omega) (by omega) (by show 1 ≤ 1000; decide) hdm hK
theorem bits_spec {h : Heap} {t w : Nat} {d : Option Nat} {bs : List Bool} (B : Wr 63 h w d bs) {n : Int} {many : Nat} (hm : many ≤ 60) (hl : bs.length ≤ 100000000) (hn : -2^63 ≤ n ∧ n < 2^63) :
    CallSpec Try.prog 53 #[.pointer (some ⟨w, 0, none⟩), .int .i64 n, .int .i64 (many : Nat)] h t (fun v h' t' => v = .tuple #[] ∧ WrTo 63 w h t d (bs ++ bitsL n many) h' t') := by
  refine Go.Vc.spec_of_vc (fn := Try.f53) Try.func53 rfl (by kernel_rfl) (by kernel_rfl) (Nat.le_of_ble_eq_true rfl) ?_
  intro hd
  have hwt := B.lt hd
  conv => whnf
  refine loop_intro (fun i : Nat => [(0, .pointer (some ⟨w, 0, none⟩)), (1, .int .i64 n), (7, .int .i64 (many : Nat)), (8, .int .i64 (i : Nat))])
    (fun i h' t' => i ≤ many ∧ WrTo 63 w h t d (bs ++ bitsL n i) h' t') (fun i => many - i) 0 ⟨rfl, rfl, rfl, rfl, trivial⟩
    ⟨by omega, by simpa [bitsL] using B.start⟩ ?_
  rintro i e1 g t1 hd1 ⟨hi, d1, ⟨a, c, hw, ho, rfl⟩, f1, hdd, ht1⟩
  have hbl : (bs ++ bitsL n i).length = bs.length + i := by simp [bitsL]
  have hsn : bs ++ bitsL n (i + 1) = (bs ++ bitsL n i) ++ [dbit n i] := by simp [bitsL, List.range_succ]
  have hfin : i = many → bs ++ bitsL n many = bs ++ bitsL n i := fun e => by rw [e]
  generalize bs ++ bitsL n i = cs at *
  have hbe : b2i (dbit n i) = n / 2 ^ i % 2 := by
    unfold dbit b2i
    rcases (by omega : n / 2 ^ i % 2 = 0 ∨ n / 2 ^ i % 2 = 1) with e | e <;> simp [e]
  have hps := packB_snoc cs (dbit n i)
  have hog := opened_get cs
  have hol := opened_len cs
  have hbv := byteV_range (cs.drop (8 * (cs.length / 8)))
  have hdl : (cs.drop (8 * (cs.length / 8))).length = cs.length % 8 := by rw [List.length_drop]; omega
  rw [hdl] at hbv
  rw [hbe] at hps
  generalize byteV (cs.drop (8 * (cs.length / 8))) = v0 at *
  conv => whnf
  refine br (fun hb => ?_) (fun hb => ?_)
  · conv => whnf
    repeat (first | ((with_reducible apply Go.Vc.ld_i); (focus ((repeat (first | with_reducible assumption | with_reducible exact Go.Vc.hset_same _ _ _ | with_reducible refine (Go.Vc.hset_ne _ _ (by omega)).trans ?_)); done)); (focus exact rfl); conv => whnf) | ((with_reducible apply Go.Vc.rem_i); (focus omega); conv => whnf) | ((with_reducible refine And.intro ?_ (And.intro ?_ ?_)); (focus exact rfl); (focus omega); conv => whnf))
    refine br (fun hb2 => ?_) (fun hb2 => ?_)
    · have hoe : opened cs = packB cs ++ [0] := by unfold opened; rw [if_pos (by omega)]
      conv => whnf
      repeat (first | ((with_reducible apply Go.Vc.ld_i); (focus ((repeat (first | with_reducible assumption | with_reducible exact Go.Vc.hset_same _ _ _ | with_reducible refine (Go.Vc.hset_ne _ _ (by omega)).trans ?_)); done)); (focus exact rfl); conv => whnf) | (intro _ _; conv => whnf))
      rename_i r hr
      have hs1 := hd1.sub_new hr (.cells #[.int .u8 0] 5)
      refine app_u8 (l2 := [0]) (Own.fr ho (fun k o _ hk => hs1 k o hk)) (sl1 (hset_same _ _ _)) (by rw [packB_len]; omega) (hd1.set r _ (r + 1) (by omega) (by omega)) ?_
      intro a2 c2 g2 t2 ho2 ht2 hd2 hk2 hown2
      have hpl : (packB cs).length + 1 = cs.length / 8 + 1 := by rw [packB_len]; omega
      rw [← hoe, hpl] at ho2
      rw [hpl]
      have hwr : w < r := by have := hd1 _ _ hw; omega
      have hw2 : g2 w = some (.cells #[.slice a (packB cs).length c, .int .i64 (cs.length : Nat)] 63 (0, 0)) := by
        rw [hk2 w (by omega) (own_ne ho hw (by decide)), hset_ne _ _ (by omega)]
        exact hw
      have hne2 : owner a2 ≠ some w := own_ne ho2 hw2 (by decide)
      conv => whnf
      repeat (first | ((with_reducible apply Go.Vc.st_i); (focus ((repeat (first | with_reducible assumption | with_reducible exact Go.Vc.hset_same _ _ _ | with_reducible refine (Go.Vc.hset_ne _ _ (by omega)).trans ?_)); done)); (focus exact rfl); (focus exact rfl); (focus exact rfl); (conv => whnf); intro cA hcA; (first | (simp only [List.setIfInBounds_toArray, List.set_cons_succ, List.set_cons_zero] at hcA; subst hcA) | subst hcA); conv => whnf))
      have hwG := hset_same g2 w (.cells #[.slice a2 (cs.length / 8 + 1) c2, .int .i64 (cs.length : Nat)] 63 (0, 0))
      have hoG := Own.fr ho2 (h' := hset g2 w (.cells #[.slice a2 (cs.length / 8 + 1) c2, .int .i64 (cs.length : Nat)] 63 (0, 0))) (fun k o hk ho => by rw [hset_ne _ _ (fun e => hne2 (by rw [hk, e]))]; exact ho)
      have fG : FrW w d h (hset g2 w (.cells #[.slice a2 (cs.length / 8 + 1) c2, .int .i64 (cs.length : Nat)] 63 (0, 0))) := fun k o h1 h2 ho => by
        have hk := hd k o ho
        rw [hset_ne _ _ h1, hk2 k (by omega) (fun hc => ?_), hset_ne _ _ (by omega)]
        · exact f1 k o h1 h2 ho
        · rcases hdd with e | ⟨q, e, hq⟩
          · exact h2 (by rw [← e, hc])
          · rw [hc] at e; cases e; omega
      have hdG : owner a2 = d ∨ ∃ r, owner a2 = some r ∧ t ≤ r := by
        rcases hown2 with e | ⟨q, e, hq⟩
        · rw [e]; exact hdd
        · exact .inr ⟨q, e, by omega⟩
      have htG : t ≤ t2 := by omega
      generalize hset g2 w (.cells #[.slice a2 (cs.length / 8 + 1) c2, .int .i64 (cs.length : Nat)] 63 (0, 0)) = gG at *
      generalize a2 = aG at *
      generalize c2 = cG at *
      have hneG : owner aG ≠ some w := own_ne hoG hwG (by decide)
      obtain ⟨bG, oG, rfl⟩ := Own.at hoG (by omega)
      have hcG := Own.cell hoG hog
      conv => whnf
      refine Go.Vc.draw_intro [⟨0, false, false, false, 0⟩, ⟨1, false, false, false, 1⟩, ⟨2, false, false, false, 3⟩, ⟨3, false, false, false, 7⟩, ⟨4, false, false, false, 0⟩, ⟨5, false, false, false, 16⟩, ⟨6, false, false, false, 48⟩, ⟨7, false, false, false, 112⟩, ⟨8, false, false, false, 240⟩, ⟨9, false, false, false, 511⟩, ⟨10, false, false, false, 1023⟩, ⟨11, false, false, false, 0⟩, ⟨12, false, false, false, 0⟩, ⟨13, false, false, false, 6144⟩, ⟨14, false, false, false, 14336⟩, ⟨15, false, false, false, 30720⟩, ⟨16, false, false, false, 0⟩, ⟨17, false, false, false, 65536⟩, ⟨18, false, false, false, 196608⟩, ⟨19, false, false, false, 458752⟩, ⟨20, false, false, false, 983040⟩, ⟨21, false, false, false, 2095104⟩, ⟨22, false, false, false, 4194303⟩, ⟨23, false, false, false, 8388607⟩, ⟨24, true, false, false, 16777215⟩] (hs := (fun _ => none)) (hsub := (fun _ _ h => nomatch h)) (hm := by kernel_rfl) (hpl := by kernel_rfl) ?_
      conv => whnf
      conv => whnf
      repeat (first | ((with_reducible apply Go.Vc.own_ix); (focus exact And.intro (by omega) (by omega)); conv => whnf) | ((with_reducible apply Go.Vc.ld_i); (focus ((repeat (first | with_reducible assumption | with_reducible exact Go.Vc.hset_same _ _ _ | with_reducible refine (Go.Vc.hset_ne _ _ (by omega)).trans ?_)); done)); (focus exact rfl); conv => whnf) | ((with_reducible apply Go.Vc.cell_i); (focus assumption); conv => whnf) | ((with_reducible apply Go.Vc.quo_i64); (focus exact And.intro (by omega) (And.intro (by omega) (by omega))); conv => whnf) | ((with_reducible apply Go.Vc.and_leI); (focus omega); conv => whnf) | ((with_reducible refine And.intro ?_ (And.intro ?_ ?_)); (focus exact rfl); (focus omega); conv => whnf))
      refine shrs_i64 ⟨by omega, by omega⟩ ?_
      conv => whnf
      refine and1s_i64 ?_
      conv => whnf
      repeat (first | ((with_reducible apply Go.Vc.ld_i); (focus ((repeat (first | with_reducible assumption | with_reducible exact Go.Vc.hset_same _ _ _ | with_reducible refine (Go.Vc.hset_ne _ _ (by omega)).trans ?_)); done)); (focus exact rfl); conv => whnf) | ((with_reducible apply Go.Vc.wr_u8); (focus exact And.intro (by omega) (by omega)); conv => whnf) | ((with_reducible apply Go.Vc.rem_i); (focus omega); conv => whnf) | ((with_reducible apply Go.Vc.and_leI); (focus omega); conv => whnf) | ((with_reducible refine And.intro ?_ (And.intro ?_ ?_)); (focus exact rfl); (focus omega); conv => whnf))
      refine shl_u8 ⟨by omega, by omega⟩ ⟨by omega, by omega⟩ ?_
      conv => whnf
      have hrr : ((cs.length : Int) % 8).toNat = cs.length % 8 := by omega
      rw [hrr, Int.toNat_natCast]
      refine or_u8 (cs.length % 8) (by omega) hbv ⟨by omega, by omega⟩ ?_
      conv => whnf
      repeat (first | ((with_reducible apply Go.Vc.own_ix); (focus exact And.intro (by omega) (by omega)); conv => whnf))
      have hix : ((cs.length : Int) / 8).toNat = cs.length / 8 := by omega
      rw [hix]
      obtain ⟨csb, fr, hbb, hlt, hfz, hput⟩ := hoG.put (j := cs.length / 8) (by omega) (v0 + n / 2 ^ i % 2 * 2 ^ (cs.length % 8))
      rw [← hps] at hput
      refine ⟨rfl, csb, _, fr, hbb, hlt, hfz, ?_⟩
      intro c' hc'
      subst hc'
      have hwb : w ≠ bG := fun e => hneG (by rw [e]; rfl)
      conv => whnf
      repeat (first | ((with_reducible apply Go.Vc.ld_i); (focus ((repeat (first | with_reducible assumption | with_reducible exact Go.Vc.hset_same _ _ _ | with_reducible refine (Go.Vc.hset_ne _ _ (by omega)).trans ?_)); done)); (focus exact rfl); conv => whnf) | ((with_reducible apply Go.Vc.st_i); (focus ((repeat (first | with_reducible assumption | with_reducible exact Go.Vc.hset_same _ _ _ | with_reducible refine (Go.Vc.hset_ne _ _ (by omega)).trans ?_)); done)); (focus exact rfl); (focus exact rfl); (focus exact rfl); (conv => whnf); intro cA hcA; (first | (simp only [List.setIfInBounds_toArray, List.set_cons_succ, List.set_cons_zero] at hcA; subst hcA) | subst hcA); conv => whnf) | ((with_reducible apply Go.Vc.wr_i64); (focus exact And.intro (by omega) (by omega)); conv => whnf))
      have hsl : (packB (cs ++ [dbit n i])).length = cs.length / 8 + 1 := by rw [packB_len, List.length_append, List.length_singleton]; omega
      refine round_end (i + 1) (by omega) ⟨rfl, rfl, rfl, rfl, trivial⟩ ⟨by omega, ?_⟩
      rw [hsn]
      refine ⟨_, ⟨some ⟨bG, oG, none⟩, cG, ?_, ?_, rfl⟩, ?_, hdG, htG⟩
      · rw [hset_same, hsl, List.length_append, List.length_singleton]
        rfl
      · rw [hsl]
        exact Own.fr hput fun k o hk ho => by rw [hset_ne _ _ (fun e => hneG (by rw [hk, e]))]; exact ho
      · intro k o h1 h2 ho
        have hk := hd k o ho
        rw [hset_ne _ _ h1, hset_ne _ _ ?_]
        · exact fG k o h1 h2 ho
        · rintro rfl
          rcases hdG with e | ⟨q, e, hq⟩
          · exact h2 (by rw [← e]; rfl)
          · have e2 : some k = some q := e
            cases e2
            omega
    · have hoe : opened cs = packB cs := by unfold opened; rw [if_neg (by omega)]
      have hpl : (packB cs).length = cs.length / 8 + 1 := by rw [← hoe]; exact hol
      rw [hpl] at hw
      rw [← hoe, hol] at ho
      have hwG := hw
      have hoG := ho
      have fG := f1
      have hdG := hdd
      have htG := ht1
      conv => whnf
      generalize g = gG at *
      generalize a = aG at *
      generalize c = cG at *
      have hneG : owner aG ≠ some w := own_ne hoG hwG (by decide)
      obtain ⟨bG, oG, rfl⟩ := Own.at hoG (by omega)
      have hcG := Own.cell hoG hog
      conv => whnf
      refine Go.Vc.draw_intro [⟨0, false, false, false, 0⟩, ⟨1, false, false, false, 1⟩, ⟨2, false, false, false, 3⟩, ⟨3, false, false, false, 7⟩, ⟨4, false, false, false, 0⟩, ⟨5, false, false, false, 16⟩, ⟨6, false, false, false, 48⟩, ⟨7, false, false, false, 112⟩, ⟨8, false, false, false, 240⟩, ⟨9, false, false, false, 511⟩, ⟨10, false, false, false, 1023⟩, ⟨11, false, false, false, 0⟩, ⟨12, false, false, false, 0⟩, ⟨13, false, false, false, 6144⟩, ⟨14, false, false, false, 14336⟩, ⟨15, false, false, false, 30720⟩, ⟨16, false, false, false, 0⟩, ⟨17, false, false, false, 65536⟩, ⟨18, false, false, false, 196608⟩, ⟨19, false, false, false, 458752⟩, ⟨20, false, false, false, 983040⟩, ⟨21, false, false, false, 2095104⟩, ⟨22, false, false, false, 4194303⟩, ⟨23, false, false, false, 8388607⟩, ⟨24, true, false, false, 16777215⟩] (hs := (fun _ => none)) (hsub := (fun _ _ h => nomatch h)) (hm := by kernel_rfl) (hpl := by kernel_rfl) ?_
      conv => whnf
      conv => whnf
      repeat (first | ((with_reducible apply Go.Vc.own_ix); (focus exact And.intro (by omega) (by omega)); conv => whnf) | ((with_reducible apply Go.Vc.ld_i); (focus ((repeat (first | with_reducible assumption | with_reducible exact Go.Vc.hset_same _ _ _ | with_reducible refine (Go.Vc.hset_ne _ _ (by omega)).trans ?_)); done)); (focus exact rfl); conv => whnf) | ((with_reducible apply Go.Vc.cell_i); (focus assumption); conv => whnf) | ((with_reducible apply Go.Vc.quo_i64); (focus exact And.intro (by omega) (And.intro (by omega) (by omega))); conv => whnf) | ((with_reducible apply Go.Vc.and_leI); (focus omega); conv => whnf) | ((with_reducible refine And.intro ?_ (And.intro ?_ ?_)); (focus exact rfl); (focus omega); conv => whnf))
      refine shrs_i64 ⟨by omega, by omega⟩ ?_
      conv => whnf
      refine and1s_i64 ?_
      conv => whnf
      repeat (first | ((with_reducible apply Go.Vc.ld_i); (focus ((repeat (first | with_reducible assumption | with_reducible exact Go.Vc.hset_same _ _ _ | with_reducible refine (Go.Vc.hset_ne _ _ (by omega)).trans ?_)); done)); (focus exact rfl); conv => whnf) | ((with_reducible apply Go.Vc.wr_u8); (focus exact And.intro (by omega) (by omega)); conv => whnf) | ((with_reducible apply Go.Vc.rem_i); (focus omega); conv => whnf) | ((with_reducible apply Go.Vc.and_leI); (focus omega); conv => whnf) | ((with_reducible refine And.intro ?_ (And.intro ?_ ?_)); (focus exact rfl); (focus omega); conv => whnf))
      refine shl_u8 ⟨by omega, by omega⟩ ⟨by omega, by omega⟩ ?_
      conv => whnf
      have hrr : ((cs.length : Int) % 8).toNat = cs.length % 8 := by omega
      rw [hrr, Int.toNat_natCast]
      refine or_u8 (cs.length % 8) (by omega) hbv ⟨by omega, by omega⟩ ?_
      conv => whnf
      repeat (first | ((with_reducible apply Go.Vc.own_ix); (focus exact And.intro (by omega) (by omega)); conv => whnf))
      have hix : ((cs.length : Int) / 8).toNat = cs.length / 8 := by omega
      rw [hix]
      obtain ⟨csb, fr, hbb, hlt, hfz, hput⟩ := hoG.put (j := cs.length / 8) (by omega) (v0 + n / 2 ^ i % 2 * 2 ^ (cs.length % 8))
      rw [← hps] at hput
      refine ⟨rfl, csb, _, fr, hbb, hlt, hfz, ?_⟩
      intro c' hc'
      subst hc'
      have hwb : w ≠ bG := fun e => hneG (by rw [e]; rfl)
      conv => whnf
      repeat (first | ((with_reducible apply Go.Vc.ld_i); (focus ((repeat (first | with_reducible assumption | with_reducible exact Go.Vc.hset_same _ _ _ | with_reducible refine (Go.Vc.hset_ne _ _ (by omega)).trans ?_)); done)); (focus exact rfl); conv => whnf) | ((with_reducible apply Go.Vc.st_i); (focus ((repeat (first | with_reducible assumption | with_reducible exact Go.Vc.hset_same _ _ _ | with_reducible refine (Go.Vc.hset_ne _ _ (by omega)).trans ?_)); done)); (focus exact rfl); (focus exact rfl); (focus exact rfl); (conv => whnf); intro cA hcA; (first | (simp only [List.setIfInBounds_toArray, List.set_cons_succ, List.set_cons_zero] at hcA; subst hcA) | subst hcA); conv => whnf) | ((with_reducible apply Go.Vc.wr_i64); (focus exact And.intro (by omega) (by omega)); conv => whnf))
      have hsl : (packB (cs ++ [dbit n i])).length = cs.length / 8 + 1 := by rw [packB_len, List.length_append, List.length_singleton]; omega
      refine round_end (i + 1) (by omega) ⟨rfl, rfl, rfl, rfl, trivial⟩ ⟨by omega, ?_⟩
      rw [hsn]
      refine ⟨_, ⟨some ⟨bG, oG, none⟩, cG, ?_, ?_, rfl⟩, ?_, hdG, htG⟩
      · rw [hset_same, hsl, List.length_append, List.length_singleton]
        rfl
      · rw [hsl]
        exact Own.fr hput fun k o hk ho => by rw [hset_ne _ _ (fun e => hneG (by rw [hk, e]))]; exact ho
      · intro k o h1 h2 ho
        have hk := hd k o ho
        rw [hset_ne _ _ h1, hset_ne _ _ ?_]
        · exact fG k o h1 h2 ho
        · rintro rfl
          rcases hdG with e | ⟨q, e, hq⟩
          · exact h2 (by rw [← e]; rfl)
          · have e2 : some k = some q := e
            cases e2
            omega
  · conv => whnf
    exact ⟨rfl, by rw [hfin (by omega)]; exact ⟨_, ⟨a, c, hw, ho, rfl⟩, f1, hdd, ht1⟩⟩
theorem code_spec {h : Heap} {t w : Nat} {d : Option Nat} {bs : List Bool} (B : Wr 63 h w d bs) {n : Int} {many : Nat} (hm : many ≤ 60) (hl : bs.length ≤ 90000000) (hn : -2^63 ≤ n ∧ n < 2^63) :
    CallSpec Try.prog 74 #[.pointer (some ⟨w, 0, none⟩), .int .i64 n, .int .i64 (many : Nat)] h t (fun v h' t' => v = .tuple #[] ∧ WrTo 63 w h t d (bs ++ bitsH n many) h' t') := by
  refine Go.Vc.spec_of_vc (fn := Try.f74) Try.func74 rfl (by kernel_rfl) (by kernel_rfl) (Nat.le_of_ble_eq_true rfl) ?_
  intro hd
  conv => whnf
  refine loop_intro (fun i : Nat => [(0, .pointer (some ⟨w, 0, none⟩)), (1, .int .i64 n), (2, .int .i64 (many : Nat)), (7, .int .i64 (many : Nat)), (8, .int .i64 (i : Nat))])
    (fun i h' t' => i ≤ many ∧ WrTo 63 w h t d (bs ++ (List.range i).map (fun i => dbit n (many - 1 - i))) h' t') (fun i => many - i) 0 ⟨rfl, rfl, rfl, rfl, rfl, trivial⟩
    ⟨by omega, by simpa using B.start⟩ ?_
  rintro i e1 g t1 hd1 ⟨hi, d1, B1, f1, hdd, ht1⟩
  conv => whnf
  refine br (fun hb => ?_) (fun hb => ?_)
  · have hsn : bs ++ (List.range (i + 1)).map (fun i => dbit n (many - 1 - i)) = bs ++ (List.range i).map (fun i => dbit n (many - 1 - i)) ++ bitsL (n / 2 ^ (many - 1 - i)) 1 := by
      simp [bitsL, List.range_succ, dbit]
    conv => whnf
    repeat (first | ((with_reducible apply Go.Vc.wr_i64); (focus exact And.intro (by omega) (by omega)); conv => whnf) | ((with_reducible apply Go.Vc.and_leI); (focus omega); conv => whnf))
    refine shrs_i64 ⟨by omega, by omega⟩ ?_
    have hex : ((many : Int) - 1 - (i : Int)).toNat = many - 1 - i := by omega
    rw [hex]
    conv => whnf
    refine (bits_spec (many := 1) B1 (by omega) (by simp; omega) (div_range hn _)).mono ?_
    rintro _ h2 t2 hd2 ht2 ⟨rfl, W2⟩
    conv => whnf
    repeat (first | ((with_reducible apply Go.Vc.wr_i64); (focus exact And.intro (by omega) (by omega)); conv => whnf))
    refine round_end (i + 1) (by omega) ⟨rfl, rfl, rfl, rfl, rfl, trivial⟩ ⟨by omega, ?_⟩
    rw [hsn]
    exact W2.step hd f1 hdd ht1
  · conv => whnf
    obtain rfl : i = many := by omega
    exact ⟨rfl, d1, B1, f1, hdd, ht1⟩
end Go.Proofs.Ytikpfffhcjlcjaa
