import Derived.Test.YtikpfffhcjlcjaaDefFind
import Derived.Test.YtikpfffhcjlcjaaDefB
import Derived.Test.YtikpfffhcjlcjaaDef9
set_option linter.unusedSimpArgs false
namespace Go.Proofs.Ytikpfffhcjlcjaa
open Go Go.Vc Go.Dfl
set_option maxRecDepth 20000
set_option linter.unusedVariables false
theorem findK_range (F : Int → Int × Int × Bool) (n first : Int) : ∀ k, first ≤ findK F n first k ∧ findK F n first k ≤ first + (k : Nat)
  | 0 => by show first ≤ first ∧ first ≤ _; omega
  | k + 1 => by
    rw [findK]
    split
    · omega
    · have := findK_range F n first k
      omega
theorem findK_le {F : Int → Int × Int × Bool} {n first : Int} (h : (F first).1 ≤ n) : ∀ k, (F (findK F n first k)).1 ≤ n
  | 0 => h
  | k + 1 => by
    rw [findK]
    split
    · assumption
    · exact findK_le h k
def symL (n : Nat) : Int := findK lengthF (n : Int) 257 28
def symD (n : Nat) : Int := findK distF (n : Int) 0 29
def prtOf (s : ByteArray) (i : Nat) (b : Nat × Nat) : Prt :=
  if b.2 = 0 then ⟨(byteAt s i).toNat, 0, 0, 0, 0, 0, true⟩
  else ⟨(symL b.1).toNat, ((b.1 : Int) - (lengthF (symL b.1)).1).toNat, (lengthF (symL b.1)).2.1.toNat, (symD b.2).toNat, ((b.2 : Int) - (distF (symD b.2)).1).toNat, (distF (symD b.2)).2.1.toNat, false⟩
def partsF (s : ByteArray) : Nat → List (Nat × Nat) → List Prt
  | _, [] => []
  | i, b :: r => prtOf s i b :: partsF s (i + b.1) r
theorem length_ok (x : Int) : 0 ≤ (lengthF x).1 ∧ (lengthF x).1 ≤ 100000000 ∧ 0 ≤ (lengthF x).2.1 ∧ (lengthF x).2.1 ≤ 20 := by
  have h : ∀ n, n ≤ 28 → baseG 3 8 4 n ≤ 1000 ∧ exG 8 4 n ≤ 20 := by decide
  unfold lengthF
  split
  · decide
  · split
    · decide
    · obtain ⟨h1, h2⟩ := h (x - 257).toNat (by omega)
      exact ⟨Int.natCast_nonneg _, by show ((_ : Nat) : Int) ≤ _; omega, Int.natCast_nonneg _, by show ((_ : Nat) : Int) ≤ _; omega⟩
theorem dist_ok (x : Int) : 0 ≤ (distF x).1 ∧ (distF x).1 ≤ 100000000 ∧ 0 ≤ (distF x).2.1 ∧ (distF x).2.1 ≤ 20 := by
  have h : ∀ n, n ≤ 29 → baseG 1 4 2 n ≤ 100000 ∧ exG 4 2 n ≤ 20 := by decide +kernel
  unfold distF
  split
  · decide
  · obtain ⟨h1, h2⟩ := h x.toNat (by omega)
    exact ⟨Int.natCast_nonneg _, by show ((_ : Nat) : Int) ≤ _; omega, Int.natCast_nonneg _, by show ((_ : Nat) : Int) ≤ _; omega⟩
theorem byteAt_range (s : ByteArray) (i : Nat) : 0 ≤ byteAt s i ∧ byteAt s i ≤ 255 := by
  unfold byteAt
  have := (s.data.getD i 0).toNat_lt
  omega
theorem prtOf_ok {s : ByteArray} {i to : Nat} {b : Nat × Nat} (h : TokOk s i to b) : SymOk (prtOf s i b) := by
  unfold prtOf
  split
  · have := byteAt_range s i
    exact ⟨by show (byteAt s i).toNat < 286; omega, by show 0 ≤ 20; omega, by show 0 ≤ 1000000; omega, (fun h => by cases h), by show 0 ≤ 20; omega, by show 0 ≤ 1000000; omega⟩
  · rename_i hne
    rcases h.cs with e | ⟨h1, h2, h3, h4, h5, _⟩
    · exact absurd (by rw [e]) hne
    · have r1 := findK_range lengthF (b.1 : Int) 257 28
      have r2 := findK_range distF (b.2 : Int) 0 29
      have o1 := length_ok (symL b.1)
      have o2 := dist_ok (symD b.2)
      exact ⟨by show (findK _ _ _ _).toNat < 286; omega, by show Int.toNat _ ≤ 20; omega, by show Int.toNat _ ≤ 1000000; omega, fun _ => by show (findK _ _ _ _).toNat < 30; omega, by show Int.toNat _ ≤ 20; omega, by show Int.toNat _ ≤ 1000000; omega⟩
theorem toks_len (s : ByteArray) {to : Nat} : ∀ (n i : Nat), to - i ≤ n → (toks s i to).length ≤ n
  | 0, i, h => by rw [toks_end (by omega)]; simp
  | n + 1, i, h => by
    rcases Nat.lt_or_ge i to with hi | hi
    · rw [toks_step hi]
      have := bestT_pos s i to
      have := toks_len s (to := to) n (i + (bestT s i to).1) (by omega)
      simp; omega
    · rw [toks_end (by omega)]; simp
theorem parts_len (s : ByteArray) : ∀ (l : List (Nat × Nat)) (i : Nat), (partsF s i l).length = l.length
  | [], _ => rfl
  | b :: r, i => by rw [partsF, List.length_cons, List.length_cons, parts_len s r]
theorem parts_ok {s : ByteArray} {to : Nat} (hto : to ≤ s.size) : ∀ (n i : Nat), to - i ≤ n → ∀ p ∈ partsF s i (toks s i to), SymOk p
  | 0, i, h, p, hp => by rw [toks_end (by omega), partsF] at hp; cases hp
  | n + 1, i, h, p, hp => by
    rcases Nat.lt_or_ge i to with hi | hi
    · rw [toks_step hi, partsF] at hp
      rcases List.mem_cons.1 hp with rfl | hp
      · exact prtOf_ok (best_ok hi hto)
      · have := bestT_pos s i to
        exact parts_ok hto n _ (by omega) p hp
    · rw [toks_end (by omega), partsF] at hp; cases hp
theorem found_len {n : Nat} (h : 3 ≤ n) : foundF lengthF (n : Nat) 257 285 = .agg #[.int .i64 ((symL n).toNat : Nat), .int .i64 (((n : Int) - (lengthF (symL n)).1).toNat : Nat), .int .i64 ((lengthF (symL n)).2.1.toNat : Nat)] := by
  have r := findK_range lengthF (n : Int) 257 28
  have r2 := findK_le (F := lengthF) (n := (n : Int)) (first := 257) (by show (3 : Int) ≤ n; omega) 28
  have o := length_ok (symL n)
  unfold foundF
  rw [show ((285 : Int) - 257).toNat = 28 from rfl]
  show Value.agg #[.int .i64 (symL n), .int .i64 ((n : Int) - (lengthF (symL n)).1), .int .i64 (lengthF (symL n)).2.1] = _
  have e1 : (((symL n).toNat : Nat) : Int) = symL n := Int.toNat_of_nonneg (by unfold symL; omega)
  have e2 : ((((n : Int) - (lengthF (symL n)).1).toNat : Nat) : Int) = (n : Int) - (lengthF (symL n)).1 := Int.toNat_of_nonneg (by unfold symL; omega)
  have e3 : (((lengthF (symL n)).2.1.toNat : Nat) : Int) = (lengthF (symL n)).2.1 := Int.toNat_of_nonneg (by omega)
  rw [e1, e2, e3]
theorem found_dist {n : Nat} (h : 1 ≤ n) : foundF distF (n : Nat) 0 29 = .agg #[.int .i64 ((symD n).toNat : Nat), .int .i64 (((n : Int) - (distF (symD n)).1).toNat : Nat), .int .i64 ((distF (symD n)).2.1.toNat : Nat)] := by
  have r := findK_range distF (n : Int) 0 29
  have r2 := findK_le (F := distF) (n := (n : Int)) (first := 0) (by show (1 : Int) ≤ n; omega) 29
  have o := dist_ok (symD n)
  unfold foundF
  rw [show ((29 : Int) - 0).toNat = 29 from rfl]
  show Value.agg #[.int .i64 (symD n), .int .i64 ((n : Int) - (distF (symD n)).1), .int .i64 (distF (symD n)).2.1] = _
  have e1 : (((symD n).toNat : Nat) : Int) = symD n := Int.toNat_of_nonneg (by unfold symD; omega)
  have e2 : ((((n : Int) - (distF (symD n)).1).toNat : Nat) : Int) = (n : Int) - (distF (symD n)).1 := Int.toNat_of_nonneg (by unfold symD; omega)
  have e3 : (((distF (symD n)).2.1.toNat : Nat) : Int) = (distF (symD n)).2.1 := Int.toNat_of_nonneg (by omega)
  rw [e1, e2, e3]
theorem app_part {ty : TypeId} {h : Heap} {t : Nat} {a : Option Addr} {n c : Nat} {l l2 : List Value} {xa : Option Addr} {xc m : Nat}
    (ho : Vc.Own h 94 a (n * 7) (c * 7) id l) (hx : Sl h xa (m * 7) id l2) (hf : l2.all oneC = true) (hb : n + m ≤ 200000000) (hdm : Dom h t) {K : Value → Heap → Nat → Prop}
    (hK : ∀ a' c' h' t', Vc.Own h' 94 a' ((n + m) * 7) (c' * 7) id (l ++ l2) → t ≤ t' → Dom h' t' → (∀ k, k < t → owner a ≠ some k → h' k = h k) → (owner a' = owner a ∨ ∃ r, owner a' = some r ∧ t ≤ r) → K (.slice a' (n + m) c') h' t') :
    AppVC Try.prog #[64, 64] ty (.slice a n c) (.slice xa m xc) K h t :=
  app_vcW (E := 94) (inf := Try.types[94]) (z := .agg #[.int .i64 0, .int .i64 0, .int .i64 0, .int .i64 0, .int .i64 0, .int .i64 0, .bool false]) (W := 7) Try.underlying64 Try.underlying64 rfl (by kernel_rfl) (by kernel_rfl) (by decide) (by kernel_rfl) rfl ho hx hf (by
    show (n + m) * 56 ≤ 2 ^ 40
    omega) (by omega) (by show 56 ≤ 1000; decide) hdm hK
theorem made_spec {h : Heap} {t : Nat} (s : ByteArray) {f e : Nat} (hs : s.size ≤ 1000000) (hfe : f ≤ e) (he : e ≤ s.size) (hf : f ≤ 32768) (hl : e ≤ f + 32768) :
    CallSpec Try.prog 32 #[.string s, .int .i64 (f : Nat), .int .i64 (e : Nat)] h t (fun v h' t' => ∃ a c, v = .agg #[.string (s.extract f e), .slice a (toks s f e).length c] ∧ Vc.Own h' 94 a ((toks s f e).length * 7) (c * 7) id ((partsF s f (toks s f e)).flatMap pcells) ∧ (∀ b, owner a = some b → t ≤ b) ∧ Vc.Sub h h' ∧ t ≤ t') := by
  refine Go.Vc.spec_of_vc (fn := Try.f32) Try.func32 rfl (by kernel_rfl) (by kernel_rfl) (Nat.le_of_ble_eq_true rfl) ?_
  intro hd
  conv => whnf
  repeat (first | ((with_reducible refine And.intro (And.intro ?_ ?_) ?_); (focus omega); (focus omega); conv => whnf) | ((with_reducible apply Go.Vc.strow); (focus ((repeat (first | with_reducible assumption | with_reducible exact Go.Vc.hset_same _ _ _ | with_reducible refine (Go.Vc.hset_ne _ _ (by omega)).trans ?_)); done)); (focus exact rfl); (focus exact rfl); (focus exact rfl); rintro _ rfl; conv => whnf) | (intro _ _; conv => whnf))
  rename_i r6 hr6 r7 hr7
  refine (tokens_spec s (from_ := (f : Nat)) (to := (e : Nat)) (by omega) (by omega) (by omega) (.inl (by omega))).mono ?_
  rintro _ h1 t1 hd1 ht1 ⟨a, c, rfl, ho, hw, hs1, _⟩
  have htk : tokensF s (f : Nat) (e : Nat) = toks s f e := by
    unfold tokensF
    rw [if_neg (by omega), Int.toNat_natCast, Int.toNat_natCast]
  rw [htk] at ho
  rw [htk]
  have ef : s.extract ((f : Nat) : Int).toNat ((e : Nat) : Int).toNat = s.extract f e := by rw [Int.toNat_natCast, Int.toNat_natCast]
  have x7 : h1 r7 = some (.cells #[.string (s.extract f e), .slice none 0 0] 66 (0, 0)) := by
    rw [← ef]
    exact hs1 _ _ (hset_same _ _ _)
  have hLn := toks_len s (to := e) 32768 f (by omega)
  have hs0 : Vc.Sub h h1 := fun b o hb => hs1 _ _ (by
    have := hd _ _ hb
    rw [hset_ne _ _ (by omega), hset_ne _ _ (by omega), hset_ne _ _ (by omega)]
    exact hb)
  have x6 : h1 r6 = some (.cells #[.string ByteArray.empty, .slice none 0 0] 66 (0, 0)) := hs1 _ _ (by
    rw [hset_ne _ _ (by omega), hset_ne _ _ (by omega)]
    exact hset_same _ _ _)
  obtain ⟨L, hL⟩ : ∃ L, toks s f e = L := ⟨_, rfl⟩
  rw [hL] at ho hLn
  rw [hL]
  conv => whnf
  refine loop_intro5 (fun (k p : Nat) (PS : List Prt) (pa : Option Addr) (pc : Nat) => [(0, .string s), (6, .pointer (some ⟨r6, 0, none⟩)), (7, .pointer (some ⟨r7, 0, none⟩)), (8, .int .i64 (p : Nat)), (20, .slice a L.length c), (21, .int .i64 (L.length : Nat)), (22, .int .i64 (k : Nat))])
    (fun k p PS pa pc h' t' => k ≤ L.length ∧ p ≤ e ∧ PS.length = k ∧ toks s p e = L.drop k ∧ PS ++ partsF s p (L.drop k) = partsF s f L ∧ h' r7 = some (.cells #[.string (s.extract f e), .slice pa k pc] 66 (0, 0)) ∧ h' r6 = some (.cells #[.string ByteArray.empty, .slice none 0 0] 66 (0, 0)) ∧ Vc.Own h' 94 pa (k * 7) (pc * 7) id (PS.flatMap pcells) ∧ (∀ b, owner pa = some b → t ≤ b) ∧ Vc.Own h' 28 a (L.length * 2) (c * 2) id (L.flatMap tk) ∧ Vc.Sub h h' ∧ t1 ≤ t') (fun k _ _ _ _ => L.length - k) 0 f [] none 0 ⟨rfl, rfl, rfl, rfl, rfl, rfl, rfl, trivial⟩
    ⟨by omega, hfe, rfl, by rw [List.drop_zero, hL], by rw [List.drop_zero, List.nil_append], x7, x6, Own.nil _ _ _, (fun b hb => by cases hb), ho, hs0, by omega⟩ ?_
  rintro k p PS pa pc e1 g t2 hd2 ⟨hk, hp, hPS, hT, hP, x7, x6, hoP, hwP, hoT, hsg, ht2⟩
  conv => whnf
  refine br (fun hb => ?_) (fun hb => ?_)
  · obtain ⟨tok, R, hR⟩ : ∃ tok R, L.drop k = tok :: R := by
      cases hc : L.drop k with
      | nil => have := congrArg List.length hc; rw [List.length_drop, List.length_nil] at this; omega
      | cons b R => exact ⟨b, R, rfl⟩
    have hpe : p < e := by
      rcases Nat.lt_or_ge p e with h | h
      · exact h
      · rw [toks_end (by omega), hR] at hT; cases hT
    have hbest : tok = bestT s p e ∧ R = toks s (p + tok.1) e := by
      rw [toks_step hpe, hR] at hT
      injection hT with h1 h2
      exact ⟨h1.symm, by rw [← h1, h2]⟩
    have hLk : L[k]? = some tok := by
      have : (L.drop k)[0]? = some tok := by rw [hR]; rfl
      rw [List.getElem?_drop] at this
      exact this
    have hRk : L.drop (k + 1) = R := by
      rw [← List.drop_drop, hR]; rfl
    have hok := best_ok (s := s) hpe he
    rw [← hbest.1] at hok
    obtain ⟨q, bP, offP, hq, haP, hrow⟩ := slW_row (i := k) tk_len hoT.sl (by decide) (by omega)
    obtain rfl : q = tok := by rw [hLk] at hq; exact (Option.some.inj hq).symm
    conv => whnf
    repeat (first | ((with_reducible refine And.intro (And.intro ?_ ?_) ?_); (focus omega); (focus omega); conv => whnf))
    refine ⟨bP, offP, haP, ?_⟩
    conv => whnf
    refine hrow.row (W := 2) rfl (by decide) ?_
    conv => whnf
    repeat (first | ((with_reducible apply Go.Vc.strow); (focus ((repeat (first | with_reducible assumption | with_reducible exact Go.Vc.hset_same _ _ _ | with_reducible refine (Go.Vc.hset_ne _ _ (by omega)).trans ?_)); done)); (focus exact rfl); (focus exact rfl); (focus exact rfl); rintro _ rfl; conv => whnf) | ((with_reducible apply Go.Vc.ld_i); (focus ((repeat (first | with_reducible assumption | with_reducible exact Go.Vc.hset_same _ _ _ | with_reducible refine (Go.Vc.hset_ne _ _ (by omega)).trans ?_)); done)); (focus exact rfl); conv => whnf) | (intro _ _; conv => whnf))
    rename_i r hr
    have hqr : hset (hset g r (.cells #[.int .i64 0, .int .i64 0] 28)) r (.cells (tk q).toArray 28) r = some (.cells #[.int .i64 (q.1 : Nat), .int .i64 (q.2 : Nat)] 28 (0, 0)) := hset_same _ _ _
    have hGg : ∀ k o, g k = some o → hset (hset g r (.cells #[.int .i64 0, .int .i64 0] 28)) r (.cells (tk q).toArray 28) k = some o := fun k o hk => by
      have := hd2 _ _ hk
      rw [hset_ne _ _ (by omega), hset_ne _ _ (by omega)]
      exact hk
    have hG7 := hGg _ _ x7
    have hdG := (hd2.set r (.cells #[.int .i64 0, .int .i64 0] 28) (r + 1) (by omega) (by omega)).set r (.cells (tk q).toArray 28) (r + 1) (by omega) (by omega)
    obtain ⟨H0, hH0⟩ : ∃ H0, H0 = pick2 (hset (hset g r (.cells #[.int .i64 0, .int .i64 0] 28)) r (.cells (tk q).toArray 28)) r7 r := ⟨_, rfl⟩
    have hsD : Vc.Sub H0 (hset (hset g r (.cells #[.int .i64 0, .int .i64 0] 28)) r (.cells (tk q).toArray 28)) := by rw [hH0]; exact fun _ _ => pick2_get
    have z7 : H0 r7 = some (.cells #[.string (s.extract f e), .slice pa k pc] 66 (0, 0)) := by rw [hH0]; unfold pick2; rw [if_pos (.inl rfl)]; exact hG7
    have zr : H0 r = some (.cells #[.int .i64 (q.1 : Nat), .int .i64 (q.2 : Nat)] 28 (0, 0)) := by rw [hH0]; unfold pick2; rw [if_pos (.inr rfl)]; exact hqr
    refine br (fun hz => ?_) (fun hz => ?_)
    · obtain ⟨P, hPe⟩ : ∃ P, P = (⟨(byteAt s p).toNat, 0, 0, 0, 0, 0, true⟩ : Prt) := ⟨_, rfl⟩
      have hprt : prtOf s p q = P := by unfold prtOf; rw [if_pos (by omega)]; exact hPe.symm
      refine Go.Vc.draw_intro [⟨0, false, true, false, 0⟩, ⟨1, false, true, false, 1⟩, ⟨2, false, false, false, 0⟩, ⟨3, false, false, false, 0⟩, ⟨4, false, false, false, 12⟩, ⟨5, false, false, false, 28⟩, ⟨6, false, false, false, 60⟩, ⟨7, false, false, false, 124⟩, ⟨8, true, false, true, 252⟩, ⟨9, true, false, false, 511⟩, ⟨10, false, false, false, 1023⟩, ⟨11, true, false, false, 2047⟩] (hs := H0) (hsub := hsD) (hm := by kernel_rfl) (hpl := by kernel_rfl) ?_
      conv => whnf
      conv => whnf
      repeat (first | ((with_reducible refine And.intro (And.intro ?_ ?_) ?_); (focus omega); (focus omega); conv => whnf) | ((with_reducible apply Go.Vc.ld_i); (focus ((repeat (first | with_reducible assumption | with_reducible exact Go.Vc.hset_same _ _ _ | with_reducible refine (Go.Vc.hset_ne _ _ (by omega)).trans ?_)); done)); (focus exact rfl); conv => whnf) | (intro _ _; conv => whnf) | ((with_reducible apply Go.Vc.wr_i64); (focus exact And.intro (by omega) (by omega)); conv => whnf))
      rename_i rn hrn
      refine ⟨hsD.trans (hdG.sub_new hrn _), ?_⟩
      have hbr := byteAt_range s p
      rw [show byteAt s ((p : Nat) : Int).toNat = (((byteAt s p).toNat : Nat) : Int) by rw [Int.toNat_natCast]; omega]
      have hdX := hdG
      have rX := hqr
      have x7X := hG7
      have x6X := hGg _ _ x6
      have oX := Own.fr hoP fun b x _ hx => hGg b x hx
      have oTX := Own.fr hoT fun b x _ hx => hGg b x hx
      have hsX : Vc.Sub h _ := fun b o hb => hGg b o (hsg b o hb)
      conv => whnf
      have hcP : (pcells P).toArray = #[.int .i64 ((byteAt s p).toNat : Nat), .int .i64 0, .int .i64 0, .int .i64 0, .int .i64 0, .int .i64 0, .bool true] := by rw [hPe]; rfl
      rw [← hcP]
      have hdr := hdX.set rn (.cells (pcells P).toArray 94) (rn + 1) (by omega) (by omega)
      have hsr := hdX.sub_new hrn (.cells (pcells P).toArray 94)
      refine app_part (m := 1) (l2 := pcells P) (Own.fr oX fun b x _ hx => hsr b x hx) (vl_sl (hset_same _ _ _) rfl) rfl (by omega) hdr ?_
      intro a' c' h3 t3 ho3 ht3 hd3 hk3 hown3
      have hrt := hdX _ _ rX
      have h7t := hdX _ _ x7X
      have h6t := hdX _ _ x6X
      have hr3 : h3 r = _ := (hk3 r (by omega) (own_ne oX rX (by decide))).trans ((hset_ne _ _ (by omega)).trans rX)
      have h73 : h3 r7 = _ := (hk3 r7 (by omega) (own_ne oX x7X (by decide))).trans ((hset_ne _ _ (by omega)).trans x7X)
      have h63 : h3 r6 = _ := (hk3 r6 (by omega) (own_ne oX x6X (by decide))).trans ((hset_ne _ _ (by omega)).trans x6X)
      have oT3 : Vc.Own h3 28 a (L.length * 2) (c * 2) id (L.flatMap tk) := Own.fr oTX fun b x hb hx => by
        have hbt := hdX _ _ hx
        rw [hk3 b (by omega) (fun hc => by
          obtain ⟨_, _, e1⟩ := own_tag oX hc
          obtain ⟨_, _, e2⟩ := own_tag oTX hb
          rw [e1] at e2
          cases e2), hset_ne _ _ (by omega)]
        exact hx
      have hw3 : ∀ b, owner a' = some b → t ≤ b := fun b hb => by
        rcases hown3 with h4 | ⟨r', h4, hr'⟩
        · exact hwP b (by rw [← h4]; exact hb)
        · rw [h4] at hb; cases hb; omega
      have hs3 : Vc.Sub h h3 := fun b o hb => by
        have h1 := hd _ _ hb
        have h2 := hsX _ _ hb
        have h3' := hdX _ _ h2
        rw [hk3 b (by omega) (fun hc => by have := hwP b hc; omega), hset_ne _ _ (by omega)]
        exact h2
      have nT7 := own_ne oT3 h73 (by decide)
      have nP7 := own_ne ho3 h73 (by decide)
      have hle := hok.le
      conv => whnf
      repeat (first | ((with_reducible apply Go.Vc.ld_i); (focus ((repeat (first | with_reducible assumption | with_reducible exact Go.Vc.hset_same _ _ _ | with_reducible refine (Go.Vc.hset_ne _ _ (by omega)).trans ?_)); done)); (focus exact rfl); conv => whnf) | ((with_reducible apply Go.Vc.st_i); (focus ((repeat (first | with_reducible assumption | with_reducible exact Go.Vc.hset_same _ _ _ | with_reducible refine (Go.Vc.hset_ne _ _ (by omega)).trans ?_)); done)); (focus exact rfl); (focus exact rfl); (focus exact rfl); (conv => whnf); intro cA hcA; (first | (simp only [List.setIfInBounds_toArray, List.set_cons_succ, List.set_cons_zero] at hcA; subst hcA) | subst hcA); conv => whnf) | ((with_reducible apply Go.Vc.wr_i64); (focus exact And.intro (by omega) (by omega)); conv => whnf))
      refine round_end5 (k + 1) (p + q.1) (PS ++ [P]) a' c' (by omega) ⟨rfl, rfl, rfl, rfl, rfl, rfl, rfl, trivial⟩
        ⟨by omega, hle, by rw [List.length_append]; simp; omega, by rw [hRk, ← hbest.2], ?_, ?_, ?_, ?_, hw3, ?_, ?_, by omega⟩
      · rw [← hP, hR, partsF, hRk, hprt, List.append_assoc]; rfl
      · exact hset_same _ _ _
      · rw [hset_ne _ _ (by omega)]; exact h63
      · rw [List.flatMap_append, List.flatMap_singleton]
        exact Own.fr ho3 fun b x hb hx => by rw [hset_ne _ _ (fun e => nP7 (by rw [hb, e]))]; exact hx
      · exact Own.fr oT3 fun b x hb hx => by rw [hset_ne _ _ (fun e => nT7 (by rw [hb, e]))]; exact hx
      · intro b o hb
        have := hd _ _ hb
        rw [hset_ne _ _ (by omega)]
        exact hs3 b o hb
    · refine Go.Vc.draw_intro [⟨0, false, true, false, 0⟩, ⟨1, false, true, false, 1⟩, ⟨2, false, false, false, 0⟩, ⟨3, false, false, false, 4⟩, ⟨5, false, true, false, 0⟩, ⟨6, false, true, false, 32⟩, ⟨4, true, false, true, 12⟩, ⟨7, true, false, true, 124⟩, ⟨8, false, false, false, 252⟩, ⟨9, true, false, true, 508⟩, ⟨10, true, false, false, 1023⟩, ⟨11, false, false, false, 2047⟩, ⟨12, true, false, false, 4095⟩] (hs := H0) (hsub := hsD) (hm := by kernel_rfl) (hpl := by kernel_rfl) ?_
      conv => whnf
      conv => whnf
      repeat (first | ((with_reducible apply Go.Vc.ld_i); (focus ((repeat (first | with_reducible assumption | with_reducible exact Go.Vc.hset_same _ _ _ | with_reducible refine (Go.Vc.hset_ne _ _ (by omega)).trans ?_)); done)); (focus exact rfl); conv => whnf))
      have hq3 : 3 ≤ q.1 ∧ q.1 ≤ 258 ∧ 1 ≤ q.2 ∧ q.2 ≤ 32768 := by
        rcases hok.cs with h | ⟨h1, h2, h3, h4, h5, _⟩
        · exact absurd (by rw [h]; rfl) hz
        · exact ⟨h1, h2, h3, h5⟩
      refine (find_spec (F := lengthF) (n := (q.1 : Nat)) (first := 257) (last := 285) (by kernel_rfl) (by omega) (by omega) (fun x h t h1 h2 => length_spec (by omega)) (fun x h1 h2 => ?_)).mono ?_
      · have o := length_ok x
        refine ⟨?_, o.1, o.2.1⟩
        unfold lengthF
        split
        · rfl
        · rw [if_neg (by omega)]
      rintro _ h2 t2 hd2 ht2 ⟨rfl, hs2, _⟩
      rw [found_len hq3.1]
      conv => whnf
      refine ⟨hsD.trans hs2, ?_⟩
      conv => whnf
      refine (find_spec (F := distF) (n := (q.2 : Nat)) (first := 0) (last := 29) (by kernel_rfl) (by omega) (by omega) (fun x h t h1 h2 => distance_spec (by omega)) (fun x h1 h2 => ?_)).mono ?_
      · have o := dist_ok x
        refine ⟨?_, o.1, o.2.1⟩
        unfold distF
        rw [if_neg (by omega)]
      rintro _ hX tX hdX htX ⟨rfl, hs3, _⟩
      rw [found_dist hq3.2.2.1]
      have rX := hs3 _ _ (hs2 _ _ hqr)
      have x7X := hs3 _ _ (hs2 _ _ hG7)
      have x6X := hs3 _ _ (hs2 _ _ (hGg _ _ x6))
      have oX := Own.fr hoP fun b x _ hx => hs3 _ _ (hs2 _ _ (hGg b x hx))
      have oTX := Own.fr hoT fun b x _ hx => hs3 _ _ (hs2 _ _ (hGg b x hx))
      have hsX : Vc.Sub h _ := fun b o hb => hs3 _ _ (hs2 _ _ (hGg b o (hsg b o hb)))
      conv => whnf
      refine ⟨hsD.trans (hs2.trans hs3), ?_⟩
      conv => whnf
      repeat (first | (intro _ _; conv => whnf))
      rename_i rn hrn
      refine ⟨hsD.trans (hs2.trans (hs3.trans (hdX.sub_new hrn _))), ?_⟩
      obtain ⟨P, hPe⟩ : ∃ P, prtOf s p q = P := ⟨_, rfl⟩
      have hprt := hPe
      unfold prtOf at hPe
      rw [if_neg (by omega)] at hPe
      conv => whnf
      have hcP : (pcells P).toArray = #[.int .i64 ((symL q.1).toNat : Nat), .int .i64 (((q.1 : Int) - (lengthF (symL q.1)).1).toNat : Nat), .int .i64 ((lengthF (symL q.1)).2.1.toNat : Nat), .int .i64 ((symD q.2).toNat : Nat), .int .i64 (((q.2 : Int) - (distF (symD q.2)).1).toNat : Nat), .int .i64 ((distF (symD q.2)).2.1.toNat : Nat), .bool false] := by rw [← hPe]; rfl
      rw [← hcP]
      have hdr := hdX.set rn (.cells (pcells P).toArray 94) (rn + 1) (by omega) (by omega)
      have hsr := hdX.sub_new hrn (.cells (pcells P).toArray 94)
      refine app_part (m := 1) (l2 := pcells P) (Own.fr oX fun b x _ hx => hsr b x hx) (vl_sl (hset_same _ _ _) rfl) rfl (by omega) hdr ?_
      intro a' c' h3 t3 ho3 ht3 hd3 hk3 hown3
      have hrt := hdX _ _ rX
      have h7t := hdX _ _ x7X
      have h6t := hdX _ _ x6X
      have hr3 : h3 r = _ := (hk3 r (by omega) (own_ne oX rX (by decide))).trans ((hset_ne _ _ (by omega)).trans rX)
      have h73 : h3 r7 = _ := (hk3 r7 (by omega) (own_ne oX x7X (by decide))).trans ((hset_ne _ _ (by omega)).trans x7X)
      have h63 : h3 r6 = _ := (hk3 r6 (by omega) (own_ne oX x6X (by decide))).trans ((hset_ne _ _ (by omega)).trans x6X)
      have oT3 : Vc.Own h3 28 a (L.length * 2) (c * 2) id (L.flatMap tk) := Own.fr oTX fun b x hb hx => by
        have hbt := hdX _ _ hx
        rw [hk3 b (by omega) (fun hc => by
          obtain ⟨_, _, e1⟩ := own_tag oX hc
          obtain ⟨_, _, e2⟩ := own_tag oTX hb
          rw [e1] at e2
          cases e2), hset_ne _ _ (by omega)]
        exact hx
      have hw3 : ∀ b, owner a' = some b → t ≤ b := fun b hb => by
        rcases hown3 with h4 | ⟨r', h4, hr'⟩
        · exact hwP b (by rw [← h4]; exact hb)
        · rw [h4] at hb; cases hb; omega
      have hs3 : Vc.Sub h h3 := fun b o hb => by
        have h1 := hd _ _ hb
        have h2 := hsX _ _ hb
        have h3' := hdX _ _ h2
        rw [hk3 b (by omega) (fun hc => by have := hwP b hc; omega), hset_ne _ _ (by omega)]
        exact h2
      have nT7 := own_ne oT3 h73 (by decide)
      have nP7 := own_ne ho3 h73 (by decide)
      have hle := hok.le
      conv => whnf
      repeat (first | ((with_reducible apply Go.Vc.ld_i); (focus ((repeat (first | with_reducible assumption | with_reducible exact Go.Vc.hset_same _ _ _ | with_reducible refine (Go.Vc.hset_ne _ _ (by omega)).trans ?_)); done)); (focus exact rfl); conv => whnf) | ((with_reducible apply Go.Vc.st_i); (focus ((repeat (first | with_reducible assumption | with_reducible exact Go.Vc.hset_same _ _ _ | with_reducible refine (Go.Vc.hset_ne _ _ (by omega)).trans ?_)); done)); (focus exact rfl); (focus exact rfl); (focus exact rfl); (conv => whnf); intro cA hcA; (first | (simp only [List.setIfInBounds_toArray, List.set_cons_succ, List.set_cons_zero] at hcA; subst hcA) | subst hcA); conv => whnf) | ((with_reducible apply Go.Vc.wr_i64); (focus exact And.intro (by omega) (by omega)); conv => whnf))
      refine round_end5 (k + 1) (p + q.1) (PS ++ [P]) a' c' (by omega) ⟨rfl, rfl, rfl, rfl, rfl, rfl, rfl, trivial⟩
        ⟨by omega, hle, by rw [List.length_append]; simp; omega, by rw [hRk, ← hbest.2], ?_, ?_, ?_, ?_, hw3, ?_, ?_, by omega⟩
      · rw [← hP, hR, partsF, hRk, hprt, List.append_assoc]; rfl
      · exact hset_same _ _ _
      · rw [hset_ne _ _ (by omega)]; exact h63
      · rw [List.flatMap_append, List.flatMap_singleton]
        exact Own.fr ho3 fun b x hb hx => by rw [hset_ne _ _ (fun e => nP7 (by rw [hb, e]))]; exact hx
      · exact Own.fr oT3 fun b x hb hx => by rw [hset_ne _ _ (fun e => nT7 (by rw [hb, e]))]; exact hx
      · intro b o hb
        have := hd _ _ hb
        rw [hset_ne _ _ (by omega)]
        exact hs3 b o hb
  · obtain rfl : k = L.length := by omega
    rw [List.drop_length, partsF, List.append_nil] at hP
    conv => whnf
    repeat (first | ((with_reducible apply Go.Vc.ldrow); (focus ((repeat (first | with_reducible assumption | with_reducible exact Go.Vc.hset_same _ _ _ | with_reducible refine (Go.Vc.hset_ne _ _ (by omega)).trans ?_)); done)); (focus exact rfl); rintro _ rfl; conv => whnf) | ((with_reducible apply Go.Vc.strow); (focus ((repeat (first | with_reducible assumption | with_reducible exact Go.Vc.hset_same _ _ _ | with_reducible refine (Go.Vc.hset_ne _ _ (by omega)).trans ?_)); done)); (focus exact rfl); (focus exact rfl); (focus exact rfl); rintro _ rfl; conv => whnf))
    have hn6 := own_ne hoP x6 (by decide)
    refine ⟨pa, pc, rfl, ?_, hwP, fun b o hb => ?_, by omega⟩
    · rw [← hP]
      exact Own.fr hoP fun b x hb hx => by rw [hset_ne _ _ (fun e => hn6 (by rw [hb, e]))]; exact hx
    · have := hd _ _ hb
      rw [hset_ne _ _ (by omega)]
      exact hsg _ _ hb
end Go.Proofs.Ytikpfffhcjlcjaa
