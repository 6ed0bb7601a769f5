import Derived.Test.YtikpfffhcjlcjaaInfDyn
set_option linter.unusedSimpArgs false
namespace Go.Proofs.Ytikpfffhcjlcjaa
open Go Go.Vc Go.Huf Go.Dfl
set_option maxRecDepth 20000
set_option linter.unusedVariables false
set_option maxHeartbeats 1000000
theorem Own.frr {α : Type} {h h' : Heap} {r : Nat} {d : Option Nat} {E : TypeId} {a : Option Addr} {n c : Nat} {f : α → Value} {l : List α} (o : Vc.Own h E a n c f l) (hb : ∀ b, owner a = some b → b ≠ r ∧ d ≠ some b) (fr : FrW r d h h') : Vc.Own h' E a n c f l :=
  Own.fr o fun b x he hx => fr b x (hb b he).1 (hb b he).2 hx
theorem Rd.keep {h h' : Heap} {r : Nat} {d : Option Nat} {s : ByteArray} {p : Nat} {out : List Int} {most : Nat} {e : Int} (B : Rd h r d s p out most e) (hk : ∀ k o, (k = r ∨ d = some k) → h k = some o → h' k = some o) : Rd h' r d s p out most e := by
  obtain ⟨a, c, hw, o, rfl⟩ := B
  exact ⟨a, c, hk _ _ (.inl rfl) hw, Own.fr o fun b x he hx => hk b x (.inr he) hx, rfl⟩
theorem flat_const (m : Nat) : ∀ TD : List Int, (TD.flatMap fun k => bitsL k m).length = m * TD.length
  | [] => by simp
  | z :: l => by rw [List.flatMap_cons, List.length_append, bitsL_len, flat_const m l, List.length_cons, Nat.mul_succ]; omega
theorem flat_str {x : ByteArray} : ∀ {TD : List Int} {p i : Nat} {z : Int}, Str x p (TD.flatMap fun k => bitsL k 3) → TD[i]? = some z → Str x (p + 3 * i) (bitsL z 3)
  | [], p, i, z, _, h => by simp at h
  | y :: l, p, 0, z, hs, h => by
    obtain rfl : y = z := by simpa using h
    rw [List.flatMap_cons] at hs
    exact hs.left
  | y :: l, p, i + 1, z, hs, h => by
    rw [List.flatMap_cons] at hs
    have := flat_str (i := i) hs.right (by simpa using h)
    rw [bitsL_len, show p + 3 + 3 * i = p + 3 * (i + 1) by omega] at this
    exact this
theorem fdyn_core {h : Heap} {t r : Nat} {d : Option Nat} {x s : ByteArray} {p most : Nat} {LA LB S TD : List Int} {RS : List (Int × Int)} (R : Rd h r d x p [] most 0) (hxs : x.size ≤ 100000000) (hss : s.size ≤ 1000000) (hmo : most ≤ 100000000)
    (A2 : 257 ≤ LA.length) (A3 : LA.length ≤ 286) (B2 : 1 ≤ LB.length) (B3 : LB.length ≤ 30) (hA : errN LA = 0 ∧ err LA = 0) (hB : errN LB = 0 ∧ err LB = 0)
    (S1 : errN S = 0 ∧ err S = 0) (S2 : S.length = 19) (S3 : ∀ x ∈ S, 0 ≤ x ∧ x ≤ 7) (S4 : ∀ q ∈ RS, q.1.toNat < 19 ∧ 1 ≤ (S.getD q.1.toNat 0).toNat)
    (T1 : 4 ≤ TD.length) (T2 : TD.length ≤ 19) (hfill : fillF S TD.length = S) (htold : ∀ i, i < TD.length → ∃ k, orderL[i]? = some k ∧ TD[i]? = some (S.getD k 0))
    (hdec : Dec [] RS (LA ++ LB)) (hcov : ∀ q ∈ partsF s 0 (toks s 0 s.size), PrtC LA LB q) (h256 : 256 < LA.length ∧ 1 ≤ (LA.getD 256 0).toNat)
    (hs : Str x p (bitsL (LA.length - 257 : Nat) 5 ++ (bitsL (LB.length - 1 : Nat) 5 ++ (bitsL (TD.length - 4 : Nat) 4 ++ ((TD.flatMap fun k => bitsL k 3) ++ (RS.flatMap (symB S) ++ rest LA LB s 0)))))) :
    CallSpec Try.prog 38 #[.pointer (some ⟨r, 0, none⟩)] h t
      (fun v h' t' => v = .tuple #[] ∧ Ends (s.size ≤ most) r h t d x (p + (14 + 3 * TD.length + (RS.flatMap (symB S)).length + (rest LA LB s 0).length)) (tx s) most h' t') := by
  refine Go.Vc.spec_of_vcI (fn := Try.f38) Try.func38 rfl (by kernel_rfl) (by kernel_rfl) (Nat.le_of_ble_eq_true rfl) ?_
  intro hd
  conv => whnf
  refine (number_ok R hxs (n := (LA.length - 257 : Nat)) (m := 5) (by omega) (by omega) hs.left).mono ?_
  rintro _ h1 t1 hd1 ht1 ⟨rfl, d1, R1, f1, dd1, l1⟩
  conv => whnf
  repeat (first | ((with_reducible apply Go.Vc.wr_i64); (focus exact And.intro (by omega) (by omega)); conv => whnf))
  have hs2 := hs.right
  rw [bitsL_len] at hs2
  refine (number_ok R1 hxs (n := (LB.length - 1 : Nat)) (m := 5) (by omega) (by omega) hs2.left).mono ?_
  rintro _ h2 t2 hd2 ht2 ⟨rfl, d2, R2, f2, dd2, l2⟩
  have hs3 := hs2.right
  rw [bitsL_len] at hs3
  conv => whnf
  repeat (first | ((with_reducible apply Go.Vc.wr_i64); (focus exact And.intro (by omega) (by omega)); conv => whnf))
  refine (number_ok R2 hxs (n := (TD.length - 4 : Nat)) (m := 4) (by omega) (by omega) hs3.left).mono ?_
  rintro _ h3 t3 hd3 ht3 ⟨rfl, V3⟩
  have hs4 := hs3.right
  rw [bitsL_len] at hs4
  have W3 := RdTo.step hd f1 dd1 l1 (RdTo.step hd1 f2 dd2 l2 V3)
  obtain ⟨d3, R3, f3, dd3, l3⟩ := id W3
  conv => whnf
  repeat (first | ((with_reducible apply Go.Vc.mk_b); (focus exact And.intro (by omega) (by omega)); (focus exact rfl); (focus omega); intro rM csM hrM hcsM; (first | (replace hcsM := hcsM.trans (Go.Vc.zc (Value.int .i64) 0 _)) | (replace hcsM := hcsM.trans (Go.Vc.zc Go.Vc.bv 0 _)) | (replace hcsM := hcsM.trans (Go.Vc.zc Value.string ByteArray.empty _))); subst hcsM; conv => whnf) | ((with_reducible refine And.intro (And.intro ?_ ?_) ?_); (focus omega); (focus omega); conv => whnf) | ((with_reducible apply Go.Vc.strow); (focus ((repeat (first | with_reducible assumption | with_reducible exact Go.Vc.hset_same _ _ _ | with_reducible refine (Go.Vc.hset_ne _ _ (by omega)).trans ?_)); done)); (focus exact rfl); (focus exact rfl); (focus exact rfl); rintro _ rfl; conv => whnf) | (intro _ _; conv => whnf) | ((with_reducible apply Go.Vc.wr_i64); (focus exact And.intro (by omega) (by omega)); conv => whnf) | (refine Go.Vc.br_f ?_ ?_; (focus omega); conv => whnf))
  rename_i ro hro
  have e31 : ((4 + ((TD.length - 4 : Nat) : Int)).toNat) = TD.length := by omega
  have hoI : (setR
                    (Value.agg
                          #[Value.int IntKind.i64 0, Value.int IntKind.i64 0, Value.int IntKind.i64 0,
                            Value.int IntKind.i64 0, Value.int IntKind.i64 0, Value.int IntKind.i64 0,
                            Value.int IntKind.i64 0, Value.int IntKind.i64 0, Value.int IntKind.i64 0,
                            Value.int IntKind.i64 0, Value.int IntKind.i64 0, Value.int IntKind.i64 0,
                            Value.int IntKind.i64 0, Value.int IntKind.i64 0, Value.int IntKind.i64 0,
                            Value.int IntKind.i64 0, Value.int IntKind.i64 0, Value.int IntKind.i64 0,
                            Value.int IntKind.i64 0]).cells.toList
                    0
                    #[Value.int IntKind.i64 16, Value.int IntKind.i64 17, Value.int IntKind.i64 18,
                        Value.int IntKind.i64 0, Value.int IntKind.i64 8, Value.int IntKind.i64 7,
                        Value.int IntKind.i64 9, Value.int IntKind.i64 6, Value.int IntKind.i64 10,
                        Value.int IntKind.i64 5, Value.int IntKind.i64 11, Value.int IntKind.i64 4,
                        Value.int IntKind.i64 12, Value.int IntKind.i64 3, Value.int IntKind.i64 13,
                        Value.int IntKind.i64 2, Value.int IntKind.i64 14, Value.int IntKind.i64 1,
                        Value.int IntKind.i64 15].toList).toArray = (orderI.map (Value.int .i64)).toArray := rfl
  have hrt := R3.lt hd3
  have hdt3 := R3.dlt hd3
  refine loop_introI (fun i : Nat => [(0, .pointer (some ⟨r, 0, none⟩)), (2, .int .i64 (257 + (LA.length - 257 : Nat))), (3, .int .i64 (1 + (LB.length - 1 : Nat))), (6, .slice (some ⟨rM, 0, none⟩) 19 19), (34, .slice (some ⟨ro, 0, none⟩) TD.length 19), (35, .int .i64 (TD.length : Nat)), (36, .int .i64 (i : Nat))])
    (fun i h' t' => i ≤ TD.length ∧ rM < t' ∧ (∃ d', Rd h' r d' x (p + 14 + 3 * i) [] most 0 ∧ FrW r d h h' ∧ (d' = d ∨ ∃ q, d' = some q ∧ t ≤ q) ∧ t ≤ t' ∧ d' ≠ some ro ∧ d' ≠ some rM) ∧
      h' rM = some (.cells ((fillF S i).map (Value.int .i64)).toArray 3 (0, 0)) ∧ h' ro = some (.cells (orderI.map (Value.int .i64)).toArray 105 (0, 0))) (fun i => TD.length - i) 0
    ⟨rfl, rfl, rfl, rfl, by show Value.slice _ _ _ = _; rw [e31], by show Value.int .i64 _ = _; rw [e31], rfl, trivial⟩
    ⟨by omega, by omega, ⟨d3, R3.keep fun k o hk ho => ?_, fun k o h1 h2 ho => ?_, dd3, by omega, fun e => by have := hdt3 _ e; omega, fun e => by have := hdt3 _ e; omega⟩, ?_, ?_⟩ ?_
  · have := hd3 k o ho
    rw [hset_ne _ _ (by omega), hset_ne _ _ (by omega), hset_ne _ _ (by omega)]; exact ho
  · have h5 := f3 k o h1 h2 ho
    have := hd3 k o h5
    rw [hset_ne _ _ (by omega), hset_ne _ _ (by omega), hset_ne _ _ (by omega)]; exact h5
  · rw [fill_zero]; exact hset_same _ _ _
  · rw [hset_ne _ _ (by omega)]
    exact (hset_same _ _ _).trans (by rw [hoI])
  rintro i e4 g u hd4 ⟨hi, hrMu, ⟨d4, R4, f4, dd4, l4, k4, m4⟩, hM4, ho4⟩
  conv => whnf
  refine br (fun hb => ?_) (fun hb => ?_)
  · obtain ⟨k, hok, htk⟩ := htold i (by omega)
    have hk19 := order_lt k (List.mem_of_getElem? hok)
    conv => whnf
    repeat (first | ((with_reducible apply Go.Vc.own_ix); (focus exact And.intro (by omega) (by omega)); conv => whnf))
    refine ⟨.int .i64 (k : Nat), ⟨_, _, _, ho4, rfl, ?_⟩, ?_⟩
    · show (orderI.map (Value.int .i64)).toArray[0 + i * 1]? = _
      rw [Nat.mul_one, Nat.zero_add, List.getElem?_toArray, List.getElem?_map]
      unfold orderI
      rw [List.getElem?_map, hok]; rfl
    conv => whnf
    have hkS : k < S.length := by omega
    have hvm : S.getD k 0 ∈ S := by rw [List.getD_eq_getElem?_getD, List.getElem?_eq_getElem hkS]; exact List.getElem_mem hkS
    have hv := S3 _ hvm
    refine (number_ok R4 hxs (n := S.getD k 0) (m := 3) (by omega) (by omega) (by rw [show p + 14 + 3 * i = p + 5 + 5 + 4 + 3 * i by omega]; exact flat_str hs4.left htk)).mono ?_
    rintro _ g5 u5 hd5 ht5 ⟨rfl, d5, R5, f5, dd5, l5⟩
    have hM5 := f5 rM _ (by omega) m4 hM4
    have ho5 := f5 ro _ (by omega) k4 ho4
    have hne := R5.ne
    have hfl := fill_len S i
    conv => whnf
    repeat (first | ((with_reducible apply Go.Vc.own_ix); (focus exact And.intro (by omega) (by omega)); conv => whnf) | ((with_reducible apply Go.Vc.ar_st); (focus ((repeat (first | with_reducible assumption | with_reducible exact Go.Vc.hset_same _ _ _ | with_reducible refine (Go.Vc.hset_ne _ _ (by omega)).trans ?_)); done)); (focus exact rfl); (focus exact rfl); (focus (first | omega | (simp; done) | (simp; omega))); (focus exact rfl); intro heqA; (conv => whnf); intro cA hcA; rw [heqA] at hcA; clear heqA; subst hcA; conv => whnf) | ((with_reducible apply Go.Vc.wr_i64); (focus exact And.intro (by omega) (by omega)); conv => whnf))
    have efs : (fillF S i).set ((k : Nat) : Int).toNat (S.getD k 0) = fillF S (i + 1) := by rw [Int.toNat_natCast]; exact fill_step hok
    have fr5 := fr_step hd f4 dd4 l4 f5 dd5
    have nk : ∀ z, d4 ≠ some z → z < u → d5 ≠ some z := fun z h1 h2 e => by
      rcases dd5 with h | ⟨q, h, hq⟩
      · exact h1 (h ▸ e)
      · rw [h] at e; cases e; omega
    have hrou := hd4 _ _ ho4
    refine ⟨rfl, round_end (i + 1) (by omega) ⟨rfl, rfl, rfl, rfl, rfl, rfl, rfl, trivial⟩ ⟨by omega, by omega, ⟨d5, ?_, fun z o h1 h2 h3 => ?_, fr5.2, by omega, nk ro k4 hrou, nk rM m4 hrMu⟩, (hset_same _ _ _).trans (by rw [efs]), (hset_ne _ _ (by omega)).trans ho5⟩⟩
    · rw [show p + 14 + 3 * (i + 1) = p + 14 + 3 * i + 3 by omega]
      refine R5.keep fun z o hz ho => ?_
      rw [hset_ne _ _ (fun e => ?_)]
      · exact ho
      · subst e
        rcases hz with h | h
        · omega
        · exact nk _ m4 hrMu h
    · have h6 := fr5.1 z o h1 h2 h3
      have := hd z o h3
      rw [hset_ne _ _ (by omega)]; exact h6
  · obtain rfl : i = TD.length := by omega
    rw [hfill] at hM4
    obtain ⟨a4, c4, hw4, o4, e4'⟩ := id R4
    conv => whnf
    repeat (first | ((with_reducible apply Go.Vc.ld_i); (focus ((repeat (first | with_reducible assumption | with_reducible exact Go.Vc.hset_same _ _ _ | with_reducible refine (Go.Vc.hset_ne _ _ (by omega)).trans ?_)); done)); (focus exact rfl); conv => whnf) | (refine Go.Vc.br_f ?_ ?_; (focus omega); conv => whnf))
    refine (code_ok (ar_sl hM4 S2) (by omega) S1.1).mono ?_
    rintro _ g6 u6 hd6 ht6 ⟨b, rfl, hb1, hb2, cod, hs6, _⟩
    have hrt6 := R4.lt hd4
    have R6 := R4.sub hs6
    have f6 : FrW r d h g6 := fun z o h1 h2 h3 => hs6 _ _ (f4 z o h1 h2 h3)
    have hd46 := R4.dlt hd4
    conv => whnf
    refine loop_introI5 (fun (O : List Int) (Q : List (Int × Int)) (p' : Nat) (al : Option Addr) (cl : Nat) => [(0, .pointer (some ⟨r, 0, none⟩)), (2, .int .i64 (257 + (LA.length - 257 : Nat))), (3, .int .i64 (1 + (LB.length - 1 : Nat))), (9, .pointer (some ⟨b, 0, none⟩)), (10, .slice al O.length cl)])
      (fun O Q p' al cl h' t' => Dec O Q (LA ++ LB) ∧ (∀ q ∈ Q, q.1.toNat < 19 ∧ 1 ≤ (S.getD q.1.toNat 0).toNat) ∧ Str x p' (Q.flatMap (symB S) ++ rest LA LB s 0) ∧ p' + (Q.flatMap (symB S)).length = p + 14 + 3 * TD.length + (RS.flatMap (symB S)).length ∧
        Vc.Own h' 3 al O.length cl (Value.int .i64) O ∧ (∀ z, owner al = some z → u6 ≤ z) ∧ u6 ≤ t' ∧ ∃ d', Rd h' r d' x p' [] most 0 ∧ FrW r d h h' ∧ (d' = d ∨ ∃ q, d' = some q ∧ t ≤ q) ∧ t ≤ t' ∧ d' ≠ some b ∧ (∀ z, owner al = some z → d' ≠ some z) ∧ Cod h' b S)
      (fun O Q p' al cl => Q.length) [] RS (p + 14 + 3 * TD.length) none 0 ⟨rfl, rfl, rfl, rfl, rfl, trivial⟩
      ⟨hdec, S4, ?_, rfl, Own.nil _ _ _, (fun z hz => by cases hz), Nat.le_refl _, d4, R6, f6, dd4, by omega, (fun e => by have := hd46 _ e; omega), (fun z hz => by cases hz), cod⟩ ?_
    · have := hs4.right
      rw [flat_const] at this
      rw [show p + 14 + 3 * TD.length = p + 5 + 5 + 4 + 3 * TD.length by omega]
      exact this
    rintro O Q p' al cl e7 g7 u7 hd7 ⟨hDec, hQ4, hStr, hpl, oO, hal, hu7, d7, R7, f7, dd7, l7, nb7, na7, cod7⟩
    have hOl := hDec.len
    rw [List.length_append] at hOl
    obtain ⟨a7, c7, hw7, ow7, e7'⟩ := id R7
    cases Q with
    | nil =>
      obtain rfl : O = LA ++ LB := hDec
      have hOle : (LA ++ LB).length = LA.length + LB.length := List.length_append
      have sO := oO.sl
      have hcl := oO.cap
      conv => whnf
      repeat (first | ((with_reducible apply Go.Vc.sl_ix); (focus with_reducible assumption); (focus exact And.intro (by omega) (by omega)); intro xI bI offI hxI hcI; conv => whnf) | ((with_reducible apply Go.Vc.ld_i); (focus ((repeat (first | with_reducible assumption | with_reducible exact Go.Vc.hset_same _ _ _ | with_reducible refine (Go.Vc.hset_ne _ _ (by omega)).trans ?_)); done)); (focus exact rfl); conv => whnf) | ((with_reducible apply Go.Vc.cell_i); (focus assumption); conv => whnf) | ((with_reducible apply Go.Vc.wr_i64); (focus exact And.intro (by omega) (by omega)); conv => whnf) | (refine Go.Vc.br_t ?_ ?_; (focus omega); conv => whnf) | (refine Go.Vc.br_f ?_ ?_; (focus omega); conv => whnf))
      have hx0 : xI ≠ 0 := by
        have h1 : (LA ++ LB)[256]? = some xI := hxI
        rw [List.getElem?_append_left h256.1] at h1
        have h2 := h256.2
        rw [List.getD_eq_getElem?_getD, h1] at h2
        have h3 : 1 ≤ xI.toNat := h2
        omega
      conv => whnf
      repeat (first | ((with_reducible apply Go.Vc.ld_i); (focus ((repeat (first | with_reducible assumption | with_reducible exact Go.Vc.hset_same _ _ _ | with_reducible refine (Go.Vc.hset_ne _ _ (by omega)).trans ?_)); done)); (focus exact rfl); conv => whnf) | (refine Go.Vc.br_t ?_ ?_; (focus omega); conv => whnf) | (refine Go.Vc.br_f ?_ ?_; (focus omega); conv => whnf))
      refine Go.Vc.draw_intro [⟨0, false, false, false, 0⟩, ⟨1, false, false, false, 0⟩, ⟨2, false, false, false, 0⟩, ⟨3, false, false, false, 6⟩, ⟨4, false, false, false, 0⟩, ⟨5, false, false, false, 0⟩, ⟨6, false, false, false, 48⟩, ⟨7, true, false, false, 127⟩] (hs := (fun _ => none)) (hsub := (fun _ _ h => nomatch h)) (hm := by kernel_rfl) (hpl := by kernel_rfl) ?_
      conv => whnf
      conv => whnf
      repeat (first | ((with_reducible refine And.intro (And.intro ?_ ?_) ?_); (focus omega); (focus omega); conv => whnf) | (intro _ _; conv => whnf))
      rename_i ax hax
      have eA : (257 + ((LA.length - 257 : Nat) : Int)).toNat = LA.length := by omega
      have sA := sO.take (m := LA.length) (by omega)
      rw [List.take_left' rfl] at sA
      have sB := sO.drop (m := LA.length) (c := cl) (by omega) (by omega) (a' := ax) (by rw [hax, eA]; rfl)
      rw [List.drop_left' rfl] at sB
      rw [eA]
      refine (block_spec R7 hxs hss hmo sA sB hA hB h256 hcov hStr).mono ?_
      rintro _ g8 u8 hd8 ht8 ⟨rfl, hE⟩
      conv => whnf
      have hpe : p' + (rest LA LB s 0).length = p + (14 + 3 * TD.length + (RS.flatMap (symB S)).length + (rest LA LB s 0).length) := by
        have : ([] : List (Int × Int)).flatMap (symB S) = [] := rfl
        rw [this, List.length_nil] at hpl
        omega
      rw [hpe] at hE
      refine ⟨rfl, ?_⟩
      rcases hE with ⟨hf, V⟩ | ⟨hf, p2, o2, V⟩
      · exact .inl ⟨hf, RdTo.step hd f7 dd7 l7 V⟩
      · exact .inr ⟨hf, p2, o2, RdTo.step hd f7 dd7 l7 V⟩
    | cons q Q =>
      obtain ⟨hq4, hq5⟩ := hQ4 q (List.mem_cons_self ..)
      have hbp := blk_pos hDec.1
      have hlt := hDec.2.len
      rw [List.length_append, List.length_append] at hlt
      obtain ⟨hsym, hDec2⟩ := id hDec
      obtain ⟨n0, v0⟩ := q
      have hn0 : 0 ≤ n0 := by rcases hsym with ⟨h1, _⟩ | ⟨h1, _⟩ | ⟨h1, _⟩ | ⟨_, h1, _⟩ <;> first | exact h1 | (have h1 : n0 = _ := h1; omega)
      obtain ⟨m, rfl⟩ := Int.eq_ofNat_of_zero_le hn0
      rw [List.flatMap_cons, List.append_assoc] at hStr
      unfold symB at hStr
      rw [List.append_assoc] at hStr
      simp only [Int.toNat_natCast] at hStr hq4 hq5
      have hS1 := hStr.left
      have hS2 := hStr.right
      rw [bitsH_len] at hS2
      have hS3 := hS2.right
      rw [bitsL_len] at hS3
      have hS2' := hS2.left
      have hpq : p' + ((S.getD m 0).toNat + extraB (m : Nat) + (Q.flatMap (symB S)).length) = p + 14 + 3 * TD.length + (RS.flatMap (symB S)).length := by
        rw [List.flatMap_cons, List.length_append] at hpl
        unfold symB at hpl
        rw [List.length_append, bitsH_len, bitsL_len] at hpl
        simp only [Int.toNat_natCast] at hpl
        exact hpl
      conv => whnf
      repeat (first | ((with_reducible apply Go.Vc.ld_i); (focus ((repeat (first | with_reducible assumption | with_reducible exact Go.Vc.hset_same _ _ _ | with_reducible refine (Go.Vc.hset_ne _ _ (by omega)).trans ?_)); done)); (focus exact rfl); conv => whnf) | ((with_reducible apply Go.Vc.wr_i64); (focus exact And.intro (by omega) (by omega)); conv => whnf) | (refine Go.Vc.br_t ?_ ?_; (focus omega); conv => whnf))
      refine (symbol_ok R7 hxs cod7 S1.2 (by omega) hq5 hS1).mono ?_
      rintro _ g8 u8 hd8 ht8 ⟨rfl, d8, R8, f8, dd8, l8⟩
      have hal7 : ∀ z, owner al = some z → z < u7 := fun z hz => by
        obtain ⟨cs, fr, hh⟩ := own_tag oO hz
        exact hd7 _ _ hh
      have hbu : b < u7 := cod7.lt hd7
      have nx : ∀ {z : Nat} {dA dB : Option Nat} {uA : Nat}, dA ≠ some z → z < uA → (dB = dA ∨ ∃ q, dB = some q ∧ uA ≤ q) → dB ≠ some z := fun h1 h2 h3 e => by
        rcases h3 with h | ⟨q, h, hq⟩
        · exact h1 (h ▸ e)
        · rw [h] at e; cases e; omega
      have cod8 := cod7.fr R7 ⟨by omega, nb7⟩ f8
      have o8 := Own.frr oO (fun z hz => ⟨by have := hal z hz; omega, na7 z hz⟩) f8
      have nb8 : d8 ≠ some b := nx nb7 hbu dd8
      have nd8 : ∀ z, owner al = some z → d8 ≠ some z := fun z hz => nx (na7 z hz) (hal7 z hz) dd8
      have hbb : b ≠ r ∧ d8 ≠ some b := ⟨by omega, nb8⟩
      have hnn : ((m : Nat) : Int).toNat = m := Int.toNat_natCast m
      rcases hsym with ⟨hm, hne, hv1, hv2⟩ | ⟨hm, hv1, hv2⟩ | ⟨hm, hv1, hv2⟩ | ⟨rfl, hm1, hm2⟩
      · obtain rfl : m = 16 := by omega
        have hl0 : O.length ≠ 0 := fun e => hne (List.length_eq_zero_iff.1 e)
        have hS2'' : Str x (p' + (S.getD 16 0).toNat) (bitsL v0 2) := hS2'
        have s8 := o8.sl
        conv => whnf
        repeat (first | (refine Go.Vc.br_t ?_ ?_; (focus omega); conv => whnf) | (refine Go.Vc.br_f ?_ ?_; (focus omega); conv => whnf))
        rcases id o8.2 with ⟨_, h, _⟩ | ⟨bb, off, cs8, fr8, rfl, hnc8, hb8, hsz8, hfz8, hcs8⟩
        · exact absurd h hl0
        obtain ⟨xI, hxI⟩ : ∃ y, y = O[O.length - 1]'(by omega) := ⟨_, rfl⟩
        have hO : O.getLast?.getD 0 = xI := by rw [hxI, List.getLast?_eq_getElem?, List.getElem?_eq_getElem (by omega)]; rfl
        refine Go.Vc.draw_intro [⟨0, false, true, false, 0⟩, ⟨1, false, true, false, 0⟩, ⟨2, false, true, false, 2⟩, ⟨3, false, true, false, 6⟩, ⟨4, false, true, false, 15⟩, ⟨5, false, true, false, 31⟩, ⟨6, false, false, false, 0⟩, ⟨7, true, false, true, 64⟩, ⟨8, false, false, false, 192⟩, ⟨9, false, false, false, 255⟩, ⟨10, false, false, false, 1023⟩] (hs := (pick2 g8 bb bb)) (hsub := (fun _ _ => pick2_get)) (hm := by kernel_rfl) (hpl := by kernel_rfl) ?_
        conv => whnf
        conv => whnf
        repeat (first | ((with_reducible apply Go.Vc.own_ix); (focus exact And.intro (by omega) (by omega)); conv => whnf) | ((with_reducible apply Go.Vc.wr_i64); (focus exact And.intro (by omega) (by omega)); conv => whnf))
        refine ⟨.int .i64 xI, ⟨cs8, _, fr8, by show pick2 g8 bb bb bb = _; unfold pick2; rw [if_pos (.inl rfl)]; exact hb8, rfl, ?_⟩, ?_⟩
        · show cs8[off + ((O.length : Int) - 1).toNat * 1]? = _
          rw [Nat.mul_one, show ((O.length : Int) - 1).toNat = O.length - 1 by omega, hxI]
          exact hcs8 (O.length - 1) (by omega)
        conv => whnf
        refine (number_ok R8 hxs (n := v0) (m := 2) (by omega) (by omega) hS2'').mono ?_
        rintro _ g9 u9 hd9 ht9 ⟨rfl, d9, R9, f9, dd9, l9⟩
        refine ⟨fun z o hz => ?_, ?_⟩
        · have hzb : z = bb := by rcases pick2_or hz with e | e <;> exact e
          rw [hzb] at hz ⊢
          have := hal bb rfl
          exact f9 _ _ (by omega) (nd8 _ rfl) (pick2_get hz)
        have cod9 := cod8.fr R8 hbb f9
        have o9 := Own.frr o8 (fun z hz => ⟨by have := hal z hz; omega, nd8 z hz⟩) f9
        have nd9 : ∀ z, owner (some (⟨bb, off, none⟩ : Addr)) = some z → d9 ≠ some z := fun z hz => nx (nd8 z hz) (by have := hal7 z hz; omega) dd9
        obtain ⟨kk, hkk⟩ : ∃ kk : Nat, 3 + v0 = (kk : Nat) := ⟨(3 + v0).toNat, by omega⟩
        have hblk : blk O (((16 : Nat) : Int), v0) = List.replicate kk xI := by
          rw [← hO, show kk = (3 + v0).toNat by omega]; rfl
        have hex : 2 = extraB ((16 : Nat) : Int) := rfl
        conv => whnf
        repeat (first | (intro _ _; conv => whnf) | ((with_reducible apply Go.Vc.wr_i64); (focus exact And.intro (by omega) (by omega)); conv => whnf))
        rw [hkk]
        rename_i q1 hq1
        have k9 := hd9.sub_new hq1 (.cells #[.int .i64 xI] 3)
        refine (repeat_spec (k := kk) (x := xI) (sl1 (hset_same _ _ _)) (by omega)).mono ?_
        rintro _ gA uA hdA htA ⟨aR, rfl, oR, sR, wR, lR⟩
        have kR := k9.trans sR
        have oA := Own.fr o9 fun z y _ hx => kR z y hx
        conv => whnf
        refine app_int (l2 := List.replicate kk xI) oA oR.sl (by omega) hdA ?_
        intro a' c' h' t' ho' ht' hd' hk' hown'
        conv => whnf
        have fr9 := fr_step hd f7 dd7 l7 f8 dd8
        have fr9' := fr_step hd fr9.1 fr9.2 (by omega) f9 dd9
        have hrg := R9.lt hd9
        have hdg := R9.dlt hd9
        have hnr : ∀ k, k < u6 → owner (some (⟨bb, off, none⟩ : Addr)) ≠ some k := fun k hk e => by have := hal k e; omega
        refine ⟨rfl, round_end5 (O ++ List.replicate kk xI) Q _ a' c' (by simp) ⟨rfl, rfl, rfl, rfl, by rw [List.length_append, List.length_replicate]; rfl, trivial⟩ ⟨by rw [← hblk]; exact hDec2, fun q hq => hQ4 q (List.mem_cons_of_mem _ hq), hS3, by rw [← hpq, ← hex]; omega, by rw [List.length_append, List.length_replicate]; exact ho', fun z hz => ?_, by omega, d9, ?_, fun k o h1 h2 h3 => ?_, fr9'.2, by omega, nx nb8 (by omega) dd9, fun z hz => ?_, ?_⟩⟩
        · rcases hown' with e | ⟨q, e, hq⟩
          · exact hal z (e ▸ hz)
          · rw [e] at hz; cases hz; omega
        · refine (R9.sub kR).keep fun k o hk ho => (hk' k (hdA _ _ ho) ?_).trans ho
          rcases hk with rfl | hk
          · exact hnr _ (by omega)
          · exact fun e => nd9 k e hk
        · have h4 := kR _ _ (fr9'.1 k o h1 h2 h3)
          exact (hk' k (hdA _ _ h4) (hnr k (by have := hd _ _ h3; omega))).trans h4
        · rcases hown' with e | ⟨q, e, hq⟩
          · exact nd9 z (e ▸ hz)
          · rw [e] at hz; cases hz
            exact fun e2 => by have := hdg _ e2; omega
        · obtain ⟨mm, oo, T, c1, c2, c3, c4⟩ := cod9.sub kR
          refine ⟨mm, oo, T, (hk' b (hdA _ _ c1) (hnr b (by omega))).trans c1, (hk' mm (hdA _ _ c2) (fun e => ?_)).trans c2, c3, c4⟩
          obtain ⟨cs, fr, hh⟩ := own_tag oA e
          rw [hh] at c2
          obtain ⟨es, cl', rfl, _⟩ := c3
          cases c2
      · obtain rfl : m = 17 := by omega
        have hS2'' : Str x (p' + (S.getD 17 0).toNat) (bitsL v0 3) := hS2'
        conv => whnf
        repeat (first | (refine Go.Vc.br_t ?_ ?_; (focus omega); conv => whnf) | (refine Go.Vc.br_f ?_ ?_; (focus omega); conv => whnf))
        refine (number_ok R8 hxs (n := v0) (m := 3) (by omega) (by omega) hS2'').mono ?_
        rintro _ g9 u9 hd9 ht9 ⟨rfl, d9, R9, f9, dd9, l9⟩
        have cod9 := cod8.fr R8 hbb f9
        have o9 := Own.frr o8 (fun z hz => ⟨by have := hal z hz; omega, nd8 z hz⟩) f9
        have nd9 : ∀ z, owner al = some z → d9 ≠ some z := fun z hz => nx (nd8 z hz) (by have := hal7 z hz; omega) dd9
        obtain ⟨kk, hkk⟩ : ∃ kk : Nat, 3 + v0 = (kk : Nat) := ⟨(3 + v0).toNat, by omega⟩
        have hblk : blk O (((17 : Nat) : Int), v0) = List.replicate kk 0 := by
          rw [show kk = (3 + v0).toNat by omega]; rfl
        have hex : 3 = extraB ((17 : Nat) : Int) := rfl
        conv => whnf
        repeat (first | (intro _ _; conv => whnf) | ((with_reducible apply Go.Vc.wr_i64); (focus exact And.intro (by omega) (by omega)); conv => whnf))
        rw [hkk]
        rename_i q1 hq1
        have k9 := hd9.sub_new hq1 (.cells #[.int .i64 (0 : Int)] 3)
        refine (repeat_spec (k := kk) (x := (0 : Int)) (sl1 (hset_same _ _ _)) (by omega)).mono ?_
        rintro _ gA uA hdA htA ⟨aR, rfl, oR, sR, wR, lR⟩
        have kR := k9.trans sR
        have oA := Own.fr o9 fun z y _ hx => kR z y hx
        conv => whnf
        refine app_int (l2 := List.replicate kk (0 : Int)) oA oR.sl (by omega) hdA ?_
        intro a' c' h' t' ho' ht' hd' hk' hown'
        conv => whnf
        have fr9 := fr_step hd f7 dd7 l7 f8 dd8
        have fr9' := fr_step hd fr9.1 fr9.2 (by omega) f9 dd9
        have hrg := R9.lt hd9
        have hdg := R9.dlt hd9
        have hnr : ∀ k, k < u6 → owner al ≠ some k := fun k hk e => by have := hal k e; omega
        refine ⟨rfl, round_end5 (O ++ List.replicate kk (0 : Int)) Q _ a' c' (by simp) ⟨rfl, rfl, rfl, rfl, by rw [List.length_append, List.length_replicate]; rfl, trivial⟩ ⟨by rw [← hblk]; exact hDec2, fun q hq => hQ4 q (List.mem_cons_of_mem _ hq), hS3, by rw [← hpq, ← hex]; omega, by rw [List.length_append, List.length_replicate]; exact ho', fun z hz => ?_, by omega, d9, ?_, fun k o h1 h2 h3 => ?_, fr9'.2, by omega, nx nb8 (by omega) dd9, fun z hz => ?_, ?_⟩⟩
        · rcases hown' with e | ⟨q, e, hq⟩
          · exact hal z (e ▸ hz)
          · rw [e] at hz; cases hz; omega
        · refine (R9.sub kR).keep fun k o hk ho => (hk' k (hdA _ _ ho) ?_).trans ho
          rcases hk with rfl | hk
          · exact hnr _ (by omega)
          · exact fun e => nd9 k e hk
        · have h4 := kR _ _ (fr9'.1 k o h1 h2 h3)
          exact (hk' k (hdA _ _ h4) (hnr k (by have := hd _ _ h3; omega))).trans h4
        · rcases hown' with e | ⟨q, e, hq⟩
          · exact nd9 z (e ▸ hz)
          · rw [e] at hz; cases hz
            exact fun e2 => by have := hdg _ e2; omega
        · obtain ⟨mm, oo, T, c1, c2, c3, c4⟩ := cod9.sub kR
          refine ⟨mm, oo, T, (hk' b (hdA _ _ c1) (hnr b (by omega))).trans c1, (hk' mm (hdA _ _ c2) (fun e => ?_)).trans c2, c3, c4⟩
          obtain ⟨cs, fr, hh⟩ := own_tag oA e
          rw [hh] at c2
          obtain ⟨es, cl', rfl, _⟩ := c3
          cases c2
      · obtain rfl : m = 18 := by omega
        have hS2'' : Str x (p' + (S.getD 18 0).toNat) (bitsL v0 7) := hS2'
        conv => whnf
        repeat (first | (refine Go.Vc.br_t ?_ ?_; (focus omega); conv => whnf) | (refine Go.Vc.br_f ?_ ?_; (focus omega); conv => whnf))
        refine (number_ok R8 hxs (n := v0) (m := 7) (by omega) (by omega) hS2'').mono ?_
        rintro _ g9 u9 hd9 ht9 ⟨rfl, d9, R9, f9, dd9, l9⟩
        have cod9 := cod8.fr R8 hbb f9
        have o9 := Own.frr o8 (fun z hz => ⟨by have := hal z hz; omega, nd8 z hz⟩) f9
        have nd9 : ∀ z, owner al = some z → d9 ≠ some z := fun z hz => nx (nd8 z hz) (by have := hal7 z hz; omega) dd9
        obtain ⟨kk, hkk⟩ : ∃ kk : Nat, 11 + v0 = (kk : Nat) := ⟨(11 + v0).toNat, by omega⟩
        have hblk : blk O (((18 : Nat) : Int), v0) = List.replicate kk 0 := by
          rw [show kk = (11 + v0).toNat by omega]; rfl
        have hex : 7 = extraB ((18 : Nat) : Int) := rfl
        conv => whnf
        repeat (first | (intro _ _; conv => whnf) | ((with_reducible apply Go.Vc.wr_i64); (focus exact And.intro (by omega) (by omega)); conv => whnf))
        rw [hkk]
        rename_i q1 hq1
        have k9 := hd9.sub_new hq1 (.cells #[.int .i64 (0 : Int)] 3)
        refine (repeat_spec (k := kk) (x := (0 : Int)) (sl1 (hset_same _ _ _)) (by omega)).mono ?_
        rintro _ gA uA hdA htA ⟨aR, rfl, oR, sR, wR, lR⟩
        have kR := k9.trans sR
        have oA := Own.fr o9 fun z y _ hx => kR z y hx
        conv => whnf
        refine app_int (l2 := List.replicate kk (0 : Int)) oA oR.sl (by omega) hdA ?_
        intro a' c' h' t' ho' ht' hd' hk' hown'
        conv => whnf
        have fr9 := fr_step hd f7 dd7 l7 f8 dd8
        have fr9' := fr_step hd fr9.1 fr9.2 (by omega) f9 dd9
        have hrg := R9.lt hd9
        have hdg := R9.dlt hd9
        have hnr : ∀ k, k < u6 → owner al ≠ some k := fun k hk e => by have := hal k e; omega
        refine ⟨rfl, round_end5 (O ++ List.replicate kk (0 : Int)) Q _ a' c' (by simp) ⟨rfl, rfl, rfl, rfl, by rw [List.length_append, List.length_replicate]; rfl, trivial⟩ ⟨by rw [← hblk]; exact hDec2, fun q hq => hQ4 q (List.mem_cons_of_mem _ hq), hS3, by rw [← hpq, ← hex]; omega, by rw [List.length_append, List.length_replicate]; exact ho', fun z hz => ?_, by omega, d9, ?_, fun k o h1 h2 h3 => ?_, fr9'.2, by omega, nx nb8 (by omega) dd9, fun z hz => ?_, ?_⟩⟩
        · rcases hown' with e | ⟨q, e, hq⟩
          · exact hal z (e ▸ hz)
          · rw [e] at hz; cases hz; omega
        · refine (R9.sub kR).keep fun k o hk ho => (hk' k (hdA _ _ ho) ?_).trans ho
          rcases hk with rfl | hk
          · exact hnr _ (by omega)
          · exact fun e => nd9 k e hk
        · have h4 := kR _ _ (fr9'.1 k o h1 h2 h3)
          exact (hk' k (hdA _ _ h4) (hnr k (by have := hd _ _ h3; omega))).trans h4
        · rcases hown' with e | ⟨q, e, hq⟩
          · exact nd9 z (e ▸ hz)
          · rw [e] at hz; cases hz
            exact fun e2 => by have := hdg _ e2; omega
        · obtain ⟨mm, oo, T, c1, c2, c3, c4⟩ := cod9.sub kR
          refine ⟨mm, oo, T, (hk' b (hdA _ _ c1) (hnr b (by omega))).trans c1, (hk' mm (hdA _ _ c2) (fun e => ?_)).trans c2, c3, c4⟩
          obtain ⟨cs, fr, hh⟩ := own_tag oA e
          rw [hh] at c2
          obtain ⟨es, cl', rfl, _⟩ := c3
          cases c2
      · have hd9 := hd8
        have cod9 := cod8
        have o9 := o8
        have nd9 := nd8
        obtain ⟨d9, hd9e⟩ : ∃ d9, d9 = d8 := ⟨_, rfl⟩
        rw [← hd9e] at nd9
        have dd9 : d9 = d8 ∨ ∃ q, d9 = some q ∧ u8 ≤ q := .inl hd9e
        have f9 : FrW r d8 g8 g8 := fun _ _ _ _ h => h
        have ht9 : u8 ≤ u8 := Nat.le_refl _
        obtain ⟨kk, hkk⟩ : ∃ kk : Nat, kk = 1 := ⟨_, rfl⟩
        have hblk : blk O (((m : Nat) : Int), 0) = List.replicate kk ((m : Nat) : Int) := by
          rw [hkk]
          unfold blk
          rw [if_neg (by show ((m : Nat) : Int) ≠ 16; omega), if_neg (by show ((m : Nat) : Int) ≠ 17; omega), if_neg (by show ((m : Nat) : Int) ≠ 18; omega)]; rfl
        have hex : 0 = extraB ((m : Nat) : Int) := by
          unfold extraB
          rw [if_neg (by omega), if_neg (by omega), if_neg (by omega)]
        have R9 : Rd g8 r d9 x (p' + (S.getD m 0).toNat + extraB ((m : Nat) : Int)) [] most 0 := by rw [← hex, hd9e]; exact R8
        conv => whnf
        repeat (first | (intro _ _; conv => whnf) | (refine Go.Vc.br_f ?_ ?_; (focus omega); conv => whnf))
        rw [show (1 : Int) = (kk : Nat) by rw [hkk]; rfl]
        rename_i q1 hq1
        have k9 := hd9.sub_new hq1 (.cells #[.int .i64 ((m : Nat) : Int)] 3)
        refine (repeat_spec (k := kk) (x := ((m : Nat) : Int)) (sl1 (hset_same _ _ _)) (by omega)).mono ?_
        rintro _ gA uA hdA htA ⟨aR, rfl, oR, sR, wR, lR⟩
        have kR := k9.trans sR
        have oA := Own.fr o9 fun z y _ hx => kR z y hx
        conv => whnf
        refine app_int (l2 := List.replicate kk ((m : Nat) : Int)) oA oR.sl (by omega) hdA ?_
        intro a' c' h' t' ho' ht' hd' hk' hown'
        conv => whnf
        have fr9 := fr_step hd f7 dd7 l7 f8 dd8
        have fr9' := fr_step hd fr9.1 fr9.2 (by omega) f9 dd9
        have hrg := R9.lt hd9
        have hdg := R9.dlt hd9
        have hnr : ∀ k, k < u6 → owner al ≠ some k := fun k hk e => by have := hal k e; omega
        refine ⟨rfl, round_end5 (O ++ List.replicate kk ((m : Nat) : Int)) Q _ a' c' (by simp) ⟨rfl, rfl, rfl, rfl, by rw [List.length_append, List.length_replicate]; rfl, trivial⟩ ⟨by rw [← hblk]; exact hDec2, fun q hq => hQ4 q (List.mem_cons_of_mem _ hq), hS3, by rw [← hpq, ← hex]; omega, by rw [List.length_append, List.length_replicate]; exact ho', fun z hz => ?_, by omega, d9, ?_, fun k o h1 h2 h3 => ?_, fr9'.2, by omega, nx nb8 (by omega) dd9, fun z hz => ?_, ?_⟩⟩
        · rcases hown' with e | ⟨q, e, hq⟩
          · exact hal z (e ▸ hz)
          · rw [e] at hz; cases hz; omega
        · refine (R9.sub kR).keep fun k o hk ho => (hk' k (hdA _ _ ho) ?_).trans ho
          rcases hk with rfl | hk
          · exact hnr _ (by omega)
          · exact fun e => nd9 k e hk
        · have h4 := kR _ _ (fr9'.1 k o h1 h2 h3)
          exact (hk' k (hdA _ _ h4) (hnr k (by have := hd _ _ h3; omega))).trans h4
        · rcases hown' with e | ⟨q, e, hq⟩
          · exact nd9 z (e ▸ hz)
          · rw [e] at hz; cases hz
            exact fun e2 => by have := hdg _ e2; omega
        · obtain ⟨mm, oo, T, c1, c2, c3, c4⟩ := cod9.sub kR
          refine ⟨mm, oo, T, (hk' b (hdA _ _ c1) (hnr b (by omega))).trans c1, (hk' mm (hdA _ _ c2) (fun e => ?_)).trans c2, c3, c4⟩
          obtain ⟨cs, fr, hh⟩ := own_tag oA e
          rw [hh] at c2
          obtain ⟨es, cl', rfl, _⟩ := c3
          cases c2
theorem fdyn_spec {h : Heap} {t r : Nat} {d : Option Nat} {x s : ByteArray} {p most : Nat} {ps : List Prt} (R : Rd h r d x p [] most 0) (hxs : x.size ≤ 100000000) (hss : s.size ≤ 100000) (hmo : most ≤ 100000000)
    (hps : ps = partsF s 0 (toks s 0 s.size)) (hs : Str x p (dynF ps)) :
    CallSpec Try.prog 38 #[.pointer (some ⟨r, 0, none⟩)] h t
      (fun v h' t' => v = .tuple #[] ∧ Ends (s.size ≤ most) r h t d x (p + (dynF ps).length) (tx s) most h' t') := by
  have hok : ∀ q ∈ ps, SymOk q := fun q hq => parts_ok (Nat.le_refl s.size) s.size 0 (by omega) q (hps ▸ hq)
  have hpl : ps.length ≤ 100000 := by
    rw [hps, parts_len]
    have := toks_len s (to := s.size) s.size 0 (by omega)
    omega
  obtain ⟨A1, A2, A3, A4⟩ := lenA_ok hpl
  obtain ⟨B1, B2, B3, B4⟩ := lenB_ok hpl
  obtain ⟨S1, S2, S3, S4⟩ := shortS_ok hpl
  obtain ⟨T1, T2⟩ := told_len ps
  have hdec : Dec [] (runsAB ps) (lenA ps ++ lenB ps) := by
    have h1 := dec_runs (lenA ps ++ lenB ps).length (lenA ps ++ lenB ps) [] (Nat.le_refl _) (lens_small hpl)
    rw [List.nil_append] at h1
    unfold runsAB
    exact h1
  have hcov := parts_cov hpl hok
  have e : dynF ps = bitsL ((lenA ps).length - 257 : Nat) 5 ++ (bitsL ((lenB ps).length - 1 : Nat) 5 ++ (bitsL ((toldF ps).length - 4 : Nat) 4 ++ (((toldF ps).flatMap fun k => bitsL k 3) ++ ((runsAB ps).flatMap (symB (shortS ps)) ++ rest (lenA ps) (lenB ps) s 0)))) := by
    unfold dynF rest
    rw [← hps]
    simp only [List.append_assoc]
  have hl : (dynF ps).length = 14 + 3 * (toldF ps).length + ((runsAB ps).flatMap (symB (shortS ps))).length + (rest (lenA ps) (lenB ps) s 0).length := by
    rw [e]
    simp only [List.length_append, bitsL_len, flat_const]
    omega
  rw [e] at hs
  rw [hl]
  have hAe := lenA_errN hpl
  have hBe := lenB_errN hpl
  have hfe := fill_end S2
  have htg := fun i (hi : i < (toldF ps).length) => told_get hi
  have hAend := lenA_end hpl
  rw [hps] at hcov
  have hcov2 : ∀ q ∈ partsF s 0 (toks s 0 s.size), PrtC (lenA ps) (lenB ps) q := by rw [← hps] at hcov ⊢; exact hcov
  clear hcov e hl
  generalize lenA ps = LA at *
  generalize lenB ps = LB at *
  generalize shortS ps = S at *
  generalize toldF ps = TD at *
  generalize runsAB ps = RS at *
  exact fdyn_core R hxs (by omega) hmo A2 A3 B2 B3 hAe hBe S1 S2 S3 S4 T1 T2 hfe htg hdec hcov2 hAend hs
end Go.Proofs.Ytikpfffhcjlcjaa
