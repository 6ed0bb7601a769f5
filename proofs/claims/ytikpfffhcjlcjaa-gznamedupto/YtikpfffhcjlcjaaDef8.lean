import Derived.Test.YtikpfffhcjlcjaaDef7
import Derived.Test.YtikpfffhcjlcjaaDefDyn
import Derived.Test.YtikpfffhcjlcjaaDef5
set_option linter.unusedSimpArgs false
namespace Go.Proofs.Ytikpfffhcjlcjaa
open Go Go.Vc Go.Dfl
set_option maxRecDepth 20000
set_option linter.unusedVariables false
set_option maxHeartbeats 1000000
def manyL (ps : List Prt) : List Nat := 256 :: ps.map (·.sym)
def farL (ps : List Prt) : List Nat := (ps.filter fun p => !p.plain).map (·.sym2)
def lenA (ps : List Prt) : List Int := cutF (Huf.lenF 40 (cntF 286 (manyL ps)) 15) 257
def lenB (ps : List Prt) : List Int := cutF (Huf.lenF 40 (cntF 30 (farL ps)) 15) 1
def runsAB (ps : List Prt) : List (Int × Int) := runsF (lenA ps ++ lenB ps)
def shortC (ps : List Prt) : List Nat := (runsAB ps).map fun p => p.1.toNat
def shortS (ps : List Prt) : List Int := Huf.lenF 40 (cntF 19 (shortC ps)) 7
def orderL : List Nat := [16, 17, 18, 0, 8, 7, 9, 6, 10, 5, 11, 4, 12, 3, 13, 2, 14, 1, 15]
def toldF (ps : List Prt) : List Int := cutF (orderL.map fun k => (shortS ps).getD k 0) 4
def orderI : List Int := orderL.map fun k : Nat => (k : Int)
theorem order_lt : ∀ k ∈ orderL, k < 19 := by decide
def extraB (k : Int) : Nat := if k = 16 then 2 else if k = 17 then 3 else if k = 18 then 7 else 0
def symB (S : List Int) (p : Int × Int) : List Bool := bitsH (Huf.codeAt S p.1.toNat) (S.getD p.1.toNat 0).toNat ++ bitsL p.2 (extraB p.1)
def dynF (ps : List Prt) : List Bool :=
  bitsL ((lenA ps).length - 257 : Nat) 5 ++ bitsL ((lenB ps).length - 1 : Nat) 5 ++ bitsL ((toldF ps).length - 4 : Nat) 4 ++ (toldF ps).flatMap (fun k => bitsL k 3) ++ (runsAB ps).flatMap (symB (shortS ps)) ++ tellF (lenA ps) (lenB ps) ps
def exMap : List (Int × Int) := gPut (gPut (gPut [] 16 2) 17 3) 18 7
theorem exMap_get (k : Int) : (gGet exMap k).getD 0 = ((extraB k : Nat) : Int) := by
  have e : exMap = [(16, 2), (17, 3), (18, 7)] := by decide
  rw [e]
  unfold gGet extraB
  by_cases h1 : k = 16
  · subst h1; rfl
  · by_cases h2 : k = 17
    · subst h2; rfl
    · by_cases h3 : k = 18
      · subst h3; rfl
      · rw [if_neg h1, if_neg h2, if_neg h3]
        rw [List.find?_cons_of_neg (by simpa using fun e => h1 e.symm), List.find?_cons_of_neg (by simpa using fun e => h2 e.symm), List.find?_cons_of_neg (by simpa using fun e => h3 e.symm)]
        rfl
theorem ex_look {h : Heap} {r : Nat} {o : Obj} {k : Int} {K : Value → Prop} (z : h r = some o) (hz : MapG o (Value.int .i64) (Value.int .i64) exMap) (hk : K (.int .i64 ((extraB k : Nat) : Int))) : LookQ Try.prog 122 (.map (some r)) (.int .i64 k) false K h := by
  refine look_gQ (kv := Value.int .i64) (f := Value.int .i64) (d := (0 : Int)) Try.underlying122 (keyOk_int Try.underlying3) (inf := Try.types[3]) (by kernel_rfl) (by kernel_rfl) z hz ?_
  rw [exMap_get]
  exact hk
structure SymOk (p : Prt) : Prop where
  s1 : p.sym < 286
  n1 : p.n ≤ 20
  v1 : p.v ≤ 1000000
  s2 : p.plain = false → p.sym2 < 30
  n2 : p.n2 ≤ 20
  v2 : p.v2 ≤ 1000000
theorem cutN_pos {l : List Int} {least : Nat} : ∀ {n k : Nat}, k < n → l.getD k 0 ≠ 0 → k < cutN l least n
  | 0, k, h, _ => by omega
  | n + 1, k, h, hk => by
    rw [cutN]
    by_cases e : k = n
    · subst e
      rw [if_neg (fun h => hk h.2)]
      omega
    · split
      · exact cutN_pos (by omega) hk
      · omega
theorem cutF_get {l : List Int} {least k : Nat} (h : k < (cutF l least).length) : (cutF l least)[k]? = l[k]? := by
  have h2 := cutF_len l least
  unfold cutF
  rw [List.getElem?_take_of_lt (by omega)]
theorem lenA_ok {ps : List Prt} (hp : ps.length ≤ 100000) : Huf.err (lenA ps) = 0 ∧ 257 ≤ (lenA ps).length ∧ (lenA ps).length ≤ 286 ∧ ∀ p ∈ ps, p.sym < 286 → p.sym < (lenA ps).length := by
  obtain ⟨h1, h2, h3, h4⟩ := lens_ok (n := 286) (l := manyL ps) (m := 15) (by omega) (by simp [manyL]; omega) (.inl rfl)
  have hl := cutF_len (Huf.lenF 40 (cntF 286 (manyL ps)) 15) 257
  have hge := cutN_ge (Huf.lenF 40 (cntF 286 (manyL ps)) 15) 257 286 (by omega)
  have hle := cutN_le (Huf.lenF 40 (cntF 286 (manyL ps)) 15) 257 286
  rw [h2] at hl
  refine ⟨err_take h1 _, by unfold lenA; omega, by unfold lenA; omega, fun p hp hs => ?_⟩
  have := h4 p.sym (by unfold manyL; exact List.mem_cons_of_mem _ (List.mem_map_of_mem hp)) hs
  unfold lenA
  rw [hl]
  exact cutN_pos hs (by omega)
theorem lenB_ok {ps : List Prt} (hp : ps.length ≤ 100000) : Huf.err (lenB ps) = 0 ∧ 1 ≤ (lenB ps).length ∧ (lenB ps).length ≤ 30 ∧ ∀ p ∈ ps, p.plain = false → p.sym2 < 30 → p.sym2 < (lenB ps).length := by
  obtain ⟨h1, h2, h3, h4⟩ := lens_ok (n := 30) (l := farL ps) (m := 15) (by omega) (by have := List.length_filter_le (fun p : Prt => !p.plain) ps; simp [farL]; omega) (.inl rfl)
  have hl := cutF_len (Huf.lenF 40 (cntF 30 (farL ps)) 15) 1
  have hge := cutN_ge (Huf.lenF 40 (cntF 30 (farL ps)) 15) 1 30 (by omega)
  have hle := cutN_le (Huf.lenF 40 (cntF 30 (farL ps)) 15) 1 30
  rw [h2] at hl
  refine ⟨err_take h1 _, by unfold lenB; omega, by unfold lenB; omega, fun p hp hpl hs => ?_⟩
  have := h4 p.sym2 (by unfold farL; exact List.mem_map_of_mem (List.mem_filter.2 ⟨hp, by rw [hpl]; rfl⟩)) hs
  unfold lenB
  rw [hl]
  exact cutN_pos hs (by omega)
theorem lengthsF_cnt {n : Nat} {l : List Nat} {m : Int} (hn : n ≤ 300) (hl : l.length ≤ 1000000) (hm : (m = 15) ∨ (m = 7 ∧ n ≤ 19)) : (lengthsF (cntF n l) m).1 = Huf.lenF 40 (cntF n l) m := by
  unfold lengthsF
  rw [if_pos]
  refine ⟨by rw [cntF_len]; exact hn, by rw [cntF_len]; rcases hm with rfl | ⟨rfl, h⟩ <;> omega, fun x hx hb => ?_⟩
  have := cntF_range x hx
  unfold bad at hb
  omega
theorem cut_sl {h : Heap} {a : Option Addr} {n : Nat} {X : List Int} (s : Sl h a n (Value.int .i64) X) (k : Nat) : Sl h a (cutF X k).length (Value.int .i64) (cutF X k) := by
  have h1 := s.take (show cutN X k X.length ≤ n by rw [← s.1]; exact cutN_le _ _ _)
  rw [cutF_len]
  exact h1
theorem dyn_spec {h : Heap} {t w : Nat} {d : Option Nat} {bs : List Bool} (W : Wr 63 h w d bs) (hbl : bs.length ≤ 9000000) {s : ByteArray} {pa : Option Addr} {pn pc : Nat} {ps : List Prt}
    (hps : Sl h pa (pn * 7) id (ps.flatMap pcells)) (hpn : pn ≤ 100000) (hok : ∀ p ∈ ps, SymOk p) (f0 : 0 < pn → ∀ b, owner pa = some b → b ≠ w ∧ d ≠ some b) :
    CallSpec Try.prog 52 #[.agg #[.string s, .slice pa pn pc], .pointer (some ⟨w, 0, none⟩)] h t (fun v h' t' => v = .tuple #[] ∧ WrTo 63 w h t d (bs ++ dynF ps) h' t') := by
  have hpl : ps.length = pn := by
    have := hps.1
    rw [flat_len pcells_len] at this
    omega
  refine Go.Vc.spec_of_vc (fn := Try.f52) Try.func52 rfl (by kernel_rfl) (by kernel_rfl) (Nat.le_of_ble_eq_true rfl) ?_
  intro hd
  conv => whnf
  intro r2 hr2
  have hs2 := hd.sub_new hr2 (.cells #[.string s, .slice pa pn pc] 66)
  have hd2 := hd.set r2 (.cells #[.string s, .slice pa pn pc] 66) (r2 + 1) (by omega) (by omega)
  conv => whnf
  refine Go.Vc.draw_of (by kernel_rfl) (Go.Vc.dany_split 0 1 (by kernel_rfl) (Go.Vc.dany_plan [⟨0, true, false, true, 0⟩, ⟨2, false, true, false, 1⟩, ⟨1, true, false, true, 1⟩, ⟨3, false, false, false, 7⟩] (fun _ => none) (by kernel_rfl) (fun _ _ h => nomatch h) ?_) (Go.Vc.dany_plan [⟨1, true, false, false, 0⟩, ⟨0, true, false, false, 2⟩, ⟨2, false, false, false, 3⟩, ⟨3, false, false, false, 7⟩] (fun _ => none) (by kernel_rfl) (fun _ _ h => nomatch h) ?_))
  · conv => whnf
    repeat (first | ((with_reducible apply Go.Vc.mk_b); (focus exact And.intro (by omega) (by omega)); (focus exact rfl); (focus omega); intro rM csM hrM hcsM; (first | (replace hcsM := hcsM.trans (Go.Vc.zc (Value.int .i64) 0 _)) | (replace hcsM := hcsM.trans (Go.Vc.zc Go.Vc.bv 0 _)) | (replace hcsM := hcsM.trans (Go.Vc.zc Value.string ByteArray.empty _))); subst hcsM; conv => whnf))
    refine ⟨(fun _ _ hk => nomatch hk), ?_⟩
    conv => whnf
    repeat (first | ((with_reducible apply Go.Vc.mk_b); (focus exact And.intro (by omega) (by omega)); (focus exact rfl); (focus omega); intro rM csM hrM hcsM; (first | (replace hcsM := hcsM.trans (Go.Vc.zc (Value.int .i64) 0 _)) | (replace hcsM := hcsM.trans (Go.Vc.zc Go.Vc.bv 0 _)) | (replace hcsM := hcsM.trans (Go.Vc.zc Value.string ByteArray.empty _))); subst hcsM; conv => whnf))
    rename_i rA hrA
    obtain ⟨rB, rfl⟩ : ∃ x, x = rM := ⟨_, rfl⟩
    refine ⟨(fun _ _ hk => nomatch hk), ?_⟩
    conv => whnf
    repeat (first | ((with_reducible apply Go.Vc.own_ix); (focus exact And.intro (by omega) (by omega)); conv => whnf) | ((with_reducible apply Go.Vc.ld_i); (focus ((repeat (first | with_reducible assumption | with_reducible exact Go.Vc.hset_same _ _ _ | with_reducible refine (Go.Vc.hset_ne _ _ (by omega)).trans ?_)); done)); (focus exact rfl); conv => whnf) | ((with_reducible apply Go.Vc.ar_st); (focus ((repeat (first | with_reducible assumption | with_reducible exact Go.Vc.hset_same _ _ _ | with_reducible refine (Go.Vc.hset_ne _ _ (by omega)).trans ?_)); done)); (focus exact rfl); (focus exact rfl); (focus (first | omega | (simp; done) | (simp; omega))); (focus exact rfl); intro heqA; (conv => whnf); intro cA hcA; rw [heqA] at hcA; clear heqA; subst hcA; conv => whnf) | ((with_reducible apply Go.Vc.wr_i64); (focus exact And.intro (by omega) (by omega)); conv => whnf))
    have hdF := hd2.set rA (.cells ((List.replicate 286 (0 : Int)).map (Value.int .i64)).toArray 3) (rA + 1) (by omega) (by omega)
    have hs2F := hd2.sub_new (r := rA) (by omega) (.cells ((List.replicate 286 (0 : Int)).map (Value.int .i64)).toArray 3)
    have hsFS := hdF.sub_new (r := rB) (by omega) (.cells ((List.replicate 30 (0 : Int)).map (Value.int .i64)).toArray 3)
    have hsE : Vc.Sub h (hset (hset (hset h r2 (.cells #[.string s, .slice pa pn pc] 66)) rA (.cells ((List.replicate 286 (0 : Int)).map (Value.int .i64)).toArray 3)) rB (.cells ((List.replicate 30 (0 : Int)).map (Value.int .i64)).toArray 3)) := hs2.trans (hs2F.trans hsFS)
    have bE : (hset (hset (hset h r2 (.cells #[.string s, .slice pa pn pc] 66)) rA (.cells ((List.replicate 286 (0 : Int)).map (Value.int .i64)).toArray 3)) rB (.cells ((List.replicate 30 (0 : Int)).map (Value.int .i64)).toArray 3)) r2 = _ := hsFS _ _ (hs2F _ _ (hset_same h r2 (.cells #[.string s, .slice pa pn pc] 66)))
    have oB1 : Vc.Own (hset (hset (hset (hset h r2 (.cells #[.string s, .slice pa pn pc] 66)) rA (.cells ((List.replicate 286 (0 : Int)).map (Value.int .i64)).toArray 3)) rB (.cells ((List.replicate 30 (0 : Int)).map (Value.int .i64)).toArray 3)) rA (.cells (((List.replicate 286 (0 : Int)).set 256 (0 + 1)).map (Value.int .i64)).toArray 3)) 3 (some ⟨rB, 0, none⟩) 30 30 (Value.int .i64) (cntF 30 []) := by
      rw [cntF_nil]
      exact ar_own ((hset_ne _ _ (by omega)).trans (hset_same _ _ _)) (by simp)
    have oA1 : Vc.Own (hset (hset (hset (hset h r2 (.cells #[.string s, .slice pa pn pc] 66)) rA (.cells ((List.replicate 286 (0 : Int)).map (Value.int .i64)).toArray 3)) rB (.cells ((List.replicate 30 (0 : Int)).map (Value.int .i64)).toArray 3)) rA (.cells (((List.replicate 286 (0 : Int)).set 256 (0 + 1)).map (Value.int .i64)).toArray 3)) 3 (some ⟨rA, 0, none⟩) 286 286 (Value.int .i64) (cntF 286 [256]) := by
      have e : (List.replicate 286 (0 : Int)).set 256 (0 + 1) = cntF 286 [256] := by rw [← cntF_nil 286]; exact cntF_set [] (by omega)
      rw [← e]
      exact ar_own (hset_same _ _ _) (by simp)
    have hsE1 : Vc.Sub h (hset (hset (hset (hset h r2 (.cells #[.string s, .slice pa pn pc] 66)) rA (.cells ((List.replicate 286 (0 : Int)).map (Value.int .i64)).toArray 3)) rB (.cells ((List.replicate 30 (0 : Int)).map (Value.int .i64)).toArray 3)) rA (.cells (((List.replicate 286 (0 : Int)).set 256 (0 + 1)).map (Value.int .i64)).toArray 3)) := fun b o hb => by
      have := hd b o hb
      rw [hset_ne _ _ (by omega)]; exact hsE b o hb
    have bE1 : (hset (hset (hset (hset h r2 (.cells #[.string s, .slice pa pn pc] 66)) rA (.cells ((List.replicate 286 (0 : Int)).map (Value.int .i64)).toArray 3)) rB (.cells ((List.replicate 30 (0 : Int)).map (Value.int .i64)).toArray 3)) rA (.cells (((List.replicate 286 (0 : Int)).set 256 (0 + 1)).map (Value.int .i64)).toArray 3)) r2 = _ := (hset_ne _ _ (by omega)).trans bE
    have hrAB : rA ≠ rB := by omega
    have hrA2 : r2 < rA := by omega
    have hrB2 : r2 < rB := by omega
    have htr : t ≤ rB + 1 := by omega
    refine loop_intro (fun i : Nat => [(1, .pointer (some ⟨w, 0, none⟩)), (2, .pointer (some ⟨r2, 0, none⟩)), (4, .slice (some ⟨rA, 0, none⟩) 286 286), (5, .slice (some ⟨rB, 0, none⟩) 30 30), (37, .slice pa pn pc), (38, .int .i64 (pn : Nat)), (39, .int .i64 (i : Nat))])
      (fun i h' t' => i ≤ pn ∧ Vc.Own h' 3 (some ⟨rA, 0, none⟩) 286 286 (Value.int .i64) (cntF 286 (manyL (ps.take i))) ∧ Vc.Own h' 3 (some ⟨rB, 0, none⟩) 30 30 (Value.int .i64) (cntF 30 (farL (ps.take i))) ∧ h' r2 = some (.cells #[.string s, .slice pa pn pc] 66 (0, 0)) ∧ Vc.Sub h h' ∧ rA < t' ∧ rB < t') (fun i => pn - i) 0 ⟨rfl, rfl, rfl, rfl, rfl, rfl, rfl, trivial⟩
      ⟨by omega, oA1, oB1, bE1, hsE1, by omega, by omega⟩ ?_
    rintro i e g t1 hd1 ⟨hi, oA, oB, bg, hsg, htA, htB⟩
    have spg := hps.sub hsg
    conv => whnf
    refine br (fun hb => ?_) (fun hb => ?_)
    · obtain ⟨p, bP, offP, hp, haP, hrow⟩ := slW_row (i := i) pcells_len spg (by decide) (by omega)
      have haP' := haP
      subst haP'
      obtain ⟨o1, o2, o3, o4, o5, o6⟩ := hok p (List.mem_of_getElem? hp)
      have hmt : manyL (ps.take (i + 1)) = manyL (ps.take i) ++ [p.sym] := by
        unfold manyL
        rw [List.take_add_one, hp]
        simp
      have hft : farL (ps.take (i + 1)) = farL (ps.take i) ++ (if p.plain then [] else [p.sym2]) := by
        unfold farL
        rw [List.take_add_one, hp]
        cases hpp : p.plain <;> simp [hpp]
      have hml : (manyL (ps.take i)).length ≤ 200000 := by unfold manyL; rw [List.length_cons, List.length_map, List.length_take]; omega
      have hfl : (farL (ps.take i)).length ≤ 200000 := by
        unfold farL
        have := List.length_filter_le (fun p : Prt => !p.plain) (ps.take i)
        rw [List.length_map]
        rw [List.length_take] at this
        omega
      have hcm := List.count_le_length (a := p.sym) (l := manyL (ps.take i))
      have hcf := List.count_le_length (a := p.sym2) (l := farL (ps.take i))
      conv => whnf
      repeat (first | ((with_reducible apply Go.Vc.own_ix); (focus exact And.intro (by omega) (by omega)); conv => whnf))
      refine hrow.row (W := 7) rfl (by decide) ?_
      conv => whnf
      repeat (first | ((with_reducible apply Go.Vc.own_ix); (focus exact And.intro (by omega) (by omega)); conv => whnf) | ((with_reducible apply Go.Vc.strow); (focus ((repeat (first | with_reducible assumption | with_reducible exact Go.Vc.hset_same _ _ _ | with_reducible refine (Go.Vc.hset_ne _ _ (by omega)).trans ?_)); done)); (focus exact rfl); (focus exact rfl); (focus exact rfl); rintro _ rfl; conv => whnf) | ((with_reducible apply Go.Vc.ld_i); (focus ((repeat (first | with_reducible assumption | with_reducible exact Go.Vc.hset_same _ _ _ | with_reducible refine (Go.Vc.hset_ne _ _ (by omega)).trans ?_)); done)); (focus exact rfl); conv => whnf) | (intro _ _; conv => whnf))
      rename_i rb hrb
      have hX := hset_same (hset g rb (.cells #[.int .i64 0, .int .i64 0, .int .i64 0, .int .i64 0, .int .i64 0, .int .i64 0, .bool false] 94)) rb (.cells (pcells p).toArray 94)
      have hsX : Vc.Sub g (hset (hset g rb (.cells #[.int .i64 0, .int .i64 0, .int .i64 0, .int .i64 0, .int .i64 0, .int .i64 0, .bool false] 94)) rb (.cells (pcells p).toArray 94)) := fun k o hk => by
        have := hd1 _ _ hk
        rw [hset_ne _ _ (by omega), hset_ne _ _ (by omega)]
        exact hk
      have oAX := Own.fr oA fun b x _ hx => hsX b x hx
      have oBX := Own.fr oB fun b x _ hx => hsX b x hx
      have bgX := hsX _ _ bg
      have hsgX := hsg.trans hsX
      have hcA := Own.cell oAX (cntF_get (manyL (ps.take i)) o1)
      conv => whnf
      repeat (first | ((with_reducible apply Go.Vc.own_ix); (focus exact And.intro (by omega) (by omega)); conv => whnf) | ((with_reducible apply Go.Vc.cell_i); (focus assumption); conv => whnf) | ((with_reducible apply Go.Vc.wr_i64); (focus exact And.intro (by omega) (by omega)); conv => whnf))
      obtain ⟨csb, frb, hbb, hlt, hfz, hput⟩ := oAX.put (j := p.sym) o1 (((manyL (ps.take i)).count p.sym : Nat) + 1)
      rw [cntF_set _ o1, ← hmt] at hput
      refine ⟨rfl, csb, _, frb, hbb, hlt, hfz, ?_⟩
      intro c' hc'
      subst hc'
      have hrbA : rb ≠ rA := by omega
      have hX2 := (hset_ne _ (.cells (csb.setIfInBounds (0 + p.sym * 1) (.int .i64 (((manyL (ps.take i)).count p.sym : Nat) + 1))) 3 frb) hrbA).trans hX
      have bg2 := (hset_ne _ (.cells (csb.setIfInBounds (0 + p.sym * 1) (.int .i64 (((manyL (ps.take i)).count p.sym : Nat) + 1))) 3 frb) (show r2 ≠ rA by omega)).trans bgX
      have oB2 := Own.fr oBX (h' := hset _ rA (.cells (csb.setIfInBounds (0 + p.sym * 1) (.int .i64 (((manyL (ps.take i)).count p.sym : Nat) + 1))) 3 frb)) fun b x hb hx => by
        rw [hset_ne _ _ (fun e => by have e3 : some rB = some b := hb; cases e3; omega)]; exact hx
      have hsg2 : Vc.Sub h (hset _ rA (.cells (csb.setIfInBounds (0 + p.sym * 1) (.int .i64 (((manyL (ps.take i)).count p.sym : Nat) + 1))) 3 frb)) := fun b o hb => by
        have := hd b o hb
        rw [hset_ne _ _ (by omega)]; exact hsgX b o hb
      have hcB : p.plain = false → _ := fun hpp => Own.cell oB2 (cntF_get (farL (ps.take i)) (o4 hpp))
      conv => whnf
      repeat (first | ((with_reducible apply Go.Vc.ld_i); (focus ((repeat (first | with_reducible assumption | with_reducible exact Go.Vc.hset_same _ _ _ | with_reducible refine (Go.Vc.hset_ne _ _ (by omega)).trans ?_)); done)); (focus exact rfl); conv => whnf))
      cases hpp : p.plain with
      | true =>
        rw [hpp, if_pos rfl, List.append_nil] at hft
        conv => whnf
        repeat (first | ((with_reducible apply Go.Vc.wr_i64); (focus exact And.intro (by omega) (by omega)); conv => whnf))
        refine round_end (i + 1) (by omega) ⟨rfl, rfl, rfl, rfl, rfl, rfl, rfl, trivial⟩ ⟨by omega, hput, by rw [hft]; exact oB2, bg2, hsg2, by omega, by omega⟩
      | false =>
        rw [hpp, if_neg (by decide)] at hft
        have o4' := o4 hpp
        have hcB' := hcB hpp
        conv => whnf
        repeat (first | ((with_reducible apply Go.Vc.own_ix); (focus exact And.intro (by omega) (by omega)); conv => whnf) | ((with_reducible apply Go.Vc.ld_i); (focus ((repeat (first | with_reducible assumption | with_reducible exact Go.Vc.hset_same _ _ _ | with_reducible refine (Go.Vc.hset_ne _ _ (by omega)).trans ?_)); done)); (focus exact rfl); conv => whnf) | ((with_reducible apply Go.Vc.cell_i); (focus assumption); conv => whnf) | ((with_reducible apply Go.Vc.wr_i64); (focus exact And.intro (by omega) (by omega)); conv => whnf))
        obtain ⟨csq, frq, hbq, hltq, hfzq, hputq⟩ := oB2.put (j := p.sym2) o4' (((farL (ps.take i)).count p.sym2 : Nat) + 1)
        rw [cntF_set _ o4', ← hft] at hputq
        refine ⟨rfl, csq, _, frq, hbq, hltq, hfzq, ?_⟩
        intro c' hc'
        subst hc'
        conv => whnf
        repeat (first | ((with_reducible apply Go.Vc.wr_i64); (focus exact And.intro (by omega) (by omega)); conv => whnf))
        refine round_end (i + 1) (by omega) ⟨rfl, rfl, rfl, rfl, rfl, rfl, rfl, trivial⟩ ⟨by omega, ?_, hputq, ?_, fun b o hb => ?_, by omega, by omega⟩
        · exact Own.fr hput fun b x hb hx => by
            rw [hset_ne _ _ (fun e => by have e3 : some rA = some b := hb; cases e3; omega)]; exact hx
        · rw [hset_ne _ _ (by omega)]; exact bg2
        · have := hd b o hb
          rw [hset_ne _ _ (by omega)]; exact hsg2 b o hb
    · have htake : ps.take i = ps := List.take_of_length_le (by omega)
      rw [htake] at oA oB
      have hmL : (manyL ps).length ≤ 1000000 := by unfold manyL; rw [List.length_cons, List.length_map]; omega
      have hfL : (farL ps).length ≤ 1000000 := by
        unfold farL
        have := List.length_filter_le (fun p : Prt => !p.plain) ps
        rw [List.length_map]
        omega
      obtain ⟨hAe, hA1, hA2, hA3⟩ := lenA_ok (ps := ps) (by omega)
      obtain ⟨hBe, hB1, hB2, hB3⟩ := lenB_ok (ps := ps) (by omega)
      conv => whnf
      refine (lengths_specO oA.sl (by omega)).mono ?_
      rintro _ g1 u1 hg1 hu1 ⟨a1, n1, c1, rfl, s1, hc1, _, k1, w1⟩
      rw [lengthsF_cnt (by omega) hmL (.inl rfl)] at s1
      have e1 := s1.1
      rw [Huf.lenF_len, cntF_len] at e1
      obtain ⟨X, hX⟩ : ∃ X, Huf.lenF 40 (cntF 286 (manyL ps)) 15 = X := ⟨_, rfl⟩
      have eA : lenA ps = cutF X 257 := by unfold lenA; rw [hX]
      have lX : X.length = 286 := by rw [← hX, Huf.lenF_len, cntF_len]
      rw [hX] at s1
      conv => whnf
      refine (lengths_specO (oB.sl.sub k1) (by omega)).mono ?_
      rintro _ g2 u2 hg2 hu2 ⟨a2, n2, c2, rfl, s2, hc2, _, k2, w2⟩
      rw [lengthsF_cnt (by omega) hfL (.inl rfl)] at s2
      have e2 := s2.1
      rw [Huf.lenF_len, cntF_len] at e2
      obtain ⟨Y, hY⟩ : ∃ Y, Huf.lenF 40 (cntF 30 (farL ps)) 15 = Y := ⟨_, rfl⟩
      have eB : lenB ps = cutF Y 1 := by unfold lenB; rw [hY]
      have lY : Y.length = 30 := by rw [← hY, Huf.lenF_len, cntF_len]
      rw [hY] at s2
      conv => whnf
      refine (cut_spec (least := 257) (s1.sub k2) (by omega) hc1 (by omega)).mono ?_
      rintro _ _ _ _ _ ⟨rfl, rfl, rfl⟩
      rw [← eA]
      conv => whnf
      refine (cut_spec (least := 1) s2 (by omega) hc2 (by omega)).mono ?_
      rintro _ _ _ _ _ ⟨rfl, rfl, rfl⟩
      rw [← eB]
      have sA : Sl g2 a1 (lenA ps).length (Value.int .i64) (lenA ps) := by
        rw [eA]
        exact cut_sl (s1.sub k2) 257
      have sB : Sl g2 a2 (lenB ps).length (Value.int .i64) (lenB ps) := by
        rw [eB]
        exact cut_sl s2 1
      clear eA eB
      generalize hLA : lenA ps = LA at *
      generalize hLB : lenB ps = LB at *
      conv => whnf
      repeat (first | (intro _ _; conv => whnf))
      rename_i rc hrc
      have k3 := hg2.sub_new hrc (.cells #[.slice a1 (LA).length c1, .slice a2 (LB).length c2] 31)
      refine (concat_spec (qs := [⟨a1, (LA).length, c1, LA⟩, ⟨a2, (LB).length, c2, LB⟩]) (a0 := some ⟨rc, 0, none⟩) (n0 := 2) (c0 := 2) ?_ ?_ (by simp [sizes]; omega) (by decide)).mono ?_
      · refine ⟨rfl, fun _ => ⟨rc, 0, _, _, _, rfl, hset_same _ _ _, ?_⟩⟩
        intro i hi
        simp at hi
        have : i = 0 ∨ i = 1 := by omega
        rcases this with rfl | rfl <;> rfl
      · intro q hq
        simp only [List.mem_cons, List.not_mem_nil, or_false] at hq
        rcases hq with rfl | rfl
        · exact sA.sub k3
        · exact sB.sub k3
      rintro _ g4 u4 hg4 hu4 ⟨a5, n5, c5, rfl, o5, k4, w5⟩
      have e5 : [(⟨a1, (LA).length, c1, LA⟩ : SV), ⟨a2, (LB).length, c2, LB⟩].flatMap (·.l) = LA ++ LB := by simp
      rw [e5] at o5
      have en5 := o5.1
      rw [List.length_append] at en5
      conv => whnf
      refine (runs_spec o5.sl (by omega) o5.cap).mono ?_
      rintro _ g5 u5 hg5 hu5 ⟨a6, c6, a7, c7, rfl, s6, s7, _, k5, w6, w7⟩
      obtain ⟨R, hR⟩ : ∃ R, runsF (LA ++ LB) = R := ⟨_, rfl⟩
      rw [hR] at s6 s7 ⊢
      have hRok : ∀ p ∈ R, symOk p := by
        rw [← hR]
        exact runs_ok _ _ (Nat.le_refl _) (by
        rw [List.all_append, (Huf.err_zero hAe).2.1, (Huf.err_zero hBe).2.1]; rfl)
      have hRlen : R.length ≤ 316 := by
        have := runs_len _ (LA ++ LB) (Nat.le_refl _)
        rw [List.length_append] at this
        rw [hR] at this
        omega
      conv => whnf
      repeat (first | ((with_reducible apply Go.Vc.mk_b); (focus exact And.intro (by omega) (by omega)); (focus exact rfl); (focus omega); intro rM csM hrM hcsM; (first | (replace hcsM := hcsM.trans (Go.Vc.zc (Value.int .i64) 0 _)) | (replace hcsM := hcsM.trans (Go.Vc.zc Go.Vc.bv 0 _)) | (replace hcsM := hcsM.trans (Go.Vc.zc Value.string ByteArray.empty _))); subst hcsM; conv => whnf))
      have hsB := hsg.trans (k1.trans (k2.trans (k3.trans (k4.trans k5))))
      have bB := k5 _ _ (k4 _ _ (k3 _ _ (k2 _ _ (k1 _ _ bg))))
      have hs5M := hg5.sub_new hrM (.cells ((List.replicate 19 (0 : Int)).map (Value.int .i64)).toArray 3)
      refine loop_intro (fun i : Nat => [(1, .pointer (some ⟨w, 0, none⟩)), (2, .pointer (some ⟨r2, 0, none⟩)), (8, .slice a1 LA.length c1), (10, .slice a2 LB.length c2), (12, .slice a6 R.length c6), (13, .slice a7 R.length c7), (14, .slice (some ⟨rM, 0, none⟩) 19 19), (86, .slice a6 R.length c6), (87, .int .i64 (R.length : Nat)), (88, .int .i64 (i : Nat))])
        (fun i h' t' => i ≤ R.length ∧ Vc.Own h' 3 (some ⟨rM, 0, none⟩) 19 19 (Value.int .i64) (cntF 19 ((R.take i).map fun p => p.1.toNat)) ∧ Vc.Sub g5 h' ∧ rM < t') (fun i => R.length - i) 0 ⟨rfl, rfl, rfl, rfl, rfl, rfl, rfl, rfl, rfl, rfl, trivial⟩
        ⟨by omega, by rw [show (R.take 0).map (fun p => p.1.toNat) = [] from rfl, cntF_nil]; exact ar_own (hset_same _ _ _) (by simp), hs5M, by omega⟩ ?_
      rintro i e g6 u6 hg6 ⟨hi, oC, k6, htC⟩
      have s6g := s6.sub k6
      conv => whnf
      refine br (fun hb => ?_) (fun hb => ?_)
      · obtain ⟨p, hp⟩ : ∃ p, R[i]? = some p := ⟨_, List.getElem?_eq_getElem (by omega)⟩
        obtain ⟨q1, q2, q3, q4⟩ := hRok p (List.mem_of_getElem? hp)
        obtain ⟨kk, hkk⟩ := Int.eq_ofNat_of_zero_le q1
        have hp1 : (R.map (·.1))[i]? = some ((kk : Nat) : Int) := by rw [List.getElem?_map, hp, ← hkk]; rfl
        have htk : (R.take (i + 1)).map (fun p => p.1.toNat) = (R.take i).map (fun p => p.1.toNat) ++ [kk] := by
          rw [List.take_add_one, hp, List.map_append]
          simp [hkk]
        have hcc := List.count_le_length (a := kk) (l := (R.take i).map fun p => p.1.toNat)
        rw [List.length_map, List.length_take] at hcc
        have k19 : kk < 19 := by omega
        have hcK := Own.cell oC (cntF_get ((R.take i).map fun p => p.1.toNat) k19)
        conv => whnf
        repeat (first | ((with_reducible apply Go.Vc.sl_ix); (focus with_reducible assumption); (focus exact And.intro (by omega) (by omega)); intro xI bI offI hxI hcI; conv => whnf) | ((with_reducible apply Go.Vc.cell_i); (focus assumption); conv => whnf))
        have hxk : xI = ((kk : Nat) : Int) := by
          have e := hxI
          rw [show ((i : Nat) : Int).toNat = i from rfl, hp1] at e
          exact (Option.some.inj e).symm
        subst hxk
        conv => whnf
        repeat (first | ((with_reducible apply Go.Vc.own_ix); (focus exact And.intro (by omega) (by omega)); conv => whnf) | ((with_reducible apply Go.Vc.cell_i); (focus assumption); conv => whnf) | ((with_reducible apply Go.Vc.wr_i64); (focus exact And.intro (by omega) (by omega)); conv => whnf))
        obtain ⟨csC, frC, hbC, hltC, hfzC, hputC⟩ := oC.put (j := kk) k19 ((((R.take i).map fun p => p.1.toNat).count kk : Nat) + 1)
        rw [cntF_set _ k19, ← htk] at hputC
        refine ⟨rfl, csC, _, frC, hbC, hltC, hfzC, ?_⟩
        intro c' hc'
        subst hc'
        conv => whnf
        repeat (first | ((with_reducible apply Go.Vc.wr_i64); (focus exact And.intro (by omega) (by omega)); conv => whnf))
        refine round_end (i + 1) (by omega) ⟨rfl, rfl, rfl, rfl, rfl, rfl, rfl, rfl, rfl, rfl, trivial⟩ ⟨by omega, hputC, fun b o hb => ?_, by omega⟩
        have := hg5 _ _ hb
        rw [hset_ne _ _ (by omega)]
        exact k6 b o hb
      · rw [List.take_of_length_le (by omega)] at oC
        have hSok := lens_ok (n := 19) (l := R.map fun p => p.1.toNat) (m := 7) (by omega) (by rw [List.length_map]; omega) (.inr ⟨rfl, by omega⟩)
        conv => whnf
        refine (lengths_specO oC.sl (by omega)).mono ?_
        rintro _ g7 u7 hg7 hu7 ⟨a8, n8, c8, rfl, s8, hc8, _, k7, w8⟩
        rw [lengthsF_cnt (by omega) (by rw [List.length_map]; omega) (.inr ⟨rfl, by omega⟩)] at s8
        obtain ⟨S, hS⟩ : ∃ S, Huf.lenF 40 (cntF 19 (R.map fun p => p.1.toNat)) 7 = S := ⟨_, rfl⟩
        rw [hS] at s8 hSok
        obtain ⟨hSe, hSl, hS7, _⟩ := hSok
        have e8 := s8.1
        rw [hSl] at e8
        subst e8
        conv => whnf
        refine (codes_spec s8 (by omega)).mono ?_
        rintro _ g8 u8 hg8 hu8 ⟨a9, n9, rfl, k8, o9, w9⟩
        rw [if_pos hSe] at o9
        have e9 := o9.1
        rw [Huf.codes_length, hSl] at e9
        subst e9
        conv => whnf
        repeat (first | (intro _ _; conv => whnf))
        rename_i rO hrO
        have hdO := hg8.set rO (.cells (orderI.map (Value.int .i64)).toArray 3) (rO + 1) (by omega) (by omega)
        have k9 := hg8.sub_new hrO (.cells (orderI.map (Value.int .i64)).toArray 3)
        have hO0 := hset_same g8 rO (.cells (orderI.map (Value.int .i64)).toArray 3)
        have s8O := (s8.sub k8).sub k9
        refine loop_intro3 (fun (i : Nat) (a : Option Addr) (c : Nat) => [(1, .pointer (some ⟨w, 0, none⟩)), (2, .pointer (some ⟨r2, 0, none⟩)), (8, .slice a1 LA.length c1), (10, .slice a2 LB.length c2), (12, .slice a6 R.length c6), (13, .slice a7 R.length c7), (17, .slice a8 19 c8), (19, .slice a9 19 19), (21, .slice a i c), (109, .slice (some ⟨rO, 0, none⟩) 19 19), (110, .int .i64 19), (111, .int .i64 (i : Nat))])
          (fun i a c h' t' => i ≤ 19 ∧ Vc.Own h' 3 a i c (Value.int .i64) ((orderL.take i).map fun k => S.getD k 0) ∧ (∀ b, owner a = some b → rO + 1 ≤ b) ∧ Vc.Sub (hset g8 rO (.cells (orderI.map (Value.int .i64)).toArray 3)) h' ∧ rO + 1 ≤ t') (fun i _ _ => 19 - i) 0 none 0 ⟨rfl, rfl, rfl, rfl, rfl, rfl, rfl, rfl, rfl, rfl, rfl, rfl, trivial⟩
          ⟨by omega, Own.nil _ _ _, (fun b hb => by cases hb), Sub.refl _, by omega⟩ ?_
        rintro i aT cT e g9 u9 hg9 ⟨hi, oT, wT, k10, htT⟩
        have slO := lit_sl (l := orderI) (n := 19) (k10 _ _ hO0) rfl rfl
        have s8T := s8O.sub k10
        conv => whnf
        refine br (fun hb => ?_) (fun hb => ?_)
        · obtain ⟨k, hk⟩ : ∃ k, orderL[i]? = some k := ⟨_, List.getElem?_eq_getElem (by show i < 19; omega)⟩
          have hk19 := order_lt k (List.mem_of_getElem? hk)
          have hkI : orderI[i]? = some ((k : Nat) : Int) := by unfold orderI; rw [List.getElem?_map, hk]; rfl
          have hkS : S[k]? = some (S.getD k 0) := by rw [List.getD_eq_getElem?_getD, List.getElem?_eq_getElem (by omega)]; rfl
          have htk : (orderL.take (i + 1)).map (fun k => S.getD k 0) = (orderL.take i).map (fun k => S.getD k 0) ++ [S.getD k 0] := by
            rw [List.take_add_one, hk, List.map_append]
            rfl
          have hcO := Own.cell (ar_own (l := orderI) (n := 19) (k10 _ _ hO0) rfl) hkI
          conv => whnf
          repeat (first | ((with_reducible apply Go.Vc.own_ix); (focus exact And.intro (by omega) (by omega)); conv => whnf) | ((with_reducible apply Go.Vc.sl_ix); (focus with_reducible assumption); (focus exact And.intro (by omega) (by omega)); intro xI bI offI hxI hcI; conv => whnf) | ((with_reducible apply Go.Vc.cell_i); (focus assumption); conv => whnf) | (intro _ _; conv => whnf))
          have hxk : xI = S.getD k 0 := by
            have e := hxI
            rw [show ((k : Nat) : Int).toNat = k from rfl, hkS] at e
            exact (Option.some.inj e).symm
          subst hxk
          rename_i rT hrT
          refine own_app1 hdO htT k10 wT hg9 hrT oT (by omega) ?_
          intro aT' cT' g10 u10 oT' htT' hg10 k11 wT' _ _
          rw [← htk] at oT'
          conv => whnf
          repeat (first | ((with_reducible apply Go.Vc.wr_i64); (focus exact And.intro (by omega) (by omega)); conv => whnf))
          refine round_end3 (i + 1) aT' cT' (by omega) ⟨rfl, rfl, rfl, rfl, rfl, rfl, rfl, rfl, rfl, rfl, rfl, rfl, trivial⟩ ⟨by omega, oT', wT', k11, by omega⟩
        · obtain rfl : i = 19 := by omega
          have htk : (orderL.take 19).map (fun k => S.getD k 0) = orderL.map fun k => S.getD k 0 := rfl
          rw [htk] at oT
          obtain ⟨T, hT⟩ : ∃ T, (orderL.map fun k => S.getD k 0) = T := ⟨_, rfl⟩
          rw [hT] at oT
          conv => whnf
          refine (cut_spec (least := 4) oT.sl (by omega) oT.cap (by omega)).mono ?_
          rintro _ _ _ _ _ ⟨rfl, rfl, rfl⟩
          have sT := cut_sl oT.sl 4
          have hTl := cutF_len T 4
          have hT4 := cutN_ge T 4 T.length (by rw [oT.1]; omega)
          have hT19 := cutN_le T 4 T.length
          rw [oT.1] at hT4 hT19
          rw [oT.1] at hTl
          obtain ⟨TC, hTC⟩ : ∃ TC, cutF T 4 = TC := ⟨_, rfl⟩
          rw [hTC] at sT hTl ⊢
          have kAll := hsB.trans (k6.trans (k7.trans (k8.trans (k9.trans k10))))
          have hTCb : ∀ x ∈ TC, 0 ≤ x ∧ x ≤ 7 := fun x hx => by
            rw [← hTC] at hx
            have h1 := List.mem_of_mem_take hx
            rw [← hT] at h1
            obtain ⟨k, _, rfl⟩ := List.mem_map.1 h1
            rw [List.getD_eq_getElem?_getD]
            cases hk : S[k]? with
            | none => exact ⟨by decide, by decide⟩
            | some z => exact hS7 z (List.mem_of_getElem? hk)
          have Wn := W.sub kAll
          have hwt := W.lt hd
          have hdt := W.dlt hd
          have fge : ∀ {a : Option Addr} {x : Nat}, (∀ b, owner a = some b → x ≤ b) → t ≤ x → ∀ b, owner a = some b → b ≠ w ∧ d ≠ some b := fun hx ht b hb => by
            have := hx b hb
            exact ⟨by omega, fun e => by have := hdt b e; omega⟩
          have fT := fge wT (by omega)
          have f6 := fge w6 (by omega)
          have f7 := fge w7 (by omega)
          have f8 := fge w8 (by omega)
          have f9 := fge w9 (by omega)
          have fA := fge w1 (by omega)
          have fB := fge w2 (by omega)
          have s6n := s6.sub (k6.trans (k7.trans (k8.trans (k9.trans k10))))
          have s7n := s7.sub (k6.trans (k7.trans (k8.trans (k9.trans k10))))
          have s8n := s8.sub (k8.trans (k9.trans k10))
          have s9n := o9.sl.sub (k9.trans k10)
          have sAn := sA.sub (k3.trans (k4.trans (k5.trans (k6.trans (k7.trans (k8.trans (k9.trans k10)))))))
          have sBn := sB.sub (k3.trans (k4.trans (k5.trans (k6.trans (k7.trans (k8.trans (k9.trans k10)))))))
          have bn := k10 _ _ (k9 _ _ (k8 _ _ (k7 _ _ (k6 _ _ bB))))
          have spn := hps.sub kAll
          conv => whnf
          repeat (first | ((with_reducible apply Go.Vc.wr_i64); (focus exact And.intro (by omega) (by omega)); conv => whnf))
          rw [show ((LA.length : Int) - 257) = ((LA.length - 257 : Nat) : Int) by omega]
          refine (bits_spec Wn (many := 5) (by omega) (by omega) (by omega)).mono ?_
          rintro _ y1 v1 hy1 hv1 ⟨rfl, V1⟩
          obtain ⟨d1, B1, fr1, dd1, le1⟩ := id V1
          conv => whnf
          repeat (first | ((with_reducible apply Go.Vc.wr_i64); (focus exact And.intro (by omega) (by omega)); conv => whnf))
          rw [show ((LB.length : Int) - 1) = ((LB.length - 1 : Nat) : Int) by omega]
          refine (bits_spec B1 (many := 5) (by omega) (by rw [List.length_append, bitsL_len]; omega) (by omega)).mono ?_
          rintro _ y2 v2 hy2 hv2 ⟨rfl, V2⟩
          have V12 := WrTo.step hg9 fr1 dd1 le1 V2
          obtain ⟨d2, B2, fr2, dd2, le2⟩ := id V12
          conv => whnf
          repeat (first | ((with_reducible apply Go.Vc.wr_i64); (focus exact And.intro (by omega) (by omega)); conv => whnf))
          rw [show ((TC.length : Int) - 4) = ((TC.length - 4 : Nat) : Int) by omega]
          refine (bits_spec B2 (many := 4) (by omega) (by rw [List.length_append, List.length_append, bitsL_len, bitsL_len]; omega) (by omega)).mono ?_
          rintro _ y3 v3 hy3 hv3 ⟨rfl, V3⟩
          have V123 := WrTo.step hg9 fr2 dd2 le2 V3
          conv => whnf
          refine loop_intro (fun i : Nat => [(1, .pointer (some ⟨w, 0, none⟩)), (2, .pointer (some ⟨r2, 0, none⟩)), (8, .slice a1 LA.length c1), (10, .slice a2 LB.length c2), (12, .slice a6 R.length c6), (13, .slice a7 R.length c7), (17, .slice a8 19 c8), (19, .slice a9 19 19), (140, .slice aT TC.length cT), (141, .int .i64 (TC.length : Nat)), (142, .int .i64 (i : Nat))])
            (fun i h' t' => i ≤ TC.length ∧ WrTo 63 w g9 u9 d (bs ++ bitsL (LA.length - 257 : Nat) 5 ++ bitsL (LB.length - 1 : Nat) 5 ++ bitsL (TC.length - 4 : Nat) 4 ++ (TC.take i).flatMap (fun k => bitsL k 3)) h' t') (fun i => TC.length - i) 0 ⟨rfl, rfl, rfl, rfl, rfl, rfl, rfl, rfl, rfl, rfl, rfl, trivial⟩
            ⟨by omega, by simpa using V123⟩ ?_
          rintro i e g t1 hd1 ⟨hi, W4⟩
          obtain ⟨d4, B4, fr4, dd4, le4⟩ := id W4
          have sTi := sl_frW sT (fun _ => fT) fr4
          have h3l : ∀ l : List Int, (l.flatMap fun k => bitsL k 3).length = 3 * l.length := fun l => by
            induction l with
            | nil => rfl
            | cons x l ih => rw [List.flatMap_cons, List.length_append, ih, bitsL_len, List.length_cons]; omega
          conv => whnf
          refine br (fun hb => ?_) (fun hb => ?_)
          · obtain ⟨k, hk⟩ : ∃ k, TC[i]? = some k := ⟨_, List.getElem?_eq_getElem (by omega)⟩
            have hkb := hTCb k (List.mem_of_getElem? hk)
            conv => whnf
            repeat (first | ((with_reducible apply Go.Vc.sl_ix); (focus with_reducible assumption); (focus exact And.intro (by omega) (by omega)); intro xI bI offI hxI hcI; conv => whnf) | ((with_reducible apply Go.Vc.cell_i); (focus assumption); conv => whnf))
            have hxk : xI = k := by
              have e := hxI
              rw [show ((i : Nat) : Int).toNat = i from rfl, hk] at e
              exact (Option.some.inj e).symm
            subst hxk
            refine (bits_spec B4 (many := 3) (by omega) (by rw [List.length_append, List.length_append, List.length_append, List.length_append, bitsL_len, bitsL_len, bitsL_len, h3l, List.length_take]; omega) (by omega)).mono ?_
            rintro _ y5 v5 hy5 hv5 ⟨rfl, V5⟩
            conv => whnf
            repeat (first | ((with_reducible apply Go.Vc.wr_i64); (focus exact And.intro (by omega) (by omega)); conv => whnf))
            refine round_end (i + 1) (by omega) ⟨rfl, rfl, rfl, rfl, rfl, rfl, rfl, rfl, rfl, rfl, rfl, trivial⟩ ⟨by omega, ?_⟩
            rw [List.take_add_one, hk, List.flatMap_append, Option.toList_some, List.flatMap_singleton, ← List.append_assoc]
            exact WrTo.step hg9 fr4 dd4 le4 V5
          · rw [List.take_of_length_le (by omega)] at B4
            obtain ⟨b4, hb4⟩ : ∃ b4, bs ++ bitsL (LA.length - 257 : Nat) 5 ++ bitsL (LB.length - 1 : Nat) 5 ++ bitsL (TC.length - 4 : Nat) 4 ++ TC.flatMap (fun k => bitsL k 3) = b4 := ⟨_, rfl⟩
            rw [hb4] at B4
            have hb4l : b4.length ≤ bs.length + 1000 := by
              rw [← hb4, List.length_append, List.length_append, List.length_append, List.length_append, bitsL_len, bitsL_len, bitsL_len, h3l]
              omega
            conv => whnf
            repeat (first | (intro _ _; conv => whnf))
            rename_i rZ hrZ
            refine mapup_g (kv := Value.int .i64) (k := (16 : Int)) (v := (2 : Int)) (f := Value.int .i64) (l := []) Try.underlying122 (keyOk_int Try.underlying3) (hset_same _ _ _) (mapg_new _ _) ?_
            intro oz1 hz1
            conv => whnf
            refine mapup_g (kv := Value.int .i64) (k := (17 : Int)) (v := (3 : Int)) (f := Value.int .i64) Try.underlying122 (keyOk_int Try.underlying3) (hset_same _ _ _) hz1 ?_
            intro oz2 hz2
            conv => whnf
            refine mapup_g (kv := Value.int .i64) (k := (18 : Int)) (v := (7 : Int)) (f := Value.int .i64) Try.underlying122 (keyOk_int Try.underlying3) (hset_same _ _ _) hz2 ?_
            intro oz3 hz3
            replace hz3 : MapG oz3 (Value.int .i64) (Value.int .i64) exMap := hz3
            conv => whnf
            have hzm := hset_same (hset (hset (hset g rZ (.map #[] 0)) rZ oz1) rZ oz2) rZ oz3
            have hzs : Vc.Sub g (hset (hset (hset (hset g rZ (.map #[] 0)) rZ oz1) rZ oz2) rZ oz3) := fun b o hb => by
              have := hd1 _ _ hb
              rw [hset_ne _ _ (by omega), hset_ne _ _ (by omega), hset_ne _ _ (by omega), hset_ne _ _ (by omega)]
              exact hb
            have d4n : d4 ≠ some rZ := fun e => by have := B4.dlt hd1 rZ e; omega
            have wn : rZ ≠ w := by have := B4.lt hd1; omega
            have h40 : ∀ l : List (Int × Int), (∀ p ∈ l, symOk p) → (l.flatMap (symB S)).length ≤ 40 * l.length := fun l => by
              induction l with
              | nil => intro _; simp
              | cons x l ih =>
                intro hk
                obtain ⟨z1, z2, z3, z4⟩ := hk x (by simp)
                have h2 := ih fun q hq => hk q (by simp [hq])
                have h3 : (S.getD x.1.toNat 0).toNat ≤ 15 := by
                  obtain ⟨m', _, hm', em'⟩ := err_get hSe (i := x.1.toNat) (by omega)
                  omega
                have h4 : extraB x.1 ≤ 7 := by unfold extraB; split <;> (try split) <;> (try split) <;> omega
                rw [List.flatMap_cons, List.length_append, List.length_cons, symB, List.length_append, bitsH_len, bitsL_len]
                omega
            refine loop_intro (fun i : Nat => [(1, .pointer (some ⟨w, 0, none⟩)), (2, .pointer (some ⟨r2, 0, none⟩)), (8, .slice a1 LA.length c1), (10, .slice a2 LB.length c2), (13, .slice a7 R.length c7), (17, .slice a8 19 c8), (19, .slice a9 19 19), (26, .map (some rZ)), (152, .slice a6 R.length c6), (153, .int .i64 (R.length : Nat)), (154, .int .i64 (i : Nat))])
              (fun i h' t' => i ≤ R.length ∧ h' rZ = some oz3 ∧ rZ < t' ∧ ∃ d5, Wr 63 h' w d5 (b4 ++ (R.take i).flatMap (symB S)) ∧ FrW w d g9 h' ∧ (d5 = d ∨ ∃ r, d5 = some r ∧ u9 ≤ r) ∧ u9 ≤ t' ∧ d5 ≠ some rZ) (fun i => R.length - i) 0 ⟨rfl, rfl, rfl, rfl, rfl, rfl, rfl, rfl, rfl, rfl, rfl, trivial⟩
              ⟨by omega, hzm, by omega, d4, by simpa using B4.sub hzs, (fun k o h1 h2 ho => hzs k o (fr4 k o h1 h2 ho)), dd4, by omega, d4n⟩ ?_
            clear fr4 dd4 le4 B4 W4 d4n hd1 hzm hzs
            rintro i e g t1 hd1 ⟨hi, hzm, hzt, d5, B5, fr5, dd5, le5, d5n⟩
            have s6i := sl_frW s6n (fun _ => f6) fr5
            have s7i := sl_frW s7n (fun _ => f7) fr5
            have s8i := sl_frW s8n (fun _ => f8) fr5
            have s9i := sl_frW s9n (fun _ => f9) fr5
            conv => whnf
            refine br (fun hb => ?_) (fun hb => ?_)
            · obtain ⟨p, hp⟩ : ∃ p, R[i]? = some p := ⟨_, List.getElem?_eq_getElem (by omega)⟩
              obtain ⟨q1, q2, q3, q4⟩ := hRok p (List.mem_of_getElem? hp)
              obtain ⟨kk, hkk⟩ := Int.eq_ofNat_of_zero_le q1
              have hp1 : (R.map (·.1))[i]? = some ((kk : Nat) : Int) := by rw [List.getElem?_map, hp, ← hkk]; rfl
              have hp2 : (R.map (·.2))[i]? = some p.2 := by rw [List.getElem?_map, hp]; rfl
              have k19 : kk < S.length := by omega
              obtain ⟨mm, hmm, hm15, emm⟩ := err_get hSe k19
              have hcr := Huf.code_range hSe k19
              conv => whnf
              repeat (first | ((with_reducible apply Go.Vc.sl_ix); (focus with_reducible assumption); (focus exact And.intro (by omega) (by omega)); intro xI bI offI hxI hcI; conv => whnf) | ((with_reducible apply Go.Vc.cell_i); (focus assumption); conv => whnf))
              have hxk : xI = ((kk : Nat) : Int) := by
                have e := hxI
                rw [show ((i : Nat) : Int).toNat = i from rfl, hp1] at e
                exact (Option.some.inj e).symm
              subst hxk
              refine Go.Vc.draw_intro [⟨0, false, false, false, 0⟩, ⟨1, false, false, false, 0⟩, ⟨2, false, false, false, 0⟩, ⟨3, false, false, false, 6⟩, ⟨4, false, false, false, 14⟩, ⟨5, false, false, false, 0⟩, ⟨6, false, false, false, 0⟩, ⟨7, false, false, false, 96⟩, ⟨8, false, false, false, 224⟩, ⟨9, true, false, false, 511⟩] (hs := (fun _ => none)) (hsub := (fun _ _ h => nomatch h)) (hm := by kernel_rfl) (hpl := by kernel_rfl) ?_
              conv => whnf
              conv => whnf
              repeat (first | ((with_reducible apply Go.Vc.sl_ix); (focus with_reducible assumption); (focus exact And.intro (by omega) (by omega)); intro xI bI offI hxI hcI; conv => whnf) | ((with_reducible apply Go.Vc.cell_i); (focus assumption); conv => whnf))
              rename_i x1 b1 o1 hx1 hc1'
              have ex1 : x1 = Huf.codeAt S kk := by
                have e := hx1
                rw [show ((kk : Nat) : Int).toNat = kk from rfl, Huf.codes_get k19] at e
                exact (Option.some.inj e).symm
              have ex2 : xI = (mm : Int) := by
                have e := hxI
                rw [show ((kk : Nat) : Int).toNat = kk from rfl, hmm] at e
                exact (Option.some.inj e).symm
              subst ex1
              subst ex2
              have hbR := h40 (R.take i) fun p hp => hRok p (List.mem_of_mem_take hp)
              rw [List.length_take] at hbR
              refine (code_spec B5 (many := mm) (by omega) (by rw [List.length_append]; omega) (by omega)).mono ?_
              rintro _ y6 v6 hy6 hv6 ⟨rfl, V6⟩
              obtain ⟨d6, B6, fr6, dd6, le6⟩ := id V6
              have z6 : y6 rZ = some oz3 := fr6 _ _ wn d5n hzm
              have d6n : d6 ≠ some rZ := fun e => by
                rcases dd6 with h1 | ⟨r, h1, hr⟩
                · exact d5n (h1 ▸ e)
                · rw [h1] at e; cases e; omega
              obtain ⟨d6', B6', fr6', dd6', le6'⟩ := WrTo.step hg9 fr5 dd5 le5 V6
              obtain rfl := B6'.uniq B6
              have s7j := sl_frW s7n (fun _ => f7) fr6'
              conv => whnf
              refine Go.Vc.draw_intro [⟨0, false, false, false, 0⟩, ⟨1, false, false, false, 0⟩, ⟨2, false, false, false, 0⟩, ⟨3, false, false, false, 6⟩, ⟨4, false, false, false, 14⟩, ⟨5, false, false, false, 0⟩, ⟨6, false, false, false, 0⟩, ⟨7, false, false, false, 96⟩, ⟨8, true, false, false, 255⟩] (hs := (fun _ => none)) (hsub := (fun _ _ h => nomatch h)) (hm := by kernel_rfl) (hpl := by kernel_rfl) ?_
              conv => whnf
              conv => whnf
              repeat (first | ((with_reducible apply Go.Vc.sl_ix); (focus with_reducible assumption); (focus exact And.intro (by omega) (by omega)); intro xI bI offI hxI hcI; conv => whnf) | ((with_reducible apply Go.Vc.cell_i); (focus assumption); conv => whnf))
              refine ex_look z6 hz3 ?_
              conv => whnf
              have hx2 : xI = p.2 := by
                have e := hxI
                rw [show ((i : Nat) : Int).toNat = i from rfl, hp2] at e
                exact (Option.some.inj e).symm
              subst hx2
              have hex : extraB ((kk : Nat) : Int) ≤ 7 := by unfold extraB; split <;> (try split) <;> (try split) <;> omega
              refine (bits_spec B6 (many := extraB ((kk : Nat) : Int)) (by omega) (by rw [List.length_append, List.length_append, bitsH_len]; omega) (by omega)).mono ?_
              rintro _ y7 v7 hy7 hv7 ⟨rfl, V7⟩
              obtain ⟨d7, B7, fr7, dd7, le7⟩ := id V7
              have z7 : y7 rZ = some oz3 := fr7 _ _ wn d6n z6
              have d7n : d7 ≠ some rZ := fun e => by
                rcases dd7 with h1 | ⟨r, h1, hr⟩
                · exact d6n (h1 ▸ e)
                · rw [h1] at e; cases e; omega
              obtain ⟨d7', B7', fr7', dd7', le7'⟩ := WrTo.step hg9 fr6' dd6' le6' V7
              obtain rfl := B7'.uniq B7
              conv => whnf
              repeat (first | ((with_reducible apply Go.Vc.wr_i64); (focus exact And.intro (by omega) (by omega)); conv => whnf))
              have hsy : b4 ++ (R.take (i + 1)).flatMap (symB S) = b4 ++ (R.take i).flatMap (symB S) ++ bitsH (Huf.codeAt S kk) mm ++ bitsL p.2 (extraB ((kk : Nat) : Int)) := by
                rw [List.take_add_one, hp, List.flatMap_append, Option.toList_some, List.flatMap_singleton, symB, hkk, Int.toNat_natCast, emm]
                simp only [List.append_assoc]
              refine round_end (i + 1) (by omega) ⟨rfl, rfl, rfl, rfl, rfl, rfl, rfl, rfl, rfl, rfl, rfl, trivial⟩ ⟨by omega, z7, by omega, d7', by rw [hsy]; exact B7, fr7', dd7', le7', d7n⟩
            · have br2 := fr5 _ _ (show r2 ≠ w by omega) (fun e => by have := hdt r2 e; omega) bn
              conv => whnf
              refine ldrow br2 rfl ?_
              rintro _ rfl
              conv => whnf
              rw [List.take_of_length_le (by omega)] at B5
              have hbR := h40 R hRok
              have hd5 : ∀ {b : Nat}, (True → b ≠ w ∧ d ≠ some b) → b < u9 → d5 ≠ some b := fun {b} h1 h2 e => by
                rcases dd5 with h3 | ⟨r, h3, hr⟩
                · exact (h1 trivial).2 (h3 ▸ e)
                · rw [h3] at e; cases e; omega
              refine (btell_spec B5 (by rw [List.length_append]; omega) (sl_frW spn (fun h => f0 (by omega)) fr5) hpn (sl_frW sAn (fun _ => fA) fr5) (sl_frW sBn (fun _ => fB) fr5) hAe hBe (by omega) (fun p hp => ?_)
                (fun h0 b hb => ⟨(f0 h0 b hb).1, hd5 (fun x => f0 h0 b hb) (sl_dom spn (by omega) hg9 b hb)⟩) (fun b hb => ⟨(fA b hb).1, hd5 (fun x => fA b hb) (sl_dom sAn (by omega) hg9 b hb)⟩) (fun b hb => ⟨(fB b hb).1, hd5 (fun x => fB b hb) (sl_dom sBn (by omega) hg9 b hb)⟩)).mono ?_
              · obtain ⟨o1, o2, o3, o4, o5, o6⟩ := hok p hp
                exact ⟨hA3 p hp o1, o2, o3, fun h => hB3 p hp h (o4 h), o5, o6⟩
              rintro _ y8 v8 hy8 hv8 ⟨rfl, V8⟩
              conv => whnf
              have e : dynF ps = bitsL (LA.length - 257 : Nat) 5 ++ bitsL (LB.length - 1 : Nat) 5 ++ bitsL (TC.length - 4 : Nat) 4 ++ TC.flatMap (fun k => bitsL k 3) ++ R.flatMap (symB S) ++ tellF LA LB ps := by
                unfold dynF toldF shortS shortC runsAB
                rw [hLA, hLB, hR, hS, hT, hTC]
              refine ⟨rfl, ?_⟩
              have V9 := WrTo.step hd (FrW.of_sub kAll) (.inl rfl) (show t ≤ u9 by omega) (WrTo.step hg9 fr5 dd5 le5 V8)
              rw [e]
              rw [← hb4] at V9
              simp only [List.append_assoc] at V9 ⊢
              exact V9
  · conv => whnf
    repeat (first | ((with_reducible apply Go.Vc.mk_b); (focus exact And.intro (by omega) (by omega)); (focus exact rfl); (focus omega); intro rM csM hrM hcsM; (first | (replace hcsM := hcsM.trans (Go.Vc.zc (Value.int .i64) 0 _)) | (replace hcsM := hcsM.trans (Go.Vc.zc Go.Vc.bv 0 _)) | (replace hcsM := hcsM.trans (Go.Vc.zc Value.string ByteArray.empty _))); subst hcsM; conv => whnf) | ((with_reducible apply Go.Vc.own_ix); (focus exact And.intro (by omega) (by omega)); conv => whnf) | ((with_reducible apply Go.Vc.ld_i); (focus ((repeat (first | with_reducible assumption | with_reducible exact Go.Vc.hset_same _ _ _ | with_reducible refine (Go.Vc.hset_ne _ _ (by omega)).trans ?_)); done)); (focus exact rfl); conv => whnf) | ((with_reducible apply Go.Vc.ar_st); (focus ((repeat (first | with_reducible assumption | with_reducible exact Go.Vc.hset_same _ _ _ | with_reducible refine (Go.Vc.hset_ne _ _ (by omega)).trans ?_)); done)); (focus exact rfl); (focus exact rfl); (focus (first | omega | (simp; done) | (simp; omega))); (focus exact rfl); intro heqA; (conv => whnf); intro cA hcA; rw [heqA] at hcA; clear heqA; subst hcA; conv => whnf) | ((with_reducible apply Go.Vc.wr_i64); (focus exact And.intro (by omega) (by omega)); conv => whnf))
    rename_i rB hrB
    obtain ⟨rA, rfl⟩ : ∃ x, x = rM := ⟨_, rfl⟩
    have hdF := hd2.set rB (.cells ((List.replicate 30 (0 : Int)).map (Value.int .i64)).toArray 3) (rB + 1) (by omega) (by omega)
    have hs2F := hd2.sub_new (r := rB) (by omega) (.cells ((List.replicate 30 (0 : Int)).map (Value.int .i64)).toArray 3)
    have hsFS := hdF.sub_new (r := rA) (by omega) (.cells ((List.replicate 286 (0 : Int)).map (Value.int .i64)).toArray 3)
    have hsE : Vc.Sub h (hset (hset (hset h r2 (.cells #[.string s, .slice pa pn pc] 66)) rB (.cells ((List.replicate 30 (0 : Int)).map (Value.int .i64)).toArray 3)) rA (.cells ((List.replicate 286 (0 : Int)).map (Value.int .i64)).toArray 3)) := hs2.trans (hs2F.trans hsFS)
    have bE : (hset (hset (hset h r2 (.cells #[.string s, .slice pa pn pc] 66)) rB (.cells ((List.replicate 30 (0 : Int)).map (Value.int .i64)).toArray 3)) rA (.cells ((List.replicate 286 (0 : Int)).map (Value.int .i64)).toArray 3)) r2 = _ := hsFS _ _ (hs2F _ _ (hset_same h r2 (.cells #[.string s, .slice pa pn pc] 66)))
    have oB1 : Vc.Own (hset (hset (hset (hset h r2 (.cells #[.string s, .slice pa pn pc] 66)) rB (.cells ((List.replicate 30 (0 : Int)).map (Value.int .i64)).toArray 3)) rA (.cells ((List.replicate 286 (0 : Int)).map (Value.int .i64)).toArray 3)) rA (.cells (((List.replicate 286 (0 : Int)).set 256 (0 + 1)).map (Value.int .i64)).toArray 3)) 3 (some ⟨rB, 0, none⟩) 30 30 (Value.int .i64) (cntF 30 []) := by
      rw [cntF_nil]
      exact ar_own ((hset_ne _ _ (by omega)).trans (hsFS _ _ (hset_same _ _ _))) (by simp)
    have oA1 : Vc.Own (hset (hset (hset (hset h r2 (.cells #[.string s, .slice pa pn pc] 66)) rB (.cells ((List.replicate 30 (0 : Int)).map (Value.int .i64)).toArray 3)) rA (.cells ((List.replicate 286 (0 : Int)).map (Value.int .i64)).toArray 3)) rA (.cells (((List.replicate 286 (0 : Int)).set 256 (0 + 1)).map (Value.int .i64)).toArray 3)) 3 (some ⟨rA, 0, none⟩) 286 286 (Value.int .i64) (cntF 286 [256]) := by
      have e : (List.replicate 286 (0 : Int)).set 256 (0 + 1) = cntF 286 [256] := by rw [← cntF_nil 286]; exact cntF_set [] (by omega)
      rw [← e]
      exact ar_own (hset_same _ _ _) (by simp)
    have hsE1 : Vc.Sub h (hset (hset (hset (hset h r2 (.cells #[.string s, .slice pa pn pc] 66)) rB (.cells ((List.replicate 30 (0 : Int)).map (Value.int .i64)).toArray 3)) rA (.cells ((List.replicate 286 (0 : Int)).map (Value.int .i64)).toArray 3)) rA (.cells (((List.replicate 286 (0 : Int)).set 256 (0 + 1)).map (Value.int .i64)).toArray 3)) := fun b o hb => by
      have := hd b o hb
      rw [hset_ne _ _ (by omega)]; exact hsE b o hb
    have bE1 : (hset (hset (hset (hset h r2 (.cells #[.string s, .slice pa pn pc] 66)) rB (.cells ((List.replicate 30 (0 : Int)).map (Value.int .i64)).toArray 3)) rA (.cells ((List.replicate 286 (0 : Int)).map (Value.int .i64)).toArray 3)) rA (.cells (((List.replicate 286 (0 : Int)).set 256 (0 + 1)).map (Value.int .i64)).toArray 3)) r2 = _ := (hset_ne _ _ (by omega)).trans bE
    have hrAB : rA ≠ rB := by omega
    have hrA2 : r2 < rA := by omega
    have hrB2 : r2 < rB := by omega
    have htr : t ≤ rA + 1 := by omega
    refine loop_intro (fun i : Nat => [(1, .pointer (some ⟨w, 0, none⟩)), (2, .pointer (some ⟨r2, 0, none⟩)), (4, .slice (some ⟨rA, 0, none⟩) 286 286), (5, .slice (some ⟨rB, 0, none⟩) 30 30), (37, .slice pa pn pc), (38, .int .i64 (pn : Nat)), (39, .int .i64 (i : Nat))])
      (fun i h' t' => i ≤ pn ∧ Vc.Own h' 3 (some ⟨rA, 0, none⟩) 286 286 (Value.int .i64) (cntF 286 (manyL (ps.take i))) ∧ Vc.Own h' 3 (some ⟨rB, 0, none⟩) 30 30 (Value.int .i64) (cntF 30 (farL (ps.take i))) ∧ h' r2 = some (.cells #[.string s, .slice pa pn pc] 66 (0, 0)) ∧ Vc.Sub h h' ∧ rA < t' ∧ rB < t') (fun i => pn - i) 0 ⟨rfl, rfl, rfl, rfl, rfl, rfl, rfl, trivial⟩
      ⟨by omega, oA1, oB1, bE1, hsE1, by omega, by omega⟩ ?_
    rintro i e g t1 hd1 ⟨hi, oA, oB, bg, hsg, htA, htB⟩
    have spg := hps.sub hsg
    conv => whnf
    refine br (fun hb => ?_) (fun hb => ?_)
    · obtain ⟨p, bP, offP, hp, haP, hrow⟩ := slW_row (i := i) pcells_len spg (by decide) (by omega)
      have haP' := haP
      subst haP'
      obtain ⟨o1, o2, o3, o4, o5, o6⟩ := hok p (List.mem_of_getElem? hp)
      have hmt : manyL (ps.take (i + 1)) = manyL (ps.take i) ++ [p.sym] := by
        unfold manyL
        rw [List.take_add_one, hp]
        simp
      have hft : farL (ps.take (i + 1)) = farL (ps.take i) ++ (if p.plain then [] else [p.sym2]) := by
        unfold farL
        rw [List.take_add_one, hp]
        cases hpp : p.plain <;> simp [hpp]
      have hml : (manyL (ps.take i)).length ≤ 200000 := by unfold manyL; rw [List.length_cons, List.length_map, List.length_take]; omega
      have hfl : (farL (ps.take i)).length ≤ 200000 := by
        unfold farL
        have := List.length_filter_le (fun p : Prt => !p.plain) (ps.take i)
        rw [List.length_map]
        rw [List.length_take] at this
        omega
      have hcm := List.count_le_length (a := p.sym) (l := manyL (ps.take i))
      have hcf := List.count_le_length (a := p.sym2) (l := farL (ps.take i))
      conv => whnf
      repeat (first | ((with_reducible apply Go.Vc.own_ix); (focus exact And.intro (by omega) (by omega)); conv => whnf))
      refine hrow.row (W := 7) rfl (by decide) ?_
      conv => whnf
      repeat (first | ((with_reducible apply Go.Vc.own_ix); (focus exact And.intro (by omega) (by omega)); conv => whnf) | ((with_reducible apply Go.Vc.strow); (focus ((repeat (first | with_reducible assumption | with_reducible exact Go.Vc.hset_same _ _ _ | with_reducible refine (Go.Vc.hset_ne _ _ (by omega)).trans ?_)); done)); (focus exact rfl); (focus exact rfl); (focus exact rfl); rintro _ rfl; conv => whnf) | ((with_reducible apply Go.Vc.ld_i); (focus ((repeat (first | with_reducible assumption | with_reducible exact Go.Vc.hset_same _ _ _ | with_reducible refine (Go.Vc.hset_ne _ _ (by omega)).trans ?_)); done)); (focus exact rfl); conv => whnf) | (intro _ _; conv => whnf))
      rename_i rb hrb
      have hX := hset_same (hset g rb (.cells #[.int .i64 0, .int .i64 0, .int .i64 0, .int .i64 0, .int .i64 0, .int .i64 0, .bool false] 94)) rb (.cells (pcells p).toArray 94)
      have hsX : Vc.Sub g (hset (hset g rb (.cells #[.int .i64 0, .int .i64 0, .int .i64 0, .int .i64 0, .int .i64 0, .int .i64 0, .bool false] 94)) rb (.cells (pcells p).toArray 94)) := fun k o hk => by
        have := hd1 _ _ hk
        rw [hset_ne _ _ (by omega), hset_ne _ _ (by omega)]
        exact hk
      have oAX := Own.fr oA fun b x _ hx => hsX b x hx
      have oBX := Own.fr oB fun b x _ hx => hsX b x hx
      have bgX := hsX _ _ bg
      have hsgX := hsg.trans hsX
      have hcA := Own.cell oAX (cntF_get (manyL (ps.take i)) o1)
      conv => whnf
      repeat (first | ((with_reducible apply Go.Vc.own_ix); (focus exact And.intro (by omega) (by omega)); conv => whnf) | ((with_reducible apply Go.Vc.cell_i); (focus assumption); conv => whnf) | ((with_reducible apply Go.Vc.wr_i64); (focus exact And.intro (by omega) (by omega)); conv => whnf))
      obtain ⟨csb, frb, hbb, hlt, hfz, hput⟩ := oAX.put (j := p.sym) o1 (((manyL (ps.take i)).count p.sym : Nat) + 1)
      rw [cntF_set _ o1, ← hmt] at hput
      refine ⟨rfl, csb, _, frb, hbb, hlt, hfz, ?_⟩
      intro c' hc'
      subst hc'
      have hrbA : rb ≠ rA := by omega
      have hX2 := (hset_ne _ (.cells (csb.setIfInBounds (0 + p.sym * 1) (.int .i64 (((manyL (ps.take i)).count p.sym : Nat) + 1))) 3 frb) hrbA).trans hX
      have bg2 := (hset_ne _ (.cells (csb.setIfInBounds (0 + p.sym * 1) (.int .i64 (((manyL (ps.take i)).count p.sym : Nat) + 1))) 3 frb) (show r2 ≠ rA by omega)).trans bgX
      have oB2 := Own.fr oBX (h' := hset _ rA (.cells (csb.setIfInBounds (0 + p.sym * 1) (.int .i64 (((manyL (ps.take i)).count p.sym : Nat) + 1))) 3 frb)) fun b x hb hx => by
        rw [hset_ne _ _ (fun e => by have e3 : some rB = some b := hb; cases e3; omega)]; exact hx
      have hsg2 : Vc.Sub h (hset _ rA (.cells (csb.setIfInBounds (0 + p.sym * 1) (.int .i64 (((manyL (ps.take i)).count p.sym : Nat) + 1))) 3 frb)) := fun b o hb => by
        have := hd b o hb
        rw [hset_ne _ _ (by omega)]; exact hsgX b o hb
      have hcB : p.plain = false → _ := fun hpp => Own.cell oB2 (cntF_get (farL (ps.take i)) (o4 hpp))
      conv => whnf
      repeat (first | ((with_reducible apply Go.Vc.ld_i); (focus ((repeat (first | with_reducible assumption | with_reducible exact Go.Vc.hset_same _ _ _ | with_reducible refine (Go.Vc.hset_ne _ _ (by omega)).trans ?_)); done)); (focus exact rfl); conv => whnf))
      cases hpp : p.plain with
      | true =>
        rw [hpp, if_pos rfl, List.append_nil] at hft
        conv => whnf
        repeat (first | ((with_reducible apply Go.Vc.wr_i64); (focus exact And.intro (by omega) (by omega)); conv => whnf))
        refine round_end (i + 1) (by omega) ⟨rfl, rfl, rfl, rfl, rfl, rfl, rfl, trivial⟩ ⟨by omega, hput, by rw [hft]; exact oB2, bg2, hsg2, by omega, by omega⟩
      | false =>
        rw [hpp, if_neg (by decide)] at hft
        have o4' := o4 hpp
        have hcB' := hcB hpp
        conv => whnf
        repeat (first | ((with_reducible apply Go.Vc.own_ix); (focus exact And.intro (by omega) (by omega)); conv => whnf) | ((with_reducible apply Go.Vc.ld_i); (focus ((repeat (first | with_reducible assumption | with_reducible exact Go.Vc.hset_same _ _ _ | with_reducible refine (Go.Vc.hset_ne _ _ (by omega)).trans ?_)); done)); (focus exact rfl); conv => whnf) | ((with_reducible apply Go.Vc.cell_i); (focus assumption); conv => whnf) | ((with_reducible apply Go.Vc.wr_i64); (focus exact And.intro (by omega) (by omega)); conv => whnf))
        obtain ⟨csq, frq, hbq, hltq, hfzq, hputq⟩ := oB2.put (j := p.sym2) o4' (((farL (ps.take i)).count p.sym2 : Nat) + 1)
        rw [cntF_set _ o4', ← hft] at hputq
        refine ⟨rfl, csq, _, frq, hbq, hltq, hfzq, ?_⟩
        intro c' hc'
        subst hc'
        conv => whnf
        repeat (first | ((with_reducible apply Go.Vc.wr_i64); (focus exact And.intro (by omega) (by omega)); conv => whnf))
        refine round_end (i + 1) (by omega) ⟨rfl, rfl, rfl, rfl, rfl, rfl, rfl, trivial⟩ ⟨by omega, ?_, hputq, ?_, fun b o hb => ?_, by omega, by omega⟩
        · exact Own.fr hput fun b x hb hx => by
            rw [hset_ne _ _ (fun e => by have e3 : some rA = some b := hb; cases e3; omega)]; exact hx
        · rw [hset_ne _ _ (by omega)]; exact bg2
        · have := hd b o hb
          rw [hset_ne _ _ (by omega)]; exact hsg2 b o hb
    · have htake : ps.take i = ps := List.take_of_length_le (by omega)
      rw [htake] at oA oB
      have hmL : (manyL ps).length ≤ 1000000 := by unfold manyL; rw [List.length_cons, List.length_map]; omega
      have hfL : (farL ps).length ≤ 1000000 := by
        unfold farL
        have := List.length_filter_le (fun p : Prt => !p.plain) ps
        rw [List.length_map]
        omega
      obtain ⟨hAe, hA1, hA2, hA3⟩ := lenA_ok (ps := ps) (by omega)
      obtain ⟨hBe, hB1, hB2, hB3⟩ := lenB_ok (ps := ps) (by omega)
      conv => whnf
      refine (lengths_specO oA.sl (by omega)).mono ?_
      rintro _ g1 u1 hg1 hu1 ⟨a1, n1, c1, rfl, s1, hc1, _, k1, w1⟩
      rw [lengthsF_cnt (by omega) hmL (.inl rfl)] at s1
      have e1 := s1.1
      rw [Huf.lenF_len, cntF_len] at e1
      obtain ⟨X, hX⟩ : ∃ X, Huf.lenF 40 (cntF 286 (manyL ps)) 15 = X := ⟨_, rfl⟩
      have eA : lenA ps = cutF X 257 := by unfold lenA; rw [hX]
      have lX : X.length = 286 := by rw [← hX, Huf.lenF_len, cntF_len]
      rw [hX] at s1
      conv => whnf
      refine (lengths_specO (oB.sl.sub k1) (by omega)).mono ?_
      rintro _ g2 u2 hg2 hu2 ⟨a2, n2, c2, rfl, s2, hc2, _, k2, w2⟩
      rw [lengthsF_cnt (by omega) hfL (.inl rfl)] at s2
      have e2 := s2.1
      rw [Huf.lenF_len, cntF_len] at e2
      obtain ⟨Y, hY⟩ : ∃ Y, Huf.lenF 40 (cntF 30 (farL ps)) 15 = Y := ⟨_, rfl⟩
      have eB : lenB ps = cutF Y 1 := by unfold lenB; rw [hY]
      have lY : Y.length = 30 := by rw [← hY, Huf.lenF_len, cntF_len]
      rw [hY] at s2
      conv => whnf
      refine (cut_spec (least := 257) (s1.sub k2) (by omega) hc1 (by omega)).mono ?_
      rintro _ _ _ _ _ ⟨rfl, rfl, rfl⟩
      rw [← eA]
      conv => whnf
      refine (cut_spec (least := 1) s2 (by omega) hc2 (by omega)).mono ?_
      rintro _ _ _ _ _ ⟨rfl, rfl, rfl⟩
      rw [← eB]
      have sA : Sl g2 a1 (lenA ps).length (Value.int .i64) (lenA ps) := by
        rw [eA]
        exact cut_sl (s1.sub k2) 257
      have sB : Sl g2 a2 (lenB ps).length (Value.int .i64) (lenB ps) := by
        rw [eB]
        exact cut_sl s2 1
      clear eA eB
      generalize hLA : lenA ps = LA at *
      generalize hLB : lenB ps = LB at *
      conv => whnf
      repeat (first | (intro _ _; conv => whnf))
      rename_i rc hrc
      have k3 := hg2.sub_new hrc (.cells #[.slice a1 (LA).length c1, .slice a2 (LB).length c2] 31)
      refine (concat_spec (qs := [⟨a1, (LA).length, c1, LA⟩, ⟨a2, (LB).length, c2, LB⟩]) (a0 := some ⟨rc, 0, none⟩) (n0 := 2) (c0 := 2) ?_ ?_ (by simp [sizes]; omega) (by decide)).mono ?_
      · refine ⟨rfl, fun _ => ⟨rc, 0, _, _, _, rfl, hset_same _ _ _, ?_⟩⟩
        intro i hi
        simp at hi
        have : i = 0 ∨ i = 1 := by omega
        rcases this with rfl | rfl <;> rfl
      · intro q hq
        simp only [List.mem_cons, List.not_mem_nil, or_false] at hq
        rcases hq with rfl | rfl
        · exact sA.sub k3
        · exact sB.sub k3
      rintro _ g4 u4 hg4 hu4 ⟨a5, n5, c5, rfl, o5, k4, w5⟩
      have e5 : [(⟨a1, (LA).length, c1, LA⟩ : SV), ⟨a2, (LB).length, c2, LB⟩].flatMap (·.l) = LA ++ LB := by simp
      rw [e5] at o5
      have en5 := o5.1
      rw [List.length_append] at en5
      conv => whnf
      refine (runs_spec o5.sl (by omega) o5.cap).mono ?_
      rintro _ g5 u5 hg5 hu5 ⟨a6, c6, a7, c7, rfl, s6, s7, _, k5, w6, w7⟩
      obtain ⟨R, hR⟩ : ∃ R, runsF (LA ++ LB) = R := ⟨_, rfl⟩
      rw [hR] at s6 s7 ⊢
      have hRok : ∀ p ∈ R, symOk p := by
        rw [← hR]
        exact runs_ok _ _ (Nat.le_refl _) (by
        rw [List.all_append, (Huf.err_zero hAe).2.1, (Huf.err_zero hBe).2.1]; rfl)
      have hRlen : R.length ≤ 316 := by
        have := runs_len _ (LA ++ LB) (Nat.le_refl _)
        rw [List.length_append] at this
        rw [hR] at this
        omega
      conv => whnf
      repeat (first | ((with_reducible apply Go.Vc.mk_b); (focus exact And.intro (by omega) (by omega)); (focus exact rfl); (focus omega); intro rM csM hrM hcsM; (first | (replace hcsM := hcsM.trans (Go.Vc.zc (Value.int .i64) 0 _)) | (replace hcsM := hcsM.trans (Go.Vc.zc Go.Vc.bv 0 _)) | (replace hcsM := hcsM.trans (Go.Vc.zc Value.string ByteArray.empty _))); subst hcsM; conv => whnf))
      have hsB := hsg.trans (k1.trans (k2.trans (k3.trans (k4.trans k5))))
      have bB := k5 _ _ (k4 _ _ (k3 _ _ (k2 _ _ (k1 _ _ bg))))
      have hs5M := hg5.sub_new hrM (.cells ((List.replicate 19 (0 : Int)).map (Value.int .i64)).toArray 3)
      refine loop_intro (fun i : Nat => [(1, .pointer (some ⟨w, 0, none⟩)), (2, .pointer (some ⟨r2, 0, none⟩)), (8, .slice a1 LA.length c1), (10, .slice a2 LB.length c2), (12, .slice a6 R.length c6), (13, .slice a7 R.length c7), (14, .slice (some ⟨rM, 0, none⟩) 19 19), (86, .slice a6 R.length c6), (87, .int .i64 (R.length : Nat)), (88, .int .i64 (i : Nat))])
        (fun i h' t' => i ≤ R.length ∧ Vc.Own h' 3 (some ⟨rM, 0, none⟩) 19 19 (Value.int .i64) (cntF 19 ((R.take i).map fun p => p.1.toNat)) ∧ Vc.Sub g5 h' ∧ rM < t') (fun i => R.length - i) 0 ⟨rfl, rfl, rfl, rfl, rfl, rfl, rfl, rfl, rfl, rfl, trivial⟩
        ⟨by omega, by rw [show (R.take 0).map (fun p => p.1.toNat) = [] from rfl, cntF_nil]; exact ar_own (hset_same _ _ _) (by simp), hs5M, by omega⟩ ?_
      rintro i e g6 u6 hg6 ⟨hi, oC, k6, htC⟩
      have s6g := s6.sub k6
      conv => whnf
      refine br (fun hb => ?_) (fun hb => ?_)
      · obtain ⟨p, hp⟩ : ∃ p, R[i]? = some p := ⟨_, List.getElem?_eq_getElem (by omega)⟩
        obtain ⟨q1, q2, q3, q4⟩ := hRok p (List.mem_of_getElem? hp)
        obtain ⟨kk, hkk⟩ := Int.eq_ofNat_of_zero_le q1
        have hp1 : (R.map (·.1))[i]? = some ((kk : Nat) : Int) := by rw [List.getElem?_map, hp, ← hkk]; rfl
        have htk : (R.take (i + 1)).map (fun p => p.1.toNat) = (R.take i).map (fun p => p.1.toNat) ++ [kk] := by
          rw [List.take_add_one, hp, List.map_append]
          simp [hkk]
        have hcc := List.count_le_length (a := kk) (l := (R.take i).map fun p => p.1.toNat)
        rw [List.length_map, List.length_take] at hcc
        have k19 : kk < 19 := by omega
        have hcK := Own.cell oC (cntF_get ((R.take i).map fun p => p.1.toNat) k19)
        conv => whnf
        repeat (first | ((with_reducible apply Go.Vc.sl_ix); (focus with_reducible assumption); (focus exact And.intro (by omega) (by omega)); intro xI bI offI hxI hcI; conv => whnf) | ((with_reducible apply Go.Vc.cell_i); (focus assumption); conv => whnf))
        have hxk : xI = ((kk : Nat) : Int) := by
          have e := hxI
          rw [show ((i : Nat) : Int).toNat = i from rfl, hp1] at e
          exact (Option.some.inj e).symm
        subst hxk
        conv => whnf
        repeat (first | ((with_reducible apply Go.Vc.own_ix); (focus exact And.intro (by omega) (by omega)); conv => whnf) | ((with_reducible apply Go.Vc.cell_i); (focus assumption); conv => whnf) | ((with_reducible apply Go.Vc.wr_i64); (focus exact And.intro (by omega) (by omega)); conv => whnf))
        obtain ⟨csC, frC, hbC, hltC, hfzC, hputC⟩ := oC.put (j := kk) k19 ((((R.take i).map fun p => p.1.toNat).count kk : Nat) + 1)
        rw [cntF_set _ k19, ← htk] at hputC
        refine ⟨rfl, csC, _, frC, hbC, hltC, hfzC, ?_⟩
        intro c' hc'
        subst hc'
        conv => whnf
        repeat (first | ((with_reducible apply Go.Vc.wr_i64); (focus exact And.intro (by omega) (by omega)); conv => whnf))
        refine round_end (i + 1) (by omega) ⟨rfl, rfl, rfl, rfl, rfl, rfl, rfl, rfl, rfl, rfl, trivial⟩ ⟨by omega, hputC, fun b o hb => ?_, by omega⟩
        have := hg5 _ _ hb
        rw [hset_ne _ _ (by omega)]
        exact k6 b o hb
      · rw [List.take_of_length_le (by omega)] at oC
        have hSok := lens_ok (n := 19) (l := R.map fun p => p.1.toNat) (m := 7) (by omega) (by rw [List.length_map]; omega) (.inr ⟨rfl, by omega⟩)
        conv => whnf
        refine (lengths_specO oC.sl (by omega)).mono ?_
        rintro _ g7 u7 hg7 hu7 ⟨a8, n8, c8, rfl, s8, hc8, _, k7, w8⟩
        rw [lengthsF_cnt (by omega) (by rw [List.length_map]; omega) (.inr ⟨rfl, by omega⟩)] at s8
        obtain ⟨S, hS⟩ : ∃ S, Huf.lenF 40 (cntF 19 (R.map fun p => p.1.toNat)) 7 = S := ⟨_, rfl⟩
        rw [hS] at s8 hSok
        obtain ⟨hSe, hSl, hS7, _⟩ := hSok
        have e8 := s8.1
        rw [hSl] at e8
        subst e8
        conv => whnf
        refine (codes_spec s8 (by omega)).mono ?_
        rintro _ g8 u8 hg8 hu8 ⟨a9, n9, rfl, k8, o9, w9⟩
        rw [if_pos hSe] at o9
        have e9 := o9.1
        rw [Huf.codes_length, hSl] at e9
        subst e9
        conv => whnf
        repeat (first | (intro _ _; conv => whnf))
        rename_i rO hrO
        have hdO := hg8.set rO (.cells (orderI.map (Value.int .i64)).toArray 3) (rO + 1) (by omega) (by omega)
        have k9 := hg8.sub_new hrO (.cells (orderI.map (Value.int .i64)).toArray 3)
        have hO0 := hset_same g8 rO (.cells (orderI.map (Value.int .i64)).toArray 3)
        have s8O := (s8.sub k8).sub k9
        refine loop_intro3 (fun (i : Nat) (a : Option Addr) (c : Nat) => [(1, .pointer (some ⟨w, 0, none⟩)), (2, .pointer (some ⟨r2, 0, none⟩)), (8, .slice a1 LA.length c1), (10, .slice a2 LB.length c2), (12, .slice a6 R.length c6), (13, .slice a7 R.length c7), (17, .slice a8 19 c8), (19, .slice a9 19 19), (21, .slice a i c), (109, .slice (some ⟨rO, 0, none⟩) 19 19), (110, .int .i64 19), (111, .int .i64 (i : Nat))])
          (fun i a c h' t' => i ≤ 19 ∧ Vc.Own h' 3 a i c (Value.int .i64) ((orderL.take i).map fun k => S.getD k 0) ∧ (∀ b, owner a = some b → rO + 1 ≤ b) ∧ Vc.Sub (hset g8 rO (.cells (orderI.map (Value.int .i64)).toArray 3)) h' ∧ rO + 1 ≤ t') (fun i _ _ => 19 - i) 0 none 0 ⟨rfl, rfl, rfl, rfl, rfl, rfl, rfl, rfl, rfl, rfl, rfl, rfl, trivial⟩
          ⟨by omega, Own.nil _ _ _, (fun b hb => by cases hb), Sub.refl _, by omega⟩ ?_
        rintro i aT cT e g9 u9 hg9 ⟨hi, oT, wT, k10, htT⟩
        have slO := lit_sl (l := orderI) (n := 19) (k10 _ _ hO0) rfl rfl
        have s8T := s8O.sub k10
        conv => whnf
        refine br (fun hb => ?_) (fun hb => ?_)
        · obtain ⟨k, hk⟩ : ∃ k, orderL[i]? = some k := ⟨_, List.getElem?_eq_getElem (by show i < 19; omega)⟩
          have hk19 := order_lt k (List.mem_of_getElem? hk)
          have hkI : orderI[i]? = some ((k : Nat) : Int) := by unfold orderI; rw [List.getElem?_map, hk]; rfl
          have hkS : S[k]? = some (S.getD k 0) := by rw [List.getD_eq_getElem?_getD, List.getElem?_eq_getElem (by omega)]; rfl
          have htk : (orderL.take (i + 1)).map (fun k => S.getD k 0) = (orderL.take i).map (fun k => S.getD k 0) ++ [S.getD k 0] := by
            rw [List.take_add_one, hk, List.map_append]
            rfl
          have hcO := Own.cell (ar_own (l := orderI) (n := 19) (k10 _ _ hO0) rfl) hkI
          conv => whnf
          repeat (first | ((with_reducible apply Go.Vc.own_ix); (focus exact And.intro (by omega) (by omega)); conv => whnf) | ((with_reducible apply Go.Vc.sl_ix); (focus with_reducible assumption); (focus exact And.intro (by omega) (by omega)); intro xI bI offI hxI hcI; conv => whnf) | ((with_reducible apply Go.Vc.cell_i); (focus assumption); conv => whnf) | (intro _ _; conv => whnf))
          have hxk : xI = S.getD k 0 := by
            have e := hxI
            rw [show ((k : Nat) : Int).toNat = k from rfl, hkS] at e
            exact (Option.some.inj e).symm
          subst hxk
          rename_i rT hrT
          refine own_app1 hdO htT k10 wT hg9 hrT oT (by omega) ?_
          intro aT' cT' g10 u10 oT' htT' hg10 k11 wT' _ _
          rw [← htk] at oT'
          conv => whnf
          repeat (first | ((with_reducible apply Go.Vc.wr_i64); (focus exact And.intro (by omega) (by omega)); conv => whnf))
          refine round_end3 (i + 1) aT' cT' (by omega) ⟨rfl, rfl, rfl, rfl, rfl, rfl, rfl, rfl, rfl, rfl, rfl, rfl, trivial⟩ ⟨by omega, oT', wT', k11, by omega⟩
        · obtain rfl : i = 19 := by omega
          have htk : (orderL.take 19).map (fun k => S.getD k 0) = orderL.map fun k => S.getD k 0 := rfl
          rw [htk] at oT
          obtain ⟨T, hT⟩ : ∃ T, (orderL.map fun k => S.getD k 0) = T := ⟨_, rfl⟩
          rw [hT] at oT
          conv => whnf
          refine (cut_spec (least := 4) oT.sl (by omega) oT.cap (by omega)).mono ?_
          rintro _ _ _ _ _ ⟨rfl, rfl, rfl⟩
          have sT := cut_sl oT.sl 4
          have hTl := cutF_len T 4
          have hT4 := cutN_ge T 4 T.length (by rw [oT.1]; omega)
          have hT19 := cutN_le T 4 T.length
          rw [oT.1] at hT4 hT19
          rw [oT.1] at hTl
          obtain ⟨TC, hTC⟩ : ∃ TC, cutF T 4 = TC := ⟨_, rfl⟩
          rw [hTC] at sT hTl ⊢
          have kAll := hsB.trans (k6.trans (k7.trans (k8.trans (k9.trans k10))))
          have hTCb : ∀ x ∈ TC, 0 ≤ x ∧ x ≤ 7 := fun x hx => by
            rw [← hTC] at hx
            have h1 := List.mem_of_mem_take hx
            rw [← hT] at h1
            obtain ⟨k, _, rfl⟩ := List.mem_map.1 h1
            rw [List.getD_eq_getElem?_getD]
            cases hk : S[k]? with
            | none => exact ⟨by decide, by decide⟩
            | some z => exact hS7 z (List.mem_of_getElem? hk)
          have Wn := W.sub kAll
          have hwt := W.lt hd
          have hdt := W.dlt hd
          have fge : ∀ {a : Option Addr} {x : Nat}, (∀ b, owner a = some b → x ≤ b) → t ≤ x → ∀ b, owner a = some b → b ≠ w ∧ d ≠ some b := fun hx ht b hb => by
            have := hx b hb
            exact ⟨by omega, fun e => by have := hdt b e; omega⟩
          have fT := fge wT (by omega)
          have f6 := fge w6 (by omega)
          have f7 := fge w7 (by omega)
          have f8 := fge w8 (by omega)
          have f9 := fge w9 (by omega)
          have fA := fge w1 (by omega)
          have fB := fge w2 (by omega)
          have s6n := s6.sub (k6.trans (k7.trans (k8.trans (k9.trans k10))))
          have s7n := s7.sub (k6.trans (k7.trans (k8.trans (k9.trans k10))))
          have s8n := s8.sub (k8.trans (k9.trans k10))
          have s9n := o9.sl.sub (k9.trans k10)
          have sAn := sA.sub (k3.trans (k4.trans (k5.trans (k6.trans (k7.trans (k8.trans (k9.trans k10)))))))
          have sBn := sB.sub (k3.trans (k4.trans (k5.trans (k6.trans (k7.trans (k8.trans (k9.trans k10)))))))
          have bn := k10 _ _ (k9 _ _ (k8 _ _ (k7 _ _ (k6 _ _ bB))))
          have spn := hps.sub kAll
          conv => whnf
          repeat (first | ((with_reducible apply Go.Vc.wr_i64); (focus exact And.intro (by omega) (by omega)); conv => whnf))
          rw [show ((LA.length : Int) - 257) = ((LA.length - 257 : Nat) : Int) by omega]
          refine (bits_spec Wn (many := 5) (by omega) (by omega) (by omega)).mono ?_
          rintro _ y1 v1 hy1 hv1 ⟨rfl, V1⟩
          obtain ⟨d1, B1, fr1, dd1, le1⟩ := id V1
          conv => whnf
          repeat (first | ((with_reducible apply Go.Vc.wr_i64); (focus exact And.intro (by omega) (by omega)); conv => whnf))
          rw [show ((LB.length : Int) - 1) = ((LB.length - 1 : Nat) : Int) by omega]
          refine (bits_spec B1 (many := 5) (by omega) (by rw [List.length_append, bitsL_len]; omega) (by omega)).mono ?_
          rintro _ y2 v2 hy2 hv2 ⟨rfl, V2⟩
          have V12 := WrTo.step hg9 fr1 dd1 le1 V2
          obtain ⟨d2, B2, fr2, dd2, le2⟩ := id V12
          conv => whnf
          repeat (first | ((with_reducible apply Go.Vc.wr_i64); (focus exact And.intro (by omega) (by omega)); conv => whnf))
          rw [show ((TC.length : Int) - 4) = ((TC.length - 4 : Nat) : Int) by omega]
          refine (bits_spec B2 (many := 4) (by omega) (by rw [List.length_append, List.length_append, bitsL_len, bitsL_len]; omega) (by omega)).mono ?_
          rintro _ y3 v3 hy3 hv3 ⟨rfl, V3⟩
          have V123 := WrTo.step hg9 fr2 dd2 le2 V3
          conv => whnf
          refine loop_intro (fun i : Nat => [(1, .pointer (some ⟨w, 0, none⟩)), (2, .pointer (some ⟨r2, 0, none⟩)), (8, .slice a1 LA.length c1), (10, .slice a2 LB.length c2), (12, .slice a6 R.length c6), (13, .slice a7 R.length c7), (17, .slice a8 19 c8), (19, .slice a9 19 19), (140, .slice aT TC.length cT), (141, .int .i64 (TC.length : Nat)), (142, .int .i64 (i : Nat))])
            (fun i h' t' => i ≤ TC.length ∧ WrTo 63 w g9 u9 d (bs ++ bitsL (LA.length - 257 : Nat) 5 ++ bitsL (LB.length - 1 : Nat) 5 ++ bitsL (TC.length - 4 : Nat) 4 ++ (TC.take i).flatMap (fun k => bitsL k 3)) h' t') (fun i => TC.length - i) 0 ⟨rfl, rfl, rfl, rfl, rfl, rfl, rfl, rfl, rfl, rfl, rfl, trivial⟩
            ⟨by omega, by simpa using V123⟩ ?_
          rintro i e g t1 hd1 ⟨hi, W4⟩
          obtain ⟨d4, B4, fr4, dd4, le4⟩ := id W4
          have sTi := sl_frW sT (fun _ => fT) fr4
          have h3l : ∀ l : List Int, (l.flatMap fun k => bitsL k 3).length = 3 * l.length := fun l => by
            induction l with
            | nil => rfl
            | cons x l ih => rw [List.flatMap_cons, List.length_append, ih, bitsL_len, List.length_cons]; omega
          conv => whnf
          refine br (fun hb => ?_) (fun hb => ?_)
          · obtain ⟨k, hk⟩ : ∃ k, TC[i]? = some k := ⟨_, List.getElem?_eq_getElem (by omega)⟩
            have hkb := hTCb k (List.mem_of_getElem? hk)
            conv => whnf
            repeat (first | ((with_reducible apply Go.Vc.sl_ix); (focus with_reducible assumption); (focus exact And.intro (by omega) (by omega)); intro xI bI offI hxI hcI; conv => whnf) | ((with_reducible apply Go.Vc.cell_i); (focus assumption); conv => whnf))
            have hxk : xI = k := by
              have e := hxI
              rw [show ((i : Nat) : Int).toNat = i from rfl, hk] at e
              exact (Option.some.inj e).symm
            subst hxk
            refine (bits_spec B4 (many := 3) (by omega) (by rw [List.length_append, List.length_append, List.length_append, List.length_append, bitsL_len, bitsL_len, bitsL_len, h3l, List.length_take]; omega) (by omega)).mono ?_
            rintro _ y5 v5 hy5 hv5 ⟨rfl, V5⟩
            conv => whnf
            repeat (first | ((with_reducible apply Go.Vc.wr_i64); (focus exact And.intro (by omega) (by omega)); conv => whnf))
            refine round_end (i + 1) (by omega) ⟨rfl, rfl, rfl, rfl, rfl, rfl, rfl, rfl, rfl, rfl, rfl, trivial⟩ ⟨by omega, ?_⟩
            rw [List.take_add_one, hk, List.flatMap_append, Option.toList_some, List.flatMap_singleton, ← List.append_assoc]
            exact WrTo.step hg9 fr4 dd4 le4 V5
          · rw [List.take_of_length_le (by omega)] at B4
            obtain ⟨b4, hb4⟩ : ∃ b4, bs ++ bitsL (LA.length - 257 : Nat) 5 ++ bitsL (LB.length - 1 : Nat) 5 ++ bitsL (TC.length - 4 : Nat) 4 ++ TC.flatMap (fun k => bitsL k 3) = b4 := ⟨_, rfl⟩
            rw [hb4] at B4
            have hb4l : b4.length ≤ bs.length + 1000 := by
              rw [← hb4, List.length_append, List.length_append, List.length_append, List.length_append, bitsL_len, bitsL_len, bitsL_len, h3l]
              omega
            conv => whnf
            repeat (first | (intro _ _; conv => whnf))
            rename_i rZ hrZ
            refine mapup_g (kv := Value.int .i64) (k := (16 : Int)) (v := (2 : Int)) (f := Value.int .i64) (l := []) Try.underlying122 (keyOk_int Try.underlying3) (hset_same _ _ _) (mapg_new _ _) ?_
            intro oz1 hz1
            conv => whnf
            refine mapup_g (kv := Value.int .i64) (k := (17 : Int)) (v := (3 : Int)) (f := Value.int .i64) Try.underlying122 (keyOk_int Try.underlying3) (hset_same _ _ _) hz1 ?_
            intro oz2 hz2
            conv => whnf
            refine mapup_g (kv := Value.int .i64) (k := (18 : Int)) (v := (7 : Int)) (f := Value.int .i64) Try.underlying122 (keyOk_int Try.underlying3) (hset_same _ _ _) hz2 ?_
            intro oz3 hz3
            replace hz3 : MapG oz3 (Value.int .i64) (Value.int .i64) exMap := hz3
            conv => whnf
            have hzm := hset_same (hset (hset (hset g rZ (.map #[] 0)) rZ oz1) rZ oz2) rZ oz3
            have hzs : Vc.Sub g (hset (hset (hset (hset g rZ (.map #[] 0)) rZ oz1) rZ oz2) rZ oz3) := fun b o hb => by
              have := hd1 _ _ hb
              rw [hset_ne _ _ (by omega), hset_ne _ _ (by omega), hset_ne _ _ (by omega), hset_ne _ _ (by omega)]
              exact hb
            have d4n : d4 ≠ some rZ := fun e => by have := B4.dlt hd1 rZ e; omega
            have wn : rZ ≠ w := by have := B4.lt hd1; omega
            have h40 : ∀ l : List (Int × Int), (∀ p ∈ l, symOk p) → (l.flatMap (symB S)).length ≤ 40 * l.length := fun l => by
              induction l with
              | nil => intro _; simp
              | cons x l ih =>
                intro hk
                obtain ⟨z1, z2, z3, z4⟩ := hk x (by simp)
                have h2 := ih fun q hq => hk q (by simp [hq])
                have h3 : (S.getD x.1.toNat 0).toNat ≤ 15 := by
                  obtain ⟨m', _, hm', em'⟩ := err_get hSe (i := x.1.toNat) (by omega)
                  omega
                have h4 : extraB x.1 ≤ 7 := by unfold extraB; split <;> (try split) <;> (try split) <;> omega
                rw [List.flatMap_cons, List.length_append, List.length_cons, symB, List.length_append, bitsH_len, bitsL_len]
                omega
            refine loop_intro (fun i : Nat => [(1, .pointer (some ⟨w, 0, none⟩)), (2, .pointer (some ⟨r2, 0, none⟩)), (8, .slice a1 LA.length c1), (10, .slice a2 LB.length c2), (13, .slice a7 R.length c7), (17, .slice a8 19 c8), (19, .slice a9 19 19), (26, .map (some rZ)), (152, .slice a6 R.length c6), (153, .int .i64 (R.length : Nat)), (154, .int .i64 (i : Nat))])
              (fun i h' t' => i ≤ R.length ∧ h' rZ = some oz3 ∧ rZ < t' ∧ ∃ d5, Wr 63 h' w d5 (b4 ++ (R.take i).flatMap (symB S)) ∧ FrW w d g9 h' ∧ (d5 = d ∨ ∃ r, d5 = some r ∧ u9 ≤ r) ∧ u9 ≤ t' ∧ d5 ≠ some rZ) (fun i => R.length - i) 0 ⟨rfl, rfl, rfl, rfl, rfl, rfl, rfl, rfl, rfl, rfl, rfl, trivial⟩
              ⟨by omega, hzm, by omega, d4, by simpa using B4.sub hzs, (fun k o h1 h2 ho => hzs k o (fr4 k o h1 h2 ho)), dd4, by omega, d4n⟩ ?_
            clear fr4 dd4 le4 B4 W4 d4n hd1 hzm hzs
            rintro i e g t1 hd1 ⟨hi, hzm, hzt, d5, B5, fr5, dd5, le5, d5n⟩
            have s6i := sl_frW s6n (fun _ => f6) fr5
            have s7i := sl_frW s7n (fun _ => f7) fr5
            have s8i := sl_frW s8n (fun _ => f8) fr5
            have s9i := sl_frW s9n (fun _ => f9) fr5
            conv => whnf
            refine br (fun hb => ?_) (fun hb => ?_)
            · obtain ⟨p, hp⟩ : ∃ p, R[i]? = some p := ⟨_, List.getElem?_eq_getElem (by omega)⟩
              obtain ⟨q1, q2, q3, q4⟩ := hRok p (List.mem_of_getElem? hp)
              obtain ⟨kk, hkk⟩ := Int.eq_ofNat_of_zero_le q1
              have hp1 : (R.map (·.1))[i]? = some ((kk : Nat) : Int) := by rw [List.getElem?_map, hp, ← hkk]; rfl
              have hp2 : (R.map (·.2))[i]? = some p.2 := by rw [List.getElem?_map, hp]; rfl
              have k19 : kk < S.length := by omega
              obtain ⟨mm, hmm, hm15, emm⟩ := err_get hSe k19
              have hcr := Huf.code_range hSe k19
              conv => whnf
              repeat (first | ((with_reducible apply Go.Vc.sl_ix); (focus with_reducible assumption); (focus exact And.intro (by omega) (by omega)); intro xI bI offI hxI hcI; conv => whnf) | ((with_reducible apply Go.Vc.cell_i); (focus assumption); conv => whnf))
              have hxk : xI = ((kk : Nat) : Int) := by
                have e := hxI
                rw [show ((i : Nat) : Int).toNat = i from rfl, hp1] at e
                exact (Option.some.inj e).symm
              subst hxk
              refine Go.Vc.draw_intro [⟨0, false, false, false, 0⟩, ⟨1, false, false, false, 0⟩, ⟨2, false, false, false, 0⟩, ⟨3, false, false, false, 6⟩, ⟨4, false, false, false, 14⟩, ⟨5, false, false, false, 0⟩, ⟨6, false, false, false, 0⟩, ⟨7, false, false, false, 96⟩, ⟨8, false, false, false, 224⟩, ⟨9, true, false, false, 511⟩] (hs := (fun _ => none)) (hsub := (fun _ _ h => nomatch h)) (hm := by kernel_rfl) (hpl := by kernel_rfl) ?_
              conv => whnf
              conv => whnf
              repeat (first | ((with_reducible apply Go.Vc.sl_ix); (focus with_reducible assumption); (focus exact And.intro (by omega) (by omega)); intro xI bI offI hxI hcI; conv => whnf) | ((with_reducible apply Go.Vc.cell_i); (focus assumption); conv => whnf))
              rename_i x1 b1 o1 hx1 hc1'
              have ex1 : x1 = Huf.codeAt S kk := by
                have e := hx1
                rw [show ((kk : Nat) : Int).toNat = kk from rfl, Huf.codes_get k19] at e
                exact (Option.some.inj e).symm
              have ex2 : xI = (mm : Int) := by
                have e := hxI
                rw [show ((kk : Nat) : Int).toNat = kk from rfl, hmm] at e
                exact (Option.some.inj e).symm
              subst ex1
              subst ex2
              have hbR := h40 (R.take i) fun p hp => hRok p (List.mem_of_mem_take hp)
              rw [List.length_take] at hbR
              refine (code_spec B5 (many := mm) (by omega) (by rw [List.length_append]; omega) (by omega)).mono ?_
              rintro _ y6 v6 hy6 hv6 ⟨rfl, V6⟩
              obtain ⟨d6, B6, fr6, dd6, le6⟩ := id V6
              have z6 : y6 rZ = some oz3 := fr6 _ _ wn d5n hzm
              have d6n : d6 ≠ some rZ := fun e => by
                rcases dd6 with h1 | ⟨r, h1, hr⟩
                · exact d5n (h1 ▸ e)
                · rw [h1] at e; cases e; omega
              obtain ⟨d6', B6', fr6', dd6', le6'⟩ := WrTo.step hg9 fr5 dd5 le5 V6
              obtain rfl := B6'.uniq B6
              have s7j := sl_frW s7n (fun _ => f7) fr6'
              conv => whnf
              refine Go.Vc.draw_intro [⟨0, false, false, false, 0⟩, ⟨1, false, false, false, 0⟩, ⟨2, false, false, false, 0⟩, ⟨3, false, false, false, 6⟩, ⟨4, false, false, false, 14⟩, ⟨5, false, false, false, 0⟩, ⟨6, false, false, false, 0⟩, ⟨7, false, false, false, 96⟩, ⟨8, true, false, false, 255⟩] (hs := (fun _ => none)) (hsub := (fun _ _ h => nomatch h)) (hm := by kernel_rfl) (hpl := by kernel_rfl) ?_
              conv => whnf
              conv => whnf
              repeat (first | ((with_reducible apply Go.Vc.sl_ix); (focus with_reducible assumption); (focus exact And.intro (by omega) (by omega)); intro xI bI offI hxI hcI; conv => whnf) | ((with_reducible apply Go.Vc.cell_i); (focus assumption); conv => whnf))
              refine ex_look z6 hz3 ?_
              conv => whnf
              have hx2 : xI = p.2 := by
                have e := hxI
                rw [show ((i : Nat) : Int).toNat = i from rfl, hp2] at e
                exact (Option.some.inj e).symm
              subst hx2
              have hex : extraB ((kk : Nat) : Int) ≤ 7 := by unfold extraB; split <;> (try split) <;> (try split) <;> omega
              refine (bits_spec B6 (many := extraB ((kk : Nat) : Int)) (by omega) (by rw [List.length_append, List.length_append, bitsH_len]; omega) (by omega)).mono ?_
              rintro _ y7 v7 hy7 hv7 ⟨rfl, V7⟩
              obtain ⟨d7, B7, fr7, dd7, le7⟩ := id V7
              have z7 : y7 rZ = some oz3 := fr7 _ _ wn d6n z6
              have d7n : d7 ≠ some rZ := fun e => by
                rcases dd7 with h1 | ⟨r, h1, hr⟩
                · exact d6n (h1 ▸ e)
                · rw [h1] at e; cases e; omega
              obtain ⟨d7', B7', fr7', dd7', le7'⟩ := WrTo.step hg9 fr6' dd6' le6' V7
              obtain rfl := B7'.uniq B7
              conv => whnf
              repeat (first | ((with_reducible apply Go.Vc.wr_i64); (focus exact And.intro (by omega) (by omega)); conv => whnf))
              have hsy : b4 ++ (R.take (i + 1)).flatMap (symB S) = b4 ++ (R.take i).flatMap (symB S) ++ bitsH (Huf.codeAt S kk) mm ++ bitsL p.2 (extraB ((kk : Nat) : Int)) := by
                rw [List.take_add_one, hp, List.flatMap_append, Option.toList_some, List.flatMap_singleton, symB, hkk, Int.toNat_natCast, emm]
                simp only [List.append_assoc]
              refine round_end (i + 1) (by omega) ⟨rfl, rfl, rfl, rfl, rfl, rfl, rfl, rfl, rfl, rfl, rfl, trivial⟩ ⟨by omega, z7, by omega, d7', by rw [hsy]; exact B7, fr7', dd7', le7', d7n⟩
            · have br2 := fr5 _ _ (show r2 ≠ w by omega) (fun e => by have := hdt r2 e; omega) bn
              conv => whnf
              refine ldrow br2 rfl ?_
              rintro _ rfl
              conv => whnf
              rw [List.take_of_length_le (by omega)] at B5
              have hbR := h40 R hRok
              have hd5 : ∀ {b : Nat}, (True → b ≠ w ∧ d ≠ some b) → b < u9 → d5 ≠ some b := fun {b} h1 h2 e => by
                rcases dd5 with h3 | ⟨r, h3, hr⟩
                · exact (h1 trivial).2 (h3 ▸ e)
                · rw [h3] at e; cases e; omega
              refine (btell_spec B5 (by rw [List.length_append]; omega) (sl_frW spn (fun h => f0 (by omega)) fr5) hpn (sl_frW sAn (fun _ => fA) fr5) (sl_frW sBn (fun _ => fB) fr5) hAe hBe (by omega) (fun p hp => ?_)
                (fun h0 b hb => ⟨(f0 h0 b hb).1, hd5 (fun x => f0 h0 b hb) (sl_dom spn (by omega) hg9 b hb)⟩) (fun b hb => ⟨(fA b hb).1, hd5 (fun x => fA b hb) (sl_dom sAn (by omega) hg9 b hb)⟩) (fun b hb => ⟨(fB b hb).1, hd5 (fun x => fB b hb) (sl_dom sBn (by omega) hg9 b hb)⟩)).mono ?_
              · obtain ⟨o1, o2, o3, o4, o5, o6⟩ := hok p hp
                exact ⟨hA3 p hp o1, o2, o3, fun h => hB3 p hp h (o4 h), o5, o6⟩
              rintro _ y8 v8 hy8 hv8 ⟨rfl, V8⟩
              conv => whnf
              have e : dynF ps = bitsL (LA.length - 257 : Nat) 5 ++ bitsL (LB.length - 1 : Nat) 5 ++ bitsL (TC.length - 4 : Nat) 4 ++ TC.flatMap (fun k => bitsL k 3) ++ R.flatMap (symB S) ++ tellF LA LB ps := by
                unfold dynF toldF shortS shortC runsAB
                rw [hLA, hLB, hR, hS, hT, hTC]
              refine ⟨rfl, ?_⟩
              have V9 := WrTo.step hd (FrW.of_sub kAll) (.inl rfl) (show t ≤ u9 by omega) (WrTo.step hg9 fr5 dd5 le5 V8)
              rw [e]
              rw [← hb4] at V9
              simp only [List.append_assoc] at V9 ⊢
              exact V9
end Go.Proofs.Ytikpfffhcjlcjaa
