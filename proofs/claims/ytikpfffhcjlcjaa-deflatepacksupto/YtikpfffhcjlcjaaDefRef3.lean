import Derived.Test.YtikpfffhcjlcjaaDefRef2
/- The reference's counts. -/
set_option linter.unusedSimpArgs false
namespace Go.Proofs.Ytikpfffhcjlcjaa
open Go Go.Vc Go.Huf Go.Dfl
set_option maxRecDepth 20000
set_option linter.unusedVariables false
set_option maxHeartbeats 1000000

theorem byteAt_extract {s : ByteArray} {f e p : Nat} (h1 : f + p < e) (h2 : e ≤ s.size) : byteAt (s.extract f e) p = byteAt s (f + p) := by
  unfold byteAt
  rw [ByteArray.data_extract, Array.getD_eq_getD_getElem?, Array.getD_eq_getD_getElem?, Array.getElem?_extract, if_pos (by have : s.data.size = s.size := rfl; omega)]
theorem tok_at {s : ByteArray} {e k p : Nat} {L : List (Nat × Nat)} (he : e ≤ s.size) (hT : toks s p e = L.drop k) (hk : k < L.length) :
    ∃ q, L[k]? = some q ∧ p < e ∧ TokOk s p e q ∧ toks s (p + q.1) e = L.drop (k + 1) ∧ L.drop k = q :: L.drop (k + 1) := by
  obtain ⟨tok, R, hR⟩ : ∃ tok R, L.drop k = tok :: R := by
    cases hc : L.drop k with
    | nil => have := congrArg List.length hc; rw [List.length_drop, List.length_nil] at this; omega
    | cons b R => exact ⟨b, R, rfl⟩
  have hpe : p < e := by
    rcases Nat.lt_or_ge p e with h | h
    · exact h
    · rw [toks_end (by omega), hR] at hT; cases hT
  have hbest : tok = bestT s p e ∧ R = toks s (p + tok.1) e := by
    rw [toks_step hpe, hR] at hT
    injection hT with h1 h2
    exact ⟨h1.symm, by rw [← h1, h2]⟩
  have hLk : L[k]? = some tok := by
    have : (L.drop k)[0]? = some tok := by rw [hR]; rfl
    rw [List.getElem?_drop] at this
    exact this
  have hRk : L.drop (k + 1) = R := by
    rw [← List.drop_drop, hR]; rfl
  have hok := best_ok (s := s) hpe he
  rw [← hbest.1] at hok
  exact ⟨tok, hLk, hpe, hok, by rw [hRk, ← hbest.2], by rw [hRk]; exact hR⟩
theorem rcounts_spec {h : Heap} {t : Nat} (s : ByteArray) {f e : Nat} {L : List (Nat × Nat)} {a : Option Addr} {c : Nat} (hs : s.size ≤ 1000000) (hfe : f ≤ e) (he : e ≤ s.size) (hL : L = toks s f e)
    (sT : Sl h a (L.length * 2) id (L.flatMap tk)) :
    CallSpec Try.prog 75 #[.agg #[.slice a L.length c, .string (s.extract f e)]] h t (fun v h' t' => ∃ a1 a2, v = .tuple #[.slice a1 286 286, .slice a2 30 30] ∧
      Sl h' a1 286 (Value.int .i64) (cntF 286 (manyL (partsF s f L))) ∧ Sl h' a2 30 (Value.int .i64) (cntF 30 (farL (partsF s f L))) ∧ Vc.Sub h h' ∧ t ≤ t') := by
  have hLn := toks_len s (to := e) 1000000 f (by omega)
  rw [← hL] at hLn
  have hse : (s.extract f e).size = e - f := by rw [ByteArray.size_extract]; omega
  refine Go.Vc.spec_of_vc (fn := Try.f75) Try.func75 rfl (by kernel_rfl) (by kernel_rfl) (Nat.le_of_ble_eq_true rfl) ?_
  intro hd
  conv => whnf
  intro r1 hr1
  have hs1 := hd.sub_new hr1 (.cells #[.slice a L.length c, .string (s.extract f e)] 73)
  conv => whnf
  repeat (first | ((with_reducible apply Go.Vc.mk_b); (focus exact And.intro (by omega) (by omega)); (focus exact rfl); (focus omega); intro rM csM hrM hcsM; (first | (replace hcsM := hcsM.trans (Go.Vc.zc (Value.int .i64) 0 _)) | (replace hcsM := hcsM.trans (Go.Vc.zc Go.Vc.bv 0 _)) | (replace hcsM := hcsM.trans (Go.Vc.zc Value.string ByteArray.empty _))); subst hcsM; conv => whnf))
  rename_i rA hrA
  have c0 : (List.replicate (Int.toNat 286) (0 : Int)) = cntF 286 (([] : List Prt).map (·.sym)) := (cntF_nil 286).symm
  have c1 : (List.replicate (Int.toNat 30) (0 : Int)) = cntF 30 (farL []) := (cntF_nil 30).symm
  refine loop_intro3 (fun (k p : Nat) (PS : List Prt) => [(1, .pointer (some ⟨r1, 0, none⟩)), (4, .slice (some ⟨rA, 0, none⟩) 286 286), (5, .slice (some ⟨rM, 0, none⟩) 30 30), (6, .int .i64 (p : Nat)), (7, .int .i64 (k : Nat))])
    (fun k p PS h' t' => k ≤ L.length ∧ f + p ≤ e ∧ PS.length = k ∧ toks s (f + p) e = L.drop k ∧ PS ++ partsF s (f + p) (L.drop k) = partsF s f L ∧ h' r1 = some (.cells #[.slice a L.length c, .string (s.extract f e)] 73 (0, 0)) ∧
      h' rA = some (.cells ((cntF 286 (PS.map (·.sym))).map (Value.int .i64)).toArray 3 (0, 0)) ∧ h' rM = some (.cells ((cntF 30 (farL PS)).map (Value.int .i64)).toArray 3 (0, 0)) ∧ Vc.Sub h h' ∧ rM < t') (fun k _ _ => L.length - k) 0 0 [] ⟨rfl, rfl, rfl, rfl, rfl, trivial⟩
    ⟨by omega, by omega, rfl, by rw [List.drop_zero]; exact hL.symm, by rw [List.drop_zero, List.nil_append]; rfl, ?_, ?_, ?_, ?_, by omega⟩ ?_
  · rw [hset_ne _ _ (by omega), hset_ne _ _ (by omega)]; exact hset_same _ _ _
  · rw [hset_ne _ _ (by omega), ← c0]; exact hset_same _ _ _
  · rw [← c1]; exact hset_same _ _ _
  · intro z o hz
    have := hd _ _ hz
    rw [hset_ne _ _ (by omega), hset_ne _ _ (by omega)]; exact hs1 _ _ hz
  rintro k p PS e1 g t1 hd1 ⟨hk, hp, hPS, hTk, hPk, x1, xA', xM, hsg, ht1⟩
  have sp := sT.sub hsg
  have lA := cntF_len 286 (PS.map (·.sym))
  have lM := cntF_len 30 (farL PS)
  have gA : ∀ {i : Nat} {z : Int}, (cntF 286 (PS.map (·.sym)))[i]? = some z → i < 286 ∧ z = (((PS.map (·.sym)).count i : Nat) : Int) ∧ 0 ≤ z ∧ z ≤ 1000000 := fun {i z} hz => by
    have hi := (List.getElem?_eq_some_iff.1 hz).1
    rw [cntF_len] at hi
    rw [cntF_get _ hi] at hz
    have h1 := Option.some.inj hz
    have h2 := List.count_le_length (a := i) (l := PS.map (·.sym))
    rw [List.length_map] at h2
    exact ⟨hi, h1.symm, by omega, by omega⟩
  have gM : ∀ {i : Nat} {z : Int}, (cntF 30 (farL PS))[i]? = some z → i < 30 ∧ z = (((farL PS).count i : Nat) : Int) ∧ 0 ≤ z ∧ z ≤ 1000000 := fun {i z} hz => by
    have hi := (List.getElem?_eq_some_iff.1 hz).1
    rw [cntF_len] at hi
    rw [cntF_get _ hi] at hz
    have h1 := Option.some.inj hz
    have h2 := List.count_le_length (a := i) (l := farL PS)
    have h3 := List.length_filter_le (fun p : Prt => !p.plain) PS
    have h4 : (farL PS).length ≤ PS.length := by unfold farL; rw [List.length_map]; exact h3
    exact ⟨hi, h1.symm, by omega, by omega⟩
  have setA : ∀ {i : Nat} {z : Int}, i < 286 → z = (((PS.map (·.sym)).count i : Nat) : Int) → (cntF 286 (PS.map (·.sym))).set i (z + 1) = cntF 286 (PS.map (·.sym) ++ [i]) := fun hi hz => by rw [hz]; exact cntF_set _ hi
  have setM : ∀ {i : Nat} {z : Int}, i < 30 → z = (((farL PS).count i : Nat) : Int) → (cntF 30 (farL PS)).set i (z + 1) = cntF 30 (farL PS ++ [i]) := fun hi hz => by rw [hz]; exact cntF_set _ hi
  obtain ⟨CA, hCA⟩ : ∃ CA, cntF 286 (PS.map (·.sym)) = CA := ⟨_, rfl⟩
  obtain ⟨CM, hCM⟩ : ∃ CM, cntF 30 (farL PS) = CM := ⟨_, rfl⟩
  rw [hCA] at lA xA'
  rw [hCM] at lM xM
  simp only [hCA] at gA setA
  simp only [hCM] at gM setM
  conv => whnf
  repeat (first | ((with_reducible apply Go.Vc.ld_i); (focus ((repeat (first | with_reducible assumption | with_reducible exact Go.Vc.hset_same _ _ _ | with_reducible refine (Go.Vc.hset_ne _ _ (by omega)).trans ?_)); done)); (focus exact rfl); conv => whnf))
  refine br (fun hb => ?_) (fun hb => ?_)
  · obtain ⟨q, hTq, hpe, hqok, hTk', hTd⟩ := tok_at he hTk (by omega)
    obtain ⟨q', bP, offP, hq, haP, hrow⟩ := slW_row (i := k) tk_len sp (by decide) (by omega)
    obtain rfl : q' = q := by rw [hTq] at hq; exact (Option.some.inj hq).symm
    obtain ⟨P, hP⟩ : ∃ P, P = prtOf s (f + p) q' := ⟨_, rfl⟩
    have hPk' : (PS ++ [P]) ++ partsF s (f + (p + q'.1)) (L.drop (k + 1)) = partsF s f L := by
      rw [← hPk, hTd, partsF, ← hP, List.append_assoc, ← Nat.add_assoc]; rfl
    have hqle := hqok.le
    subst haP
    conv => whnf
    repeat (first | ((with_reducible apply Go.Vc.own_ix); (focus exact And.intro (by omega) (by omega)); conv => whnf) | ((with_reducible apply Go.Vc.ld_i); (focus ((repeat (first | with_reducible assumption | with_reducible exact Go.Vc.hset_same _ _ _ | with_reducible refine (Go.Vc.hset_ne _ _ (by omega)).trans ?_)); done)); (focus exact rfl); conv => whnf))
    refine hrow.row (W := 2) rfl (by decide) ?_
    conv => whnf
    repeat (first | ((with_reducible apply Go.Vc.strow); (focus ((repeat (first | with_reducible assumption | with_reducible exact Go.Vc.hset_same _ _ _ | with_reducible refine (Go.Vc.hset_ne _ _ (by omega)).trans ?_)); done)); (focus exact rfl); (focus exact rfl); (focus exact rfl); rintro _ rfl; conv => whnf) | ((with_reducible apply Go.Vc.ld_i); (focus ((repeat (first | with_reducible assumption | with_reducible exact Go.Vc.hset_same _ _ _ | with_reducible refine (Go.Vc.hset_ne _ _ (by omega)).trans ?_)); done)); (focus exact rfl); conv => whnf) | (intro _ _; conv => whnf))
    rename_i rb hrb
    have hX : hset (hset g rb (.cells #[.int .i64 0, .int .i64 0] 29)) rb (.cells (tk q').toArray 29) rb = some (.cells #[.int .i64 (q'.1 : Nat), .int .i64 (q'.2 : Nat)] 29 (0, 0)) := hset_same _ _ _
    have hsX : Vc.Sub g (hset (hset g rb (.cells #[.int .i64 0, .int .i64 0] 29)) rb (.cells (tk q').toArray 29)) := fun k o hk => by
      have := hd1 _ _ hk
      rw [hset_ne _ _ (by omega), hset_ne _ _ (by omega)]
      exact hk
    have x1X := hsX _ _ x1
    have xAX := hsX _ _ xA'
    have xMX := hsX _ _ xM
    have hdX := (hd1.set rb (.cells #[.int .i64 0, .int .i64 0] 29) (rb + 1) (by omega) (by omega)).set rb (.cells (tk q').toArray 29) (rb + 1) (by omega) (by omega)
    have htG : rb < rb + 1 := by omega
    refine br (fun hz => ?_) (fun hz => ?_)
    · have h21 : q' = (1, 0) := by
        rcases hqok.cs with e | ⟨_, _, h3, _⟩
        · exact e
        · omega
      have hq1 : q'.1 = 1 := by rw [h21]
      have hbr := byteAt_range s (f + p)
      have hbe := byteAt_extract (s := s) (f := f) (e := e) (p := p) hpe he
      rw [← hbe] at hbr
      have hPe : P = ⟨(byteAt (s.extract f e) p).toNat, 0, 0, 0, 0, 0, true⟩ := by rw [hP, h21, hbe]; rfl
      conv => whnf
      repeat (first | ((with_reducible apply Go.Vc.own_ix); (focus exact And.intro (by omega) (by omega)); conv => whnf) | ((with_reducible refine And.intro (And.intro ?_ ?_) ?_); (focus omega); (focus omega); conv => whnf) | ((with_reducible apply Go.Vc.ld_i); (focus ((repeat (first | with_reducible assumption | with_reducible exact Go.Vc.hset_same _ _ _ | with_reducible refine (Go.Vc.hset_ne _ _ (by omega)).trans ?_)); done)); (focus exact rfl); conv => whnf) | ((with_reducible apply Go.Vc.ar_ld); (focus ((repeat (first | with_reducible assumption | with_reducible exact Go.Vc.hset_same _ _ _ | with_reducible refine (Go.Vc.hset_ne _ _ (by omega)).trans ?_)); done)); (focus exact rfl); (focus (first | omega | (simp; done) | (simp; omega))); intro xA hxA; conv => whnf) | (intro _ _; conv => whnf))
      have hxA' : CA[(byteAt (s.extract f e) p).toNat]? = some xA := hxA
      obtain ⟨y1, y2, y3, y4⟩ := gA hxA'
      conv => whnf
      repeat (first | ((with_reducible apply Go.Vc.own_ix); (focus exact And.intro (by omega) (by omega)); conv => whnf) | ((with_reducible apply Go.Vc.ld_i); (focus ((repeat (first | with_reducible assumption | with_reducible exact Go.Vc.hset_same _ _ _ | with_reducible refine (Go.Vc.hset_ne _ _ (by omega)).trans ?_)); done)); (focus exact rfl); conv => whnf) | ((with_reducible apply Go.Vc.ar_st); (focus ((repeat (first | with_reducible assumption | with_reducible exact Go.Vc.hset_same _ _ _ | with_reducible refine (Go.Vc.hset_ne _ _ (by omega)).trans ?_)); done)); (focus exact rfl); (focus exact rfl); (focus (first | omega | (simp; done) | (simp; omega))); (focus exact rfl); intro heqA; (conv => whnf); intro cA hcA; rw [heqA] at hcA; clear heqA; subst hcA; conv => whnf) | ((with_reducible apply Go.Vc.wr_i64); (focus exact And.intro (by omega) (by omega)); conv => whnf))
      rw [show ((q'.1 : Nat) : Int) = 1 by omega]
      refine round_end3 (k + 1) (p + q'.1) (PS ++ [P]) (by omega) ⟨rfl, rfl, rfl, by rw [hq1]; rfl, rfl, trivial⟩ ⟨by omega, by omega, by rw [List.length_append]; simp; omega, by rw [← Nat.add_assoc]; exact hTk', hPk', ?_, ?_, ?_, ?_, by omega⟩
      · exact (hset_ne _ _ (by omega)).trans x1X
      · refine (hset_same _ _ _).trans ?_
        rw [List.map_append, List.map_singleton, hPe, Int.toNat_natCast, setA y1 y2]
      · refine (hset_ne _ _ (by omega)).trans (xMX.trans ?_)
        rw [← hCM]
        unfold farL
        rw [List.filter_append]
        simp [hPe]
      · intro z o hz
        have := hd _ _ hz
        exact (hset_ne _ _ (by omega)).trans (hsX _ _ (hsg _ _ hz))
    · have h21 : 3 ≤ q'.1 ∧ q'.1 ≤ 258 ∧ 1 ≤ q'.2 ∧ q'.2 ≤ 32768 := by
        rcases hqok.cs with e | ⟨h1, h2, h3, _, h5, _⟩
        · rw [e] at hz; exact absurd rfl hz
        · exact ⟨h1, h2, h3, h5⟩
      conv => whnf
      repeat (first | ((with_reducible apply Go.Vc.ld_i); (focus ((repeat (first | with_reducible assumption | with_reducible exact Go.Vc.hset_same _ _ _ | with_reducible refine (Go.Vc.hset_ne _ _ (by omega)).trans ?_)); done)); (focus exact rfl); conv => whnf))
      refine (rsymL_spec ⟨h21.1, h21.2.1⟩).mono ?_
      rintro _ G2 u2 hd2 hu2 ⟨rfl, rfl, rfl⟩
      conv => whnf
      repeat (first | ((with_reducible apply Go.Vc.ld_i); (focus ((repeat (first | with_reducible assumption | with_reducible exact Go.Vc.hset_same _ _ _ | with_reducible refine (Go.Vc.hset_ne _ _ (by omega)).trans ?_)); done)); (focus exact rfl); conv => whnf))
      refine (rsymD_spec ⟨h21.2.2.1, h21.2.2.2⟩).mono ?_
      rintro _ G3 u3 hd3 hu3 ⟨rfl, rfl, rfl⟩
      obtain ⟨v1, v2, v3, v4, v5, v6⟩ := len_val ⟨q'.1, by omega⟩ h21.1
      obtain ⟨w1, w2, w3, w4, w5⟩ := dist_val ⟨h21.2.2.1, h21.2.2.2⟩
      simp only at v1 v2 v3 v4 v5 v6
      have hPe : P = ⟨(symL q'.1).toNat, ((q'.1 : Int) - (lengthF (symL q'.1)).1).toNat, (lengthF (symL q'.1)).2.1.toNat, (symD q'.2).toNat, ((q'.2 : Int) - (distF (symD q'.2)).1).toNat, (distF (symD q'.2)).2.1.toNat, false⟩ := by
        rw [hP]; unfold prtOf; rw [if_neg (by omega)]
      conv => whnf
      repeat (first | ((with_reducible apply Go.Vc.own_ix); (focus exact And.intro (by omega) (by omega)); conv => whnf) | ((with_reducible apply Go.Vc.ar_ld); (focus ((repeat (first | with_reducible assumption | with_reducible exact Go.Vc.hset_same _ _ _ | with_reducible refine (Go.Vc.hset_ne _ _ (by omega)).trans ?_)); done)); (focus exact rfl); (focus (first | omega | (simp; done) | (simp; omega))); intro xA hxA; conv => whnf))
      have hxA' : CA[(symL q'.1).toNat]? = some xA := hxA
      obtain ⟨y1, y2, y3, y4⟩ := gA hxA'
      clear hxA
      obtain ⟨yA, hyA⟩ : ∃ yA, xA = yA := ⟨_, rfl⟩
      rw [hyA] at y2 y3 y4 ⊢
      clear hxA' hyA xA
      have xMY := (hset_ne (hset (hset g rb (.cells #[.int .i64 0, .int .i64 0] 29)) rb (.cells (tk q').toArray 29)) (.cells (List.map (Value.int .i64) (CA.set (symL q'.1).toNat (yA + 1))).toArray 3 (0, 0)) (show rM ≠ rA by omega)).trans xMX
      conv => whnf
      repeat (first | ((with_reducible apply Go.Vc.own_ix); (focus exact And.intro (by omega) (by omega)); conv => whnf) | ((with_reducible apply Go.Vc.ar_ld); (focus ((repeat (first | with_reducible assumption | with_reducible exact Go.Vc.hset_same _ _ _ | with_reducible refine (Go.Vc.hset_ne _ _ (by omega)).trans ?_)); done)); (focus exact rfl); (focus (first | omega | (simp; done) | (simp; omega))); intro xA hxA; conv => whnf) | ((with_reducible apply Go.Vc.ar_st); (focus ((repeat (first | with_reducible assumption | with_reducible exact Go.Vc.hset_same _ _ _ | with_reducible refine (Go.Vc.hset_ne _ _ (by omega)).trans ?_)); done)); (focus exact rfl); (focus exact rfl); (focus (first | omega | (simp; done) | (simp; omega))); (focus exact rfl); intro heqA; (conv => whnf); intro cA hcA; rw [heqA] at hcA; clear heqA; subst hcA; conv => whnf) | ((with_reducible apply Go.Vc.wr_i64); (focus exact And.intro (by omega) (by omega)); conv => whnf))
      have hxM' : CM[(symD q'.2).toNat]? = some xA := hxA
      obtain ⟨z1, z2, z3, z4⟩ := gM hxM'
      conv => whnf
      repeat (first | ((with_reducible apply Go.Vc.own_ix); (focus exact And.intro (by omega) (by omega)); conv => whnf) | ((with_reducible apply Go.Vc.ld_i); (focus ((repeat (first | with_reducible assumption | with_reducible exact Go.Vc.hset_same _ _ _ | with_reducible refine (Go.Vc.hset_ne _ _ (by omega)).trans ?_)); done)); (focus exact rfl); conv => whnf) | ((with_reducible apply Go.Vc.ar_st); (focus ((repeat (first | with_reducible assumption | with_reducible exact Go.Vc.hset_same _ _ _ | with_reducible refine (Go.Vc.hset_ne _ _ (by omega)).trans ?_)); done)); (focus exact rfl); (focus exact rfl); (focus (first | omega | (simp; done) | (simp; omega))); (focus exact rfl); intro heqA; (conv => whnf); intro cA hcA; rw [heqA] at hcA; clear heqA; subst hcA; conv => whnf) | ((with_reducible apply Go.Vc.wr_i64); (focus exact And.intro (by omega) (by omega)); conv => whnf))
      refine round_end3 (k + 1) (p + q'.1) (PS ++ [P]) (by omega) ⟨rfl, rfl, rfl, rfl, rfl, trivial⟩ ⟨by omega, by omega, by rw [List.length_append]; simp; omega, by rw [← Nat.add_assoc]; exact hTk', hPk', ?_, ?_, ?_, ?_, by omega⟩
      · exact (hset_ne _ _ (by omega)).trans ((hset_ne _ _ (by omega)).trans x1X)
      · refine (hset_ne _ _ (by omega)).trans ((hset_same _ _ _).trans ?_)
        rw [List.map_append, List.map_singleton, hPe, setA y1 y2]
      · refine (hset_same _ _ _).trans ?_
        rw [setM z1 z2]
        unfold farL
        rw [List.filter_append, List.map_append, hPe]
        rfl
      · intro z o hz
        have := hd _ _ hz
        exact (hset_ne _ _ (by omega)).trans ((hset_ne _ _ (by omega)).trans (hsX _ _ (hsg _ _ hz)))
  · obtain rfl : k = L.length := by omega
    conv => whnf
    repeat (first | ((with_reducible apply Go.Vc.own_ix); (focus exact And.intro (by omega) (by omega)); conv => whnf) | ((with_reducible apply Go.Vc.ar_ld); (focus ((repeat (first | with_reducible assumption | with_reducible exact Go.Vc.hset_same _ _ _ | with_reducible refine (Go.Vc.hset_ne _ _ (by omega)).trans ?_)); done)); (focus exact rfl); (focus (first | omega | (simp; done) | (simp; omega))); intro xA hxA; conv => whnf))
    have hxA' : CA[256]? = some xA := hxA
    obtain ⟨y1, y2, y3, y4⟩ := gA hxA'
    conv => whnf
    repeat (first | ((with_reducible apply Go.Vc.own_ix); (focus exact And.intro (by omega) (by omega)); conv => whnf) | ((with_reducible apply Go.Vc.ar_st); (focus ((repeat (first | with_reducible assumption | with_reducible exact Go.Vc.hset_same _ _ _ | with_reducible refine (Go.Vc.hset_ne _ _ (by omega)).trans ?_)); done)); (focus exact rfl); (focus exact rfl); (focus (first | omega | (simp; done) | (simp; omega))); (focus exact rfl); intro heqA; (conv => whnf); intro cA hcA; rw [heqA] at hcA; clear heqA; subst hcA; conv => whnf) | ((with_reducible apply Go.Vc.wr_i64); (focus exact And.intro (by omega) (by omega)); conv => whnf))
    have hPS' : partsF s f L = PS := by
      rw [← hPk, List.drop_length, partsF, List.append_nil]
    refine ⟨_, _, rfl, ?_, ?_, ?_, by omega⟩
    · have e2 : CA.set (Int.toNat 256) (xA + 1) = cntF 286 (manyL (partsF s f L)) := by
        rw [show Int.toNat 256 = 256 from rfl, setA y1 y2, hPS']
        unfold cntF manyL
        refine List.map_congr_left fun i _ => ?_
        rw [List.count_append, List.count_cons, List.count_cons, List.count_nil]
        congr 1
        omega
      rw [← e2]
      exact ar_sl (hset_same _ _ _) (by rw [List.length_set]; exact lA)
    · rw [hPS', hCM]
      exact ar_sl ((hset_ne _ _ (by omega)).trans xM) lM
    · intro z o hz
      have := hd _ _ hz
      exact (hset_ne _ _ (by omega)).trans (hsg _ _ hz)
end Go.Proofs.Ytikpfffhcjlcjaa
