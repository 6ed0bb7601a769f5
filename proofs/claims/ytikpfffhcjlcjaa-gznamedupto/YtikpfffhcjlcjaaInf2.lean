import Derived.Test.YtikpfffhcjlcjaaInf1
import Derived.Test.YtikpfffhcjlcjaaDefMade
set_option linter.unusedSimpArgs false
namespace Go.Proofs.Ytikpfffhcjlcjaa
open Go Go.Vc Go.Huf Go.Dfl
set_option maxRecDepth 20000
set_option linter.unusedVariables false
def tx (s : ByteArray) : List Int := s.data.toList.map fun x => ((x.toNat : Nat) : Int)
theorem tx_len (s : ByteArray) : (tx s).length = s.size := by unfold tx; rw [List.length_map, Array.length_toList]; rfl
theorem tx_get {s : ByteArray} {i : Nat} (h : i < s.size) : (tx s)[i]? = some (byteAt s i) := by
  have h1 : i < (tx s).length := by rw [tx_len]; exact h
  rw [List.getElem?_eq_getElem h1]
  have := (byteAt_list (s := s) (k := i) (List.getElem?_eq_getElem h1)).1
  rw [this]
theorem tx_take {s : ByteArray} {i : Nat} (h : i < s.size) : (tx s).take (i + 1) = (tx s).take i ++ [byteAt s i] := by
  rw [List.take_add_one, tx_get h]; rfl
theorem tx_take_len {s : ByteArray} {i : Nat} (h : i ≤ s.size) : ((tx s).take i).length = i := by rw [List.length_take, tx_len]; omega
theorem findK_next {F : Int → Int × Int × Bool} {n first : Int} : ∀ K : Nat, findK F n first K < first + K → n < (F (findK F n first K + 1)).1
  | 0, h => by have : first < first + ((0 : Nat) : Int) := h; omega
  | K + 1, h => by
    rw [findK] at h ⊢
    split
    · rename_i h1; rw [if_pos h1] at h; omega
    · rename_i h1
      rw [if_neg h1] at h
      have hr := findK_range F n first K
      rcases Int.lt_or_le (findK F n first K) (first + K) with h2 | h2
      · exact findK_next K h2
      · have e : findK F n first K = first + K := by omega
        rw [e, show first + (K : Int) + 1 = first + ((K + 1 : Nat) : Int) by omega]
        omega
theorem len_val : ∀ n : Fin 259, 3 ≤ n.val → (lengthF (symL n.val)).2.2 = true ∧ (lengthF (symL n.val)).1 ≤ n.val ∧ ((n.val : Int) - (lengthF (symL n.val)).1) < 2 ^ (lengthF (symL n.val)).2.1.toNat ∧ 257 ≤ symL n.val ∧ symL n.val ≤ 285 ∧ 0 ≤ (lengthF (symL n.val)).2.1 := by decide +kernel
theorem dist_val {n : Nat} (h : 1 ≤ n ∧ n ≤ 32768) : (distF (symD n)).2.2 = true ∧ (distF (symD n)).1 ≤ n ∧ ((n : Int) - (distF (symD n)).1) < 2 ^ (distF (symD n)).2.1.toNat ∧ 0 ≤ symD n ∧ symD n ≤ 29 := by
  have r := findK_range distF (n : Int) 0 29
  have r2 := findK_le (F := distF) (n := (n : Int)) (first := 0) (by show (1 : Int) ≤ n; omega) 29
  have r3 := findK_next (F := distF) (n := (n : Int)) (first := 0) 29
  have e : findK distF (n : Int) 0 29 = symD n := rfl
  rw [e] at r r2 r3
  obtain ⟨k, hk⟩ := Int.eq_ofNat_of_zero_le (show 0 ≤ symD n by omega)
  rw [hk] at r r2 r3 ⊢
  have hd : ∀ j : Nat, j ≤ 29 → distF (j : Int) = (((baseG 1 4 2 j : Nat) : Int), ((exG 4 2 j : Nat) : Int), true) := fun j hj => by
    unfold distF
    rw [if_neg (by omega), Int.toNat_natCast]
  rw [hd k (by omega)] at r2 ⊢
  refine ⟨rfl, r2, ?_, by omega, by omega⟩
  show ((n : Int) - (baseG 1 4 2 k : Nat)) < 2 ^ ((exG 4 2 k : Nat) : Int).toNat
  rw [Int.toNat_natCast]
  have hp : ((2 : Int) ^ exG 4 2 k) = ((2 ^ exG 4 2 k : Nat) : Int) := by push_cast; rfl
  rw [hp]
  rcases Nat.lt_or_ge k 29 with h1 | h1
  · have h2 := r3 (by omega)
    rw [show ((k : Int) + 1) = ((k + 1 : Nat) : Int) by omega, hd (k + 1) (by omega)] at h2
    have h3 : (n : Int) < ((baseG 1 4 2 (k + 1) : Nat) : Int) := h2
    rw [baseG] at h3
    omega
  · obtain rfl : k = 29 := by omega
    have : baseG 1 4 2 29 = 24577 ∧ 2 ^ exG 4 2 29 = 8192 := by decide +kernel
    omega
theorem code_ok {h : Heap} {t : Nat} {q : Value} {a : Option Addr} {n c : Nat} {L : List Int} (s : Sl h a n (Value.int .i64) L) (hn : n ≤ 1000000) (he : errN L = 0) :
    CallSpec Try.prog 62 #[q, .slice a n c] h t (fun v h' t' => ∃ b, v = .pointer (some ⟨b, 0, none⟩) ∧ t ≤ b ∧ b < t' ∧ Cod h' b L ∧ Vc.Sub h h' ∧ t ≤ t') := by
  refine Go.Vc.spec_of_vc (fn := Try.f62) Try.func62 rfl (by kernel_rfl) (by kernel_rfl) (Nat.le_of_ble_eq_true rfl) ?_
  intro hd
  conv => whnf
  refine (new_spec s (by omega)).mono ?_
  rintro _ h2 t2 hd2 ht2 ⟨hs2, hv⟩
  rcases hv with ⟨hne, _⟩ | ⟨_, b, hbt, rfl, hcod⟩
  · exact absurd he hne
  conv => whnf
  repeat (first | (refine Go.Vc.br_f ?_ ?_; (focus omega); conv => whnf))
  obtain ⟨m, o, T, hb1, _⟩ := id hcod
  exact ⟨b, rfl, hbt, hd2 _ _ hb1, hcod, hs2, ht2⟩
theorem Cod.lt {h : Heap} {t b : Nat} {L : List Int} (c : Cod h b L) (hd : Dom h t) : b < t := by
  obtain ⟨m, o, T, h1, _⟩ := c
  exact hd _ _ h1
def Ends (fits : Prop) (r : Nat) (h : Heap) (t : Nat) (d : Option Nat) (x : ByteArray) (p : Nat) (out : List Int) (most : Nat) (h' : Heap) (t' : Nat) : Prop :=
  (fits ∧ RdTo r h t d x p out most 0 h' t') ∨ (¬ fits ∧ ∃ p2 out2, RdTo r h t d x p2 out2 most 9 h' t')
theorem copies_spec {h : Heap} {t r b : Nat} {d : Option Nat} {x s : ByteArray} {p i : Nat} {most : Nat} {B : List Int} {tk : Nat × Nat} (R : Rd h r d x p ((tx s).take i) most 0) (hxs : x.size ≤ 100000000) (hss : s.size ≤ 1000000) (hi : i ≤ most) (hmo : most ≤ 100000000)
    (hc : Cod h b B) (he : err B = 0) (hb : b ≠ r ∧ d ≠ some b) (hk : TokOk s i s.size tk) (hne : tk.2 ≠ 0) {P : Prt} (hP : P = prtOf s i tk) (h2 : P.sym2 < B.length) (hl2 : 1 ≤ (B.getD P.sym2 0).toNat)
    (hs : Str x p (bitsL (P.v : Nat) P.n ++ (bitsH (codeAt B P.sym2) (B.getD P.sym2 0).toNat ++ bitsL (P.v2 : Nat) P.n2))) :
    CallSpec Try.prog 85 #[.pointer (some ⟨r, 0, none⟩), .int .i64 (P.sym : Nat), .pointer (some ⟨b, 0, none⟩)] h t
      (fun v h' t' => v = .tuple #[] ∧ Ends (i + tk.1 ≤ most) r h t d x (p + P.n + (B.getD P.sym2 0).toNat + P.n2) ((tx s).take (i + tk.1)) most h' t') := by
  have htk : 3 ≤ tk.1 ∧ tk.1 ≤ 258 ∧ 1 ≤ tk.2 ∧ tk.2 ≤ i ∧ tk.2 ≤ 32768 ∧ ∀ m, m < tk.1 → byteAt s (i + m - tk.2) = byteAt s (i + m) := by
    rcases hk.cs with e | e
    · exact absurd (by rw [e]) hne
    · exact e
  obtain ⟨k1, k2, k3, k4, k5, k6⟩ := htk
  have hle := hk.le
  have hPe : P = ⟨(symL tk.1).toNat, ((tk.1 : Int) - (lengthF (symL tk.1)).1).toNat, (lengthF (symL tk.1)).2.1.toNat, (symD tk.2).toNat, ((tk.2 : Int) - (distF (symD tk.2)).1).toNat, (distF (symD tk.2)).2.1.toNat, false⟩ := by
    rw [hP]; unfold prtOf; rw [if_neg hne]
  obtain ⟨l1, l2, l3, l4, l5, l6⟩ := len_val ⟨tk.1, by omega⟩ k1
  obtain ⟨d1, d2, d3, d4, d5⟩ := dist_val ⟨k3, k5⟩
  simp only at l1 l2 l3 l4 l5 l6
  have q1 : ((P.sym : Nat) : Int) = symL tk.1 := by rw [hPe]; show (((symL tk.1).toNat : Nat) : Int) = _; omega
  have q2 : ((P.v : Nat) : Int) = (tk.1 : Int) - (lengthF (symL tk.1)).1 := by rw [hPe]; show ((Int.toNat _ : Nat) : Int) = _; omega
  have q3 : ((P.n : Nat) : Int) = (lengthF (symL tk.1)).2.1 := by rw [hPe]; show ((Int.toNat _ : Nat) : Int) = _; omega
  have o2 := dist_ok (symD tk.2)
  have q4 : ((P.sym2 : Nat) : Int) = symD tk.2 := by rw [hPe]; show (((symD tk.2).toNat : Nat) : Int) = _; omega
  have q5 : ((P.v2 : Nat) : Int) = (tk.2 : Int) - (distF (symD tk.2)).1 := by rw [hPe]; show ((Int.toNat _ : Nat) : Int) = _; omega
  have q6 : ((P.n2 : Nat) : Int) = (distF (symD tk.2)).2.1 := by rw [hPe]; show ((Int.toNat _ : Nat) : Int) = _; omega
  have o1 := length_ok (symL tk.1)
  have hn20 : P.n ≤ 20 := by omega
  have hn220 : P.n2 ≤ 20 := by omega
  have hv1 : ((P.v : Nat) : Int) < 2 ^ P.n := by rw [q2]; have : P.n = (lengthF (symL tk.1)).2.1.toNat := by omega
                                                 rw [this]; exact l3
  have hv2 : ((P.v2 : Nat) : Int) < 2 ^ P.n2 := by rw [q5]; have : P.n2 = (distF (symD tk.2)).2.1.toNat := by omega
                                                   rw [this]; exact d3
  refine Go.Vc.spec_of_vc (fn := Try.f85) Try.func85 rfl (by kernel_rfl) (by kernel_rfl) (Nat.le_of_ble_eq_true rfl) ?_
  intro hd
  conv => whnf
  rw [q1]
  refine (length_spec (by omega)).mono ?_
  rintro _ h2' t2 hd2 ht2 ⟨rfl, rfl, rfl⟩
  obtain ⟨LB, hLB⟩ : ∃ z, lengthF (symL tk.1) = z := ⟨_, rfl⟩
  rw [hLB] at l1 l2 l3 q2 q3 o1 ⊢
  obtain ⟨lb, le, lo⟩ := LB
  simp only at l1 l2 l3 q2 q3 o1
  subst l1
  obtain rfl : le = (P.n : Nat) := q3.symm
  conv => whnf
  refine (number_ok R hxs (n := (P.v : Nat)) (m := P.n) (by omega) ⟨by omega, hv1⟩ hs.left).mono ?_
  rintro _ h3 t3 hd3 ht3 ⟨rfl, da, Ra, fa, dda, la⟩
  have hsb := hs.right
  rw [bitsL_len] at hsb
  have hblt := (hc.lt hd)
  have nb : ∀ {d1 d2 : Option Nat} {u : Nat}, t ≤ u → d1 ≠ some b → (d2 = d1 ∨ ∃ q, d2 = some q ∧ u ≤ q) → d2 ≠ some b := fun hu h1 h2 e => by
    rcases h2 with h2 | ⟨q, h2, hq⟩
    · exact h1 (h2 ▸ e)
    · rw [h2] at e; cases e; omega
  have hca := hc.fr R hb fa
  have hba : da ≠ some b := nb (Nat.le_refl _) hb.2 dda
  conv => whnf
  repeat (first | ((with_reducible apply Go.Vc.wr_i64); (focus exact And.intro (by omega) (by omega)); conv => whnf))
  refine (symbol_ok Ra hxs hca he h2 hl2 hsb.left).mono ?_
  rintro _ h4 t4 hd4 ht4 ⟨rfl, db, Rb, fb, ddb, lb'⟩
  have hsc := hsb.right
  rw [bitsH_len] at hsc
  rw [q4]
  conv => whnf
  refine (distance_spec (by omega)).mono ?_
  rintro _ h5 t5 hd5 ht5 ⟨rfl, rfl, rfl⟩
  obtain ⟨DB, hDB⟩ : ∃ z, distF (symD tk.2) = z := ⟨_, rfl⟩
  rw [hDB] at d1 d2 d3 q5 q6 o2 ⊢
  obtain ⟨dbb, de, dok⟩ := DB
  simp only at d1 d2 d3 q5 q6 o2
  subst d1
  obtain rfl : de = (P.n2 : Nat) := q6.symm
  conv => whnf
  refine (number_ok Rb hxs (n := (P.v2 : Nat)) (m := P.n2) (by omega) ⟨by omega, hv2⟩ hsc).mono ?_
  rintro _ h6 t6 hd6 ht6 ⟨rfl, dc, Rc, fc, ddc, lc⟩
  have K1 := RdTo.step hd fa dda la (RdTo.step hd3 fb ddb lb' ⟨dc, Rc, fc, ddc, lc⟩)
  obtain ⟨dc', Rc', fc', ddc', lc'⟩ := K1
  have edc : dc' = dc := by
    obtain ⟨a1, c1, hw1, _, rfl⟩ := Rc'
    obtain ⟨a2, c2, hw2, _, rfl⟩ := Rc
    rw [hw1] at hw2
    injection hw2 with hw2
    injection hw2 with hw2
    injection hw2 with hw2
    injection hw2 with _ hw2
    injection hw2 with _ hw2
    injection hw2 with hw2 _
    injection hw2 with hw2
    rw [hw2]
  subst edc
  have htl : ((tx s).take i).length = i := tx_take_len (by omega)
  obtain ⟨a0, c0, hw0, o0, _⟩ := id Rc
  rw [htl] at hw0
  have hback : dbb + (P.v2 : Nat) = (tk.2 : Nat) := by omega
  have hsize : lb + (P.v : Nat) = (tk.1 : Nat) := by omega
  conv => whnf
  repeat (first | ((with_reducible apply Go.Vc.ld_i); (focus ((repeat (first | with_reducible assumption | with_reducible exact Go.Vc.hset_same _ _ _ | with_reducible refine (Go.Vc.hset_ne _ _ (by omega)).trans ?_)); done)); (focus exact rfl); conv => whnf) | ((with_reducible apply Go.Vc.wr_i64); (focus exact And.intro (by omega) (by omega)); conv => whnf) | (refine Go.Vc.br_f ?_ ?_; (focus omega); conv => whnf))
  refine loop_intro (fun j : Nat => [(0, .pointer (some ⟨r, 0, none⟩)), (6, .int .i64 ((tk.1 : Nat) - (j : Nat))), (9, .int .i64 (dbb + (P.v2 : Nat)))])
    (fun j h' t' => j ≤ tk.1 ∧ i + j ≤ most ∧ RdTo r h t d x (p + P.n + (B.getD P.sym2 0).toNat + P.n2) ((tx s).take (i + j)) most 0 h' t') (fun j => tk.1 - j) 0 ⟨rfl, by rw [hsize]; show _ = Value.int .i64 ((tk.1 : Nat) - ((0 : Nat) : Int)); rw [show ((tk.1 : Nat) : Int) - ((0 : Nat) : Int) = (tk.1 : Nat) by omega]; rfl, rfl, trivial⟩ ⟨by omega, by omega, _, Rc', fc', ddc', lc'⟩ ?_
  rintro j e7 g t7 hd7 ⟨hj, hjm, d7, R7, f7, dd7, l7⟩
  have htl7 : ((tx s).take (i + j)).length = i + j := tx_take_len (by omega)
  obtain ⟨a7, c7, hw7, o7, e7'⟩ := id R7
  have s7 := o7.sl
  rw [htl7] at hw7 s7
  conv => whnf
  refine br (fun hb1 => ?_) (fun hb1 => ?_)
  · conv => whnf
    repeat (first | ((with_reducible apply Go.Vc.ld_i); (focus ((repeat (first | with_reducible assumption | with_reducible exact Go.Vc.hset_same _ _ _ | with_reducible refine (Go.Vc.hset_ne _ _ (by omega)).trans ?_)); done)); (focus exact rfl); conv => whnf) | (refine Go.Vc.br_t ?_ ?_; (focus omega); conv => whnf))
    have hxI0 : ∀ z, ((tx s).take (i + j))[(((i + j : Nat) : Int) - (dbb + (P.v2 : Nat))).toNat]? = some z → z = byteAt s (i + j) := fun z hz => by
      rw [show (((i + j : Nat) : Int) - (dbb + (P.v2 : Nat))).toNat = i + j - tk.2 by omega, List.getElem?_take, if_pos (by omega), tx_get (by omega), k6 j (by omega)] at hz
      exact (Option.some.inj hz).symm
    refine Go.Vc.draw_intro [⟨0, false, false, false, 0⟩, ⟨1, false, false, false, 0⟩, ⟨2, false, false, false, 2⟩, ⟨3, false, false, false, 6⟩, ⟨4, false, false, false, 14⟩, ⟨5, false, false, false, 0⟩, ⟨6, false, false, false, 32⟩, ⟨7, false, false, false, 96⟩, ⟨8, false, false, false, 224⟩, ⟨9, false, false, false, 480⟩, ⟨10, false, false, false, 0⟩, ⟨11, false, false, false, 2016⟩, ⟨12, false, false, false, 4094⟩, ⟨13, false, false, false, 8190⟩, ⟨14, true, false, false, 16383⟩, ⟨15, false, false, false, 32767⟩] (hs := (fun _ => none)) (hsub := (fun _ _ h => nomatch h)) (hm := by kernel_rfl) (hpl := by kernel_rfl) ?_
    conv => whnf
    conv => whnf
    repeat (first | ((with_reducible apply Go.Vc.sl_ix); (focus with_reducible assumption); (focus exact And.intro (by omega) (by omega)); intro xI bI offI hxI hcI; conv => whnf) | ((with_reducible apply Go.Vc.ld_i); (focus ((repeat (first | with_reducible assumption | with_reducible exact Go.Vc.hset_same _ _ _ | with_reducible refine (Go.Vc.hset_ne _ _ (by omega)).trans ?_)); done)); (focus exact rfl); conv => whnf) | ((with_reducible apply Go.Vc.cell_i); (focus assumption); conv => whnf) | ((with_reducible apply Go.Vc.wr_i64); (focus exact And.intro (by omega) (by omega)); conv => whnf))
    have hxe := hxI0 _ hxI
    rcases Nat.lt_or_ge (i + j) most with hf | hf
    · refine (say_ok R7 (by rw [htl7]; exact hf) hmo xI).mono ?_
      rintro _ h8 t8 hd8 ht8 ⟨rfl, V8⟩
      rw [hxe, ← tx_take (by omega), show i + j + 1 = i + (j + 1) by omega] at V8
      conv => whnf
      repeat (first | ((with_reducible apply Go.Vc.wr_i64); (focus exact And.intro (by omega) (by omega)); conv => whnf))
      exact round_end (j + 1) (by omega) ⟨rfl, by show Value.int .i64 (((tk.1 : Nat) : Int) - (j : Nat) - 1) = _; rw [show ((tk.1 : Nat) : Int) - (j : Nat) - 1 = (tk.1 : Nat) - ((j + 1 : Nat) : Int) by omega], rfl, trivial⟩ ⟨by omega, by omega, RdTo.step hd f7 dd7 l7 V8⟩
    · refine (say_full R7 (by rw [htl7]; omega) xI).mono ?_
      rintro _ h8 t8 hd8 ht8 ⟨rfl, V8⟩
      conv => whnf
      exact ⟨rfl, .inr ⟨by omega, _, _, RdTo.step hd f7 dd7 l7 V8⟩⟩
  · obtain rfl : j = tk.1 := by omega
    conv => whnf
    exact ⟨rfl, .inl ⟨hjm, d7, R7, f7, dd7, l7⟩⟩
end Go.Proofs.Ytikpfffhcjlcjaa
