import Derived.Test.YtikpfffhcjlcjaaGzSet
/- GzStrange answers true, by its contract. -/
set_option linter.unusedSimpArgs false
namespace Go.Proofs.Ytikpfffhcjlcjaa
open Go Go.Vc Go.Huf Go.Dfl Go.Gz
set_option maxRecDepth 10000
set_option linter.unusedVariables false

theorem or32_u8 : ∀ n : Fin 256, ∃ m : Fin 256, 32 ≤ m.val ∧ IntKind.u8.wrap ((BitVec.ofInt IntKind.u8.bits (n.val : Int) ||| BitVec.ofInt IntKind.u8.bits 32).toNat : Int) = (m.val : Int) := by decide +kernel
theorem u8_of {x : Int} (h : 0 ≤ x ∧ x ≤ 255) : ∃ C : UInt8, x = ((C.toNat : Nat) : Int) := ⟨UInt8.ofNat x.toNat, by rw [UInt8.toNat_ofNat', Nat.mod_eq_of_lt (by omega)]; omega⟩
theorem gopen_turn {h : Heap} {t i : Nat} {x : UInt8} {S : ByteArray} (hi : i < 3) (hS : S.size ≤ 200) :
    CallSpec Try.prog 25 #[.string (setB aheadB i x ++ (packS S ++ endF S)), .int .i64 200] h t (fun v h' t' => ∃ y e, v = .tuple #[.string y, .int .i64 e] ∧ (e = 0 ↔ ((x.toNat : Nat) : Int) = byteAt aheadB i) ∧ (e = 0 ∨ e = 2) ∧ Vc.Sub h h' ∧ t ≤ t') := by
  have ha : aheadB.size = 10 := rfl
  have hl := packL_le S (by omega)
  have hzs := packS_size2 S
  have hes := end_size S
  have bz : (setB aheadB i x).size = 10 := setB_size _ _ _
  have bs : (setB aheadB i x ++ (packS S ++ endF S)).size = 10 + (packL S).length + 8 := by rw [ByteArray.size_append, ByteArray.size_append, bz, hzs, hes]; omega
  have hbx : byteAt (setB aheadB i x) i = (x.toNat : Nat) := set_byte (by omega)
  by_cases hx : ((x.toNat : Nat) : Int) = byteAt aheadB i
  · have he : setB aheadB i x = aheadB := by
      apply set_same
      rw [L8_byte] at hx
      have h1 : i < (L8 aheadB).length := by rw [L8_len]; omega
      rw [List.getD_eq_getElem?_getD, List.getElem?_eq_getElem h1] at hx
      rw [List.getElem?_eq_getElem h1]
      have h2 : x.toNat = (L8 aheadB)[i].toNat := by
        have : ((x.toNat : Nat) : Int) = (((L8 aheadB)[i].toNat : Nat) : Int) := hx
        omega
      rw [UInt8.toNat_inj.1 h2]
    rw [he]
    refine (gopen_pack (s := S) (rest := endF S) (most := 200) (by omega) (by omega) (by omega)).mono ?_
    rintro _ h3 t3 hd3 ht3 ⟨rfl, hs3, ht⟩
    rw [go_ok (by omega)]
    exact ⟨_, _, rfl, ⟨fun _ => hx, fun _ => rfl⟩, .inl rfl, hs3, ht⟩
  · refine (gopen_bad (b := setB aheadB i x ++ (packS S ++ endF S)) (most := 200) (by omega) (by omega) (by omega) (.inl fun hc => hx ?_)).mono ?_
    · rw [app_head (by omega)] at hc
      have h1 := ext_byte (b := setB aheadB i x) (i := 0) (j := 3) (k := i) (by omega) (by omega)
      rw [hc, Nat.zero_add, hbx] at h1
      rw [← h1]
      have hi3 : i = 0 ∨ i = 1 ∨ i = 2 := by omega
      rcases hi3 with rfl | rfl | rfl <;> rfl
    rintro _ h3 t3 hd3 ht3 ⟨rfl, hs3, ht⟩
    exact ⟨_, _, rfl, ⟨fun h => absurd h (by decide), fun h => absurd h hx⟩, .inr rfl, hs3, ht⟩
theorem GzStrange_spec (h : Heap) (t : Nat) (s : ByteArray) (hs : s.size ≤ 1048576) (flags : Int) (hfl : IntKind.min .u8 ≤ flags ∧ flags ≤ IntKind.max .u8) (kind : Int) (hki : IntKind.min .u8 ≤ kind ∧ kind ≤ IntKind.max .u8) (first : Int) (hfi : IntKind.min .u8 ≤ first ∧ first ≤ IntKind.max .u8) :
    CallSpec Try.prog 13 #[.string s, .int .u8 flags, .int .u8 kind, .int .u8 first] h t (fun v h' _ => v = .bool true ∧ Vc.Sub h h') := by
  obtain ⟨F, rfl⟩ := u8_of hfl
  obtain ⟨K, rfl⟩ := u8_of hki
  obtain ⟨I, rfl⟩ := u8_of hfi
  have hF := F.toNat_lt
  refine Go.Vc.spec_of_vc (fn := Try.f13) Try.func13 rfl (by kernel_rfl) (by kernel_rfl) (Nat.le_of_ble_eq_true rfl) ?_
  intro hd
  conv => whnf
  refine (zexamples_spec h t).mono ?_
  rintro _ h1 t1 hd1 ht1 ⟨rfl, hs1, _⟩
  conv => whnf
  repeat (first | ((with_reducible refine And.intro (And.intro ?_ ?_) ?_); (focus omega); (focus omega); conv => whnf))
  have hS : (s.extract 0 (if (200 : Int) < (s.size : Nat) then (200 : Int) else (s.size : Nat)).toNat).size ≤ 200 := by
    rw [ByteArray.size_extract]; split <;> omega
  generalize s.extract 0 (if (200 : Int) < (s.size : Nat) then (200 : Int) else (s.size : Nat)).toNat = S at hS ⊢
  refine (gpack_spec S (by omega)).mono ?_
  rintro _ h2 t2 hd2 ht2 ⟨rfl, hs2, _⟩
  have hz := pack_size S
  have hl := packL_le S (by omega)
  have hzs := packS_size2 S
  have hes := end_size S
  conv => whnf
  repeat (first | (intro _ _; conv => whnf) | (refine Go.Vc.br_f ?_ ?_; (focus omega); conv => whnf))
  rename_i r1 c1 hr1 hc1
  obtain ⟨m, hm32, hmw⟩ := or32_u8 ⟨F.toNat, by omega⟩
  obtain ⟨M, hM⟩ := u8_of (x := (m.val : Int)) (by have := m.isLt; omega)
  refine ⟨((M.toNat : Nat) : Int), by rw [← hM]; exact hmw.symm, ?_⟩
  have ho := own_conv (h := h2) (r := r1) (c := c1) (E := 5) (s := packZ S) hc1
  obtain ⟨cs, fr, hbq, hlt, hfz, hput⟩ := Own.put ho (j := 3) (by omega) M
  conv => whnf
  repeat (first | ((with_reducible apply Go.Vc.own_ix); (focus exact And.intro (by omega) (by omega)); conv => whnf))
  refine ⟨rfl, cs, _, fr, hbq, hlt, hfz, ?_⟩
  rintro _ rfl
  have hsa : Vc.Sub h2 (hset (hset h2 r1 (.cells (bytesVals (packZ S) ++ Array.replicate (c1 - (packZ S).size) (.int .u8 0)) 5 (c1, c1 + 1))) r1 (.cells (cs.setIfInBounds (0 + 3 * 1) (bv M)) 5 fr)) := fun z o hz' => by
    have := hd2 _ _ hz'
    rw [hset_ne _ _ (by omega), hset_ne _ _ (by omega)]; exact hz'
  have hda := ((hd2.set r1 (.cells (bytesVals (packZ S) ++ Array.replicate (c1 - (packZ S).size) (.int .u8 0)) 5 (c1, c1 + 1)) (r1 + 1) (by omega) (by omega)).set r1 (.cells (cs.setIfInBounds (0 + 3 * 1) (bv M)) 5 fr) (r1 + 1) (by omega) (by omega))
  have e1 : setB (packZ S) 3 M = setB aheadB 3 M ++ (packS S ++ endF S) := by rw [pack_split]; exact set_left (by decide)
  conv => whnf
  refine ⟨_, readB_own hput, ?_⟩
  rw [show (⟨((L8 (packZ S)).set 3 M).toArray⟩ : ByteArray) = setB aheadB 3 M ++ (packS S ++ endF S) from e1]
  conv => whnf
  have b1z : (setB aheadB 3 M).size = 10 := setB_size _ _ _
  have b1s : (setB aheadB 3 M ++ (packS S ++ endF S)).size = 10 + (packL S).length + 8 := by rw [ByteArray.size_append, ByteArray.size_append, b1z, hzs, hes]; omega
  refine (gopen_bad (b := setB aheadB 3 M ++ (packS S ++ endF S)) (most := 200) (by omega) (by omega) (by omega) (.inr ?_)).mono ?_
  · rw [app_byte (by omega), set_byte (by decide), ← hM]
    omega
  rintro _ h3 t3 hd3 ht3 ⟨rfl, hs3, _⟩
  conv => whnf
  repeat (first | ((with_reducible apply Go.Vc.own_ix); (focus exact And.intro (by omega) (by omega)); conv => whnf) | (intro _ _; conv => whnf))
  rename_i r2 c2 hr2 hc2
  have ho2 := own_conv (h := h3) (r := r2) (c := c2) (E := 5) (s := packZ S) hc2
  obtain ⟨cs2, fr2, hbq2, hlt2, hfz2, hput2⟩ := Own.put ho2 (j := 2) (by omega) K
  refine ⟨rfl, cs2, _, fr2, hbq2, hlt2, hfz2, ?_⟩
  rintro _ rfl
  have hsa2 : Vc.Sub h3 (hset (hset h3 r2 (.cells (bytesVals (packZ S) ++ Array.replicate (c2 - (packZ S).size) (.int .u8 0)) 5 (c2, c2 + 1))) r2 (.cells (cs2.setIfInBounds (0 + 2 * 1) (bv K)) 5 fr2)) := fun z o hz' => by
    have := hd3 _ _ hz'
    rw [hset_ne _ _ (by omega), hset_ne _ _ (by omega)]; exact hz'
  have e2 : setB (packZ S) 2 K = setB aheadB 2 K ++ (packS S ++ endF S) := by rw [pack_split]; exact set_left (by decide)
  conv => whnf
  refine ⟨_, readB_own hput2, ?_⟩
  rw [show (⟨((L8 (packZ S)).set 2 K).toArray⟩ : ByteArray) = setB aheadB 2 K ++ (packS S ++ endF S) from e2]
  conv => whnf
  refine (gopen_turn (i := 2) (x := K) (S := S) (by omega) hS).mono ?_
  rintro _ h4 t4 hd4 ht4 ⟨y2, e2v, rfl, hiff2, hor2, hs4, _⟩
  conv => whnf
  repeat (first | ((with_reducible apply Go.Vc.own_ix); (focus exact And.intro (by omega) (by omega)); conv => whnf) | (intro _ _; conv => whnf))
  rename_i r3 c3 hr3 hc3
  have ho3 := own_conv (h := h4) (r := r3) (c := c3) (E := 5) (s := packZ S) hc3
  obtain ⟨cs3, fr3, hbq3, hlt3, hfz3, hput3⟩ := Own.put ho3 (j := 0) (by omega) I
  refine ⟨rfl, cs3, _, fr3, hbq3, hlt3, hfz3, ?_⟩
  rintro _ rfl
  have hsa3 : Vc.Sub h4 (hset (hset h4 r3 (.cells (bytesVals (packZ S) ++ Array.replicate (c3 - (packZ S).size) (.int .u8 0)) 5 (c3, c3 + 1))) r3 (.cells (cs3.setIfInBounds (0 + 0 * 1) (bv I)) 5 fr3)) := fun z o hz' => by
    have := hd4 _ _ hz'
    rw [hset_ne _ _ (by omega), hset_ne _ _ (by omega)]; exact hz'
  have e3 : setB (packZ S) 0 I = setB aheadB 0 I ++ (packS S ++ endF S) := by rw [pack_split]; exact set_left (by decide)
  conv => whnf
  refine ⟨_, readB_own hput3, ?_⟩
  rw [show (⟨((L8 (packZ S)).set 0 I).toArray⟩ : ByteArray) = setB aheadB 0 I ++ (packS S ++ endF S) from e3]
  conv => whnf
  refine (gopen_turn (i := 0) (x := I) (S := S) (by omega) hS).mono ?_
  rintro _ h5 t5 hd5 ht5 ⟨y3, e3v, rfl, hiff3, hor3, hs5, _⟩
  conv => whnf
  repeat (first | (refine Go.Vc.br_t ?_ ?_; (focus omega); conv => whnf))
  have q2 : (opq (decide (e2v = 0)) == opq (decide (((K.toNat : Nat) : Int) = 8))) = true := by
    rw [opq_eq, opq_eq, decide_eq_decide.2 (show e2v = 0 ↔ ((K.toNat : Nat) : Int) = 8 from hiff2)]
    exact beq_self_eq_true _
  have q3 : (opq (decide (e3v = 0)) == opq (decide (((I.toNat : Nat) : Int) = 31))) = true := by
    rw [opq_eq, opq_eq, decide_eq_decide.2 (show e3v = 0 ↔ ((I.toNat : Nat) : Int) = 31 from hiff3)]
    exact beq_self_eq_true _
  have hfin : Vc.Sub h h5 := fun z o hz' => hs5 _ _ (hsa3 _ _ (hs4 _ _ (hsa2 _ _ (hs3 _ _ (hsa _ _ (hs2 _ _ (hs1 _ _ hz')))))))
  rw [q2]
  conv => whnf
  rw [q3]
  clear q2 q3 hiff2 hiff3 hput hput2 hput3 ho ho2 ho3
  rcases hor2 with rfl | rfl
  · rcases hor3 with rfl | rfl
    · conv => whnf
      repeat (first | (refine Go.Vc.br_t ?_ ?_; (focus omega); conv => whnf))
      first
      | exact ⟨rfl, hfin⟩
      | exact ⟨by rw [opq_eq, decide_eq_true rfl], hfin⟩
    · conv => whnf
      repeat (first | (refine Go.Vc.br_t ?_ ?_; (focus omega); conv => whnf) | (refine Go.Vc.br_f ?_ ?_; (focus omega); conv => whnf))
      first
      | exact ⟨rfl, hfin⟩
      | exact ⟨by rw [opq_eq, decide_eq_true rfl], hfin⟩
  · rcases hor3 with rfl | rfl
    · conv => whnf
      repeat (first | (refine Go.Vc.br_t ?_ ?_; (focus omega); conv => whnf) | (refine Go.Vc.br_f ?_ ?_; (focus omega); conv => whnf))
      first
      | exact ⟨rfl, hfin⟩
      | exact ⟨by rw [opq_eq, decide_eq_true rfl], hfin⟩
    · conv => whnf
      repeat (first | (refine Go.Vc.br_t ?_ ?_; (focus omega); conv => whnf) | (refine Go.Vc.br_f ?_ ?_; (focus omega); conv => whnf))
      first
      | exact ⟨rfl, hfin⟩
      | exact ⟨by rw [opq_eq, decide_eq_true rfl], hfin⟩
end Go.Proofs.Ytikpfffhcjlcjaa
