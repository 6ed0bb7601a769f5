import Derived.Test.YtikpfffhcjlcjaaGzOpen
/- gz.Open where it refuses; the examples. -/
set_option linter.unusedSimpArgs false
namespace Go.Proofs.Ytikpfffhcjlcjaa
open Go Go.Vc Go.Huf Go.Dfl Go.Gz
set_option maxRecDepth 20000
set_option linter.unusedVariables false
set_option maxHeartbeats 1000000

def L8 (x : ByteArray) : List UInt8 := x.data.toList
theorem L8_len (x : ByteArray) : (L8 x).length = x.size := by unfold L8; rw [Array.length_toList]; rfl
theorem L8_inj {x y : ByteArray} (h : L8 x = L8 y) : x = y := ByteArray.ext (Array.toList_inj.1 h)
theorem L8_app (x y : ByteArray) : L8 (x ++ y) = L8 x ++ L8 y := by unfold L8; rw [ByteArray.data_append, Array.toList_append]
theorem L8_ext (x : ByteArray) (i j : Nat) : L8 (x.extract i j) = ((L8 x).drop i).take (j - i) := by
  unfold L8
  rw [ByteArray.data_extract, Array.toList_extract, List.extract_eq_take_drop]
theorem L8_byte (x : ByteArray) (i : Nat) : byteAt x i = (((L8 x).getD i 0).toNat : Nat) := by
  unfold byteAt L8
  rw [Array.getD_eq_getD_getElem?, ← Array.getElem?_toList, List.getD_eq_getElem?_getD]
theorem app_rest {A B : ByteArray} {k n : Nat} (hn : n = (A ++ B).size) : (A ++ B).extract (A.size + k) n = B.extract k B.size := by
  subst hn
  apply L8_inj
  rw [L8_ext, L8_ext, L8_app, ByteArray.size_append, ← L8_len A, List.drop_append, List.drop_of_length_le (by omega), List.nil_append]
  rw [show (L8 A).length + k - (L8 A).length = k by omega]
  rw [List.take_of_length_le (by rw [List.length_drop, L8_len]; omega), List.take_of_length_le (by rw [List.length_drop, L8_len]; omega)]
theorem app_tail {A B : ByteArray} {n : Nat} (hn : n = (A ++ B).size) : (A ++ B).extract A.size n = B := by
  have := app_rest (A := A) (B := B) (k := 0) hn
  rw [Nat.add_zero] at this
  rw [this]
  exact ByteArray.extract_zero_size
theorem app_head {A B : ByteArray} {i j : Nat} (h : j ≤ A.size) : (A ++ B).extract i j = A.extract i j := by
  apply L8_inj
  rw [L8_ext, L8_ext, L8_app, ← L8_len A] at *
  rcases Nat.lt_or_ge j i with h1 | h1
  · rw [show j - i = 0 by omega, List.take_zero, List.take_zero]
  · rw [List.drop_append_of_le_length (by omega), List.take_append_of_le_length (by rw [List.length_drop]; omega)]
theorem app_byte {A B : ByteArray} {i : Nat} (h : i < A.size) : byteAt (A ++ B) i = byteAt A i := by
  rw [L8_byte, L8_byte, L8_app, List.getD_eq_getElem?_getD, List.getD_eq_getElem?_getD, List.getElem?_append_left (by rw [L8_len]; exact h)]
theorem gopen_short {h : Heap} {t : Nat} {b : ByteArray} {most : Nat} (hb : b.size < 10) (hm : most ≤ 1048576) :
    CallSpec Try.prog 25 #[.string b, .int .i64 (most : Nat)] h t (fun v h' t' => v = .tuple #[.string ByteArray.empty, .int .i64 2] ∧ Vc.Sub h h' ∧ t ≤ t') := by
  refine Go.Vc.spec_of_vc (fn := Try.f25) Try.func25 rfl (by kernel_rfl) (by kernel_rfl) (Nat.le_of_ble_eq_true rfl) ?_
  intro hd
  conv => whnf
  repeat (first | (intro _ _; conv => whnf) | (refine Go.Vc.br_f ?_ ?_; (focus omega); conv => whnf))
  rename_i r hr
  have M0 : Mb (hset h r (.cells #[.string b, .int .i64 0, .int .i64 0] 83)) r b 0 0 := hset_same _ _ _
  refine (skip_no M0 (by omega) (n := 10) (by omega) (by omega) (by omega)).mono ?_
  rintro _ g t1 hd1 ht1 ⟨rfl, M1, o1, _⟩
  have M1' := M1
  unfold Mb at M1'
  have hs1 : Vc.Sub h g := fun z o hz => by
    have := hd _ _ hz
    exact o1 z o (by omega) ((hset_ne _ _ (by omega)).trans hz)
  conv => whnf
  repeat (first | ((with_reducible apply Go.Vc.ld_i); (focus ((repeat (first | with_reducible assumption | with_reducible exact Go.Vc.hset_same _ _ _ | with_reducible refine (Go.Vc.hset_ne _ _ (by omega)).trans ?_)); done)); (focus exact rfl); conv => whnf) | (refine Go.Vc.br_t ?_ ?_; (focus omega); conv => whnf) | ((with_reducible refine And.intro ?_ (And.intro ?_ ?_)); (focus exact rfl); (focus omega); conv => whnf))
  exact show t ≤ t1 by omega
theorem and224 : ∀ n : Fin 256, 32 ≤ n.val → IntKind.u8.wrap ((BitVec.ofInt IntKind.u8.bits (n.val : Int) &&& BitVec.ofInt IntKind.u8.bits 224).toNat : Int) ≠ 0 := by decide +kernel
theorem gopen_bad {h : Heap} {t : Nat} {b : ByteArray} {most : Nat} (hb : b.size ≤ 5000000) (h10 : 10 ≤ b.size) (hm : most ≤ 1048576) (hbad : b.extract 0 3 ≠ magicB ∨ 32 ≤ byteAt b 3) :
    CallSpec Try.prog 25 #[.string b, .int .i64 (most : Nat)] h t (fun v h' t' => v = .tuple #[.string ByteArray.empty, .int .i64 2] ∧ Vc.Sub h h' ∧ t ≤ t') := by
  refine Go.Vc.spec_of_vc (fn := Try.f25) Try.func25 rfl (by kernel_rfl) (by kernel_rfl) (Nat.le_of_ble_eq_true rfl) ?_
  intro hd
  conv => whnf
  repeat (first | (intro _ _; conv => whnf) | (refine Go.Vc.br_f ?_ ?_; (focus omega); conv => whnf))
  rename_i r hr
  have M0 : Mb (hset h r (.cells #[.string b, .int .i64 0, .int .i64 0] 83)) r b 0 0 := hset_same _ _ _
  refine (skip_ok M0 (by omega) (n := 10) (by omega)).mono ?_
  rintro _ g t1 hd1 ht1 ⟨rfl, M1, o1, _⟩
  have hhs : (b.extract 0 (0 + 10)).size = 10 := by rw [ByteArray.size_extract]; omega
  have hhm : (b.extract 0 (0 + 10)).extract 0 3 = b.extract 0 3 := by
    apply ByteArray.ext
    rw [ByteArray.data_extract, ByteArray.data_extract, ByteArray.data_extract, Array.extract_extract]
    rfl
  have hh3 : byteAt (b.extract 0 (0 + 10)) 3 = byteAt b 3 := by
    have := ext_byte (b := b) (i := 0) (j := 0 + 10) (k := 3) (by omega) (by omega)
    rw [this]
  have hs1 : Vc.Sub h g := fun z o hz => by
    have := hd _ _ hz
    exact o1 z o (by omega) ((hset_ne _ _ (by omega)).trans hz)
  have M1' := M1
  unfold Mb at M1'
  conv => whnf
  repeat (first | ((with_reducible apply Go.Vc.ld_i); (focus ((repeat (first | with_reducible assumption | with_reducible exact Go.Vc.hset_same _ _ _ | with_reducible refine (Go.Vc.hset_ne _ _ (by omega)).trans ?_)); done)); (focus exact rfl); conv => whnf) | (refine Go.Vc.br_f ?_ ?_; (focus omega); conv => whnf))
  refine (hasprefix_spec _ (by omega)).mono ?_
  rintro _ _ _ _ _ ⟨rfl, rfl, rfl⟩
  rw [hhm]
  by_cases hmg : b.extract 0 3 = magicB
  · rw [decide_eq_true hmg]
    conv => whnf
    rw [opq_eq]
    conv => whnf
    repeat (first | ((with_reducible refine And.intro (And.intro ?_ ?_) ?_); (focus omega); (focus omega); conv => whnf) | (intro _ _; conv => whnf))
    rw [show Int.toNat 3 = 3 from rfl, hh3]
    have hr3 := byteAt_range b 3
    have h32 : 32 ≤ byteAt b 3 := by
      rcases hbad with h | h
      · exact absurd hmg h
      · exact h
    have hne : IntKind.u8.wrap ((BitVec.ofInt IntKind.u8.bits (byteAt b 3) &&& BitVec.ofInt IntKind.u8.bits 224).toNat : Int) ≠ 0 := by
      obtain ⟨n, hn⟩ := Int.eq_ofNat_of_zero_le hr3.1
      have := and224 ⟨n, by omega⟩ (by show 32 ≤ n; omega)
      rw [hn]
      exact this
    obtain ⟨Z, hZ⟩ : ∃ Z, IntKind.u8.wrap ((BitVec.ofInt IntKind.u8.bits (byteAt b 3) &&& BitVec.ofInt IntKind.u8.bits 224).toNat : Int) = Z := ⟨_, rfl⟩
    rw [hZ] at hne
    refine ⟨Z, hZ.symm, ?_⟩
    conv => whnf
    repeat (first | (refine Go.Vc.br_t ?_ ?_; (focus omega); conv => whnf) | ((with_reducible refine And.intro ?_ (And.intro ?_ ?_)); (focus exact rfl); (focus omega); conv => whnf))
    exact show t ≤ t1 by omega
  · rw [decide_eq_false hmg]
    conv => whnf
    rw [opq_eq]
    conv => whnf
    repeat (first | ((with_reducible refine And.intro ?_ (And.intro ?_ ?_)); (focus exact rfl); (focus omega); conv => whnf))
    exact show t ≤ t1 by omega
theorem pack_split (s : ByteArray) : packZ s = aheadB ++ (packS s ++ endF s) := by
  unfold packZ
  rw [ByteArray.append_assoc]
theorem pack_size (s : ByteArray) : (packZ s).size = 10 + (packL s).length + 8 := by
  unfold packZ
  rw [ByteArray.size_append, ByteArray.size_append, end_size, packS_size2]
  rfl
/-- A member that has nothing ahead but its ten bytes, packed, then anything. -/
theorem gopen_plain {h : Heap} {t : Nat} {hd10 s rest : ByteArray} {most : Nat} (h10 : hd10.size = 10) (hmag : hd10.extract 0 3 = magicB) (h3 : byteAt hd10 3 = 0) (hm : most ≤ 1048576) (hs : s.size ≤ 32768) (hr : rest.size ≤ 2000000) :
    CallSpec Try.prog 25 #[.string (hd10 ++ (packS s ++ rest)), .int .i64 (most : Nat)] h t (fun v h' t' => v = goF s most 0 rest ∧ Vc.Sub h h' ∧ t ≤ t') := by
  have hl := packL_le s hs
  have hz := packS_size2 s
  have hsz : (hd10 ++ (packS s ++ rest)).size = 10 + (packL s).length + rest.size := by rw [ByteArray.size_append, ByteArray.size_append, hz]; omega
  refine gopen_spec (q := 10) (e := 0) (by omega) (by omega) ?_ hm hs (.inl ⟨?_, rfl, rfl⟩) (by omega) ?_ ?_
  · rw [app_head (by omega)]; exact hmag
  · rw [app_byte (by omega)]; exact h3
  · have := app_tail (A := hd10) (B := packS s ++ rest) rfl
    rw [h10] at this
    exact this
  · have h1 := app_rest (A := hd10) (B := packS s ++ rest) (k := (packL s).length) rfl
    rw [h10] at h1
    rw [h1, ← hz]
    exact app_tail rfl
theorem gopen_pack {h : Heap} {t : Nat} {s rest : ByteArray} {most : Nat} (hm : most ≤ 1048576) (hs : s.size ≤ 32768) (hr : rest.size ≤ 2000000) :
    CallSpec Try.prog 25 #[.string (aheadB ++ (packS s ++ rest)), .int .i64 (most : Nat)] h t (fun v h' t' => v = goF s most 0 rest ∧ Vc.Sub h h' ∧ t ≤ t') :=
  gopen_plain rfl (by decide) (by decide) hm hs hr
theorem go_ok {s : ByteArray} {most : Nat} (h : s.size ≤ most) : goF s most 0 (endF s) = .tuple #[.string s, .int .i64 0] := by
  unfold goF
  rw [if_neg (by decide), if_neg (by omega), if_neg (by rw [end_size]; decide), if_neg (fun hc => hc rfl)]
theorem zexamples_spec (h : Heap) (t : Nat) : CallSpec Try.prog 23 #[] h t (fun v h' t' => v = .bool true ∧ Vc.Sub h h' ∧ t ≤ t') := by
  obtain ⟨abc, habc⟩ : ∃ abc : ByteArray, abc = ⟨#[97, 98, 99]⟩ := ⟨_, rfl⟩
  have hz : abc.size = 3 := by rw [habc]; rfl
  refine Go.Vc.spec_of_vc (fn := Try.f23) Try.func23 rfl (by kernel_rfl) (by kernel_rfl) (Nat.le_of_ble_eq_true rfl) ?_
  intro hd
  conv => whnf
  rw [← habc]
  refine (gpack_spec abc (by omega)).mono ?_
  rintro _ g1 t1 hd1 ht1 ⟨rfl, s1, _⟩
  conv => whnf
  rw [pack_split]
  refine (gopen_pack (s := abc) (rest := endF abc) (most := 3) (by omega) (by omega) (by rw [end_size]; omega)).mono ?_
  rintro _ g2 t2 hd2 ht2 ⟨rfl, s2, _⟩
  rw [go_ok (by omega)]
  conv => whnf
  refine (gopen_short (b := ByteArray.empty) (most := 3) (by decide) (by omega)).mono ?_
  rintro _ g3 t3 hd3 ht3 ⟨rfl, s3, _⟩
  conv => whnf
  rw [opq_eq, decide_eq_true rfl]
  conv => whnf
  repeat (first | (refine Go.Vc.br_t ?_ ?_; (focus omega); conv => whnf))
  exact ⟨by rw [opq_eq, decide_eq_true rfl], s1.trans (s2.trans s3), by omega⟩
theorem zbool_eq (x y : Bool) (K : Bool → Prop) (h : Heap) (hk : K (x == y)) : genR Try.prog (Op.equal 4 (.bool x) (.bool y)) K h := by
  unfold Op.equal Op.maxDepth
  show genR Try.prog (Op.equalIn (9999 + 1) _ _ _) K h
  unfold Op.equalIn
  rw [genR_b, genR_underlying Try.underlying4]
  simpa [genR_p] using hk
theorem zbool_eql (xo yo : Operand) (a b : Bool) {K : Value → Heap → Nat → Prop} {h : Heap} {t : Nat} (hk : K (.bool (a == b)) h t) :
    gen Try.prog (do eqGuard .eql 4 xo yo (.bool a) (.bool b); binOp .eql 4 (.bool a) (.bool b)) K h t := by
  simp only [eqGuard, gen_b, gen_p, Bool.not_true, Bool.false_eq_true, if_false, binOp]
  exact gen_of_genR _ (zbool_eq a b (fun r => r = (a == b)) h rfl) (by rintro _ rfl; exact hk)
theorem size_zero {x : ByteArray} : x.size = 0 ↔ x = ByteArray.empty := by
  constructor
  · intro h; exact ByteArray.ext (Array.eq_empty_of_size_eq_zero h)
  · rintro rfl; rfl
theorem go_more (s : ByteArray) {most : Nat} (more : ByteArray) (h : s.size ≤ most) : ∃ x e, goF s most 0 (endF s ++ more) = .tuple #[.string x, .int .i64 e] ∧ (e = 0 ↔ more = ByteArray.empty) := by
  have hz : (endF s ++ more).size = 8 + more.size := by rw [ByteArray.size_append, end_size]
  unfold goF
  rw [if_neg (by decide), if_neg (by omega)]
  by_cases hm : more.size = 0
  · have := size_zero.1 hm
    subst this
    rw [if_neg (by omega), ByteArray.append_empty, if_neg (fun hc => hc rfl)]
    exact ⟨_, _, rfl, ⟨fun _ => rfl, fun _ => rfl⟩⟩
  · rw [if_pos (by omega)]
    exact ⟨_, _, rfl, ⟨fun hc => absurd hc (by decide), fun hc => absurd (size_zero.2 hc) hm⟩⟩
theorem go_size (s rest : ByteArray) {most : Nat} (h : s.size ≤ most) (hr : rest.size ≠ 8) : goF s most 0 rest = .tuple #[.string ByteArray.empty, .int .i64 2] := by
  unfold goF
  rw [if_neg (by decide), if_neg (by omega), if_pos hr]
theorem go_less (s : ByteArray) {most : Nat} (hm : most = s.size - 1) : ∃ x e, goF s most 0 (endF s) = .tuple #[.string x, .int .i64 e] ∧ (e = 9 ↔ s ≠ ByteArray.empty) := by
  by_cases h0 : s.size = 0
  · rw [go_ok (by omega)]
    exact ⟨_, _, rfl, ⟨fun hc => absurd hc (by decide), fun hc => absurd (size_zero.1 h0) hc⟩⟩
  · unfold goF
    rw [if_neg (by decide), if_pos (by omega)]
    exact ⟨_, _, rfl, ⟨fun _ hc => h0 (size_zero.2 hc), fun _ => rfl⟩⟩
theorem cut_three {A B C : ByteArray} {n m : Nat} (h : n = A.size + B.size + m) : (A ++ (B ++ C)).extract 0 n = A ++ (B ++ C.extract 0 m) := by
  apply L8_inj
  rw [L8_ext, L8_app, L8_app, L8_app, L8_app, L8_ext, List.drop_zero, List.drop_zero, h, Nat.sub_zero, Nat.sub_zero, ← L8_len A, ← L8_len B]
  rw [Nat.add_assoc, List.take_length_add_append, List.take_length_add_append]
end Go.Proofs.Ytikpfffhcjlcjaa
