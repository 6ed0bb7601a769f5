import Derived.Test.YtikpfffhcjlcjaaGzOpen
set_option linter.unusedSimpArgs false
namespace Go.Proofs.Ytikpfffhcjlcjaa
open Go Go.Vc Go.Huf Go.Dfl Go.Gz
set_option maxRecDepth 20000
set_option linter.unusedVariables false
set_option maxHeartbeats 1000000
def L8 (x : ByteArray) : List UInt8 := x.data.toList
theorem L8_len (x : ByteArray) : (L8 x).length = x.size := by unfold L8; rw [Array.length_toList]; rfl
theorem L8_inj {x y : ByteArray} (h : L8 x = L8 y) : x = y := ByteArray.ext (Array.toList_inj.1 h)
theorem L8_app (x y : ByteArray) : L8 (x ++ y) = L8 x ++ L8 y := by unfold L8; rw [ByteArray.data_append, Array.toList_append]
theorem L8_ext (x : ByteArray) (i j : Nat) : L8 (x.extract i j) = ((L8 x).drop i).take (j - i) := by
  unfold L8
  rw [ByteArray.data_extract, Array.toList_extract, List.extract_eq_take_drop]
theorem L8_byte (x : ByteArray) (i : Nat) : byteAt x i = (((L8 x).getD i 0).toNat : Nat) := by
  unfold byteAt L8
  rw [Array.getD_eq_getD_getElem?, ← Array.getElem?_toList, List.getD_eq_getElem?_getD]
theorem app_rest {A B : ByteArray} {k n : Nat} (hn : n = (A ++ B).size) : (A ++ B).extract (A.size + k) n = B.extract k B.size := by
  subst hn
  apply L8_inj
  rw [L8_ext, L8_ext, L8_app, ByteArray.size_append, ← L8_len A, List.drop_append, List.drop_of_length_le (by omega), List.nil_append]
  rw [show (L8 A).length + k - (L8 A).length = k by omega]
  rw [List.take_of_length_le (by rw [List.length_drop, L8_len]; omega), List.take_of_length_le (by rw [List.length_drop, L8_len]; omega)]
theorem app_tail {A B : ByteArray} {n : Nat} (hn : n = (A ++ B).size) : (A ++ B).extract A.size n = B := by
  have := app_rest (A := A) (B := B) (k := 0) hn
  rw [Nat.add_zero] at this
  rw [this]
  exact ByteArray.extract_zero_size
theorem app_head {A B : ByteArray} {i j : Nat} (h : j ≤ A.size) : (A ++ B).extract i j = A.extract i j := by
  apply L8_inj
  rw [L8_ext, L8_ext, L8_app, ← L8_len A] at *
  rcases Nat.lt_or_ge j i with h1 | h1
  · rw [show j - i = 0 by omega, List.take_zero, List.take_zero]
  · rw [List.drop_append_of_le_length (by omega), List.take_append_of_le_length (by rw [List.length_drop]; omega)]
theorem app_byte {A B : ByteArray} {i : Nat} (h : i < A.size) : byteAt (A ++ B) i = byteAt A i := by
  rw [L8_byte, L8_byte, L8_app, List.getD_eq_getElem?_getD, List.getD_eq_getElem?_getD, List.getElem?_append_left (by rw [L8_len]; exact h)]
theorem gopen_short {h : Heap} {t : Nat} {b : ByteArray} {most : Nat} (hb : b.size < 10) (hm : most ≤ 1048576) :
    CallSpec Try.prog 25 #[.string b, .int .i64 (most : Nat)] h t (fun v h' t' => v = .tuple #[.string ByteArray.empty, .int .i64 2] ∧ Vc.Sub h h' ∧ t ≤ t') := by
  refine Go.Vc.spec_of_vc (fn := Try.f25) Try.func25 rfl (by kernel_rfl) (by kernel_rfl) (Nat.le_of_ble_eq_true rfl) ?_
  intro hd
  conv => whnf
  repeat (first | (intro _ _; conv => whnf) | (refine Go.Vc.br_f ?_ ?_; (focus omega); conv => whnf))
  rename_i r hr
  have M0 : Mb (hset h r (.cells #[.string b, .int .i64 0, .int .i64 0] 83)) r b 0 0 := hset_same _ _ _
  refine (skip_no M0 (by omega) (n := 10) (by omega) (by omega) (by omega)).mono ?_
  rintro _ g t1 hd1 ht1 ⟨rfl, M1, o1, _⟩
  have M1' := M1
  unfold Mb at M1'
  have hs1 : Vc.Sub h g := fun z o hz => by
    have := hd _ _ hz
    exact o1 z o (by omega) ((hset_ne _ _ (by omega)).trans hz)
  conv => whnf
  repeat (first | ((with_reducible apply Go.Vc.ld_i); (focus ((repeat (first | with_reducible assumption | with_reducible exact Go.Vc.hset_same _ _ _ | with_reducible refine (Go.Vc.hset_ne _ _ (by omega)).trans ?_)); done)); (focus exact rfl); conv => whnf) | (refine Go.Vc.br_t ?_ ?_; (focus omega); conv => whnf) | ((with_reducible refine And.intro ?_ (And.intro ?_ ?_)); (focus exact rfl); (focus omega); conv => whnf))
  exact show t ≤ t1 by omega
theorem pack_split (s : ByteArray) : packZ s = aheadB ++ (packS s ++ endF s) := by
  unfold packZ
  rw [ByteArray.append_assoc]
theorem pack_size (s : ByteArray) : (packZ s).size = 10 + (packL s).length + 8 := by
  unfold packZ
  rw [ByteArray.size_append, ByteArray.size_append, end_size, packS_size2]
  rfl
theorem gopen_plain {h : Heap} {t : Nat} {hd10 s rest : ByteArray} {most : Nat} (h10 : hd10.size = 10) (hmag : hd10.extract 0 3 = magicB) (h3 : byteAt hd10 3 = 0) (hm : most ≤ 1048576) (hs : s.size ≤ 32768) (hr : rest.size ≤ 2000000) :
    CallSpec Try.prog 25 #[.string (hd10 ++ (packS s ++ rest)), .int .i64 (most : Nat)] h t (fun v h' t' => v = goF s most 0 rest ∧ Vc.Sub h h' ∧ t ≤ t') := by
  have hl := packL_le s hs
  have hz := packS_size2 s
  have hsz : (hd10 ++ (packS s ++ rest)).size = 10 + (packL s).length + rest.size := by rw [ByteArray.size_append, ByteArray.size_append, hz]; omega
  refine gopen_spec (q := 10) (e := 0) (by omega) (by omega) ?_ hm hs (.inl ⟨?_, rfl, rfl⟩) (by omega) ?_ ?_
  · rw [app_head (by omega)]; exact hmag
  · rw [app_byte (by omega)]; exact h3
  · have := app_tail (A := hd10) (B := packS s ++ rest) rfl
    rw [h10] at this
    exact this
  · have h1 := app_rest (A := hd10) (B := packS s ++ rest) (k := (packL s).length) rfl
    rw [h10] at h1
    rw [h1, ← hz]
    exact app_tail rfl
theorem gopen_pack {h : Heap} {t : Nat} {s rest : ByteArray} {most : Nat} (hm : most ≤ 1048576) (hs : s.size ≤ 32768) (hr : rest.size ≤ 2000000) :
    CallSpec Try.prog 25 #[.string (aheadB ++ (packS s ++ rest)), .int .i64 (most : Nat)] h t (fun v h' t' => v = goF s most 0 rest ∧ Vc.Sub h h' ∧ t ≤ t') :=
  gopen_plain rfl (by decide) (by decide) hm hs hr
theorem go_ok {s : ByteArray} {most : Nat} (h : s.size ≤ most) : goF s most 0 (endF s) = .tuple #[.string s, .int .i64 0] := by
  unfold goF
  rw [if_neg (by decide), if_neg (by omega), if_neg (by rw [end_size]; decide), if_neg (fun hc => hc rfl)]
theorem zexamples_spec (h : Heap) (t : Nat) : CallSpec Try.prog 23 #[] h t (fun v h' t' => v = .bool true ∧ Vc.Sub h h' ∧ t ≤ t') := by
  obtain ⟨abc, habc⟩ : ∃ abc : ByteArray, abc = ⟨#[97, 98, 99]⟩ := ⟨_, rfl⟩
  have hz : abc.size = 3 := by rw [habc]; rfl
  refine Go.Vc.spec_of_vc (fn := Try.f23) Try.func23 rfl (by kernel_rfl) (by kernel_rfl) (Nat.le_of_ble_eq_true rfl) ?_
  intro hd
  conv => whnf
  rw [← habc]
  refine (gpack_spec abc (by omega)).mono ?_
  rintro _ g1 t1 hd1 ht1 ⟨rfl, s1, _⟩
  conv => whnf
  rw [pack_split]
  refine (gopen_pack (s := abc) (rest := endF abc) (most := 3) (by omega) (by omega) (by rw [end_size]; omega)).mono ?_
  rintro _ g2 t2 hd2 ht2 ⟨rfl, s2, _⟩
  rw [go_ok (by omega)]
  conv => whnf
  refine (gopen_short (b := ByteArray.empty) (most := 3) (by decide) (by omega)).mono ?_
  rintro _ g3 t3 hd3 ht3 ⟨rfl, s3, _⟩
  conv => whnf
  rw [opq_eq, decide_eq_true rfl]
  conv => whnf
  repeat (first | (refine Go.Vc.br_t ?_ ?_; (focus omega); conv => whnf))
  exact ⟨by rw [opq_eq, decide_eq_true rfl], s1.trans (s2.trans s3), by omega⟩
end Go.Proofs.Ytikpfffhcjlcjaa
