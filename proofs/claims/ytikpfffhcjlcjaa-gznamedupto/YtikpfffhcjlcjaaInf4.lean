import Derived.Test.YtikpfffhcjlcjaaInf3
set_option linter.unusedSimpArgs false
namespace Go.Proofs.Ytikpfffhcjlcjaa
open Go Go.Vc Go.Huf Go.Dfl
set_option maxRecDepth 20000
set_option linter.unusedVariables false
theorem fixedL_ok : errN fixedL = 0 ∧ err fixedL = 0 := by decide +kernel
theorem fixedB_ok : errN fixedB = 0 ∧ err fixedB = 0 := by decide +kernel
theorem fixedL_pos : ∀ k : Fin 288, 1 ≤ (fixedL.getD k.val 0).toNat := by decide +kernel
theorem fixedB_pos : ∀ k : Fin 32, 1 ≤ (fixedB.getD k.val 0).toNat := by decide +kernel
theorem SymOk.fixedC {p : Prt} (o : SymOk p) : PrtC fixedL fixedB p := by
  obtain ⟨o1, o2, o3, o4, o5, o6⟩ := o
  have e1 : fixedL.length = 288 := by decide +kernel
  have e2 : fixedB.length = 32 := by decide +kernel
  exact ⟨by omega, fixedL_pos ⟨p.sym, by omega⟩, fun h => ⟨by have := o4 h; omega, fixedB_pos ⟨p.sym2, by have := o4 h; omega⟩⟩⟩
theorem ffixed_spec {h : Heap} {t r : Nat} {d : Option Nat} {x s : ByteArray} {p : Nat} {most : Nat} (R : Rd h r d x p [] most 0) (hxs : x.size ≤ 100000000) (hss : s.size ≤ 1000000) (hmo : most ≤ 100000000)
    (hs : Str x p (rest fixedL fixedB s 0)) :
    CallSpec Try.prog 37 #[.pointer (some ⟨r, 0, none⟩)] h t
      (fun v h' t' => v = .tuple #[] ∧ Ends (s.size ≤ most) r h t d x (p + (rest fixedL fixedB s 0).length) (tx s) most h' t') := by
  refine Go.Vc.spec_of_vc (fn := Try.f37) Try.func37 rfl (by kernel_rfl) (by kernel_rfl) (Nat.le_of_ble_eq_true rfl) ?_
  intro hd
  conv => whnf
  repeat (first | (intro _ _; conv => whnf))
  rename_i q1 hq1
  refine (repeat_spec (k := 144) (x := 8) (sl1 (hset_same _ _ _)) (by omega)).mono ?_
  rintro _ g1 u1 hg1 hu1 ⟨a1, rfl, o1, s1, w1, _⟩
  conv => whnf
  repeat (first | (intro _ _; conv => whnf))
  rename_i q2 hq2
  refine (repeat_spec (k := 112) (x := 9) (sl1 (hset_same _ _ _)) (by omega)).mono ?_
  rintro _ g2 u2 hg2 hu2 ⟨a2, rfl, o2, s2, w2, _⟩
  conv => whnf
  repeat (first | (intro _ _; conv => whnf))
  rename_i q3 hq3
  refine (repeat_spec (k := 24) (x := 7) (sl1 (hset_same _ _ _)) (by omega)).mono ?_
  rintro _ g3 u3 hg3 hu3 ⟨a3, rfl, o3, s3, w3, _⟩
  conv => whnf
  repeat (first | (intro _ _; conv => whnf))
  rename_i q4 hq4
  refine (repeat_spec (k := 8) (x := 8) (sl1 (hset_same _ _ _)) (by omega)).mono ?_
  rintro _ g4 u4 hg4 hu4 ⟨a4, rfl, o4, s4, w4, _⟩
  conv => whnf
  repeat (first | (intro _ _; conv => whnf))
  rename_i rc hrc
  have k12 : Vc.Sub g1 g2 := (hg1.sub_new hq2 (.cells #[.int .i64 9] 3)).trans s2
  have k23 : Vc.Sub g2 g3 := (hg2.sub_new hq3 (.cells #[.int .i64 7] 3)).trans s3
  have k34 : Vc.Sub g3 g4 := (hg3.sub_new hq4 (.cells #[.int .i64 8] 3)).trans s4
  have k4c := hg4.sub_new hrc (.cells #[.slice a1 144 144, .slice a2 112 112, .slice a3 24 24, .slice a4 8 8] 31)
  have k01 : Vc.Sub h g1 := (hd.sub_new hq1 (.cells #[.int .i64 8] 3)).trans s1
  have k0c := k01.trans (k12.trans (k23.trans (k34.trans k4c)))
  refine (concat_spec (qs := [⟨a1, 144, 144, List.replicate 144 8⟩, ⟨a2, 112, 112, List.replicate 112 9⟩, ⟨a3, 24, 24, List.replicate 24 7⟩, ⟨a4, 8, 8, List.replicate 8 8⟩]) (a0 := some ⟨rc, 0, none⟩) (n0 := 4) (c0 := 4) ?_ ?_ (by simp [sizes]) (by decide)).mono ?_
  · refine ⟨rfl, fun _ => ⟨rc, 0, _, _, _, rfl, hset_same _ _ _, ?_⟩⟩
    intro i hi
    simp at hi
    have : i = 0 ∨ i = 1 ∨ i = 2 ∨ i = 3 := by omega
    rcases this with rfl | rfl | rfl | rfl <;> rfl
  · intro q hq
    simp only [List.mem_cons, List.not_mem_nil, or_false] at hq
    rcases hq with rfl | rfl | rfl | rfl
    · exact o1.sl.sub (k12.trans (k23.trans (k34.trans k4c)))
    · exact o2.sl.sub (k23.trans (k34.trans k4c))
    · exact o3.sl.sub (k34.trans k4c)
    · exact o4.sl.sub k4c
  rintro _ g5 u5 hg5 hu5 ⟨a5, n5, c5, rfl, o5, s5, w5⟩
  have e5 : [(⟨a1, 144, 144, List.replicate 144 8⟩ : SV), ⟨a2, 112, 112, List.replicate 112 9⟩, ⟨a3, 24, 24, List.replicate 24 7⟩, ⟨a4, 8, 8, List.replicate 8 8⟩].flatMap (·.l) = fixedL := by
    unfold fixedL
    simp only [List.flatMap_cons, List.flatMap_nil, List.append_nil, List.append_assoc]
  rw [e5] at o5
  conv => whnf
  repeat (first | (intro _ _; conv => whnf))
  rename_i q6 hq6
  refine (repeat_spec (k := 32) (x := 5) (sl1 (hset_same _ _ _)) (by omega)).mono ?_
  rintro _ g6 u6 hg6 hu6 ⟨a6, rfl, o6, s6, w6, _⟩
  have k56 : Vc.Sub g5 g6 := (hg5.sub_new hq6 (.cells #[.int .i64 5] 3)).trans s6
  have k06 : Vc.Sub h g6 := k0c.trans (s5.trans k56)
  conv => whnf
  refine (block_spec (R.sub k06) hxs hss hmo (o5.sl.sub k56) (o6.sl) fixedL_ok fixedB_ok ⟨by decide +kernel, by decide +kernel⟩ (fun q hq => (parts_ok (Nat.le_refl _) _ 0 (Nat.le_refl _) q hq).fixedC) hs).mono ?_
  rintro _ g7 u7 hg7 hu7 ⟨rfl, hE⟩
  conv => whnf
  refine ⟨rfl, ?_⟩
  rcases hE with ⟨hf, V⟩ | ⟨hf, p2, o2, V⟩
  · exact .inl ⟨hf, RdTo.step hd (FrW.of_sub k06) (.inl rfl) (by omega) V⟩
  · exact .inr ⟨hf, p2, o2, RdTo.step hd (FrW.of_sub k06) (.inl rfl) (by omega) V⟩
theorem byteBits_at {l : List UInt8} {j : Nat} {y : UInt8} (h : l[j]? = some y) : byteBits l = byteBits (l.take j) ++ (bitsL ((y.toNat : Nat) : Int) 8 ++ byteBits (l.drop (j + 1))) := by
  have hj := (List.getElem?_eq_some_iff.1 h).1
  have e : l = l.take j ++ y :: l.drop (j + 1) := by
    conv => lhs; rw [← List.take_append_drop j l]
    rw [List.drop_eq_getElem_cons hj]
    rw [List.getElem?_eq_getElem hj] at h
    rw [Option.some.inj h]
  conv => lhs; rw [e]
  unfold byteBits
  rw [List.flatMap_append, List.flatMap_cons]
theorem sBits_at {x s : ByteArray} {P j : Nat} (h : Str x P (sBits s)) (hj : j < s.size) : Str x (P + 8 * j) (bitsL (byteAt s j) 8) := by
  have hjl : j < s.data.toList.length := by rw [Array.length_toList]; exact hj
  unfold sBits at h
  rw [byteBits_at (List.getElem?_eq_getElem hjl)] at h
  have h1 := h.right.left
  rw [byteBits_len, List.length_take, show min j s.data.toList.length = j by omega] at h1
  have h2 := tx_get hj
  unfold tx at h2
  rw [List.getElem?_map, List.getElem?_eq_getElem hjl] at h2
  rw [← Option.some.inj h2]
  exact h1
theorem stored_spec {h : Heap} {t r : Nat} {d : Option Nat} {x s : ByteArray} {p q : Nat} {most : Nat} (R : Rd h r d x p [] most 0) (hxs : x.size ≤ 100000000) (hss : s.size ≤ 65535) (hmo : most ≤ 100000000) (hq : q = (p + 7) / 8 * 8) (hp : p ≤ 100000000)
    (hs : Str x q (bitsL (s.size : Nat) 16 ++ (bitsL (65535 - (s.size : Nat)) 16 ++ sBits s))) :
    CallSpec Try.prog 36 #[.pointer (some ⟨r, 0, none⟩)] h t
      (fun v h' t' => v = .tuple #[] ∧ Ends (s.size ≤ most) r h t d x (q + 32 + 8 * s.size) (tx s) most h' t') := by
  refine Go.Vc.spec_of_vc (fn := Try.f36) Try.func36 rfl (by kernel_rfl) (by kernel_rfl) (Nat.le_of_ble_eq_true rfl) ?_
  intro hd
  have hlt := R.lt hd
  have hne := R.ne
  obtain ⟨a, c, hw, o, rfl⟩ := id R
  conv => whnf
  repeat (first | ((with_reducible apply Go.Vc.ld_i); (focus ((repeat (first | with_reducible assumption | with_reducible exact Go.Vc.hset_same _ _ _ | with_reducible refine (Go.Vc.hset_ne _ _ (by omega)).trans ?_)); done)); (focus exact rfl); conv => whnf) | ((with_reducible apply Go.Vc.wr_i64); (focus exact And.intro (by omega) (by omega)); conv => whnf))
  rw [show ((p : Int) + 7) = ((p + 7 : Nat) : Int) by omega]
  refine andnot7 (by omega) ?_
  rw [← hq]
  conv => whnf
  repeat (first | ((with_reducible apply Go.Vc.st_i); (focus ((repeat (first | with_reducible assumption | with_reducible exact Go.Vc.hset_same _ _ _ | with_reducible refine (Go.Vc.hset_ne _ _ (by omega)).trans ?_)); done)); (focus exact rfl); (focus exact rfl); (focus exact rfl); (conv => whnf); intro cA hcA; (first | (simp only [List.setIfInBounds_toArray, List.set_cons_succ, List.set_cons_zero] at hcA; subst hcA) | subst hcA); conv => whnf))
  have R1 : Rd (hset h r (.cells #[.string x, .int .i64 (q : Nat), .slice a ([] : List Int).length c, .int .i64 (most : Nat), .int .i64 0] 77 (0, 0))) r (owner a) x q [] most 0 :=
    ⟨a, c, hset_same _ _ _, Own.fr o fun b y hb hy => by rw [hset_ne _ _ (fun e => hne (by rw [hb, e]))]; exact hy, rfl⟩
  have hd1 := hd.set r (.cells #[.string x, .int .i64 (q : Nat), .slice a ([] : List Int).length c, .int .i64 (most : Nat), .int .i64 0] 77 (0, 0)) t (Nat.le_refl _) hlt
  have f1 : FrW r (owner a) h (hset h r (.cells #[.string x, .int .i64 (q : Nat), .slice a ([] : List Int).length c, .int .i64 (most : Nat), .int .i64 0] 77 (0, 0))) := fun k y h1 h2 h3 => by rw [hset_ne _ _ h1]; exact h3
  refine (number_ok R1 hxs (n := (s.size : Nat)) (m := 16) (by omega) (by omega) hs.left).mono ?_
  rintro _ h2 t2 hd2 ht2 ⟨rfl, d2, R2, f2, dd2, l2⟩
  have hsr := hs.right
  rw [bitsL_len] at hsr
  conv => whnf
  refine (number_ok R2 hxs (n := 65535 - (s.size : Nat)) (m := 16) (by omega) (by omega) hsr.left).mono ?_
  rintro _ h3 t3 hd3 ht3 ⟨rfl, V3⟩
  have V3' := RdTo.step hd f1 (.inl rfl) (Nat.le_refl _) (RdTo.step hd1 f2 dd2 l2 V3)
  obtain ⟨d3, R3, f3, dd3, l3⟩ := id V3'
  obtain ⟨a3, c3, hw3, o3, e3⟩ := id R3
  have hsb := hsr.right
  rw [bitsL_len] at hsb
  conv => whnf
  repeat (first | ((with_reducible apply Go.Vc.ld_i); (focus ((repeat (first | with_reducible assumption | with_reducible exact Go.Vc.hset_same _ _ _ | with_reducible refine (Go.Vc.hset_ne _ _ (by omega)).trans ?_)); done)); (focus exact rfl); conv => whnf) | ((with_reducible apply Go.Vc.wr_i64); (focus exact And.intro (by omega) (by omega)); conv => whnf) | (refine Go.Vc.br_t ?_ ?_; (focus omega); conv => whnf) | (refine Go.Vc.br_f ?_ ?_; (focus omega); conv => whnf))
  refine loop_intro2 (fun (j : Nat) (ok : Bool) => [(0, .pointer (some ⟨r, 0, none⟩)), (2, .int .i64 ((s.size : Nat) - (j : Nat)))])
    (fun j ok h' t' => j ≤ s.size ∧ ((ok = true ∧ j ≤ most ∧ RdTo r h t (owner a) x (q + 32 + 8 * j) ((tx s).take j) most 0 h' t') ∨ (ok = false ∧ ¬ s.size ≤ most ∧ ∃ p2 o2, RdTo r h t (owner a) x p2 o2 most 9 h' t')))
    (fun j ok => if ok then s.size - j + 1 else 0) 0 true ⟨rfl, by show _ = Value.int .i64 ((s.size : Nat) - ((0 : Nat) : Int)); rw [show ((s.size : Nat) : Int) - ((0 : Nat) : Int) = (s.size : Nat) by omega]; rfl, trivial⟩ ⟨by omega, .inl ⟨rfl, by omega, V3'⟩⟩ ?_
  rintro j ok e7 g t7 hd7 ⟨hj, (⟨rfl, hjm, d7, R7, f7, dd7, l7⟩ | ⟨rfl, hnf, p2, o2, d7, R7, f7, dd7, l7⟩)⟩
  · obtain ⟨a7, c7, hw7, o7, e7'⟩ := id R7
    conv => whnf
    refine br (fun hb1 => ?_) (fun hb1 => ?_)
    · have hjs : j < s.size := by omega
      have hbr := byteAt_range s j
      conv => whnf
      repeat (first | ((with_reducible apply Go.Vc.ld_i); (focus ((repeat (first | with_reducible assumption | with_reducible exact Go.Vc.hset_same _ _ _ | with_reducible refine (Go.Vc.hset_ne _ _ (by omega)).trans ?_)); done)); (focus exact rfl); conv => whnf) | (refine Go.Vc.br_t ?_ ?_; (focus omega); conv => whnf))
      refine (number_ok R7 hxs (n := byteAt s j) (m := 8) (by omega) (by omega) (by rw [show q + 32 + 8 * j = q + 16 + 16 + 8 * j by omega]; exact sBits_at hsb hjs)).mono ?_
      rintro _ h8 t8 hd8 ht8 ⟨rfl, d8, R8, f8, dd8, l8⟩
      obtain ⟨a8, c8, hw8, o8, e8⟩ := id R8
      conv => whnf
      repeat (first | ((with_reducible apply Go.Vc.ld_i); (focus ((repeat (first | with_reducible assumption | with_reducible exact Go.Vc.hset_same _ _ _ | with_reducible refine (Go.Vc.hset_ne _ _ (by omega)).trans ?_)); done)); (focus exact rfl); conv => whnf) | ((with_reducible apply Go.Vc.wr_u8); (focus exact And.intro (by omega) (by omega)); conv => whnf) | (refine Go.Vc.br_t ?_ ?_; (focus omega); conv => whnf))
      rcases Nat.lt_or_ge j most with hf | hf
      · refine (say_ok R8 (by rw [tx_take_len hj]; exact hf) hmo (byteAt s j)).mono ?_
        rintro _ h9 t9 hd9 ht9 ⟨rfl, V9⟩
        rw [← tx_take hjs, show q + 32 + 8 * j + 8 = q + 32 + 8 * (j + 1) by omega] at V9
        conv => whnf
        repeat (first | ((with_reducible apply Go.Vc.wr_i64); (focus exact And.intro (by omega) (by omega)); conv => whnf))
        exact round_end2 (j + 1) true (by simp; omega) ⟨rfl, by show Value.int .i64 (((s.size : Nat) : Int) - (j : Nat) - 1) = _; rw [show ((s.size : Nat) : Int) - (j : Nat) - 1 = (s.size : Nat) - ((j + 1 : Nat) : Int) by omega], trivial⟩ ⟨by omega, .inl ⟨rfl, by omega, RdTo.step hd f7 dd7 l7 (RdTo.step hd7 f8 dd8 l8 V9)⟩⟩
      · refine (say_full R8 (by rw [tx_take_len hj]; omega) (byteAt s j)).mono ?_
        rintro _ h9 t9 hd9 ht9 ⟨rfl, V9⟩
        conv => whnf
        repeat (first | ((with_reducible apply Go.Vc.wr_i64); (focus exact And.intro (by omega) (by omega)); conv => whnf))
        exact round_end2 (j + 1) false (by simp) ⟨rfl, by show Value.int .i64 (((s.size : Nat) : Int) - (j : Nat) - 1) = _; rw [show ((s.size : Nat) : Int) - (j : Nat) - 1 = (s.size : Nat) - ((j + 1 : Nat) : Int) by omega], trivial⟩ ⟨by omega, .inr ⟨rfl, by omega, _, _, RdTo.step hd f7 dd7 l7 (RdTo.step hd7 f8 dd8 l8 V9)⟩⟩
    · obtain rfl : j = s.size := by omega
      conv => whnf
      have h7 : RdTo r h t (owner a) x (q + 32 + 8 * s.size) ((tx s).take s.size) most 0 g t7 := ⟨d7, R7, f7, dd7, l7⟩
      rw [List.take_of_length_le (by rw [tx_len]; omega)] at h7
      exact ⟨rfl, .inl ⟨hjm, h7⟩⟩
  · obtain ⟨a7, c7, hw7, o7, e7'⟩ := id R7
    conv => whnf
    refine br (fun hb1 => ?_) (fun hb1 => ?_)
    · conv => whnf
      repeat (first | ((with_reducible apply Go.Vc.ld_i); (focus ((repeat (first | with_reducible assumption | with_reducible exact Go.Vc.hset_same _ _ _ | with_reducible refine (Go.Vc.hset_ne _ _ (by omega)).trans ?_)); done)); (focus exact rfl); conv => whnf) | (refine Go.Vc.br_f ?_ ?_; (focus omega); conv => whnf))
      exact ⟨rfl, .inr ⟨hnf, p2, o2, d7, R7, f7, dd7, l7⟩⟩
    · conv => whnf
      exact ⟨rfl, .inr ⟨hnf, p2, o2, d7, R7, f7, dd7, l7⟩⟩
end Go.Proofs.Ytikpfffhcjlcjaa
