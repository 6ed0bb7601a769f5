/- Consistency. -/
import Derived.Test.YtmlcdkckedjdjaaMerkle4
namespace Go.Proofs.Ytmlcdkckedjdjaa
open Go Go.Vc Go.Sha Go.Mk
set_option maxRecDepth 10000
set_option linter.unusedVariables false

theorem consistency_spec {h : Heap} {t : Nat} {a : Option Addr} {n c : Nat} {l : List ByteArray} (s : Sl h a n Value.string l) (hn : n ≤ 65536) (hnc : n ≤ c) (hx : ∀ x ∈ l, x.size ≤ 274877906944) (i : Int) (hi : -9223372036854775808 ≤ i ∧ i ≤ 9223372036854775807) :
    CallSpec Try.prog 16 #[.slice a n c, .int .i64 i] h t (fun v h' t' => ∃ a' m c', v = .tuple #[.slice a' m c', .bool (decide (1 ≤ i ∧ i ≤ n))] ∧
      Own h' 9 a' m c' Value.string (if 1 ≤ i ∧ i ≤ n then con ndB emB l i.toNat true else []) ∧ (∀ b, owner a' = some b → t ≤ b) ∧ Sub h h') := by
  have hll := s.1
  refine Go.Vc.spec_of_vc (fn := Try.f16) Try.func16 rfl (by kernel_rfl) (by kernel_rfl) (Nat.le_of_ble_eq_true rfl) ?_
  intro hd
  by_cases hok : 1 ≤ i ∧ i ≤ n
  · obtain ⟨i0, rfl⟩ : ∃ i0 : Nat, i = i0 := ⟨i.toNat, by omega⟩
    have hI : 1 ≤ i0 ∧ i0 ≤ n := by omega
    conv => whnf
    repeat (first | (refine Go.Vc.br_f ?_ ?_; (focus omega); conv => whnf))
    refine loop_intro8 (fun (a1 : Option Addr) (c1 : Nat) (l1 : List ByteArray) (i1 : Nat) (w : Bool) (a2 : Option Addr) (c2 : Nat) (out : List ByteArray) => [(0, .slice a1 l1.length c1), (1, .int .i64 (i1 : Nat)), (6, .slice a2 out.length c2), (7, .bool w)])
      (fun a1 c1 l1 i1 w a2 c2 out h' t' => t ≤ t' ∧ Sl h a1 l1.length Value.string l1 ∧ l1.length ≤ c1 ∧ 1 ≤ i1 ∧ i1 ≤ l1.length ∧ out.length + l1.length ≤ n ∧ (∀ x ∈ l1, x ∈ l) ∧ Own h' 9 a2 out.length c2 Value.string out ∧ con ndB emB l i0 true = con ndB emB l1 i1 w ++ out.reverse ∧ (∀ b, owner a2 = some b → t ≤ b) ∧ Sub h h') (fun _ _ l1 _ _ _ _ _ => l1.length) a c l i0 true none 0 [] ⟨by rw [hll]; rfl, rfl, rfl, rfl, trivial⟩
      ⟨by omega, by rw [hll]; exact s, by omega, by omega, by omega, by simp [hll], fun x hx => hx, Own.nil _ _ _, by simp, (fun b hb => by cases hb), Sub.refl _⟩ ?_
    rintro a1 c1 l1 i1 w a2 c2 out g h1 t1 hd1 ⟨ht1, s1, hc1, hi0, hi1, hm1, hx1, o1, hinc, hw1, hs1⟩
    conv => whnf
    refine br (fun hb1 => ?_) (fun hb1 => ?_)
    · conv => whnf
      refine (split_spec l1.length (by omega) (by omega) _ _).mono ?_
      rintro _ _ _ _ _ ⟨rfl, rfl, rfl⟩
      have hp := sp_pos l1.length
      have hlt := sp_lt (n := l1.length) (by omega)
      generalize hk : sp l1.length = k at *
      conv => whnf
      refine br (fun hb2 => ?_) (fun hb2 => ?_)
      · rw [con_lo ndB emB (l := l1) (by omega) (by omega) (by rw [hk]; omega), hk] at hinc
        refine Go.Vc.draw_intro [⟨0, false, true, false, 0⟩, ⟨1, false, false, false, 0⟩, ⟨2, false, false, false, 0⟩, ⟨3, false, false, false, 6⟩, ⟨7, false, true, false, 0⟩, ⟨8, false, true, false, 0⟩, ⟨9, false, true, false, 384⟩, ⟨4, true, false, true, 14⟩, ⟨5, true, false, true, 30⟩, ⟨6, true, false, true, 63⟩, ⟨10, false, false, false, 127⟩, ⟨11, false, false, false, 2047⟩] (hs := h) (hsub := hs1) (hm := by kernel_rfl) (hpl := by kernel_rfl) ?_
        conv => whnf
        conv => whnf
        repeat (first | ((with_reducible refine And.intro (And.intro ?_ ?_) ?_); (focus omega); (focus omega); conv => whnf) | (intro _ _; conv => whnf))
        rename_i a6 ha6
        rw [Int.toNat_natCast] at ha6 ⊢
        have s6 : Sl h a6 (l1.length - k) Value.string (l1.drop k) := s1.drop (by omega) hc1 ha6
        have s7 : Sl h a1 (l1.take k).length Value.string (l1.take k) := by
          have := s1.take (m := k) (by omega)
          rw [List.length_take, Nat.min_eq_left (by omega)]; exact this
        have hkl : (l1.take k).length = k := by rw [List.length_take]; omega
        refine (root_spec (s6.sub hs1) (by omega) (fun x hx' => hx x (hx1 x (List.mem_of_mem_drop hx')))).mono ?_
        rintro _ h2 t2 hd2 ht2 ⟨rfl, hs2⟩
        conv => whnf
        refine ⟨hs1.trans hs2, ?_⟩
        generalize hR : rt ndB emB (l1.drop k) = R at *
        conv => whnf
        repeat (first | (intro _ _; conv => whnf))
        rename_i r3 hr3
        have hs3 := hd2.sub_new hr3 (.cells #[.string R] 9)
        have hd3 := hd2.set r3 (.cells #[.string R] 9) (r3 + 1) (by omega) (by omega)
        refine ⟨hs1.trans (hs2.trans hs3), ?_⟩
        conv => whnf
        refine app_strs (m := 1) (l2 := [R]) (o1.fr (fun b o _ ho => hs3 b o (hs2 b o ho))) (ar_sl (hset_same _ _ _) rfl) (by omega) hd3 ?_
        intro a7 c7 h7 t7 ho7 ht7 hd7 hk7 how7
        have hs7 : Sub h h7 := by
          intro b o hb
          have hbt := hd b o hb
          rw [hk7 b (by omega) (fun e => by have := hw1 b e; omega), hset_ne _ _ (by omega)]
          exact hs2 b o (hs1 b o hb)
        conv => whnf
        refine ⟨hs7, ?_⟩
        conv => whnf
        refine round_end8 a1 c1 (l1.take k) i1 w a7 c7 (out ++ [R]) (by omega) ⟨by rw [hkl]; rfl, rfl, by rw [List.length_append]; rfl, rfl, trivial⟩
          ⟨by omega, s7, by omega, by omega, by omega, by rw [List.length_append, hkl]; show out.length + 1 + k ≤ n; omega, (fun x hx' => hx1 x (List.mem_of_mem_take hx')), by rw [List.length_append]; exact ho7, by rw [hinc]; simp, ?_, hs7⟩
        · intro b hb
          rcases how7 with e | ⟨b', e, hb'⟩
          · exact hw1 b (by rw [← e]; exact hb)
          · rw [e] at hb; cases hb; omega
      · rw [con_hi ndB emB (l := l1) (by omega) (by omega) (by rw [hk]; omega), hk] at hinc
        refine Go.Vc.draw_intro [⟨0, false, true, false, 0⟩, ⟨1, false, false, false, 0⟩, ⟨2, false, false, false, 0⟩, ⟨3, false, false, false, 6⟩, ⟨7, false, true, false, 0⟩, ⟨8, false, true, false, 0⟩, ⟨9, false, true, false, 384⟩, ⟨10, false, true, false, 0⟩, ⟨11, false, true, false, 0⟩, ⟨12, false, true, false, 3072⟩, ⟨4, true, false, true, 14⟩, ⟨5, true, false, true, 30⟩, ⟨6, true, false, true, 63⟩, ⟨13, false, false, false, 127⟩, ⟨14, false, false, false, 9215⟩, ⟨15, false, false, false, 32767⟩, ⟨16, false, false, false, 65535⟩] (hs := h) (hsub := hs1) (hm := by kernel_rfl) (hpl := by kernel_rfl) ?_
        conv => whnf
        conv => whnf
        repeat (first | ((with_reducible refine And.intro (And.intro ?_ ?_) ?_); (focus omega); (focus omega); conv => whnf) | (intro _ _; conv => whnf) | ((with_reducible apply Go.Vc.wr_i64); (focus exact And.intro (by omega) (by omega)); conv => whnf))
        rw [Int.toNat_natCast] at ⊢
        have s6 : Sl h a1 k Value.string (l1.take k) := s1.take (by omega)
        have hkl : (l1.drop k).length = l1.length - k := by rw [List.length_drop]
        refine (root_spec (s6.sub hs1) (by omega) (fun x hx' => hx x (hx1 x (List.mem_of_mem_take hx')))).mono ?_
        rintro _ h2 t2 hd2 ht2 ⟨rfl, hs2⟩
        conv => whnf
        refine ⟨hs1.trans hs2, ?_⟩
        generalize hR : rt ndB emB (l1.take k) = R at *
        conv => whnf
        repeat (first | (intro _ _; conv => whnf))
        rename_i r3 hr3
        have hs3 := hd2.sub_new hr3 (.cells #[.string R] 9)
        have hd3 := hd2.set r3 (.cells #[.string R] 9) (r3 + 1) (by omega) (by omega)
        refine ⟨hs1.trans (hs2.trans hs3), ?_⟩
        conv => whnf
        refine app_strs (m := 1) (l2 := [R]) (o1.fr (fun b o _ ho => hs3 b o (hs2 b o ho))) (ar_sl (hset_same _ _ _) rfl) (by omega) hd3 ?_
        intro a7 c7 h7 t7 ho7 ht7 hd7 hk7 how7
        have hs7 : Sub h h7 := by
          intro b o hb
          have hbt := hd b o hb
          rw [hk7 b (by omega) (fun e => by have := hw1 b e; omega), hset_ne _ _ (by omega)]
          exact hs2 b o (hs1 b o hb)
        conv => whnf
        refine ⟨hs7, ?_⟩
        conv => whnf
        rename_i a6 ha6
        have ha6 : a6 = cutA a1 k 1 c1 := ha6
        have s7 : Sl h a6 (l1.drop k).length Value.string (l1.drop k) := by rw [hkl]; exact s1.drop (by omega) hc1 ha6
        refine round_end8 a6 (c1 - k) (l1.drop k) (i1 - k) false a7 c7 (out ++ [R]) (by omega) ⟨by rw [hkl]; rfl, by show Value.int .i64 _ = Value.int .i64 _; congr 1; omega, by rw [List.length_append]; rfl, rfl, trivial⟩
          ⟨by omega, s7, by omega, by omega, by omega, by rw [List.length_append, hkl]; show out.length + 1 + (l1.length - k) ≤ n; omega, (fun x hx' => hx1 x (List.mem_of_mem_drop hx')), by rw [List.length_append]; exact ho7, by rw [hinc]; simp, ?_, hs7⟩
        · intro b hb
          rcases how7 with e | ⟨b', e, hb'⟩
          · exact hw1 b (by rw [← e]; exact hb)
          · rw [e] at hb; cases hb; omega
    · have h1l : l1.length ≤ i1 := by omega
      rw [con_ge ndB emB (l := l1) h1l] at hinc
      cases w with
      | true =>
        conv => whnf
        refine (reverse_spec o1 (by omega)).mono ?_
        rintro _ h2 t2 hd2 ht2 ⟨rfl, o2, hk2⟩
        conv => whnf
        refine ⟨a2, _, c2, by rw [decide_eq_true (by omega)], by rw [if_pos (by omega), Int.toNat_natCast, hinc, if_pos rfl, List.nil_append]; exact o2, hw1, ?_⟩
        intro b o hb
        have hbt := hd b o hb
        exact hk2 b o (fun e => by have := hw1 b e; omega) (hs1 b o hb)
      | false =>
        conv => whnf
        refine (root_spec (s1.sub hs1) (by omega) (fun x hx' => hx x (hx1 x hx'))).mono ?_
        rintro _ h2 t2 hd2 ht2 ⟨rfl, hs2⟩
        generalize hR : rt ndB emB l1 = R at *
        conv => whnf
        repeat (first | (intro _ _; conv => whnf))
        rename_i r3 hr3
        have hs3 := hd2.sub_new hr3 (.cells #[.string R] 9)
        have hd3 := hd2.set r3 (.cells #[.string R] 9) (r3 + 1) (by omega) (by omega)
        refine app_strs (m := 1) (l2 := [R]) (o1.fr (fun b o _ ho => hs3 b o (hs2 b o ho))) (ar_sl (hset_same _ _ _) rfl) (by omega) hd3 ?_
        intro a7 c7 h7 t7 ho7 ht7 hd7 hk7 how7
        have hs7 : Sub h h7 := by
          intro b o hb
          have hbt := hd b o hb
          rw [hk7 b (by omega) (fun e => by have := hw1 b e; omega), hset_ne _ _ (by omega)]
          exact hs2 b o (hs1 b o hb)
        have hw7 : ∀ b, owner a7 = some b → t ≤ b := by
          intro b hb
          rcases how7 with e | ⟨b', e, hb'⟩
          · exact hw1 b (by rw [← e]; exact hb)
          · rw [e] at hb; cases hb; omega
        conv => whnf
        refine (reverse_spec ho7 (by omega)).mono ?_
        rintro _ h8 t8 hd8 ht8 ⟨rfl, o8, hk8⟩
        conv => whnf
        refine ⟨a7, _, c7, by rw [decide_eq_true (by omega)], by rw [if_pos (by omega), Int.toNat_natCast, hinc, if_neg (by decide)]; rw [List.reverse_append] at o8; exact o8, hw7, ?_⟩
        intro b o hb
        have hbt := hd b o hb
        exact hk8 b o (fun e => by have := hw7 b e; omega) (hs7 b o hb)
  · by_cases hneg : i < 1
    · conv => whnf
      repeat (first | (refine Go.Vc.br_t ?_ ?_; (focus omega); conv => whnf))
      refine ⟨none, 0, 0, by rw [decide_eq_false hok], by rw [if_neg hok]; exact Own.nil _ _ _, (fun b hb => by cases hb), Sub.refl _⟩
    · conv => whnf
      repeat (first | (refine Go.Vc.br_t ?_ ?_; (focus omega); conv => whnf) | (refine Go.Vc.br_f ?_ ?_; (focus omega); conv => whnf))
      refine ⟨none, 0, 0, by rw [decide_eq_false hok], by rw [if_neg hok]; exact Own.nil _ _ _, (fun b hb => by cases hb), Sub.refl _⟩
end Go.Proofs.Ytmlcdkckedjdjaa
