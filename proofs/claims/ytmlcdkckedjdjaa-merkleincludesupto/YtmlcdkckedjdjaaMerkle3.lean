/- Reverse; our Inclusion and way, Included. -/
import Derived.Test.YtmlcdkckedjdjaaMerkle2
namespace Go.Proofs.Ytmlcdkckedjdjaa
open Go Go.Vc Go.Sha Go.Mk
set_option maxRecDepth 10000
set_option linter.unusedVariables false

/-- The first i and the last i are turned. -/
def Half (l m : List ByteArray) (i : Nat) : Prop := m.length = l.length ∧ ∀ k, k < l.length → m[k]? = if k < i ∨ l.length - i ≤ k then l[l.length - 1 - k]? else l[k]?
theorem Half.zero (l : List ByteArray) : Half l l 0 := ⟨rfl, fun k hk => by rw [if_neg (by omega)]⟩
theorem Half.done {l m : List ByteArray} {i : Nat} (h : Half l m i) (hi : l.length ≤ 2 * i + 1) : m = l.reverse := by
  apply List.ext_getElem?
  intro k
  by_cases hk : k < l.length
  · rw [h.2 k hk, List.getElem?_reverse hk]
    split
    · rfl
    · rw [show l.length - 1 - k = k from by omega]
  · rw [List.getElem?_eq_none (by rw [h.1]; omega), List.getElem?_eq_none (by rw [List.length_reverse]; omega)]
theorem Half.step {l m : List ByteArray} {i : Nat} {x y : ByteArray} (h : Half l m i) (hi : 2 * i + 1 < l.length) (hx : m[i]? = some x) (hy : m[l.length - 1 - i]? = some y) : Half l ((m.set i y).set (l.length - 1 - i) x) (i + 1) := by
  refine ⟨by rw [List.length_set, List.length_set]; exact h.1, ?_⟩
  intro k hk
  have h1 := h.2 i (by omega)
  have h2 := h.2 (l.length - 1 - i) (by omega)
  rw [if_neg (by omega)] at h1 h2
  by_cases e : k = l.length - 1 - i
  · rw [e, List.getElem?_set_self (by rw [List.length_set, h.1]; omega), if_pos (by omega), show l.length - 1 - (l.length - 1 - i) = i from by omega, ← hx, h1]
  · rw [List.getElem?_set_ne (by omega)]
    by_cases e2 : k = i
    · rw [e2, List.getElem?_set_self (by rw [h.1]; omega), if_pos (by omega), ← hy, h2]
    · rw [List.getElem?_set_ne (by omega), h.2 k hk]
      by_cases e3 : k < i ∨ l.length - i ≤ k
      · rw [if_pos e3, if_pos (by omega)]
      · rw [if_neg e3, if_neg (by omega)]

theorem reverse_spec {h : Heap} {t : Nat} {a : Option Addr} {n c : Nat} {l : List ByteArray} (o : Own h 9 a n c Value.string l) (hn : n ≤ 1000000) :
    CallSpec Try.prog 32 #[.slice a n c] h t (fun v h' t' => v = .tuple #[] ∧ Own h' 9 a n c Value.string l.reverse ∧ ∀ k x, owner a ≠ some k → h k = some x → h' k = some x) := by
  have hll := o.1
  refine Go.Vc.spec_of_vc (fn := Try.f32) Try.func32 rfl (by kernel_rfl) (by kernel_rfl) (Nat.le_of_ble_eq_true rfl) ?_
  intro hd
  conv => whnf
  repeat (first | ((with_reducible apply Go.Vc.wr_i64); (focus exact And.intro (by omega) (by omega)); conv => whnf))
  refine loop_intro2 (fun (i : Nat) (m : List ByteArray) => [(0, .slice a n c), (2, .int .i64 (i : Nat)), (3, .int .i64 ((n : Int) - 1 - (i : Nat)))])
    (fun i m h' t' => 2 * i ≤ n + 1 ∧ Own h' 9 a n c Value.string m ∧ Half l m i ∧ ∀ k x, owner a ≠ some k → h k = some x → h' k = some x) (fun i m => n - i) 0 l ⟨rfl, rfl, by show Value.int .i64 _ = Value.int .i64 _; congr 1; omega, trivial⟩
    ⟨by omega, o, Half.zero l, fun k x _ hk => hk⟩ ?_
  rintro i m g h1 t1 hd1 ⟨hi, o1, hm, hk1⟩
  conv => whnf
  refine br (fun hb1 => ?_) (fun hb1 => ?_)
  · obtain ⟨b, off, rfl⟩ := o1.at (by omega)
    have hlm := hm.1
    have ei : ((i : Nat) : Int).toNat = i := by omega
    have ej : ((n : Int) - 1 - (i : Nat)).toNat = n - 1 - i := by omega
    obtain ⟨x, hx⟩ : ∃ x, m[i]? = some x := ⟨m[i], List.getElem?_eq_getElem (by omega)⟩
    obtain ⟨y, hy⟩ : ∃ y, m[n - 1 - i]? = some y := ⟨m[n - 1 - i], List.getElem?_eq_getElem (by omega)⟩
    have hci : Cell h1 ⟨b, off + ((i : Nat) : Int).toNat * 1, none⟩ (.string x) := o1.cell (by rw [ei]; exact hx)
    have hcj : Cell h1 ⟨b, off + ((n : Int) - 1 - (i : Nat)).toNat * 1, none⟩ (.string y) := o1.cell (by rw [ej]; exact hy)
    refine Go.Vc.draw_intro [⟨0, false, false, false, 0⟩, ⟨1, false, false, false, 0⟩, ⟨2, false, true, false, 0⟩, ⟨3, false, true, false, 0⟩, ⟨4, false, false, false, 0⟩, ⟨5, false, false, false, 0⟩, ⟨6, false, false, false, 48⟩, ⟨7, false, false, false, 112⟩, ⟨8, false, false, false, 0⟩, ⟨9, false, false, false, 0⟩, ⟨10, false, false, false, 768⟩, ⟨11, false, false, false, 1792⟩, ⟨12, false, false, false, 4083⟩, ⟨13, true, false, true, 8179⟩, ⟨14, false, false, false, 16383⟩, ⟨15, true, false, false, 32767⟩] (hs := (hdel h1 b)) (hsub := (sub_del h1 b)) (hm := by kernel_rfl) (hpl := by kernel_rfl) ?_
    conv => whnf
    conv => whnf
    repeat (first | ((with_reducible apply Go.Vc.own_ix); (focus exact And.intro (by omega) (by omega)); conv => whnf) | ((with_reducible apply Go.Vc.cell_i); (focus assumption); conv => whnf))
    obtain ⟨cs, fr, hb2, hsz, hfz, o2⟩ := o1.put (j := ((i : Nat) : Int).toNat) (by omega) y
    refine ⟨rfl, cs, _, fr, hb2, hsz, hfz, ?_⟩
    conv => whnf
    rintro _ rfl
    conv => whnf
    refine ⟨sub_del_set _ _ _, ?_⟩
    conv => whnf
    repeat (first | ((with_reducible apply Go.Vc.own_ix); (focus exact And.intro (by omega) (by omega)); conv => whnf))
    obtain ⟨cs2, fr2, hb3, hsz2, hfz2, o3⟩ := o2.put (j := ((n : Int) - 1 - (i : Nat)).toNat) (by omega) x
    refine ⟨rfl, cs2, _, fr2, hb3, hsz2, hfz2, ?_⟩
    conv => whnf
    rintro _ rfl
    conv => whnf
    repeat (first | ((with_reducible apply Go.Vc.wr_i64); (focus exact And.intro (by omega) (by omega)); conv => whnf))
    have e : (m.set ((i : Nat) : Int).toNat y).set ((n : Int) - 1 - (i : Nat)).toNat x = (m.set i y).set (l.length - 1 - i) x := by rw [ei, ej, hll]
    have hst := hm.step (by omega) hx (by rw [hll]; exact hy)
    rw [← e] at hst
    refine round_end2 (i + 1) ((m.set ((i : Nat) : Int).toNat y).set ((n : Int) - 1 - (i : Nat)).toNat x) (by omega) ⟨rfl, rfl, ?_, trivial⟩ ⟨by omega, o3, hst, ?_⟩
    · show Value.int .i64 _ = Value.int .i64 _
      congr 1; omega
    · intro k z hk hz
      have hkb : k ≠ b := fun e => hk (by rw [e]; rfl)
      rw [hset_ne _ _ hkb, hset_ne _ _ hkb]
      exact hk1 k z hk hz
  · conv => whnf
    rw [hm.done (by omega)] at o1
    exact ⟨rfl, o1, hk1⟩
theorem app_strs {h : Heap} {t : Nat} {a xa : Option Addr} {n c xc m : Nat} {l l2 : List ByteArray} {ty : TypeId} (ho : Own h 9 a n c Value.string l) (hx : Sl h xa m Value.string l2) (hb : n + m ≤ 1000000000) (hd : Dom h t) {K : Value → Heap → Nat → Prop}
    (hK : ∀ a' c' h' t', Own h' 9 a' (n + m) c' Value.string (l ++ l2) → t ≤ t' → Dom h' t' → (∀ k, k < t → owner a ≠ some k → h' k = h k) → (owner a' = owner a ∨ ∃ r, owner a' = some r ∧ t ≤ r) → K (.slice a' (n + m) c') h' t') :
    AppVC Try.prog #[24, 24] ty (.slice a n c) (.slice xa m xc) K h t :=
  app_vc (f := Value.string) Try.underlying24 Try.underlying24 rfl (inf := Try.types[9]) (z := .string ByteArray.empty) (by kernel_rfl) (by kernel_rfl) (by kernel_rfl) rfl ho ⟨_, _, rfl, hx⟩ (fun _ => rfl) (by show (n + m) * 16 ≤ _; omega) (by omega) (by show 16 ≤ 1000; omega) hd hK

theorem inclusion_spec {h : Heap} {t : Nat} {a : Option Addr} {n c : Nat} {l : List ByteArray} (s : Sl h a n Value.string l) (hn : n ≤ 65536) (hnc : n ≤ c) (hx : ∀ x ∈ l, x.size ≤ 274877906944) (i : Int) (hi : -9223372036854775808 ≤ i ∧ i ≤ 9223372036854775807) :
    CallSpec Try.prog 13 #[.slice a n c, .int .i64 i] h t (fun v h' t' => ∃ a' m c', v = .tuple #[.slice a' m c', .bool (decide (0 ≤ i ∧ i < n))] ∧
      Own h' 9 a' m c' Value.string (if 0 ≤ i ∧ i < n then inc ndB emB l i.toNat else []) ∧ (∀ b, owner a' = some b → t ≤ b) ∧ Sub h h') := by
  have hll := s.1
  refine Go.Vc.spec_of_vc (fn := Try.f13) Try.func13 rfl (by kernel_rfl) (by kernel_rfl) (Nat.le_of_ble_eq_true rfl) ?_
  intro hd
  by_cases hok : 0 ≤ i ∧ i < n
  · obtain ⟨i0, rfl⟩ : ∃ i0 : Nat, i = i0 := ⟨i.toNat, by omega⟩
    have hI : i0 < n := by omega
    conv => whnf
    repeat (first | (refine Go.Vc.br_f ?_ ?_; (focus omega); conv => whnf))
    refine loop_intro7 (fun (a1 : Option Addr) (c1 : Nat) (l1 : List ByteArray) (i1 : Nat) (a2 : Option Addr) (c2 : Nat) (out : List ByteArray) => [(0, .slice a1 l1.length c1), (1, .int .i64 (i1 : Nat)), (6, .slice a2 out.length c2)])
      (fun a1 c1 l1 i1 a2 c2 out h' t' => t ≤ t' ∧ Sl h a1 l1.length Value.string l1 ∧ l1.length ≤ c1 ∧ i1 < l1.length ∧ out.length + l1.length ≤ n ∧ (∀ x ∈ l1, x ∈ l) ∧ Own h' 9 a2 out.length c2 Value.string out ∧ inc ndB emB l i0 = inc ndB emB l1 i1 ++ out.reverse ∧ (∀ b, owner a2 = some b → t ≤ b) ∧ Sub h h') (fun _ _ l1 _ _ _ _ => l1.length) a c l i0 none 0 [] ⟨by rw [hll]; rfl, rfl, rfl, trivial⟩
      ⟨by omega, by rw [hll]; exact s, by omega, by omega, by simp [hll], fun x hx => hx, Own.nil _ _ _, by simp, (fun b hb => by cases hb), Sub.refl _⟩ ?_
    rintro a1 c1 l1 i1 a2 c2 out g h1 t1 hd1 ⟨ht1, s1, hc1, hi1, hm1, hx1, o1, hinc, hw1, hs1⟩
    conv => whnf
    refine br (fun hb1 => ?_) (fun hb1 => ?_)
    · conv => whnf
      refine (split_spec l1.length (by omega) (by omega) _ _).mono ?_
      rintro _ _ _ _ _ ⟨rfl, rfl, rfl⟩
      have hp := sp_pos l1.length
      have hlt := sp_lt (n := l1.length) (by omega)
      generalize hk : sp l1.length = k at *
      conv => whnf
      refine br (fun hb2 => ?_) (fun hb2 => ?_)
      · rw [inc_lt ndB emB (l := l1) (by omega) (by rw [hk]; omega), hk] at hinc
        refine Go.Vc.draw_intro [⟨0, false, true, false, 0⟩, ⟨1, false, false, false, 0⟩, ⟨2, false, false, false, 0⟩, ⟨3, false, false, false, 6⟩, ⟨7, false, true, false, 0⟩, ⟨8, false, true, false, 0⟩, ⟨9, false, true, false, 384⟩, ⟨4, true, false, true, 14⟩, ⟨5, true, false, true, 30⟩, ⟨6, true, false, true, 63⟩, ⟨10, false, false, false, 127⟩, ⟨11, false, false, false, 2047⟩] (hs := h) (hsub := hs1) (hm := by kernel_rfl) (hpl := by kernel_rfl) ?_
        conv => whnf
        conv => whnf
        repeat (first | ((with_reducible refine And.intro (And.intro ?_ ?_) ?_); (focus omega); (focus omega); conv => whnf) | (intro _ _; conv => whnf))
        rename_i a6 ha6
        rw [Int.toNat_natCast] at ha6 ⊢
        have s6 : Sl h a6 (l1.length - k) Value.string (l1.drop k) := s1.drop (by omega) hc1 ha6
        have s7 : Sl h a1 (l1.take k).length Value.string (l1.take k) := by
          have := s1.take (m := k) (by omega)
          rw [List.length_take, Nat.min_eq_left (by omega)]; exact this
        have hkl : (l1.take k).length = k := by rw [List.length_take]; omega
        refine (root_spec (s6.sub hs1) (by omega) (fun x hx' => hx x (hx1 x (List.mem_of_mem_drop hx')))).mono ?_
        rintro _ h2 t2 hd2 ht2 ⟨rfl, hs2⟩
        conv => whnf
        refine ⟨hs1.trans hs2, ?_⟩
        generalize hR : rt ndB emB (l1.drop k) = R at *
        conv => whnf
        repeat (first | (intro _ _; conv => whnf))
        rename_i r3 hr3
        have hs3 := hd2.sub_new hr3 (.cells #[.string R] 9)
        have hd3 := hd2.set r3 (.cells #[.string R] 9) (r3 + 1) (by omega) (by omega)
        refine ⟨hs1.trans (hs2.trans hs3), ?_⟩
        conv => whnf
        refine app_strs (m := 1) (l2 := [R]) (o1.fr (fun b o _ ho => hs3 b o (hs2 b o ho))) (ar_sl (hset_same _ _ _) rfl) (by omega) hd3 ?_
        intro a7 c7 h7 t7 ho7 ht7 hd7 hk7 how7
        have hs7 : Sub h h7 := by
          intro b o hb
          have hbt := hd b o hb
          rw [hk7 b (by omega) (fun e => by have := hw1 b e; omega), hset_ne _ _ (by omega)]
          exact hs2 b o (hs1 b o hb)
        conv => whnf
        refine ⟨hs7, ?_⟩
        conv => whnf
        refine round_end7 a1 c1 (l1.take k) i1 a7 c7 (out ++ [R]) (by omega) ⟨by rw [hkl]; rfl, rfl, by rw [List.length_append]; rfl, trivial⟩
          ⟨by omega, s7, by omega, by omega, by rw [List.length_append, hkl]; show out.length + 1 + k ≤ n; omega, (fun x hx' => hx1 x (List.mem_of_mem_take hx')), by rw [List.length_append]; exact ho7, by rw [hinc]; simp, ?_, hs7⟩
        · intro b hb
          rcases how7 with e | ⟨b', e, hb'⟩
          · exact hw1 b (by rw [← e]; exact hb)
          · rw [e] at hb; cases hb; omega
      · rw [inc_ge ndB emB (l := l1) (by omega) (by rw [hk]; omega), hk] at hinc
        refine Go.Vc.draw_intro [⟨0, false, true, false, 0⟩, ⟨1, false, false, false, 0⟩, ⟨2, false, false, false, 0⟩, ⟨3, false, false, false, 6⟩, ⟨7, false, true, false, 0⟩, ⟨8, false, true, false, 0⟩, ⟨9, false, true, false, 384⟩, ⟨10, false, true, false, 0⟩, ⟨11, false, true, false, 0⟩, ⟨12, false, true, false, 3072⟩, ⟨4, true, false, true, 14⟩, ⟨5, true, false, true, 30⟩, ⟨6, true, false, true, 63⟩, ⟨13, false, false, false, 127⟩, ⟨14, false, false, false, 9215⟩, ⟨15, false, false, false, 32767⟩] (hs := h) (hsub := hs1) (hm := by kernel_rfl) (hpl := by kernel_rfl) ?_
        conv => whnf
        conv => whnf
        repeat (first | ((with_reducible refine And.intro (And.intro ?_ ?_) ?_); (focus omega); (focus omega); conv => whnf) | (intro _ _; conv => whnf) | ((with_reducible apply Go.Vc.wr_i64); (focus exact And.intro (by omega) (by omega)); conv => whnf))
        rw [Int.toNat_natCast] at ⊢
        have s6 : Sl h a1 k Value.string (l1.take k) := s1.take (by omega)
        have hkl : (l1.drop k).length = l1.length - k := by rw [List.length_drop]
        refine (root_spec (s6.sub hs1) (by omega) (fun x hx' => hx x (hx1 x (List.mem_of_mem_take hx')))).mono ?_
        rintro _ h2 t2 hd2 ht2 ⟨rfl, hs2⟩
        conv => whnf
        refine ⟨hs1.trans hs2, ?_⟩
        generalize hR : rt ndB emB (l1.take k) = R at *
        conv => whnf
        repeat (first | (intro _ _; conv => whnf))
        rename_i r3 hr3
        have hs3 := hd2.sub_new hr3 (.cells #[.string R] 9)
        have hd3 := hd2.set r3 (.cells #[.string R] 9) (r3 + 1) (by omega) (by omega)
        refine ⟨hs1.trans (hs2.trans hs3), ?_⟩
        conv => whnf
        refine app_strs (m := 1) (l2 := [R]) (o1.fr (fun b o _ ho => hs3 b o (hs2 b o ho))) (ar_sl (hset_same _ _ _) rfl) (by omega) hd3 ?_
        intro a7 c7 h7 t7 ho7 ht7 hd7 hk7 how7
        have hs7 : Sub h h7 := by
          intro b o hb
          have hbt := hd b o hb
          rw [hk7 b (by omega) (fun e => by have := hw1 b e; omega), hset_ne _ _ (by omega)]
          exact hs2 b o (hs1 b o hb)
        conv => whnf
        refine ⟨hs7, ?_⟩
        conv => whnf
        rename_i a6 ha6
        have ha6 : a6 = cutA a1 k 1 c1 := ha6
        have s7 : Sl h a6 (l1.drop k).length Value.string (l1.drop k) := by rw [hkl]; exact s1.drop (by omega) hc1 ha6
        refine round_end7 a6 (c1 - k) (l1.drop k) (i1 - k) a7 c7 (out ++ [R]) (by omega) ⟨by rw [hkl]; rfl, by show Value.int .i64 _ = Value.int .i64 _; congr 1; omega, by rw [List.length_append]; rfl, trivial⟩
          ⟨by omega, s7, by omega, by omega, by rw [List.length_append, hkl]; show out.length + 1 + (l1.length - k) ≤ n; omega, (fun x hx' => hx1 x (List.mem_of_mem_drop hx')), by rw [List.length_append]; exact ho7, by rw [hinc]; simp, ?_, hs7⟩
        · intro b hb
          rcases how7 with e | ⟨b', e, hb'⟩
          · exact hw1 b (by rw [← e]; exact hb)
          · rw [e] at hb; cases hb; omega
    · have h1l : l1.length = 1 := by omega
      conv => whnf
      refine (reverse_spec o1 (by omega)).mono ?_
      rintro _ h2 t2 hd2 ht2 ⟨rfl, o2, hk2⟩
      conv => whnf
      refine ⟨a2, _, c2, by rw [decide_eq_true (by omega)], by rw [if_pos (by omega), Int.toNat_natCast, hinc, inc_one ndB emB (l := l1) (by omega), List.nil_append]; exact o2, hw1, ?_⟩
      intro b o hb
      have hbt := hd b o hb
      exact hk2 b o (fun e => by have := hw1 b e; omega) (hs1 b o hb)
  · by_cases hneg : i < 0
    · conv => whnf
      repeat (first | (refine Go.Vc.br_t ?_ ?_; (focus omega); conv => whnf))
      refine ⟨none, 0, 0, by rw [decide_eq_false hok], by rw [if_neg hok]; exact Own.nil _ _ _, (fun b hb => by cases hb), Sub.refl _⟩
    · conv => whnf
      repeat (first | (refine Go.Vc.br_t ?_ ?_; (focus omega); conv => whnf) | (refine Go.Vc.br_f ?_ ?_; (focus omega); conv => whnf))
      refine ⟨none, 0, 0, by rw [decide_eq_false hok], by rw [if_neg hok]; exact Own.nil _ _ _, (fun b hb => by cases hb), Sub.refl _⟩
end Go.Proofs.Ytmlcdkckedjdjaa
