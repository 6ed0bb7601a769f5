import Derived.Test.YtlkpgjicpjjlcaaGreatDoorMerkleAll
/- Reverse; our Inclusion and way, Included. -/
set_option linter.unusedVariables false
set_option linter.unusedSimpArgs false
namespace Go.Proofs.YtlkpgjicpjjlcaaGreatDoor
open Go Go.Vc Go.Sha Go.Mk
set_option maxRecDepth 10000
set_option linter.unusedVariables false

/-- The first i and the last i are turned. -/
def Half (l m : List ByteArray) (i : Nat) : Prop := m.length = l.length ∧ ∀ k, k < l.length → m[k]? = if k < i ∨ l.length - i ≤ k then l[l.length - 1 - k]? else l[k]?
theorem Half.zero (l : List ByteArray) : Half l l 0 := ⟨rfl, fun k hk => by rw [if_neg (by omega)]⟩
theorem Half.done {l m : List ByteArray} {i : Nat} (h : Half l m i) (hi : l.length ≤ 2 * i + 1) : m = l.reverse := by
  apply List.ext_getElem?
  intro k
  by_cases hk : k < l.length
  · rw [h.2 k hk, List.getElem?_reverse hk]
    split
    · rfl
    · rw [show l.length - 1 - k = k from by omega]
  · rw [List.getElem?_eq_none (by rw [h.1]; omega), List.getElem?_eq_none (by rw [List.length_reverse]; omega)]
theorem Half.step {l m : List ByteArray} {i : Nat} {x y : ByteArray} (h : Half l m i) (hi : 2 * i + 1 < l.length) (hx : m[i]? = some x) (hy : m[l.length - 1 - i]? = some y) : Half l ((m.set i y).set (l.length - 1 - i) x) (i + 1) := by
  refine ⟨by rw [List.length_set, List.length_set]; exact h.1, ?_⟩
  intro k hk
  have h1 := h.2 i (by omega)
  have h2 := h.2 (l.length - 1 - i) (by omega)
  rw [if_neg (by omega)] at h1 h2
  by_cases e : k = l.length - 1 - i
  · rw [e, List.getElem?_set_self (by rw [List.length_set, h.1]; omega), if_pos (by omega), show l.length - 1 - (l.length - 1 - i) = i from by omega, ← hx, h1]
  · rw [List.getElem?_set_ne (by omega)]
    by_cases e2 : k = i
    · rw [e2, List.getElem?_set_self (by rw [h.1]; omega), if_pos (by omega), ← hy, h2]
    · rw [List.getElem?_set_ne (by omega), h.2 k hk]
      by_cases e3 : k < i ∨ l.length - i ≤ k
      · rw [if_pos e3, if_pos (by omega)]
      · rw [if_neg e3, if_neg (by omega)]

theorem reverse_spec {h : Heap} {t : Nat} {a : Option Addr} {n c : Nat} {l : List ByteArray} (o : Own h 9 a n c Value.string l) (hn : n ≤ 1000000) :
    CallSpec Tryz.prog 57 #[.slice a n c] h t (fun v h' t' => v = .tuple #[] ∧ Own h' 9 a n c Value.string l.reverse ∧ ∀ k x, owner a ≠ some k → h k = some x → h' k = some x) := by
  have hll := o.1
  refine Go.Vc.spec_of_vc (fn := Tryz.f57) Tryz.func57 rfl (by kernel_rfl) (by kernel_rfl) (Nat.le_of_ble_eq_true rfl) ?_
  intro hd
  conv => whnf
  repeat (first | ((with_reducible apply Go.Vc.wr_i64); (focus exact And.intro (by omega) (by omega)); conv => whnf))
  refine loop_intro2 (fun (i : Nat) (m : List ByteArray) => [(0, .slice a n c), (2, .int .i64 (i : Nat)), (3, .int .i64 ((n : Int) - 1 - (i : Nat)))])
    (fun i m h' t' => 2 * i ≤ n + 1 ∧ Own h' 9 a n c Value.string m ∧ Half l m i ∧ ∀ k x, owner a ≠ some k → h k = some x → h' k = some x) (fun i m => n - i) 0 l ⟨rfl, rfl, by show Value.int .i64 _ = Value.int .i64 _; congr 1; omega, trivial⟩
    ⟨by omega, o, Half.zero l, fun k x _ hk => hk⟩ ?_
  rintro i m g h1 t1 hd1 ⟨hi, o1, hm, hk1⟩
  conv => whnf
  refine br (fun hb1 => ?_) (fun hb1 => ?_)
  · obtain ⟨b, off, rfl⟩ := o1.at (by omega)
    have hlm := hm.1
    have ei : ((i : Nat) : Int).toNat = i := by omega
    have ej : ((n : Int) - 1 - (i : Nat)).toNat = n - 1 - i := by omega
    obtain ⟨x, hx⟩ : ∃ x, m[i]? = some x := ⟨m[i], List.getElem?_eq_getElem (by omega)⟩
    obtain ⟨y, hy⟩ : ∃ y, m[n - 1 - i]? = some y := ⟨m[n - 1 - i], List.getElem?_eq_getElem (by omega)⟩
    have hci : Cell h1 ⟨b, off + ((i : Nat) : Int).toNat * 1, none⟩ (.string x) := o1.cell (by rw [ei]; exact hx)
    have hcj : Cell h1 ⟨b, off + ((n : Int) - 1 - (i : Nat)).toNat * 1, none⟩ (.string y) := o1.cell (by rw [ej]; exact hy)
    refine Go.Vc.draw_intro [⟨0, false, false, false, 0⟩, ⟨1, false, false, false, 0⟩, ⟨2, false, true, false, 0⟩, ⟨3, false, true, false, 0⟩, ⟨4, false, false, false, 0⟩, ⟨5, false, false, false, 0⟩, ⟨6, false, false, false, 48⟩, ⟨7, false, false, false, 112⟩, ⟨8, false, false, false, 0⟩, ⟨9, false, false, false, 0⟩, ⟨10, false, false, false, 768⟩, ⟨11, false, false, false, 1792⟩, ⟨12, false, false, false, 4083⟩, ⟨13, true, false, true, 8179⟩, ⟨14, false, false, false, 16383⟩, ⟨15, true, false, false, 32767⟩] (hs := (hdel h1 b)) (hsub := (sub_del h1 b)) (hm := by kernel_rfl) (hpl := by kernel_rfl) ?_
    conv => whnf
    conv => whnf
    repeat (first | ((with_reducible apply Go.Vc.own_ix); (focus exact And.intro (by omega) (by omega)); conv => whnf) | ((with_reducible apply Go.Vc.cell_i); (focus assumption); conv => whnf))
    obtain ⟨cs, fr, hb2, hsz, hfz, o2⟩ := o1.put (j := ((i : Nat) : Int).toNat) (by omega) y
    refine ⟨rfl, cs, _, fr, hb2, hsz, hfz, ?_⟩
    conv => whnf
    rintro _ rfl
    conv => whnf
    refine ⟨sub_del_set _ _ _, ?_⟩
    conv => whnf
    repeat (first | ((with_reducible apply Go.Vc.own_ix); (focus exact And.intro (by omega) (by omega)); conv => whnf))
    obtain ⟨cs2, fr2, hb3, hsz2, hfz2, o3⟩ := o2.put (j := ((n : Int) - 1 - (i : Nat)).toNat) (by omega) x
    refine ⟨rfl, cs2, _, fr2, hb3, hsz2, hfz2, ?_⟩
    conv => whnf
    rintro _ rfl
    conv => whnf
    repeat (first | ((with_reducible apply Go.Vc.wr_i64); (focus exact And.intro (by omega) (by omega)); conv => whnf))
    have e : (m.set ((i : Nat) : Int).toNat y).set ((n : Int) - 1 - (i : Nat)).toNat x = (m.set i y).set (l.length - 1 - i) x := by rw [ei, ej, hll]
    have hst := hm.step (by omega) hx (by rw [hll]; exact hy)
    rw [← e] at hst
    refine round_end2 (i + 1) ((m.set ((i : Nat) : Int).toNat y).set ((n : Int) - 1 - (i : Nat)).toNat x) (by omega) ⟨rfl, rfl, ?_, trivial⟩ ⟨by omega, o3, hst, ?_⟩
    · show Value.int .i64 _ = Value.int .i64 _
      congr 1; omega
    · intro k z hk hz
      have hkb : k ≠ b := fun e => hk (by rw [e]; rfl)
      rw [hset_ne _ _ hkb, hset_ne _ _ hkb]
      exact hk1 k z hk hz
  · conv => whnf
    rw [hm.done (by omega)] at o1
    exact ⟨rfl, o1, hk1⟩
theorem mapp_strs {h : Heap} {t : Nat} {a xa : Option Addr} {n c xc m : Nat} {l l2 : List ByteArray} {ty : TypeId} (ho : Own h 9 a n c Value.string l) (hx : Sl h xa m Value.string l2) (hb : n + m ≤ 1000000000) (hd : Dom h t) {K : Value → Heap → Nat → Prop}
    (hK : ∀ a' c' h' t', Own h' 9 a' (n + m) c' Value.string (l ++ l2) → t ≤ t' → Dom h' t' → (∀ k, k < t → owner a ≠ some k → h' k = h k) → (owner a' = owner a ∨ ∃ r, owner a' = some r ∧ t ≤ r) → K (.slice a' (n + m) c') h' t') :
    AppVC Tryz.prog #[42, 42] ty (.slice a n c) (.slice xa m xc) K h t :=
  app_vc (f := Value.string) Tryz.underlying42 Tryz.underlying42 rfl (inf := Tryz.types[9]) (z := .string ByteArray.empty) (by kernel_rfl) (by kernel_rfl) (by kernel_rfl) rfl ho ⟨_, _, rfl, hx⟩ (fun _ => rfl) (by show (n + m) * 16 ≤ _; omega) (by omega) (by show 16 ≤ 1000; omega) hd hK

theorem inclusion_spec {h : Heap} {t : Nat} {a : Option Addr} {n c : Nat} {l : List ByteArray} (s : Sl h a n Value.string l) (hn : n ≤ 65536) (hnc : n ≤ c) (hx : ∀ x ∈ l, x.size ≤ 274877906944) (i : Int) (hi : -9223372036854775808 ≤ i ∧ i ≤ 9223372036854775807) :
    CallSpec Tryz.prog 24 #[.slice a n c, .int .i64 i] h t (fun v h' t' => ∃ a' m c', v = .tuple #[.slice a' m c', .bool (decide (0 ≤ i ∧ i < n))] ∧
      Own h' 9 a' m c' Value.string (if 0 ≤ i ∧ i < n then inc ndB emB l i.toNat else []) ∧ (∀ b, owner a' = some b → t ≤ b) ∧ Sub h h') := by
  have hll := s.1
  refine Go.Vc.spec_of_vc (fn := Tryz.f24) Tryz.func24 rfl (by kernel_rfl) (by kernel_rfl) (Nat.le_of_ble_eq_true rfl) ?_
  intro hd
  by_cases hok : 0 ≤ i ∧ i < n
  · obtain ⟨i0, rfl⟩ : ∃ i0 : Nat, i = i0 := ⟨i.toNat, by omega⟩
    have hI : i0 < n := by omega
    conv => whnf
    repeat (first | (refine Go.Vc.br_f ?_ ?_; (focus omega); conv => whnf))
    refine loop_intro7 (fun (a1 : Option Addr) (c1 : Nat) (l1 : List ByteArray) (i1 : Nat) (a2 : Option Addr) (c2 : Nat) (out : List ByteArray) => [(0, .slice a1 l1.length c1), (1, .int .i64 (i1 : Nat)), (6, .slice a2 out.length c2)])
      (fun a1 c1 l1 i1 a2 c2 out h' t' => t ≤ t' ∧ Sl h a1 l1.length Value.string l1 ∧ l1.length ≤ c1 ∧ i1 < l1.length ∧ out.length + l1.length ≤ n ∧ (∀ x ∈ l1, x ∈ l) ∧ Own h' 9 a2 out.length c2 Value.string out ∧ inc ndB emB l i0 = inc ndB emB l1 i1 ++ out.reverse ∧ (∀ b, owner a2 = some b → t ≤ b) ∧ Sub h h') (fun _ _ l1 _ _ _ _ => l1.length) a c l i0 none 0 [] ⟨by rw [hll]; rfl, rfl, rfl, trivial⟩
      ⟨by omega, by rw [hll]; exact s, by omega, by omega, by simp [hll], fun x hx => hx, Own.nil _ _ _, by simp, (fun b hb => by cases hb), Sub.refl _⟩ ?_
    rintro a1 c1 l1 i1 a2 c2 out g h1 t1 hd1 ⟨ht1, s1, hc1, hi1, hm1, hx1, o1, hinc, hw1, hs1⟩
    conv => whnf
    refine br (fun hb1 => ?_) (fun hb1 => ?_)
    · conv => whnf
      refine (split_spec l1.length (by omega) (by omega) _ _).mono ?_
      rintro _ _ _ _ _ ⟨rfl, rfl, rfl⟩
      have hp := sp_pos l1.length
      have hlt := sp_lt (n := l1.length) (by omega)
      generalize hk : sp l1.length = k at *
      conv => whnf
      refine br (fun hb2 => ?_) (fun hb2 => ?_)
      · rw [inc_lt ndB emB (l := l1) (by omega) (by rw [hk]; omega), hk] at hinc
        refine Go.Vc.draw_intro [⟨0, false, true, false, 0⟩, ⟨1, false, false, false, 0⟩, ⟨2, false, false, false, 0⟩, ⟨3, false, false, false, 6⟩, ⟨7, false, true, false, 0⟩, ⟨8, false, true, false, 0⟩, ⟨9, false, true, false, 384⟩, ⟨4, true, false, true, 14⟩, ⟨5, true, false, true, 30⟩, ⟨6, true, false, true, 63⟩, ⟨10, false, false, false, 127⟩, ⟨11, false, false, false, 2047⟩] (hs := h) (hsub := hs1) (hm := by kernel_rfl) (hpl := by kernel_rfl) ?_
        conv => whnf
        conv => whnf
        repeat (first | ((with_reducible refine And.intro (And.intro ?_ ?_) ?_); (focus omega); (focus omega); conv => whnf) | (intro _ _; conv => whnf))
        rename_i a6 ha6
        rw [Int.toNat_natCast] at ha6 ⊢
        have s6 : Sl h a6 (l1.length - k) Value.string (l1.drop k) := s1.drop (by omega) hc1 ha6
        have s7 : Sl h a1 (l1.take k).length Value.string (l1.take k) := by
          have := s1.take (m := k) (by omega)
          rw [List.length_take, Nat.min_eq_left (by omega)]; exact this
        have hkl : (l1.take k).length = k := by rw [List.length_take]; omega
        refine (root_spec (s6.sub hs1) (by omega) (fun x hx' => hx x (hx1 x (List.mem_of_mem_drop hx')))).mono ?_
        rintro _ h2 t2 hd2 ht2 ⟨rfl, hs2⟩
        conv => whnf
        refine ⟨hs1.trans hs2, ?_⟩
        generalize hR : rt ndB emB (l1.drop k) = R at *
        conv => whnf
        repeat (first | (intro _ _; conv => whnf))
        rename_i r3 hr3
        have hs3 := hd2.sub_new hr3 (.cells #[.string R] 9)
        have hd3 := hd2.set r3 (.cells #[.string R] 9) (r3 + 1) (by omega) (by omega)
        refine ⟨hs1.trans (hs2.trans hs3), ?_⟩
        conv => whnf
        refine mapp_strs (m := 1) (l2 := [R]) (o1.fr (fun b o _ ho => hs3 b o (hs2 b o ho))) (ar_sl (hset_same _ _ _) rfl) (by omega) hd3 ?_
        intro a7 c7 h7 t7 ho7 ht7 hd7 hk7 how7
        have hs7 : Sub h h7 := by
          intro b o hb
          have hbt := hd b o hb
          rw [hk7 b (by omega) (fun e => by have := hw1 b e; omega), hset_ne _ _ (by omega)]
          exact hs2 b o (hs1 b o hb)
        conv => whnf
        refine ⟨hs7, ?_⟩
        conv => whnf
        refine round_end7 a1 c1 (l1.take k) i1 a7 c7 (out ++ [R]) (by omega) ⟨by rw [hkl]; rfl, rfl, by rw [List.length_append]; rfl, trivial⟩
          ⟨by omega, s7, by omega, by omega, by rw [List.length_append, hkl]; show out.length + 1 + k ≤ n; omega, (fun x hx' => hx1 x (List.mem_of_mem_take hx')), by rw [List.length_append]; exact ho7, by rw [hinc]; simp, ?_, hs7⟩
        · intro b hb
          rcases how7 with e | ⟨b', e, hb'⟩
          · exact hw1 b (by rw [← e]; exact hb)
          · rw [e] at hb; cases hb; omega
      · rw [inc_ge ndB emB (l := l1) (by omega) (by rw [hk]; omega), hk] at hinc
        refine Go.Vc.draw_intro [⟨0, false, true, false, 0⟩, ⟨1, false, false, false, 0⟩, ⟨2, false, false, false, 0⟩, ⟨3, false, false, false, 6⟩, ⟨7, false, true, false, 0⟩, ⟨8, false, true, false, 0⟩, ⟨9, false, true, false, 384⟩, ⟨10, false, true, false, 0⟩, ⟨11, false, true, false, 0⟩, ⟨12, false, true, false, 3072⟩, ⟨4, true, false, true, 14⟩, ⟨5, true, false, true, 30⟩, ⟨6, true, false, true, 63⟩, ⟨13, false, false, false, 127⟩, ⟨14, false, false, false, 9215⟩, ⟨15, false, false, false, 32767⟩] (hs := h) (hsub := hs1) (hm := by kernel_rfl) (hpl := by kernel_rfl) ?_
        conv => whnf
        conv => whnf
        repeat (first | ((with_reducible refine And.intro (And.intro ?_ ?_) ?_); (focus omega); (focus omega); conv => whnf) | (intro _ _; conv => whnf) | ((with_reducible apply Go.Vc.wr_i64); (focus exact And.intro (by omega) (by omega)); conv => whnf))
        rw [Int.toNat_natCast] at ⊢
        have s6 : Sl h a1 k Value.string (l1.take k) := s1.take (by omega)
        have hkl : (l1.drop k).length = l1.length - k := by rw [List.length_drop]
        refine (root_spec (s6.sub hs1) (by omega) (fun x hx' => hx x (hx1 x (List.mem_of_mem_take hx')))).mono ?_
        rintro _ h2 t2 hd2 ht2 ⟨rfl, hs2⟩
        conv => whnf
        refine ⟨hs1.trans hs2, ?_⟩
        generalize hR : rt ndB emB (l1.take k) = R at *
        conv => whnf
        repeat (first | (intro _ _; conv => whnf))
        rename_i r3 hr3
        have hs3 := hd2.sub_new hr3 (.cells #[.string R] 9)
        have hd3 := hd2.set r3 (.cells #[.string R] 9) (r3 + 1) (by omega) (by omega)
        refine ⟨hs1.trans (hs2.trans hs3), ?_⟩
        conv => whnf
        refine mapp_strs (m := 1) (l2 := [R]) (o1.fr (fun b o _ ho => hs3 b o (hs2 b o ho))) (ar_sl (hset_same _ _ _) rfl) (by omega) hd3 ?_
        intro a7 c7 h7 t7 ho7 ht7 hd7 hk7 how7
        have hs7 : Sub h h7 := by
          intro b o hb
          have hbt := hd b o hb
          rw [hk7 b (by omega) (fun e => by have := hw1 b e; omega), hset_ne _ _ (by omega)]
          exact hs2 b o (hs1 b o hb)
        conv => whnf
        refine ⟨hs7, ?_⟩
        conv => whnf
        rename_i a6 ha6
        have ha6 : a6 = cutA a1 k 1 c1 := ha6
        have s7 : Sl h a6 (l1.drop k).length Value.string (l1.drop k) := by rw [hkl]; exact s1.drop (by omega) hc1 ha6
        refine round_end7 a6 (c1 - k) (l1.drop k) (i1 - k) a7 c7 (out ++ [R]) (by omega) ⟨by rw [hkl]; rfl, by show Value.int .i64 _ = Value.int .i64 _; congr 1; omega, by rw [List.length_append]; rfl, trivial⟩
          ⟨by omega, s7, by omega, by omega, by rw [List.length_append, hkl]; show out.length + 1 + (l1.length - k) ≤ n; omega, (fun x hx' => hx1 x (List.mem_of_mem_drop hx')), by rw [List.length_append]; exact ho7, by rw [hinc]; simp, ?_, hs7⟩
        · intro b hb
          rcases how7 with e | ⟨b', e, hb'⟩
          · exact hw1 b (by rw [← e]; exact hb)
          · rw [e] at hb; cases hb; omega
    · have h1l : l1.length = 1 := by omega
      conv => whnf
      refine (reverse_spec o1 (by omega)).mono ?_
      rintro _ h2 t2 hd2 ht2 ⟨rfl, o2, hk2⟩
      conv => whnf
      refine ⟨a2, _, c2, by rw [decide_eq_true (by omega)], by rw [if_pos (by omega), Int.toNat_natCast, hinc, inc_one ndB emB (l := l1) (by omega), List.nil_append]; exact o2, hw1, ?_⟩
      intro b o hb
      have hbt := hd b o hb
      exact hk2 b o (fun e => by have := hw1 b e; omega) (hs1 b o hb)
  · by_cases hneg : i < 0
    · conv => whnf
      repeat (first | (refine Go.Vc.br_t ?_ ?_; (focus omega); conv => whnf))
      refine ⟨none, 0, 0, by rw [decide_eq_false hok], by rw [if_neg hok]; exact Own.nil _ _ _, (fun b hb => by cases hb), Sub.refl _⟩
    · conv => whnf
      repeat (first | (refine Go.Vc.br_t ?_ ?_; (focus omega); conv => whnf) | (refine Go.Vc.br_f ?_ ?_; (focus omega); conv => whnf))
      refine ⟨none, 0, 0, by rw [decide_eq_false hok], by rw [if_neg hok]; exact Own.nil _ _ _, (fun b hb => by cases hb), Sub.refl _⟩
end Go.Proofs.YtlkpgjicpjjlcaaGreatDoor

/- way, Included. -/
set_option linter.unusedVariables false
set_option linter.unusedSimpArgs false
namespace Go.Proofs.YtlkpgjicpjjlcaaGreatDoor
open Go Go.Vc Go.Sha Go.Mk
set_option maxRecDepth 10000
set_option linter.unusedVariables false

theorem app_turn {h : Heap} {t : Nat} {a xa : Option Addr} {n c xc m : Nat} {l l2 : List Bool} {ty : TypeId} (ho : Own h 111 a n c Value.bool l) (hx : Sl h xa m Value.bool l2) (hb : n + m ≤ 1000000000) (hd : Dom h t) {K : Value → Heap → Nat → Prop}
    (hK : ∀ a' c' h' t', Own h' 111 a' (n + m) c' Value.bool (l ++ l2) → t ≤ t' → Dom h' t' → (∀ k, k < t → owner a ≠ some k → h' k = h k) → (owner a' = owner a ∨ ∃ r, owner a' = some r ∧ t ≤ r) → K (.slice a' (n + m) c') h' t') :
    AppVC Tryz.prog #[109, 109] ty (.slice a n c) (.slice xa m xc) K h t :=
  app_vc (f := Value.bool) Tryz.underlying109 Tryz.underlying109 rfl (inf := Tryz.types[111]) (z := .bool false) (by kernel_rfl) (by kernel_rfl) (by kernel_rfl) rfl ho ⟨_, _, rfl, hx⟩ (fun _ => rfl) (by show (n + m) * 1 ≤ _; omega) (by omega) (by show 1 ≤ 1000; omega) hd hK

theorem way_spec (n i : Nat) (hn : n ≤ 65536) (hi : i < n) (h : Heap) (t : Nat) :
    CallSpec Tryz.prog 58 #[.int .i64 (n : Nat), .int .i64 (i : Nat)] h t (fun v h' t' => ∃ a c, v = .slice a (way n i).length c ∧
      Own h' 111 a (way n i).length c Value.bool (way n i) ∧ (∀ b, owner a = some b → t ≤ b) ∧ Sub h h') := by
  refine Go.Vc.spec_of_vc (fn := Tryz.f58) Tryz.func58 rfl (by kernel_rfl) (by kernel_rfl) (Nat.le_of_ble_eq_true rfl) ?_
  intro hd
  conv => whnf
  refine loop_intro5 (fun (n1 i1 : Nat) (a2 : Option Addr) (c2 : Nat) (out : List Bool) => [(0, .int .i64 (n1 : Nat)), (1, .int .i64 (i1 : Nat)), (4, .slice a2 out.length c2)])
    (fun n1 i1 a2 c2 out h' t' => t ≤ t' ∧ i1 < n1 ∧ out.length + n1 ≤ n ∧ Own h' 111 a2 out.length c2 Value.bool out ∧ way n i = out ++ way n1 i1 ∧ (∀ b, owner a2 = some b → t ≤ b) ∧ Sub h h') (fun n1 _ _ _ _ => n1) n i none 0 [] ⟨rfl, rfl, rfl, trivial⟩
    ⟨by omega, by omega, by simp, Own.nil _ _ _, by simp, (fun b hb => by cases hb), Sub.refl _⟩ ?_
  rintro n1 i1 a2 c2 out g h1 t1 hd1 ⟨ht1, hi1, hm1, o1, hway, hw1, hs1⟩
  conv => whnf
  refine br (fun hb1 => ?_) (fun hb1 => ?_)
  · conv => whnf
    refine (split_spec n1 (by omega) (by omega) _ _).mono ?_
    rintro _ _ _ _ _ ⟨rfl, rfl, rfl⟩
    have hp := sp_pos n1
    have hlt := sp_lt (n := n1) (by omega)
    have wl := way_lt (n := n1) (i := i1) (by omega)
    have wg := way_ge (n := n1) (i := i1) (by omega)
    generalize hk : sp n1 = k at *
    conv => whnf
    refine br (fun hb2 => ?_) (fun hb2 => ?_)
    · rw [wl (by omega)] at hway
      conv => whnf
      repeat (first | (intro _ _; conv => whnf))
      rename_i r3 hr3
      have hs3 := hd1.sub_new hr3 (.cells #[.bool false] 111)
      have hd3 := hd1.set r3 (.cells #[.bool false] 111) (r3 + 1) (by omega) (by omega)
      refine app_turn (m := 1) (l2 := [false]) (o1.fr (fun b o _ ho => hs3 b o ho)) (ar_sl (hset_same _ _ _) rfl) (by omega) hd3 ?_
      intro a7 c7 h7 t7 ho7 ht7 hd7 hk7 how7
      have hs7 : Sub h h7 := by
        intro b o hb
        have hbt := hd b o hb
        rw [hk7 b (by omega) (fun e => by have := hw1 b e; omega), hset_ne _ _ (by omega)]
        exact hs1 b o hb
      have hw7 : ∀ b, owner a7 = some b → t ≤ b := by
        intro b hb
        rcases how7 with e | ⟨b', e, hb'⟩
        · exact hw1 b (by rw [← e]; exact hb)
        · rw [e] at hb; cases hb; omega
      conv => whnf
      refine round_end5 k i1 a7 c7 (out ++ [false]) (by omega) ⟨rfl, rfl, by rw [List.length_append]; rfl, trivial⟩
        ⟨by omega, by omega, by rw [List.length_append]; show out.length + 1 + k ≤ n; omega, by rw [List.length_append]; exact ho7, by rw [hway]; simp, hw7, hs7⟩
    · rw [wg (by omega)] at hway
      conv => whnf
      repeat (first | (intro _ _; conv => whnf))
      rename_i r3 hr3
      have hs3 := hd1.sub_new hr3 (.cells #[.bool true] 111)
      have hd3 := hd1.set r3 (.cells #[.bool true] 111) (r3 + 1) (by omega) (by omega)
      refine app_turn (m := 1) (l2 := [true]) (o1.fr (fun b o _ ho => hs3 b o ho)) (ar_sl (hset_same _ _ _) rfl) (by omega) hd3 ?_
      intro a7 c7 h7 t7 ho7 ht7 hd7 hk7 how7
      have hs7 : Sub h h7 := by
        intro b o hb
        have hbt := hd b o hb
        rw [hk7 b (by omega) (fun e => by have := hw1 b e; omega), hset_ne _ _ (by omega)]
        exact hs1 b o hb
      have hw7 : ∀ b, owner a7 = some b → t ≤ b := by
        intro b hb
        rcases how7 with e | ⟨b', e, hb'⟩
        · exact hw1 b (by rw [← e]; exact hb)
        · rw [e] at hb; cases hb; omega
      conv => whnf
      repeat (first | ((with_reducible apply Go.Vc.wr_i64); (focus exact And.intro (by omega) (by omega)); conv => whnf))
      refine round_end5 (n1 - k) (i1 - k) a7 c7 (out ++ [true]) (by omega) ⟨by show Value.int .i64 _ = Value.int .i64 _; congr 1; omega, by show Value.int .i64 _ = Value.int .i64 _; congr 1; omega, by rw [List.length_append]; rfl, trivial⟩
        ⟨by omega, by omega, by rw [List.length_append]; show out.length + 1 + (n1 - k) ≤ n; omega, by rw [List.length_append]; exact ho7, by rw [hway]; simp, hw7, hs7⟩
  · conv => whnf
    have e : way n i = out := by rw [hway, way_one (n := n1) (by omega), List.append_nil]
    rw [e]
    exact ⟨a2, c2, rfl, o1, hw1, hs1⟩
def incd (root : ByteArray) (n i : Int) (hash : ByteArray) (P : List ByteArray) : Bool :=
  decide (0 ≤ i ∧ i < n) && (decide ((way n.toNat i.toNat).length = P.length) && decide (up ndB (way n.toNat i.toNat).reverse P hash = root))

theorem included_spec (root : ByteArray) (n i : Int) (hn : -9223372036854775808 ≤ n ∧ n ≤ 65536) (hi : -9223372036854775808 ≤ i ∧ i ≤ 9223372036854775807) (hash : ByteArray) (hh : hash.size ≤ 274877906944)
    {h : Heap} {t : Nat} {a : Option Addr} {m c : Nat} {P : List ByteArray} (s : Sl h a m Value.string P) (hm : m ≤ 1000000000) (hx : ∀ x ∈ P, x.size ≤ 274877906944) :
    CallSpec Tryz.prog 27 #[.string root, .int .i64 n, .int .i64 i, .string hash, .slice a m c] h t (fun v h' t' => v = .bool (incd root n i hash P) ∧ Sub h h') := by
  have hPl := s.1
  refine Go.Vc.spec_of_vc (fn := Tryz.f27) Tryz.func27 rfl (by kernel_rfl) (by kernel_rfl) (Nat.le_of_ble_eq_true rfl) ?_
  intro hd
  by_cases hok : 0 ≤ i ∧ i < n
  · obtain ⟨i0, rfl⟩ : ∃ i0 : Nat, i = i0 := ⟨i.toNat, by omega⟩
    obtain ⟨n0, rfl⟩ : ∃ n0 : Nat, n = n0 := ⟨n.toNat, by omega⟩
    unfold incd
    rw [decide_eq_true hok, Bool.true_and, Int.toNat_natCast, Int.toNat_natCast]
    conv => whnf
    repeat (first | (refine Go.Vc.br_f ?_ ?_; (focus omega); conv => whnf))
    refine (way_spec n0 i0 (by omega) (by omega) _ _).mono ?_
    rintro _ h1 t1 hd1 ht1 ⟨ta, tc, rfl, o1, hw1, hs1⟩
    have hwl := way_le 17 n0 i0 (by omega)
    generalize way n0 i0 = ts at *
    conv => whnf
    refine br (fun hb1 => ?_) (fun hb1 => ?_)
    · conv => whnf
      exact ⟨by rw [decide_eq_false (by omega)]; rfl, hs1⟩
    · rw [decide_eq_true (by omega), Bool.true_and]
      conv => whnf
      refine loop_intro2 (fun (k : Nat) (x : ByteArray) => [(0, .string root), (3, .string x), (11, .slice ta ts.length tc), (29, .slice a m c), (30, .int .i64 (m : Nat)), (31, .int .i64 (k : Nat))])
        (fun k x h' t' => k ≤ m ∧ x.size ≤ 274877906944 ∧ up ndB ts.reverse P hash = up ndB (ts.reverse.drop k) (P.drop k) x ∧ Sub h1 h') (fun k _ => m - k) 0 hash ⟨rfl, rfl, rfl, rfl, rfl, rfl, trivial⟩
        ⟨by omega, hh, by simp, Sub.refl _⟩ ?_
      rintro k x g h2 t2 hd2 ⟨hk, hxs, hup, hs2⟩
      have s2 := (s.sub hs1).sub hs2
      have st2 := o1.sl.sub hs2
      conv => whnf
      refine br (fun hb2 => ?_) (fun hb2 => ?_)
      · conv => whnf
        repeat (first | ((with_reducible apply Go.Vc.sl_ix); (focus with_reducible assumption); (focus exact And.intro (by omega) (by omega)); intro xI bI offI hxI hcI; conv => whnf) | ((with_reducible apply Go.Vc.cell_i); (focus assumption); conv => whnf) | ((with_reducible apply Go.Vc.wr_i64); (focus exact And.intro (by omega) (by omega)); conv => whnf))
        obtain ⟨y, rfl⟩ : ∃ y, y = xI := ⟨xI, rfl⟩
        have hy := hxI
        clear hxI
        have hp : P[k]? = some xI := by rw [Int.toNat_natCast] at hxI; exact hxI
        have hpx := hx _ (List.mem_of_getElem? hp)
        have ht : ts.reverse[k]? = some y := by
          rw [List.getElem?_reverse (by omega), ← hy]
          congr 1
          omega
        rw [up_drop ndB (x := x) ht hp] at hup
        cases y with
        | false =>
          conv => whnf
          refine (node_spec x xI hxs hpx _ _).mono ?_
          rintro _ h3 t3 hd3 ht3 ⟨rfl, hs3⟩
          conv => whnf
          repeat (first | ((with_reducible apply Go.Vc.wr_i64); (focus exact And.intro (by omega) (by omega)); conv => whnf))
          refine round_end2 (k + 1) _ (by omega) ⟨rfl, rfl, rfl, rfl, rfl, rfl, trivial⟩ ⟨by omega, nd_le _ (by decide) _ _, hup, hs2.trans hs3⟩
        | true =>
          conv => whnf
          refine (node_spec xI x hpx hxs _ _).mono ?_
          rintro _ h3 t3 hd3 ht3 ⟨rfl, hs3⟩
          conv => whnf
          repeat (first | ((with_reducible apply Go.Vc.wr_i64); (focus exact And.intro (by omega) (by omega)); conv => whnf))
          refine round_end2 (k + 1) _ (by omega) ⟨rfl, rfl, rfl, rfl, rfl, rfl, trivial⟩ ⟨by omega, nd_le _ (by decide) _ _, hup, hs2.trans hs3⟩
      · have hkm : k = m := by omega
        rw [hkm, List.drop_eq_nil_of_le (by rw [List.length_reverse]; omega)] at hup
        have hup : up ndB ts.reverse P hash = x := hup
        rw [hup]
        conv => whnf
        exact ⟨by rw [opq_eq], hs1.trans hs2⟩
  · have e : incd root n i hash P = false := by unfold incd; rw [decide_eq_false hok]; rfl
    rw [e]
    by_cases hneg : i < 0
    · conv => whnf
      repeat (first | (refine Go.Vc.br_t ?_ ?_; (focus omega); conv => whnf))
      exact ⟨rfl, Sub.refl _⟩
    · conv => whnf
      repeat (first | (refine Go.Vc.br_t ?_ ?_; (focus omega); conv => whnf) | (refine Go.Vc.br_f ?_ ?_; (focus omega); conv => whnf))
      exact ⟨rfl, Sub.refl _⟩
end Go.Proofs.YtlkpgjicpjjlcaaGreatDoor

/- Consistency. -/
set_option linter.unusedVariables false
set_option linter.unusedSimpArgs false
namespace Go.Proofs.YtlkpgjicpjjlcaaGreatDoor
open Go Go.Vc Go.Sha Go.Mk
set_option maxRecDepth 10000
set_option linter.unusedVariables false

theorem consistency_spec {h : Heap} {t : Nat} {a : Option Addr} {n c : Nat} {l : List ByteArray} (s : Sl h a n Value.string l) (hn : n ≤ 65536) (hnc : n ≤ c) (hx : ∀ x ∈ l, x.size ≤ 274877906944) (i : Int) (hi : -9223372036854775808 ≤ i ∧ i ≤ 9223372036854775807) :
    CallSpec Tryz.prog 25 #[.slice a n c, .int .i64 i] h t (fun v h' t' => ∃ a' m c', v = .tuple #[.slice a' m c', .bool (decide (1 ≤ i ∧ i ≤ n))] ∧
      Own h' 9 a' m c' Value.string (if 1 ≤ i ∧ i ≤ n then con ndB emB l i.toNat true else []) ∧ (∀ b, owner a' = some b → t ≤ b) ∧ Sub h h') := by
  have hll := s.1
  refine Go.Vc.spec_of_vc (fn := Tryz.f25) Tryz.func25 rfl (by kernel_rfl) (by kernel_rfl) (Nat.le_of_ble_eq_true rfl) ?_
  intro hd
  by_cases hok : 1 ≤ i ∧ i ≤ n
  · obtain ⟨i0, rfl⟩ : ∃ i0 : Nat, i = i0 := ⟨i.toNat, by omega⟩
    have hI : 1 ≤ i0 ∧ i0 ≤ n := by omega
    conv => whnf
    repeat (first | (refine Go.Vc.br_f ?_ ?_; (focus omega); conv => whnf))
    refine loop_intro8 (fun (a1 : Option Addr) (c1 : Nat) (l1 : List ByteArray) (i1 : Nat) (w : Bool) (a2 : Option Addr) (c2 : Nat) (out : List ByteArray) => [(0, .slice a1 l1.length c1), (1, .int .i64 (i1 : Nat)), (6, .slice a2 out.length c2), (7, .bool w)])
      (fun a1 c1 l1 i1 w a2 c2 out h' t' => t ≤ t' ∧ Sl h a1 l1.length Value.string l1 ∧ l1.length ≤ c1 ∧ 1 ≤ i1 ∧ i1 ≤ l1.length ∧ out.length + l1.length ≤ n ∧ (∀ x ∈ l1, x ∈ l) ∧ Own h' 9 a2 out.length c2 Value.string out ∧ con ndB emB l i0 true = con ndB emB l1 i1 w ++ out.reverse ∧ (∀ b, owner a2 = some b → t ≤ b) ∧ Sub h h') (fun _ _ l1 _ _ _ _ _ => l1.length) a c l i0 true none 0 [] ⟨by rw [hll]; rfl, rfl, rfl, rfl, trivial⟩
      ⟨by omega, by rw [hll]; exact s, by omega, by omega, by omega, by simp [hll], fun x hx => hx, Own.nil _ _ _, by simp, (fun b hb => by cases hb), Sub.refl _⟩ ?_
    rintro a1 c1 l1 i1 w a2 c2 out g h1 t1 hd1 ⟨ht1, s1, hc1, hi0, hi1, hm1, hx1, o1, hinc, hw1, hs1⟩
    conv => whnf
    refine br (fun hb1 => ?_) (fun hb1 => ?_)
    · conv => whnf
      refine (split_spec l1.length (by omega) (by omega) _ _).mono ?_
      rintro _ _ _ _ _ ⟨rfl, rfl, rfl⟩
      have hp := sp_pos l1.length
      have hlt := sp_lt (n := l1.length) (by omega)
      generalize hk : sp l1.length = k at *
      conv => whnf
      refine br (fun hb2 => ?_) (fun hb2 => ?_)
      · rw [con_lo ndB emB (l := l1) (by omega) (by omega) (by rw [hk]; omega), hk] at hinc
        refine Go.Vc.draw_intro [⟨0, false, true, false, 0⟩, ⟨1, false, false, false, 0⟩, ⟨2, false, false, false, 0⟩, ⟨3, false, false, false, 6⟩, ⟨7, false, true, false, 0⟩, ⟨8, false, true, false, 0⟩, ⟨9, false, true, false, 384⟩, ⟨4, true, false, true, 14⟩, ⟨5, true, false, true, 30⟩, ⟨6, true, false, true, 63⟩, ⟨10, false, false, false, 127⟩, ⟨11, false, false, false, 2047⟩] (hs := h) (hsub := hs1) (hm := by kernel_rfl) (hpl := by kernel_rfl) ?_
        conv => whnf
        conv => whnf
        repeat (first | ((with_reducible refine And.intro (And.intro ?_ ?_) ?_); (focus omega); (focus omega); conv => whnf) | (intro _ _; conv => whnf))
        rename_i a6 ha6
        rw [Int.toNat_natCast] at ha6 ⊢
        have s6 : Sl h a6 (l1.length - k) Value.string (l1.drop k) := s1.drop (by omega) hc1 ha6
        have s7 : Sl h a1 (l1.take k).length Value.string (l1.take k) := by
          have := s1.take (m := k) (by omega)
          rw [List.length_take, Nat.min_eq_left (by omega)]; exact this
        have hkl : (l1.take k).length = k := by rw [List.length_take]; omega
        refine (root_spec (s6.sub hs1) (by omega) (fun x hx' => hx x (hx1 x (List.mem_of_mem_drop hx')))).mono ?_
        rintro _ h2 t2 hd2 ht2 ⟨rfl, hs2⟩
        conv => whnf
        refine ⟨hs1.trans hs2, ?_⟩
        generalize hR : rt ndB emB (l1.drop k) = R at *
        conv => whnf
        repeat (first | (intro _ _; conv => whnf))
        rename_i r3 hr3
        have hs3 := hd2.sub_new hr3 (.cells #[.string R] 9)
        have hd3 := hd2.set r3 (.cells #[.string R] 9) (r3 + 1) (by omega) (by omega)
        refine ⟨hs1.trans (hs2.trans hs3), ?_⟩
        conv => whnf
        refine mapp_strs (m := 1) (l2 := [R]) (o1.fr (fun b o _ ho => hs3 b o (hs2 b o ho))) (ar_sl (hset_same _ _ _) rfl) (by omega) hd3 ?_
        intro a7 c7 h7 t7 ho7 ht7 hd7 hk7 how7
        have hs7 : Sub h h7 := by
          intro b o hb
          have hbt := hd b o hb
          rw [hk7 b (by omega) (fun e => by have := hw1 b e; omega), hset_ne _ _ (by omega)]
          exact hs2 b o (hs1 b o hb)
        conv => whnf
        refine ⟨hs7, ?_⟩
        conv => whnf
        refine round_end8 a1 c1 (l1.take k) i1 w a7 c7 (out ++ [R]) (by omega) ⟨by rw [hkl]; rfl, rfl, by rw [List.length_append]; rfl, rfl, trivial⟩
          ⟨by omega, s7, by omega, by omega, by omega, by rw [List.length_append, hkl]; show out.length + 1 + k ≤ n; omega, (fun x hx' => hx1 x (List.mem_of_mem_take hx')), by rw [List.length_append]; exact ho7, by rw [hinc]; simp, ?_, hs7⟩
        · intro b hb
          rcases how7 with e | ⟨b', e, hb'⟩
          · exact hw1 b (by rw [← e]; exact hb)
          · rw [e] at hb; cases hb; omega
      · rw [con_hi ndB emB (l := l1) (by omega) (by omega) (by rw [hk]; omega), hk] at hinc
        refine Go.Vc.draw_intro [⟨0, false, true, false, 0⟩, ⟨1, false, false, false, 0⟩, ⟨2, false, false, false, 0⟩, ⟨3, false, false, false, 6⟩, ⟨7, false, true, false, 0⟩, ⟨8, false, true, false, 0⟩, ⟨9, false, true, false, 384⟩, ⟨10, false, true, false, 0⟩, ⟨11, false, true, false, 0⟩, ⟨12, false, true, false, 3072⟩, ⟨4, true, false, true, 14⟩, ⟨5, true, false, true, 30⟩, ⟨6, true, false, true, 63⟩, ⟨13, false, false, false, 127⟩, ⟨14, false, false, false, 9215⟩, ⟨15, false, false, false, 32767⟩, ⟨16, false, false, false, 65535⟩] (hs := h) (hsub := hs1) (hm := by kernel_rfl) (hpl := by kernel_rfl) ?_
        conv => whnf
        conv => whnf
        repeat (first | ((with_reducible refine And.intro (And.intro ?_ ?_) ?_); (focus omega); (focus omega); conv => whnf) | (intro _ _; conv => whnf) | ((with_reducible apply Go.Vc.wr_i64); (focus exact And.intro (by omega) (by omega)); conv => whnf))
        rw [Int.toNat_natCast] at ⊢
        have s6 : Sl h a1 k Value.string (l1.take k) := s1.take (by omega)
        have hkl : (l1.drop k).length = l1.length - k := by rw [List.length_drop]
        refine (root_spec (s6.sub hs1) (by omega) (fun x hx' => hx x (hx1 x (List.mem_of_mem_take hx')))).mono ?_
        rintro _ h2 t2 hd2 ht2 ⟨rfl, hs2⟩
        conv => whnf
        refine ⟨hs1.trans hs2, ?_⟩
        generalize hR : rt ndB emB (l1.take k) = R at *
        conv => whnf
        repeat (first | (intro _ _; conv => whnf))
        rename_i r3 hr3
        have hs3 := hd2.sub_new hr3 (.cells #[.string R] 9)
        have hd3 := hd2.set r3 (.cells #[.string R] 9) (r3 + 1) (by omega) (by omega)
        refine ⟨hs1.trans (hs2.trans hs3), ?_⟩
        conv => whnf
        refine mapp_strs (m := 1) (l2 := [R]) (o1.fr (fun b o _ ho => hs3 b o (hs2 b o ho))) (ar_sl (hset_same _ _ _) rfl) (by omega) hd3 ?_
        intro a7 c7 h7 t7 ho7 ht7 hd7 hk7 how7
        have hs7 : Sub h h7 := by
          intro b o hb
          have hbt := hd b o hb
          rw [hk7 b (by omega) (fun e => by have := hw1 b e; omega), hset_ne _ _ (by omega)]
          exact hs2 b o (hs1 b o hb)
        conv => whnf
        refine ⟨hs7, ?_⟩
        conv => whnf
        rename_i a6 ha6
        have ha6 : a6 = cutA a1 k 1 c1 := ha6
        have s7 : Sl h a6 (l1.drop k).length Value.string (l1.drop k) := by rw [hkl]; exact s1.drop (by omega) hc1 ha6
        refine round_end8 a6 (c1 - k) (l1.drop k) (i1 - k) false a7 c7 (out ++ [R]) (by omega) ⟨by rw [hkl]; rfl, by show Value.int .i64 _ = Value.int .i64 _; congr 1; omega, by rw [List.length_append]; rfl, rfl, trivial⟩
          ⟨by omega, s7, by omega, by omega, by omega, by rw [List.length_append, hkl]; show out.length + 1 + (l1.length - k) ≤ n; omega, (fun x hx' => hx1 x (List.mem_of_mem_drop hx')), by rw [List.length_append]; exact ho7, by rw [hinc]; simp, ?_, hs7⟩
        · intro b hb
          rcases how7 with e | ⟨b', e, hb'⟩
          · exact hw1 b (by rw [← e]; exact hb)
          · rw [e] at hb; cases hb; omega
    · have h1l : l1.length ≤ i1 := by omega
      rw [con_ge ndB emB (l := l1) h1l] at hinc
      cases w with
      | true =>
        conv => whnf
        refine (reverse_spec o1 (by omega)).mono ?_
        rintro _ h2 t2 hd2 ht2 ⟨rfl, o2, hk2⟩
        conv => whnf
        refine ⟨a2, _, c2, by rw [decide_eq_true (by omega)], by rw [if_pos (by omega), Int.toNat_natCast, hinc, if_pos rfl, List.nil_append]; exact o2, hw1, ?_⟩
        intro b o hb
        have hbt := hd b o hb
        exact hk2 b o (fun e => by have := hw1 b e; omega) (hs1 b o hb)
      | false =>
        conv => whnf
        refine (root_spec (s1.sub hs1) (by omega) (fun x hx' => hx x (hx1 x hx'))).mono ?_
        rintro _ h2 t2 hd2 ht2 ⟨rfl, hs2⟩
        generalize hR : rt ndB emB l1 = R at *
        conv => whnf
        repeat (first | (intro _ _; conv => whnf))
        rename_i r3 hr3
        have hs3 := hd2.sub_new hr3 (.cells #[.string R] 9)
        have hd3 := hd2.set r3 (.cells #[.string R] 9) (r3 + 1) (by omega) (by omega)
        refine mapp_strs (m := 1) (l2 := [R]) (o1.fr (fun b o _ ho => hs3 b o (hs2 b o ho))) (ar_sl (hset_same _ _ _) rfl) (by omega) hd3 ?_
        intro a7 c7 h7 t7 ho7 ht7 hd7 hk7 how7
        have hs7 : Sub h h7 := by
          intro b o hb
          have hbt := hd b o hb
          rw [hk7 b (by omega) (fun e => by have := hw1 b e; omega), hset_ne _ _ (by omega)]
          exact hs2 b o (hs1 b o hb)
        have hw7 : ∀ b, owner a7 = some b → t ≤ b := by
          intro b hb
          rcases how7 with e | ⟨b', e, hb'⟩
          · exact hw1 b (by rw [← e]; exact hb)
          · rw [e] at hb; cases hb; omega
        conv => whnf
        refine (reverse_spec ho7 (by omega)).mono ?_
        rintro _ h8 t8 hd8 ht8 ⟨rfl, o8, hk8⟩
        conv => whnf
        refine ⟨a7, _, c7, by rw [decide_eq_true (by omega)], by rw [if_pos (by omega), Int.toNat_natCast, hinc, if_neg (by decide)]; rw [List.reverse_append] at o8; exact o8, hw7, ?_⟩
        intro b o hb
        have hbt := hd b o hb
        exact hk8 b o (fun e => by have := hw7 b e; omega) (hs7 b o hb)
  · by_cases hneg : i < 1
    · conv => whnf
      repeat (first | (refine Go.Vc.br_t ?_ ?_; (focus omega); conv => whnf))
      refine ⟨none, 0, 0, by rw [decide_eq_false hok], by rw [if_neg hok]; exact Own.nil _ _ _, (fun b hb => by cases hb), Sub.refl _⟩
    · conv => whnf
      repeat (first | (refine Go.Vc.br_t ?_ ?_; (focus omega); conv => whnf) | (refine Go.Vc.br_f ?_ ?_; (focus omega); conv => whnf))
      refine ⟨none, 0, 0, by rw [decide_eq_false hok], by rw [if_neg hok]; exact Own.nil _ _ _, (fun b hb => by cases hb), Sub.refl _⟩
end Go.Proofs.YtlkpgjicpjjlcaaGreatDoor

/- Grown: the closures that share its variables. -/
set_option linter.unusedVariables false
set_option linter.unusedSimpArgs false
namespace Go.Proofs.YtlkpgjicpjjlcaaGreatDoor
open Go Go.Vc Go.Sha Go.Mk
set_option maxRecDepth 10000
set_option linter.unusedVariables false

def climbV (F R B N C : Nat) : Value := .func (.func 59) #[] #[.pointer (some ⟨F, 0, none⟩), .pointer (some ⟨R, 0, none⟩), .pointer (some ⟨B, 0, none⟩), .pointer (some ⟨N, 0, none⟩), .pointer (some ⟨C, 0, none⟩)]
/-- The shared variables. -/
structure Cl (h0 h : Heap) (t0 B N R F C : Nat) (s : CS) : Prop where
  ord : t0 ≤ B ∧ B < N ∧ N < R ∧ R < F ∧ F < C
  hF : h F = some (.cells #[.bool s.fits] 4 (0, 0))
  hR : ∃ a n c, h R = some (.cells #[.slice a n c] 42 (0, 0)) ∧ Sl h0 a n Value.string s.rest ∧ n ≤ c
  hB : h B = some (.cells #[.string s.before] 9 (0, 0))
  hN : h N = some (.cells #[.string s.now] 9 (0, 0))
  hC : h C = some (.cells #[climbV F R B N C] 112 (0, 0))
  dom : Dom h0 t0
  sub : Sub h0 h
  sB : s.before.size ≤ 274877906944
  sN : s.now.size ≤ 274877906944
  sR : s.rest.length ≤ 1000000000 ∧ ∀ x ∈ s.rest, x.size ≤ 274877906944

theorem Cl.mono {h0 h h' : Heap} {t0 B N R F C : Nat} {s : CS} (x : Cl h0 h t0 B N R F C s) (hs : Sub h h') : Cl h0 h' t0 B N R F C s := by
  obtain ⟨ord, hF, ⟨a, n, c, hR, sl, hnc⟩, hB, hN, hC, dom, sub, sB, sN, sR⟩ := x
  exact ⟨ord, hs _ _ hF, ⟨a, n, c, hs _ _ hR, sl, hnc⟩, hs _ _ hB, hs _ _ hN, hs _ _ hC, dom, sub.trans hs, sB, sN, sR⟩
theorem Cl.setF {h0 h : Heap} {t0 B N R F C : Nat} {s : CS} (x : Cl h0 h t0 B N R F C s) (f : Bool) : Cl h0 (hset h F (.cells #[.bool f] 4 (0, 0))) t0 B N R F C { s with fits := f } := by
  obtain ⟨ord, hF, ⟨a, n, c, hR, sl, hnc⟩, hB, hN, hC, dom, sub, sB, sN, sR⟩ := x
  exact ⟨ord, hset_same _ _ _, ⟨a, n, c, (hset_ne _ _ (by omega)).trans hR, sl, hnc⟩, (hset_ne _ _ (by omega)).trans hB, (hset_ne _ _ (by omega)).trans hN, (hset_ne _ _ (by omega)).trans hC, dom, (fun k o hk => (hset_ne _ _ (by have := dom k o hk; omega)).trans (sub k o hk)), sB, sN, sR⟩
theorem Cl.setB {h0 h : Heap} {t0 B N R F C : Nat} {s : CS} (x : Cl h0 h t0 B N R F C s) (v : ByteArray) (hv : v.size ≤ 274877906944) : Cl h0 (hset h B (.cells #[.string v] 9 (0, 0))) t0 B N R F C { s with before := v } := by
  obtain ⟨ord, hF, ⟨a, n, c, hR, sl, hnc⟩, hB, hN, hC, dom, sub, sB, sN, sR⟩ := x
  exact ⟨ord, (hset_ne _ _ (by omega)).trans hF, ⟨a, n, c, (hset_ne _ _ (by omega)).trans hR, sl, hnc⟩, hset_same _ _ _, (hset_ne _ _ (by omega)).trans hN, (hset_ne _ _ (by omega)).trans hC, dom, (fun k o hk => (hset_ne _ _ (by have := dom k o hk; omega)).trans (sub k o hk)), hv, sN, sR⟩
theorem Cl.setN {h0 h : Heap} {t0 B N R F C : Nat} {s : CS} (x : Cl h0 h t0 B N R F C s) (v : ByteArray) (hv : v.size ≤ 274877906944) : Cl h0 (hset h N (.cells #[.string v] 9 (0, 0))) t0 B N R F C { s with now := v } := by
  obtain ⟨ord, hF, ⟨a, n, c, hR, sl, hnc⟩, hB, hN, hC, dom, sub, sB, sN, sR⟩ := x
  exact ⟨ord, (hset_ne _ _ (by omega)).trans hF, ⟨a, n, c, (hset_ne _ _ (by omega)).trans hR, sl, hnc⟩, (hset_ne _ _ (by omega)).trans hB, hset_same _ _ _, (hset_ne _ _ (by omega)).trans hC, dom, (fun k o hk => (hset_ne _ _ (by have := dom k o hk; omega)).trans (sub k o hk)), sB, hv, sR⟩
theorem Cl.setR {h0 h : Heap} {t0 B N R F C : Nat} {s : CS} (x : Cl h0 h t0 B N R F C s) {a1 : Option Addr} {n1 c1 : Nat} {r : List ByteArray} (sl1 : Sl h0 a1 n1 Value.string r) (hnc1 : n1 ≤ c1) (hr : r.length ≤ 1000000000 ∧ ∀ x ∈ r, x.size ≤ 274877906944) : Cl h0 (hset h R (.cells #[.slice a1 n1 c1] 42 (0, 0))) t0 B N R F C { s with rest := r } := by
  obtain ⟨ord, hF, ⟨a, n, c, hR, sl, hnc⟩, hB, hN, hC, dom, sub, sB, sN, sR⟩ := x
  exact ⟨ord, (hset_ne _ _ (by omega)).trans hF, ⟨a1, n1, c1, hset_same _ _ _, sl1, hnc1⟩, (hset_ne _ _ (by omega)).trans hB, (hset_ne _ _ (by omega)).trans hN, (hset_ne _ _ (by omega)).trans hC, dom, (fun k o hk => (hset_ne _ _ (by have := dom k o hk; omega)).trans (sub k o hk)), sB, sN, hr⟩
theorem take_spec {h0 h : Heap} {t t0 B N R F C : Nat} {s : CS} (x : Cl h0 h t0 B N R F C s) :
    CallSpec Tryz.prog 60 #[.pointer (some ⟨F, 0, none⟩), .pointer (some ⟨R, 0, none⟩)] h t (fun v h' t' => v = .string (takeS s).1 ∧ Cl h0 h' t0 B N R F C (takeS s).2) := by
  obtain ⟨bef, now, rest, fits⟩ := s
  have X := x
  obtain ⟨ord, hF, ⟨a, n, c, hR, sl, hnc⟩, hB, hN, hC, dom, sub, sB, sN, sR⟩ := x
  simp only at hF hR hB hN sl sB sN sR
  have hsl := sl.1
  have hsl' := sl.sub sub
  refine Go.Vc.spec_of_vc (fn := Tryz.f60) Tryz.func60 rfl (by kernel_rfl) (by kernel_rfl) (Nat.le_of_ble_eq_true rfl) ?_
  intro hd
  cases fits with
  | false =>
    conv => whnf
    repeat (first | ((with_reducible apply Go.Vc.ld_i); (focus ((repeat (first | with_reducible assumption | with_reducible exact Go.Vc.hset_same _ _ _ | with_reducible refine (Go.Vc.hset_ne _ _ (by omega)).trans ?_)); done)); (focus exact rfl); conv => whnf) | ((with_reducible apply Go.Vc.st_i); (focus ((repeat (first | with_reducible assumption | with_reducible exact Go.Vc.hset_same _ _ _ | with_reducible refine (Go.Vc.hset_ne _ _ (by omega)).trans ?_)); done)); (focus exact rfl); (focus exact rfl); (focus exact rfl); (conv => whnf); intro cA hcA; (first | (simp only [List.setIfInBounds_toArray, List.set_cons_succ, List.set_cons_zero] at hcA; subst hcA) | subst hcA); conv => whnf))
    exact ⟨rfl, X.setF false⟩
  | true =>
    conv => whnf
    repeat (first | ((with_reducible apply Go.Vc.ld_i); (focus ((repeat (first | with_reducible assumption | with_reducible exact Go.Vc.hset_same _ _ _ | with_reducible refine (Go.Vc.hset_ne _ _ (by omega)).trans ?_)); done)); (focus exact rfl); conv => whnf) | ((with_reducible apply Go.Vc.st_i); (focus ((repeat (first | with_reducible assumption | with_reducible exact Go.Vc.hset_same _ _ _ | with_reducible refine (Go.Vc.hset_ne _ _ (by omega)).trans ?_)); done)); (focus exact rfl); (focus exact rfl); (focus exact rfl); (conv => whnf); intro cA hcA; (first | (simp only [List.setIfInBounds_toArray, List.set_cons_succ, List.set_cons_zero] at hcA; subst hcA) | subst hcA); conv => whnf))
    refine br (fun hb1 => ?_) (fun hb1 => ?_)
    · obtain ⟨p, r, rfl⟩ : ∃ p r, rest = p :: r := by
        cases rest with
        | nil => simp at hsl; omega
        | cons p r => exact ⟨p, r, rfl⟩
      have eo : opq (decide ((n : Int) > 0)) = true := by rw [opq_eq, decide_eq_true hb1]
      rw [eo]
      have X2 := X.setF true
      have hsl2 := sl.sub X2.sub
      have hlr : r.length + 1 = n := hsl
      refine Go.Vc.draw_intro [⟨0, false, false, false, 0⟩, ⟨1, false, false, false, 1⟩, ⟨2, false, false, false, 3⟩, ⟨3, false, false, false, 0⟩, ⟨4, false, false, false, 8⟩, ⟨5, false, false, false, 7⟩, ⟨6, true, false, false, 63⟩] (hs := (fun _ => none)) (hsub := (fun _ _ h => nomatch h)) (hm := by kernel_rfl) (hpl := by kernel_rfl) ?_
      conv => whnf
      conv => whnf
      repeat (first | ((with_reducible apply Go.Vc.sl_ix); (focus with_reducible assumption); (focus exact And.intro (by omega) (by omega)); intro xI bI offI hxI hcI; conv => whnf) | ((with_reducible refine And.intro (And.intro ?_ ?_) ?_); (focus omega); (focus omega); conv => whnf) | ((with_reducible apply Go.Vc.ld_i); (focus ((repeat (first | with_reducible assumption | with_reducible exact Go.Vc.hset_same _ _ _ | with_reducible refine (Go.Vc.hset_ne _ _ (by omega)).trans ?_)); done)); (focus exact rfl); conv => whnf) | ((with_reducible apply Go.Vc.st_i); (focus ((repeat (first | with_reducible assumption | with_reducible exact Go.Vc.hset_same _ _ _ | with_reducible refine (Go.Vc.hset_ne _ _ (by omega)).trans ?_)); done)); (focus exact rfl); (focus exact rfl); (focus exact rfl); (conv => whnf); intro cA hcA; (first | (simp only [List.setIfInBounds_toArray, List.set_cons_succ, List.set_cons_zero] at hcA; subst hcA) | subst hcA); conv => whnf) | ((with_reducible apply Go.Vc.cell_i); (focus assumption); conv => whnf) | (intro _ _; conv => whnf))
      have e : p = xI := by simpa using hxI
      subst e
      rename_i a6 ha6
      exact ⟨rfl, X2.setR (sl.drop (m := 1) (by omega) hnc ha6) (by omega) ⟨by have := sR.1; simp at this; omega, fun y hy => sR.2 y (List.mem_cons_of_mem _ hy)⟩⟩
    · have hr : rest = [] := List.length_eq_zero_iff.1 (by omega)
      subst hr
      have eo : opq (decide ((n : Int) > 0)) = false := by rw [opq_eq, decide_eq_false hb1]
      rw [eo]
      conv => whnf
      exact ⟨rfl, X.setF false⟩

def oneH (b : Nat) (o : Obj) : Heap := fun k => if k = b then some o else none
theorem oneH_sub {b : Nat} {o : Obj} {h : Heap} (hb : h b = some o) : Sub (oneH b o) h := by
  intro k x hk
  unfold oneH at hk
  split at hk
  · rename_i e; subst e; cases hk; exact hb
  · cases hk
theorem oneH_at (b : Nat) (o : Obj) : oneH b o b = some o := by unfold oneH; rw [if_pos rfl]
theorem climb_spec {h0 : Heap} {t0 B N R F C : Nat} : ∀ (n m : Nat) (w : Bool) (s : CS) (h : Heap) (t : Nat), n ≤ 65536 → 1 ≤ m → m ≤ n → Cl h0 h t0 B N R F C s →
    CallSpec Tryz.prog 59 #[.int .i64 (n : Nat), .int .i64 (m : Nat), .bool w, .pointer (some ⟨F, 0, none⟩), .pointer (some ⟨R, 0, none⟩), .pointer (some ⟨B, 0, none⟩), .pointer (some ⟨N, 0, none⟩), .pointer (some ⟨C, 0, none⟩)] h t
      (fun v h' t' => v = .tuple #[] ∧ Cl h0 h' t0 B N R F C (climb ndB n m w s)) := by
  intro n
  induction n using Nat.strongRecOn with
  | ind n ih =>
    intro m w s h t hn hm hmn X
    refine Go.Vc.spec_of_vc (fn := Tryz.f59) Tryz.func59 rfl (by kernel_rfl) (by kernel_rfl) (Nat.le_of_ble_eq_true rfl) ?_
    intro hd
    have hN := X.hN
    have hB := X.hB
    have hC := X.hC
    have ord := X.ord
    conv => whnf
    refine br (fun hb1 => ?_) (fun hb1 => ?_)
    · rw [climb_ge ndB (by omega)]
      cases w with
      | true =>
        conv => whnf
        exact ⟨rfl, X⟩
      | false =>
        conv => whnf
        refine (take_spec X).mono ?_
        rintro _ h1 t1 hd1 ht1 ⟨rfl, X1⟩
        have hp := takeS_size X.sR.2
        have hB1 := X1.hB
        have hN1 := X1.hN
        conv => whnf
        repeat (first | ((with_reducible apply Go.Vc.ld_i); (focus ((repeat (first | with_reducible assumption | with_reducible exact Go.Vc.hset_same _ _ _ | with_reducible refine (Go.Vc.hset_ne _ _ (by omega)).trans ?_)); done)); (focus exact rfl); conv => whnf) | ((with_reducible apply Go.Vc.st_i); (focus ((repeat (first | with_reducible assumption | with_reducible exact Go.Vc.hset_same _ _ _ | with_reducible refine (Go.Vc.hset_ne _ _ (by omega)).trans ?_)); done)); (focus exact rfl); (focus exact rfl); (focus exact rfl); (conv => whnf); intro cA hcA; (first | (simp only [List.setIfInBounds_toArray, List.set_cons_succ, List.set_cons_zero] at hcA; subst hcA) | subst hcA); conv => whnf))
        exact ⟨rfl, (X1.setB _ hp).setN _ hp⟩
    · conv => whnf
      refine (split_spec n (by omega) (by omega) _ _).mono ?_
      rintro _ _ _ _ _ ⟨rfl, rfl, rfl⟩
      have hp := sp_pos n
      have hlt := sp_lt (n := n) (by omega)
      have cl := climb_lo ndB (n := n) (m := m) (w := w) (s := s) (by omega) (by omega)
      have ch := climb_hi ndB (n := n) (m := m) (w := w) (s := s) (by omega) (by omega)
      generalize hk : sp n = k at *
      conv => whnf
      refine br (fun hb2 => ?_) (fun hb2 => ?_)
      · rw [cl (by omega)]
        conv => whnf
        repeat (first | ((with_reducible apply Go.Vc.ld_i); (focus ((repeat (first | with_reducible assumption | with_reducible exact Go.Vc.hset_same _ _ _ | with_reducible refine (Go.Vc.hset_ne _ _ (by omega)).trans ?_)); done)); (focus exact rfl); conv => whnf))
        refine (ih k (by omega) m w s _ _ (by omega) hm (by omega) X).mono ?_
        rintro _ h1 t1 hd1 ht1 ⟨rfl, X1⟩
        have hN1 := X1.hN
        have hone := oneH_at N (.cells #[.string (climb ndB k m w s).now] 9 (0, 0))
        refine Go.Vc.draw_intro [⟨0, false, true, false, 0⟩, ⟨1, false, false, false, 0⟩, ⟨2, true, false, true, 2⟩, ⟨3, true, false, false, 7⟩, ⟨4, true, false, false, 15⟩] (hs := (oneH N (.cells #[.string (climb ndB k m w s).now] 9 (0, 0)))) (hsub := (oneH_sub hN1)) (hm := by kernel_rfl) (hpl := by kernel_rfl) ?_
        conv => whnf
        conv => whnf
        repeat (first | ((with_reducible apply Go.Vc.ld_i); (focus ((repeat (first | with_reducible assumption | with_reducible exact Go.Vc.hset_same _ _ _ | with_reducible refine (Go.Vc.hset_ne _ _ (by omega)).trans ?_)); done)); (focus exact rfl); conv => whnf))
        refine (take_spec X1).mono ?_
        rintro _ h2 t2 hd2 ht2 ⟨rfl, X2⟩
        have hN2 := X2.hN
        rw [takeS_now] at hN2
        have hp2 := takeS_size X1.sR.2
        conv => whnf
        refine ⟨oneH_sub hN2, ?_⟩
        conv => whnf
        refine (node_spec _ _ X1.sN hp2 _ _).mono ?_
        rintro _ h3 t3 hd3 ht3 ⟨rfl, hs3⟩
        have X3 := X2.mono hs3
        have hN3 := X3.hN
        conv => whnf
        repeat (first | ((with_reducible apply Go.Vc.st_i); (focus ((repeat (first | with_reducible assumption | with_reducible exact Go.Vc.hset_same _ _ _ | with_reducible refine (Go.Vc.hset_ne _ _ (by omega)).trans ?_)); done)); (focus exact rfl); (focus exact rfl); (focus exact rfl); (conv => whnf); intro cA hcA; (first | (simp only [List.setIfInBounds_toArray, List.set_cons_succ, List.set_cons_zero] at hcA; subst hcA) | subst hcA); conv => whnf))
        exact ⟨rfl, X3.setN _ (nd_le _ (by decide) _ _)⟩
      · rw [ch (by omega)]
        conv => whnf
        repeat (first | ((with_reducible apply Go.Vc.ld_i); (focus ((repeat (first | with_reducible assumption | with_reducible exact Go.Vc.hset_same _ _ _ | with_reducible refine (Go.Vc.hset_ne _ _ (by omega)).trans ?_)); done)); (focus exact rfl); conv => whnf) | ((with_reducible apply Go.Vc.wr_i64); (focus exact And.intro (by omega) (by omega)); conv => whnf))
        have e1 : ((n : Int) - (k : Nat)) = ((n - k : Nat) : Int) := by omega
        have e2 : ((m : Int) - (k : Nat)) = ((m - k : Nat) : Int) := by omega
        rw [e1, e2]
        refine (ih (n - k) (by omega) (m - k) false s _ _ (by omega) (by omega) (by omega) X).mono ?_
        rintro _ h1 t1 hd1 ht1 ⟨rfl, X1⟩
        conv => whnf
        refine (take_spec X1).mono ?_
        rintro _ h2 t2 hd2 ht2 ⟨rfl, X2⟩
        have hN2 := X2.hN
        have hB2 := X2.hB
        rw [takeS_now] at hN2
        rw [takeS_before] at hB2
        have hp2 := takeS_size X1.sR.2
        conv => whnf
        refine Go.Vc.draw_intro [⟨0, false, false, false, 0⟩, ⟨1, false, false, false, 0⟩, ⟨3, false, true, false, 0⟩, ⟨4, false, true, false, 0⟩, ⟨2, true, false, true, 3⟩, ⟨5, true, false, false, 31⟩, ⟨6, true, false, false, 63⟩, ⟨7, true, false, false, 127⟩] (hs := h2) (hsub := (Sub.refl _)) (hm := by kernel_rfl) (hpl := by kernel_rfl) ?_
        conv => whnf
        conv => whnf
        repeat (first | ((with_reducible apply Go.Vc.ld_i); (focus ((repeat (first | with_reducible assumption | with_reducible exact Go.Vc.hset_same _ _ _ | with_reducible refine (Go.Vc.hset_ne _ _ (by omega)).trans ?_)); done)); (focus exact rfl); conv => whnf))
        refine (node_spec _ _ hp2 X1.sB _ _).mono ?_
        rintro _ h3 t3 hd3 ht3 ⟨rfl, hs3⟩
        conv => whnf
        refine ⟨hs3, ?_⟩
        conv => whnf
        refine (node_spec _ _ hp2 X1.sN _ _).mono ?_
        rintro _ h4 t4 hd4 ht4 ⟨rfl, hs4⟩
        have X4 := (X2.mono hs3).mono hs4
        have hN4 := X4.hN
        have hB4 := X4.hB
        conv => whnf
        repeat (first | ((with_reducible apply Go.Vc.st_i); (focus ((repeat (first | with_reducible assumption | with_reducible exact Go.Vc.hset_same _ _ _ | with_reducible refine (Go.Vc.hset_ne _ _ (by omega)).trans ?_)); done)); (focus exact rfl); (focus exact rfl); (focus exact rfl); (conv => whnf); intro cA hcA; (first | (simp only [List.setIfInBounds_toArray, List.set_cons_succ, List.set_cons_zero] at hcA; subst hcA) | subst hcA); conv => whnf))
        trace_state
        exact ⟨rfl, (X4.setB _ (nd_le _ (by decide) _ _)).setN _ (nd_le _ (by decide) _ _)⟩
end Go.Proofs.YtlkpgjicpjjlcaaGreatDoor

/- Grown. -/
set_option linter.unusedVariables false
set_option linter.unusedSimpArgs false
namespace Go.Proofs.YtlkpgjicpjjlcaaGreatDoor
open Go Go.Vc Go.Sha Go.Mk
set_option maxRecDepth 10000
set_option linter.unusedVariables false

def endS (old : ByteArray) (m n : Nat) (P : List ByteArray) : CS := climb ndB n m true ⟨old, old, P, true⟩
def grwd (old : ByteArray) (m : Int) (root : ByteArray) (n : Int) (P : List ByteArray) : Bool :=
  decide (1 ≤ m ∧ m ≤ n) && ((endS old m.toNat n.toNat P).fits && (decide ((endS old m.toNat n.toNat P).rest = []) && (decide ((endS old m.toNat n.toNat P).before = old) && decide ((endS old m.toNat n.toNat P).now = root))))
theorem mgrown_spec (old : ByteArray) (hold : old.size ≤ 274877906944) (m : Int) (hm : -9223372036854775808 ≤ m ∧ m ≤ 9223372036854775807) (root : ByteArray) (n : Int) (hn : -9223372036854775808 ≤ n ∧ n ≤ 65536)
    {h : Heap} {t : Nat} {a : Option Addr} {l c : Nat} {P : List ByteArray} (s : Sl h a l Value.string P) (hl : l ≤ 1000000000) (hlc : l ≤ c) (hx : ∀ x ∈ P, x.size ≤ 274877906944) :
    CallSpec Tryz.prog 28 #[.string old, .int .i64 m, .string root, .int .i64 n, .slice a l c] h t (fun v h' t' => v = .bool (grwd old m root n P) ∧ Sub h h') := by
  have hPl := s.1
  refine Go.Vc.spec_of_vc (fn := Tryz.f28) Tryz.func28 rfl (by kernel_rfl) (by kernel_rfl) (Nat.le_of_ble_eq_true rfl) ?_
  intro hd
  by_cases hok : 1 ≤ m ∧ m ≤ n
  · obtain ⟨m0, rfl⟩ : ∃ i0 : Nat, m = i0 := ⟨m.toNat, by omega⟩
    obtain ⟨n0, rfl⟩ : ∃ n0 : Nat, n = n0 := ⟨n.toNat, by omega⟩
    unfold grwd
    rw [decide_eq_true hok, Bool.true_and, Int.toNat_natCast, Int.toNat_natCast]
    conv => whnf
    repeat (first | ((with_reducible apply Go.Vc.ld_i); (focus ((repeat (first | with_reducible assumption | with_reducible exact Go.Vc.hset_same _ _ _ | with_reducible refine (Go.Vc.hset_ne _ _ (by omega)).trans ?_)); done)); (focus exact rfl); conv => whnf) | ((with_reducible apply Go.Vc.st_i); (focus ((repeat (first | with_reducible assumption | with_reducible exact Go.Vc.hset_same _ _ _ | with_reducible refine (Go.Vc.hset_ne _ _ (by omega)).trans ?_)); done)); (focus exact rfl); (focus exact rfl); (focus exact rfl); (conv => whnf); intro cA hcA; (first | (simp only [List.setIfInBounds_toArray, List.set_cons_succ, List.set_cons_zero] at hcA; subst hcA) | subst hcA); conv => whnf) | (intro _ _; conv => whnf) | (refine Go.Vc.br_f ?_ ?_; (focus omega); conv => whnf))
    rename_i B hB N hN R hR F hF C hC
    refine CallSpec.mono (climb_spec (h0 := h) (t0 := t) (B := B) (N := N) (R := R) (F := F) (C := C) n0 m0 true ⟨old, old, P, true⟩ _ _ (by omega) (by omega) (by omega) ?_) ?_
    · refine ⟨by omega, ?_, ⟨a, l, c, ?_, s, hlc⟩, ?_, ?_, hset_same _ _ _, hd, ?_, hold, hold, by show P.length ≤ _; omega, hx⟩
      · (repeat (first | exact hset_same _ _ _ | refine (hset_ne _ _ (by omega)).trans ?_)); done
      · (repeat (first | exact hset_same _ _ _ | refine (hset_ne _ _ (by omega)).trans ?_)); done
      · (repeat (first | exact hset_same _ _ _ | refine (hset_ne _ _ (by omega)).trans ?_)); done
      · (repeat (first | exact hset_same _ _ _ | refine (hset_ne _ _ (by omega)).trans ?_)); done
      · intro k o hk
        have hkt := hd k o hk
        (repeat (first | exact hk | refine (hset_ne _ _ (by omega)).trans ?_)); done
    rintro _ h1 t1 hd1 ht1 ⟨rfl, X1⟩
    have hF1 := X1.hF
    have hB1 := X1.hB
    have hN1 := X1.hN
    obtain ⟨a1, n1, c1, hR1, s1, _⟩ := X1.hR
    have hsub := X1.sub
    have hrl := s1.1
    generalize hS : climb ndB n0 m0 true ⟨old, old, P, true⟩ = S at *
    have hE : endS old m0 n0 P = S := hS
    rw [hE]
    obtain ⟨sb, sn, sr, sf⟩ := S
    simp only at hF1 hB1 hN1 s1 hrl ⊢
    cases sf with
    | false =>
      conv => whnf
      repeat (first | ((with_reducible apply Go.Vc.ld_i); (focus ((repeat (first | with_reducible assumption | with_reducible exact Go.Vc.hset_same _ _ _ | with_reducible refine (Go.Vc.hset_ne _ _ (by omega)).trans ?_)); done)); (focus exact rfl); conv => whnf))
      exact ⟨rfl, hsub⟩
    | true =>
      conv => whnf
      repeat (first | ((with_reducible apply Go.Vc.ld_i); (focus ((repeat (first | with_reducible assumption | with_reducible exact Go.Vc.hset_same _ _ _ | with_reducible refine (Go.Vc.hset_ne _ _ (by omega)).trans ?_)); done)); (focus exact rfl); conv => whnf))
      refine br (fun hb1 => ?_) (fun hb1 => ?_)
      · have hr : sr = [] := List.length_eq_zero_iff.1 (by omega)
        rw [hr, decide_eq_true rfl]
        conv => whnf
        repeat (first | ((with_reducible apply Go.Vc.ld_i); (focus ((repeat (first | with_reducible assumption | with_reducible exact Go.Vc.hset_same _ _ _ | with_reducible refine (Go.Vc.hset_ne _ _ (by omega)).trans ?_)); done)); (focus exact rfl); conv => whnf))
        refine br (fun hb2 => ?_) (fun hb2 => ?_)
        · rw [decide_eq_true hb2]
          conv => whnf
          repeat (first | ((with_reducible apply Go.Vc.ld_i); (focus ((repeat (first | with_reducible assumption | with_reducible exact Go.Vc.hset_same _ _ _ | with_reducible refine (Go.Vc.hset_ne _ _ (by omega)).trans ?_)); done)); (focus exact rfl); conv => whnf))
          exact ⟨by rw [opq_eq]; rfl, hsub⟩
        · rw [decide_eq_false hb2]
          conv => whnf
          exact ⟨rfl, hsub⟩
      · have hr : ¬ sr = [] := by intro e; subst e; simp at hrl; omega
        rw [decide_eq_false hr]
        conv => whnf
        exact ⟨rfl, hsub⟩
  · have e : grwd old m root n P = false := by unfold grwd; rw [decide_eq_false hok]; rfl
    rw [e]
    by_cases hneg : m < 1
    · conv => whnf
      repeat (first | (refine Go.Vc.br_t ?_ ?_; (focus omega); conv => whnf))
      exact ⟨rfl, Sub.refl _⟩
    · conv => whnf
      repeat (first | (refine Go.Vc.br_t ?_ ?_; (focus omega); conv => whnf) | (refine Go.Vc.br_f ?_ ?_; (focus omega); conv => whnf))
      exact ⟨rfl, Sub.refl _⟩
end Go.Proofs.YtlkpgjicpjjlcaaGreatDoor

/- Proofs in plain words: what is taken; two lists compared. -/
set_option linter.unusedVariables false
set_option linter.unusedSimpArgs false
namespace Go.Mk
open Go Go.Vc
theorem many_ge {n m : Nat} {w : Bool} (h : n ≤ m) : many n m w = if w then 0 else 1 := by rw [many, dif_pos h]
theorem many_lo {n m : Nat} {w : Bool} (h : m < n) (h2 : 2 ≤ n) (hk : m ≤ sp n) : many n m w = 1 + many (sp n) m w := by rw [many, dif_neg (by omega), dif_neg (by omega), if_pos hk]
theorem many_hi {n m : Nat} {w : Bool} (h : m < n) (h2 : 2 ≤ n) (hk : ¬ m ≤ sp n) : many n m w = 1 + many (n - sp n) (m - sp n) false := by rw [many, dif_neg (by omega), dif_neg (by omega), if_neg hk]
theorem many_le : ∀ (n m : Nat) (w : Bool), 1 ≤ m → m ≤ n → many n m w ≤ n := by
  intro n
  induction n using Nat.strongRecOn with
  | ind n ih =>
    intro m w hm hmn
    by_cases h : n ≤ m
    · rw [many_ge h]; split <;> omega
    · have h1 := sp_lt (n := n) (by omega)
      have h2 := sp_pos n
      by_cases hk : m ≤ sp n
      · rw [many_lo (by omega) (by omega) hk]
        have := ih (sp n) h1 m w hm hk
        omega
      · rw [many_hi (by omega) (by omega) hk]
        have := ih (n - sp n) (by omega) (m - sp n) false (by omega) (by omega)
        omega
end Go.Mk
namespace Go.Proofs.YtlkpgjicpjjlcaaGreatDoor
open Go Go.Vc Go.Sha Go.Mk
set_option maxRecDepth 20000
set_option linter.unusedVariables false
theorem incd_true {l : List ByteArray} {i : Nat} (hi : i < l.length) : incd (rt ndB emB l) ((l.length : Nat) : Int) ((i : Nat) : Int) l[i] (inc ndB emB l i) = true := by
  unfold incd
  rw [decide_eq_true (by omega), Int.toNat_natCast, Int.toNat_natCast, decide_eq_true (inc_way_length ndB emB _ l i rfl).symm, decide_eq_true (up_inc ndB emB _ l i rfl hi)]
  rfl
theorem grwd_true {l : List ByteArray} {m : Nat} (h1 : 1 ≤ m) (h2 : m ≤ l.length) : grwd (rt ndB emB (l.take m)) ((m : Nat) : Int) (rt ndB emB l) ((l.length : Nat) : Int) (con ndB emB l m true) = true := by
  unfold grwd
  rw [decide_eq_true (by omega), Int.toNat_natCast, Int.toNat_natCast]
  have hP := con_many ndB emB _ l m true rfl
  have e : endS (rt ndB emB (l.take m)) m l.length (con ndB emB l m true) = _ := climb_ok ndB emB (rt ndB emB (l.take m)) l.length m true ⟨rt ndB emB (l.take m), rt ndB emB (l.take m), con ndB emB l m true, true⟩ (con ndB emB l m true) [] h1 h2 rfl (by simp) hP rfl rfl
  rw [e, both_con ndB emB _ l m true _ rfl h1 h2 (fun _ => rfl)]
  simp
theorem rt_bd {l : List ByteArray} (h : ∀ x ∈ l, x.size ≤ 274877906944) : (rt ndB emB l).size ≤ 274877906944 := rt_size ndB emB (nd_le _ (by decide)) (by rw [emB_size]; decide) _ l rfl h
theorem inc_bd : ∀ {l : List ByteArray} {i : Nat}, (∀ x ∈ l, x.size ≤ 274877906944) → ∀ x ∈ inc ndB emB l i, x.size ≤ 274877906944 := by
  have key : ∀ (n : Nat) (l : List ByteArray) (i : Nat), l.length = n → (∀ x ∈ l, x.size ≤ 274877906944) → ∀ x ∈ inc ndB emB l i, x.size ≤ 274877906944 := by
    intro n
    induction n using Nat.strongRecOn with
    | ind n ih =>
      intro l i hl h x hx
      by_cases h2 : l.length < 2
      · rw [inc_one ndB emB h2] at hx; cases hx
      · have h3 := sp_lt (n := l.length) (by omega)
        have h4 := sp_pos l.length
        by_cases hi : i < sp l.length
        · rw [inc_lt ndB emB (by omega) hi] at hx
          rcases List.mem_append.1 hx with hx | hx
          · exact ih (l.take (sp l.length)).length (by rw [List.length_take]; omega) _ _ rfl (fun y hy => h y (List.mem_of_mem_take hy)) x hx
          · rw [List.mem_singleton.1 hx]; exact rt_bd (fun y hy => h y (List.mem_of_mem_drop hy))
        · rw [inc_ge ndB emB (by omega) hi] at hx
          rcases List.mem_append.1 hx with hx | hx
          · exact ih (l.drop (sp l.length)).length (by rw [List.length_drop]; omega) _ _ rfl (fun y hy => h y (List.mem_of_mem_drop hy)) x hx
          · rw [List.mem_singleton.1 hx]; exact rt_bd (fun y hy => h y (List.mem_of_mem_take hy))
  intro l i h
  exact key _ l i rfl h
theorem con_bd : ∀ {l : List ByteArray} {m : Nat} {w : Bool}, (∀ x ∈ l, x.size ≤ 274877906944) → ∀ x ∈ con ndB emB l m w, x.size ≤ 274877906944 := by
  have key : ∀ (n : Nat) (l : List ByteArray) (m : Nat) (w : Bool), l.length = n → (∀ x ∈ l, x.size ≤ 274877906944) → ∀ x ∈ con ndB emB l m w, x.size ≤ 274877906944 := by
    intro n
    induction n using Nat.strongRecOn with
    | ind n ih =>
      intro l m w hl h x hx
      by_cases hm : l.length ≤ m
      · rw [con_ge ndB emB hm] at hx
        cases w with
        | true => cases hx
        | false => rw [List.mem_singleton.1 hx]; exact rt_bd h
      · by_cases h2 : l.length < 2
        · rw [con, dif_neg hm, dif_pos h2] at hx; cases hx
        · have h3 := sp_lt (n := l.length) (by omega)
          have h4 := sp_pos l.length
          by_cases hi : m ≤ sp l.length
          · rw [con_lo ndB emB (by omega) (by omega) hi] at hx
            rcases List.mem_append.1 hx with hx | hx
            · exact ih (l.take (sp l.length)).length (by rw [List.length_take]; omega) _ _ _ rfl (fun y hy => h y (List.mem_of_mem_take hy)) x hx
            · rw [List.mem_singleton.1 hx]; exact rt_bd (fun y hy => h y (List.mem_of_mem_drop hy))
          · rw [con_hi ndB emB (by omega) (by omega) hi] at hx
            rcases List.mem_append.1 hx with hx | hx
            · exact ih (l.drop (sp l.length)).length (by rw [List.length_drop]; omega) _ _ _ rfl (fun y hy => h y (List.mem_of_mem_drop hy)) x hx
            · rw [List.mem_singleton.1 hx]; exact rt_bd (fun y hy => h y (List.mem_of_mem_take hy))
  intro l m w h
  exact key _ l m w rfl h
theorem words_spec {h : Heap} {t : Nat} {a b : Option Addr} {n m c d : Nat} {l k : List ByteArray} (s : Sl h a n Value.string l) (u : Sl h b m Value.string k) (hn : n ≤ 1000000000) (hm : m ≤ 1000000000) :
    CallSpec Tryz.prog 26 #[.slice a n c, .slice b m d] h t (fun v h' t' => v = .bool (decide (l = k)) ∧ Vc.Sub h h') := by
  have hl := s.1
  have hk := u.1
  refine Go.Vc.spec_of_vc (fn := Tryz.f26) Tryz.func26 rfl (by kernel_rfl) (by kernel_rfl) (Nat.le_of_ble_eq_true rfl) ?_
  intro hd
  conv => whnf
  refine br (fun hb1 => ?_) (fun hb1 => ?_)
  · have e : ¬ l = k := by intro e; subst e; omega
    rw [decide_eq_false e]
    conv => whnf
    exact ⟨rfl, Vc.Sub.refl _⟩
  · conv => whnf
    refine loop_intro (fun (i : Nat) => [(0, .slice a n c), (1, .slice b m d), (5, .int .i64 (i : Nat))])
      (fun i h' t' => i ≤ n ∧ l.take i = k.take i ∧ h' = h ∧ t' = t) (fun i => n - i) 0 ⟨rfl, rfl, rfl, trivial⟩ ⟨by omega, rfl, rfl, rfl⟩ ?_
    rintro i g h1 t1 hd1 ⟨hi, hlk, rfl, rfl⟩
    conv => whnf
    refine br (fun hb2 => ?_) (fun hb2 => ?_)
    · refine Go.Vc.draw_intro [⟨0, false, false, false, 0⟩, ⟨1, false, false, false, 0⟩, ⟨2, false, false, false, 3⟩, ⟨3, false, false, false, 7⟩, ⟨4, false, false, false, 0⟩, ⟨5, false, false, false, 0⟩, ⟨6, false, false, false, 48⟩, ⟨7, false, false, false, 112⟩, ⟨8, false, false, false, 255⟩] (hs := (fun _ => none)) (hsub := (fun _ _ h => nomatch h)) (hm := by kernel_rfl) (hpl := by kernel_rfl) ?_
      conv => whnf
      conv => whnf
      repeat (first | ((with_reducible apply Go.Vc.sl_ix); (focus with_reducible assumption); (focus exact And.intro (by omega) (by omega)); intro xI bI offI hxI hcI; conv => whnf) | ((with_reducible apply Go.Vc.cell_i); (focus assumption); conv => whnf))
      obtain ⟨y, rfl⟩ : ∃ y, y = xI := ⟨xI, rfl⟩
      have hy := hxI
      clear hxI
      rw [Int.toNat_natCast] at hxI hy
      have hor : (l[i]? = some xI ∧ k[i]? = some y) ∨ (l[i]? = some y ∧ k[i]? = some xI) := by first | exact .inl ⟨hxI, hy⟩ | exact .inr ⟨hy, hxI⟩
      have hne : xI ≠ y → ¬ l = k := by
        intro e1 e2
        subst e2
        rcases hor with ⟨p, q⟩ | ⟨p, q⟩
        · exact e1 (Option.some.inj (p.symm.trans q))
        · exact e1 (Option.some.inj (q.symm.trans p))
      refine br (fun hb3 => ?_) (fun hb3 => ?_)
      · rw [decide_eq_false (hne hb3)]
        conv => whnf
        exact ⟨rfl, Vc.Sub.refl _⟩
      · have e3 : xI = y := Decidable.not_not.1 hb3
        subst e3
        conv => whnf
        repeat (first | ((with_reducible apply Go.Vc.wr_i64); (focus exact And.intro (by omega) (by omega)); conv => whnf))
        refine round_end (i + 1) (by omega) ⟨rfl, rfl, rfl, trivial⟩ ⟨by omega, ?_, rfl, rfl⟩
        rcases hor with ⟨p, q⟩ | ⟨p, q⟩ <;> rw [List.take_add_one, List.take_add_one, hlk, p, q]
    · have e : l = k := by
        rw [List.take_of_length_le (by omega), List.take_of_length_le (by omega)] at hlk
        exact hlk
      rw [decide_eq_true e]
      conv => whnf
      exact ⟨rfl, Vc.Sub.refl _⟩
end Go.Proofs.YtlkpgjicpjjlcaaGreatDoor
