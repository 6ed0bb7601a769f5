/- The reference's Root, path, sub. -/
import Derived.Test.YtmlcdkckedjdjaaMerkle10
namespace Go.Proofs.Ytmlcdkckedjdjaa
open Go Go.Vc Go.Sha Go.Mk
set_option maxRecDepth 10000
set_option linter.unusedVariables false

theorem app_one {h0 h : Heap} {t0 t r : Nat} {a : Option Addr} {n c : Nat} {l : List ByteArray} {R : ByteArray} {ty : TypeId} (hd0 : Dom h0 t0) (ht : t0 ≤ t) (hs : Sub h0 h) (hw : ∀ b, owner a = some b → t0 ≤ b) (hd : Dom h t) (hr : t ≤ r)
    (ho : Own h 9 a n c Value.string l) (hb : n + 1 ≤ 1000000000) {K : Value → Heap → Nat → Prop}
    (hK : ∀ a' c' h' t', Own h' 9 a' (n + 1) c' Value.string (l ++ [R]) → r + 1 ≤ t' → Dom h' t' → Sub h0 h' → (∀ b, owner a' = some b → t0 ≤ b) → (∀ k, k < t → owner a ≠ some k → h' k = h k) → K (.slice a' (n + 1) c') h' t') :
    AppVC Try.prog #[24, 24] ty (.slice a n c) (.slice (some ⟨r, 0, none⟩) 1 1) K (hset h r (.cells #[.string R] 9 (0, 0))) (r + 1) := by
  have hs3 := hd.sub_new hr (.cells #[.string R] 9)
  have hd3 := hd.set r (.cells #[.string R] 9) (r + 1) (by omega) (by omega)
  refine app_strs (m := 1) (l2 := [R]) (ho.fr (fun b o _ hb => hs3 b o hb)) (ar_sl (hset_same _ _ _) rfl) hb hd3 ?_
  intro a7 c7 h7 t7 ho7 ht7 hd7 hk7 how7
  refine hK a7 c7 h7 t7 ho7 ht7 hd7 ?_ ?_ ?_
  · intro b o hb
    have hbt := hd0 b o hb
    rw [hk7 b (by omega) (fun e => by have := hw b e; omega), hset_ne _ _ (by omega)]
    exact hs b o hb
  · intro b hb
    rcases how7 with e | ⟨b', e, hb'⟩
    · exact hw b (by rw [← e]; exact hb)
    · rw [e] at hb; cases hb; omega
  · intro k hk hne
    rw [hk7 k (by omega) hne, hset_ne _ _ (by omega)]

theorem refroot_spec : ∀ (n : Nat) {h : Heap} {t : Nat} {a : Option Addr} {c : Nat} {l : List ByteArray} (s : Sl h a n Value.string l) (hn : n ≤ 65536) (hnc : n ≤ c) (hx : ∀ x ∈ l, x.size ≤ 274877906944),
    CallSpec Try.prog 20 #[.slice a n c] h t (fun v h' t' => v = .string (rt ndB emB l) ∧ Sub h h') := by
  intro n
  induction n using Nat.strongRecOn with
  | ind n ih =>
    intro h t a c l s hn hnc hx
    have hE : emB.size ≤ 274877906944 := by rw [emB_size]; decide
    have hll := s.1
    refine Go.Vc.spec_of_vc (fn := Try.f20) Try.func20 rfl (by kernel_rfl) (by kernel_rfl) (Nat.le_of_ble_eq_true rfl) ?_
    intro hd
    conv => whnf
    refine br (fun hb1 => ?_) (fun hb1 => ?_)
    · have : l = [] := List.length_eq_zero_iff.1 (by omega)
      subst this
      conv => whnf
      refine (refOne_spec ByteArray.empty (by decide) _ _).mono ?_
      rintro _ h2 t2 hd2 ht2 ⟨rfl, hs2⟩
      conv => whnf
      exact ⟨by rw [rt_nil]; rfl, hs2⟩
    · conv => whnf
      refine br (fun hb2 => ?_) (fun hb2 => ?_)
      · have h1 : n = 1 := by omega
        obtain ⟨x, rfl⟩ : ∃ x, l = [x] := List.length_eq_one_iff.1 (by omega)
        conv => whnf
        repeat (first | ((with_reducible apply Go.Vc.sl_ix); (focus with_reducible assumption); (focus exact And.intro (by omega) (by omega)); intro xI bI offI hxI hcI; conv => whnf) | ((with_reducible apply Go.Vc.cell_i); (focus assumption); conv => whnf))
        have e : x = xI := Option.some.inj hxI
        subst e
        exact ⟨by rw [rt_one], Sub.refl _⟩
      · conv => whnf
        refine (refsplit_spec n (by omega) (by omega) _ _).mono ?_
        rintro _ _ _ _ _ ⟨rfl, rfl, rfl⟩
        have hp := sp_pos n
        have hlt := sp_lt (n := n) (by omega)
        have hrt := rt_two ndB emB (l := l) (by omega)
        rw [hll] at hrt
        rw [hrt]
        generalize hk : sp n = k at *
        refine Go.Vc.draw_intro [⟨0, false, false, false, 0⟩, ⟨1, false, false, false, 0⟩, ⟨2, false, false, false, 3⟩, ⟨4, false, true, false, 0⟩, ⟨5, false, true, false, 0⟩, ⟨6, false, true, false, 48⟩, ⟨3, true, false, true, 7⟩, ⟨7, true, false, false, 127⟩, ⟨8, true, false, false, 255⟩, ⟨9, false, false, false, 511⟩] (hs := h) (hsub := (Sub.refl _)) (hm := by kernel_rfl) (hpl := by kernel_rfl) ?_
        conv => whnf
        conv => whnf
        repeat (first | ((with_reducible refine And.intro (And.intro ?_ ?_) ?_); (focus omega); (focus omega); conv => whnf) | (intro _ _; conv => whnf))
        rename_i a6 ha6
        rw [Int.toNat_natCast] at ha6 ⊢
        have s6 : Sl h a6 (n - k) Value.string (l.drop k) := s.drop (by omega) hnc ha6
        refine (ih k (by omega) (s.take (by omega)) (by omega) (by omega) (fun x hx' => hx x (List.mem_of_mem_take hx'))).mono ?_
        rintro _ h2 t2 hd2 ht2 ⟨rfl, hs2⟩
        conv => whnf
        refine ⟨hs2, ?_⟩
        conv => whnf
        refine (ih (n - k) (by omega) (s6.sub hs2) (by omega) (by omega) (fun x hx' => hx x (List.mem_of_mem_drop hx'))).mono ?_
        rintro _ h3 t3 hd3 ht3 ⟨rfl, hs3⟩
        have hz := fun (m : List ByteArray) (hm : ∀ x ∈ m, x.size ≤ 274877906944) => rt_size ndB emB (M := 274877906944) (nd_le _ (by decide)) hE _ m rfl hm
        conv => whnf
        refine (refnode_spec _ _ (hz _ (fun x hx' => hx x (List.mem_of_mem_take hx'))) (hz _ (fun x hx' => hx x (List.mem_of_mem_drop hx'))) _ _).mono ?_
        rintro _ h4 t4 hd4 ht4 ⟨rfl, hs4⟩
        conv => whnf
        exact ⟨rfl, hs2.trans (hs3.trans hs4)⟩

theorem path_spec : ∀ (n : Nat) (i : Nat) {h : Heap} {t : Nat} {a : Option Addr} {c : Nat} {l : List ByteArray} (s : Sl h a n Value.string l) (hn : n ≤ 65536) (hnc : n ≤ c) (hx : ∀ x ∈ l, x.size ≤ 274877906944) (hi : i < n),
    CallSpec Try.prog 34 #[.slice a n c, .int .i64 (i : Nat)] h t (fun v h' t' => ∃ a' m c', v = .slice a' m c' ∧ Own h' 9 a' m c' Value.string (inc ndB emB l i) ∧ m ≤ n ∧ (∀ b, owner a' = some b → t ≤ b) ∧ Sub h h') := by
  intro n
  induction n using Nat.strongRecOn with
  | ind n ih =>
    intro i h t a c l s hn hnc hx hi
    have hll := s.1
    refine Go.Vc.spec_of_vc (fn := Try.f34) Try.func34 rfl (by kernel_rfl) (by kernel_rfl) (Nat.le_of_ble_eq_true rfl) ?_
    intro hd
    conv => whnf
    refine br (fun hb1 => ?_) (fun hb1 => ?_)
    · conv => whnf
      exact ⟨none, 0, 0, rfl, by rw [inc_one ndB emB (by omega)]; exact Own.nil _ _ _, by omega, (fun b hb => by cases hb), Sub.refl _⟩
    · conv => whnf
      refine (refsplit_spec n (by omega) (by omega) _ _).mono ?_
      rintro _ _ _ _ _ ⟨rfl, rfl, rfl⟩
      have hp := sp_pos n
      have hlt := sp_lt (n := n) (by omega)
      have e1 := inc_lt ndB emB (l := l) (i := i) (by omega)
      have e2 := inc_ge ndB emB (l := l) (i := i) (by omega)
      rw [hll] at e1 e2
      generalize hk : sp n = k at *
      conv => whnf
      refine br (fun hb2 => ?_) (fun hb2 => ?_)
      · rw [e1 (by omega)]
        refine Go.Vc.draw_intro [⟨0, false, false, false, 0⟩, ⟨1, false, false, false, 0⟩, ⟨2, false, false, false, 3⟩, ⟨3, false, false, false, 0⟩, ⟨5, false, true, false, 0⟩, ⟨6, false, true, false, 0⟩, ⟨7, false, true, false, 96⟩, ⟨4, true, false, true, 15⟩, ⟨8, true, false, false, 255⟩, ⟨9, true, false, false, 511⟩, ⟨10, true, false, false, 1023⟩, ⟨11, false, false, false, 2047⟩] (hs := h) (hsub := (Sub.refl _)) (hm := by kernel_rfl) (hpl := by kernel_rfl) ?_
        conv => whnf
        conv => whnf
        repeat (first | ((with_reducible refine And.intro (And.intro ?_ ?_) ?_); (focus omega); (focus omega); conv => whnf) | (intro _ _; conv => whnf))
        rename_i a6 ha6
        rw [Int.toNat_natCast] at ha6 ⊢
        have s6 : Sl h a6 (n - k) Value.string (l.drop k) := s.drop (by omega) hnc ha6
        refine (ih k (by omega) i (s.take (by omega)) (by omega) (by omega) (fun x hx' => hx x (List.mem_of_mem_take hx')) (by omega)).mono ?_
        rintro _ h2 t2 hd2 ht2 ⟨a2, m2, c2, rfl, o2, hm2, hw2, hs2⟩
        conv => whnf
        refine ⟨hs2, ?_⟩
        conv => whnf
        refine (refroot_spec (n - k) (s6.sub hs2) (by omega) (by omega) (fun x hx' => hx x (List.mem_of_mem_drop hx'))).mono ?_
        rintro _ h3 t3 hd3 ht3 ⟨rfl, hs3⟩
        generalize rt ndB emB (l.drop k) = R
        conv => whnf
        repeat (first | (intro _ _; conv => whnf))
        rename_i r3 hr3
        refine app_one hd (by omega) (hs2.trans hs3) hw2 hd3 hr3 (o2.fr (fun b o _ ho => hs3 b o ho)) (by omega) ?_
        intro a7 c7 h7 t7 ho7 ht7 hd7 hs7 hw7 _
        conv => whnf
        exact ⟨_, _, _, rfl, ho7, by omega, hw7, hs7⟩
      · rw [e2 (by omega)]
        refine Go.Vc.draw_intro [⟨0, false, false, false, 0⟩, ⟨1, false, false, false, 0⟩, ⟨2, false, false, false, 3⟩, ⟨3, false, false, false, 0⟩, ⟨4, false, false, false, 0⟩, ⟨5, false, false, false, 24⟩, ⟨7, false, true, false, 0⟩, ⟨8, false, true, false, 0⟩, ⟨9, false, true, false, 384⟩, ⟨6, true, false, true, 63⟩, ⟨10, true, false, false, 1023⟩, ⟨11, true, false, false, 2047⟩, ⟨12, true, false, false, 4095⟩, ⟨13, false, false, false, 8191⟩] (hs := h) (hsub := (Sub.refl _)) (hm := by kernel_rfl) (hpl := by kernel_rfl) ?_
        conv => whnf
        conv => whnf
        repeat (first | ((with_reducible refine And.intro (And.intro ?_ ?_) ?_); (focus omega); (focus omega); conv => whnf) | (intro _ _; conv => whnf) | ((with_reducible apply Go.Vc.wr_i64); (focus exact And.intro (by omega) (by omega)); conv => whnf))
        rename_i a6 ha6
        rw [Int.toNat_natCast] at ha6 ⊢
        have s6 : Sl h a6 (n - k) Value.string (l.drop k) := s.drop (by omega) hnc ha6
        rw [show ((i : Int) - (k : Int)) = ((i - k : Nat) : Int) by omega]
        refine (ih (n - k) (by omega) (i - k) s6 (by omega) (by omega) (fun x hx' => hx x (List.mem_of_mem_drop hx')) (by omega)).mono ?_
        rintro _ h2 t2 hd2 ht2 ⟨a2, m2, c2, rfl, o2, hm2, hw2, hs2⟩
        conv => whnf
        refine ⟨hs2, ?_⟩
        conv => whnf
        refine (refroot_spec k ((s.take (by omega)).sub hs2) (by omega) (by omega) (fun x hx' => hx x (List.mem_of_mem_take hx'))).mono ?_
        rintro _ h3 t3 hd3 ht3 ⟨rfl, hs3⟩
        generalize rt ndB emB (l.take k) = R
        conv => whnf
        repeat (first | (intro _ _; conv => whnf))
        rename_i r3 hr3
        refine app_one hd (by omega) (hs2.trans hs3) hw2 hd3 hr3 (o2.fr (fun b o _ ho => hs3 b o ho)) (by omega) ?_
        intro a7 c7 h7 t7 ho7 ht7 hd7 hs7 hw7 _
        conv => whnf
        exact ⟨_, _, _, rfl, ho7, by omega, hw7, hs7⟩

theorem sub_spec : ∀ (n : Nat) (i : Nat) (w : Bool) {h : Heap} {t : Nat} {a : Option Addr} {c : Nat} {l : List ByteArray} (s : Sl h a n Value.string l) (hn : n ≤ 65536) (hnc : n ≤ c) (hx : ∀ x ∈ l, x.size ≤ 274877906944) (hi : 1 ≤ i ∧ i ≤ n),
    CallSpec Try.prog 35 #[.slice a n c, .int .i64 (i : Nat), .bool w] h t (fun v h' t' => ∃ a' m c', v = .slice a' m c' ∧ Own h' 9 a' m c' Value.string (con ndB emB l i w) ∧ m ≤ n ∧ (∀ b, owner a' = some b → t ≤ b) ∧ Sub h h') := by
  intro n
  induction n using Nat.strongRecOn with
  | ind n ih =>
    intro i w h t a c l s hn hnc hx hi
    have hll := s.1
    refine Go.Vc.spec_of_vc (fn := Try.f35) Try.func35 rfl (by kernel_rfl) (by kernel_rfl) (Nat.le_of_ble_eq_true rfl) ?_
    intro hd
    conv => whnf
    refine br (fun hb1 => ?_) (fun hb1 => ?_)
    · rw [con_ge ndB emB (by omega)]
      cases w with
      | true =>
        conv => whnf
        exact ⟨none, 0, 0, rfl, Own.nil _ _ _, by omega, (fun b hb => by cases hb), Sub.refl _⟩
      | false =>
        conv => whnf
        refine (refroot_spec n s (by omega) (by omega) hx).mono ?_
        rintro _ h3 t3 hd3 ht3 ⟨rfl, hs3⟩
        generalize rt ndB emB l = R
        conv => whnf
        repeat (first | (intro _ _; conv => whnf))
        rename_i r3 hr3
        exact ⟨_, 1, 1, rfl, ar_own (l := [R]) (n := 1) (hset_same _ _ _) rfl, by omega, (fun b hb => by cases hb; show t ≤ r3; omega), hs3.trans (hd3.sub_new hr3 _)⟩
    · conv => whnf
      refine (refsplit_spec n (by omega) (by omega) _ _).mono ?_
      rintro _ _ _ _ _ ⟨rfl, rfl, rfl⟩
      have hp := sp_pos n
      have hlt := sp_lt (n := n) (by omega)
      have e1 := con_lo ndB emB (l := l) (m := i) (w := w) (by omega) (by omega)
      have e2 := con_hi ndB emB (l := l) (m := i) (w := w) (by omega) (by omega)
      rw [hll] at e1 e2
      generalize hk : sp n = k at *
      conv => whnf
      refine br (fun hb2 => ?_) (fun hb2 => ?_)
      · rw [e1 (by omega)]
        refine Go.Vc.draw_intro [⟨0, false, false, false, 0⟩, ⟨1, false, false, false, 0⟩, ⟨2, false, false, false, 3⟩, ⟨3, false, false, false, 0⟩, ⟨4, false, false, false, 0⟩, ⟨6, false, true, false, 0⟩, ⟨7, false, true, false, 0⟩, ⟨8, false, true, false, 192⟩, ⟨5, true, false, true, 31⟩, ⟨9, true, false, false, 511⟩, ⟨10, true, false, false, 1023⟩, ⟨11, true, false, false, 2047⟩, ⟨12, false, false, false, 4095⟩] (hs := h) (hsub := (Sub.refl _)) (hm := by kernel_rfl) (hpl := by kernel_rfl) ?_
        conv => whnf
        conv => whnf
        repeat (first | ((with_reducible refine And.intro (And.intro ?_ ?_) ?_); (focus omega); (focus omega); conv => whnf) | (intro _ _; conv => whnf))
        rename_i a6 ha6
        rw [Int.toNat_natCast] at ha6 ⊢
        have s6 : Sl h a6 (n - k) Value.string (l.drop k) := s.drop (by omega) hnc ha6
        refine (ih k (by omega) i w (s.take (by omega)) (by omega) (by omega) (fun x hx' => hx x (List.mem_of_mem_take hx')) (by omega)).mono ?_
        rintro _ h2 t2 hd2 ht2 ⟨a2, m2, c2, rfl, o2, hm2, hw2, hs2⟩
        conv => whnf
        refine ⟨hs2, ?_⟩
        conv => whnf
        refine (refroot_spec (n - k) (s6.sub hs2) (by omega) (by omega) (fun x hx' => hx x (List.mem_of_mem_drop hx'))).mono ?_
        rintro _ h3 t3 hd3 ht3 ⟨rfl, hs3⟩
        generalize rt ndB emB (l.drop k) = R
        conv => whnf
        repeat (first | (intro _ _; conv => whnf))
        rename_i r3 hr3
        refine app_one hd (by omega) (hs2.trans hs3) hw2 hd3 hr3 (o2.fr (fun b o _ ho => hs3 b o ho)) (by omega) ?_
        intro a7 c7 h7 t7 ho7 ht7 hd7 hs7 hw7 _
        conv => whnf
        exact ⟨_, _, _, rfl, ho7, by omega, hw7, hs7⟩
      · rw [e2 (by omega)]
        refine Go.Vc.draw_intro [⟨0, false, false, false, 0⟩, ⟨1, false, false, false, 0⟩, ⟨2, false, false, false, 3⟩, ⟨3, false, false, false, 0⟩, ⟨4, false, false, false, 0⟩, ⟨5, false, false, false, 24⟩, ⟨7, false, true, false, 0⟩, ⟨8, false, true, false, 0⟩, ⟨9, false, true, false, 384⟩, ⟨6, true, false, true, 63⟩, ⟨10, true, false, false, 1023⟩, ⟨11, true, false, false, 2047⟩, ⟨12, true, false, false, 4095⟩, ⟨13, false, false, false, 8191⟩] (hs := h) (hsub := (Sub.refl _)) (hm := by kernel_rfl) (hpl := by kernel_rfl) ?_
        conv => whnf
        conv => whnf
        repeat (first | ((with_reducible refine And.intro (And.intro ?_ ?_) ?_); (focus omega); (focus omega); conv => whnf) | (intro _ _; conv => whnf) | ((with_reducible apply Go.Vc.wr_i64); (focus exact And.intro (by omega) (by omega)); conv => whnf))
        rename_i a6 ha6
        rw [Int.toNat_natCast] at ha6 ⊢
        have s6 : Sl h a6 (n - k) Value.string (l.drop k) := s.drop (by omega) hnc ha6
        rw [show ((i : Int) - (k : Int)) = ((i - k : Nat) : Int) by omega]
        refine (ih (n - k) (by omega) (i - k) false s6 (by omega) (by omega) (fun x hx' => hx x (List.mem_of_mem_drop hx')) (by omega)).mono ?_
        rintro _ h2 t2 hd2 ht2 ⟨a2, m2, c2, rfl, o2, hm2, hw2, hs2⟩
        conv => whnf
        refine ⟨hs2, ?_⟩
        conv => whnf
        refine (refroot_spec k ((s.take (by omega)).sub hs2) (by omega) (by omega) (fun x hx' => hx x (List.mem_of_mem_take hx'))).mono ?_
        rintro _ h3 t3 hd3 ht3 ⟨rfl, hs3⟩
        generalize rt ndB emB (l.take k) = R
        conv => whnf
        repeat (first | (intro _ _; conv => whnf))
        rename_i r3 hr3
        refine app_one hd (by omega) (hs2.trans hs3) hw2 hd3 hr3 (o2.fr (fun b o _ ho => hs3 b o ho)) (by omega) ?_
        intro a7 c7 h7 t7 ho7 ht7 hd7 hs7 hw7 _
        conv => whnf
        exact ⟨_, _, _, rfl, ho7, by omega, hw7, hs7⟩

theorem refinclusion_spec {h : Heap} {t : Nat} {a : Option Addr} {n c : Nat} {l : List ByteArray} (s : Sl h a n Value.string l) (hn : n ≤ 65536) (hnc : n ≤ c) (hx : ∀ x ∈ l, x.size ≤ 274877906944) (i : Int) (hi : -9223372036854775808 ≤ i ∧ i ≤ 9223372036854775807) :
    CallSpec Try.prog 17 #[.slice a n c, .int .i64 i] h t (fun v h' t' => ∃ a' m c', v = .tuple #[.slice a' m c', .bool (decide (0 ≤ i ∧ i < n))] ∧
      Own h' 9 a' m c' Value.string (if 0 ≤ i ∧ i < n then inc ndB emB l i.toNat else []) ∧ m ≤ n ∧ (∀ b, owner a' = some b → t ≤ b) ∧ Sub h h') := by
  have hll := s.1
  refine Go.Vc.spec_of_vc (fn := Try.f17) Try.func17 rfl (by kernel_rfl) (by kernel_rfl) (Nat.le_of_ble_eq_true rfl) ?_
  intro hd
  by_cases hok : 0 ≤ i ∧ i < n
  · obtain ⟨i0, rfl⟩ : ∃ i0 : Nat, i = i0 := ⟨i.toNat, by omega⟩
    conv => whnf
    repeat (first | (refine Go.Vc.br_f ?_ ?_; (focus omega); conv => whnf))
    refine (path_spec n i0 s hn hnc hx (by omega)).mono ?_
    rintro _ h2 t2 hd2 ht2 ⟨a2, m2, c2, rfl, o2, hm2, hw2, hs2⟩
    conv => whnf
    exact ⟨a2, m2, c2, by rw [decide_eq_true hok], by rw [if_pos hok, Int.toNat_natCast]; exact o2, hm2, hw2, hs2⟩
  · by_cases hneg : i < 0
    · conv => whnf
      repeat (first | (refine Go.Vc.br_t ?_ ?_; (focus omega); conv => whnf))
      refine ⟨none, 0, 0, by rw [decide_eq_false hok], by rw [if_neg hok]; exact Own.nil _ _ _, by omega, (fun b hb => by cases hb), Sub.refl _⟩
    · conv => whnf
      repeat (first | (refine Go.Vc.br_t ?_ ?_; (focus omega); conv => whnf) | (refine Go.Vc.br_f ?_ ?_; (focus omega); conv => whnf))
      refine ⟨none, 0, 0, by rw [decide_eq_false hok], by rw [if_neg hok]; exact Own.nil _ _ _, by omega, (fun b hb => by cases hb), Sub.refl _⟩

theorem refconsistency_spec {h : Heap} {t : Nat} {a : Option Addr} {n c : Nat} {l : List ByteArray} (s : Sl h a n Value.string l) (hn : n ≤ 65536) (hnc : n ≤ c) (hx : ∀ x ∈ l, x.size ≤ 274877906944) (i : Int) (hi : -9223372036854775808 ≤ i ∧ i ≤ 9223372036854775807) :
    CallSpec Try.prog 18 #[.slice a n c, .int .i64 i] h t (fun v h' t' => ∃ a' m c', v = .tuple #[.slice a' m c', .bool (decide (1 ≤ i ∧ i ≤ n))] ∧
      Own h' 9 a' m c' Value.string (if 1 ≤ i ∧ i ≤ n then con ndB emB l i.toNat true else []) ∧ m ≤ n ∧ (∀ b, owner a' = some b → t ≤ b) ∧ Sub h h') := by
  have hll := s.1
  refine Go.Vc.spec_of_vc (fn := Try.f18) Try.func18 rfl (by kernel_rfl) (by kernel_rfl) (Nat.le_of_ble_eq_true rfl) ?_
  intro hd
  by_cases hok : 1 ≤ i ∧ i ≤ n
  · obtain ⟨i0, rfl⟩ : ∃ i0 : Nat, i = i0 := ⟨i.toNat, by omega⟩
    conv => whnf
    repeat (first | (refine Go.Vc.br_f ?_ ?_; (focus omega); conv => whnf))
    refine (sub_spec n i0 true s hn hnc hx (by omega)).mono ?_
    rintro _ h2 t2 hd2 ht2 ⟨a2, m2, c2, rfl, o2, hm2, hw2, hs2⟩
    conv => whnf
    exact ⟨a2, m2, c2, by rw [decide_eq_true hok], by rw [if_pos hok, Int.toNat_natCast]; exact o2, hm2, hw2, hs2⟩
  · by_cases hneg : i < 1
    · conv => whnf
      repeat (first | (refine Go.Vc.br_t ?_ ?_; (focus omega); conv => whnf))
      refine ⟨none, 0, 0, by rw [decide_eq_false hok], by rw [if_neg hok]; exact Own.nil _ _ _, by omega, (fun b hb => by cases hb), Sub.refl _⟩
    · conv => whnf
      repeat (first | (refine Go.Vc.br_t ?_ ?_; (focus omega); conv => whnf) | (refine Go.Vc.br_f ?_ ?_; (focus omega); conv => whnf))
      refine ⟨none, 0, 0, by rw [decide_eq_false hok], by rw [if_neg hok]; exact Own.nil _ _ _, by omega, (fun b hb => by cases hb), Sub.refl _⟩
end Go.Proofs.Ytmlcdkckedjdjaa
