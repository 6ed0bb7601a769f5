/- way, Included. -/
import Derived.Test.YtmlcdkckedjdjaaMerkle3
namespace Go.Proofs.Ytmlcdkckedjdjaa
open Go Go.Vc Go.Sha Go.Mk
set_option maxRecDepth 10000
set_option linter.unusedVariables false

theorem app_turn {h : Heap} {t : Nat} {a xa : Option Addr} {n c xc m : Nat} {l l2 : List Bool} {ty : TypeId} (ho : Own h 50 a n c Value.bool l) (hx : Sl h xa m Value.bool l2) (hb : n + m ≤ 1000000000) (hd : Dom h t) {K : Value → Heap → Nat → Prop}
    (hK : ∀ a' c' h' t', Own h' 50 a' (n + m) c' Value.bool (l ++ l2) → t ≤ t' → Dom h' t' → (∀ k, k < t → owner a ≠ some k → h' k = h k) → (owner a' = owner a ∨ ∃ r, owner a' = some r ∧ t ≤ r) → K (.slice a' (n + m) c') h' t') :
    AppVC Try.prog #[48, 48] ty (.slice a n c) (.slice xa m xc) K h t :=
  app_vc (f := Value.bool) Try.underlying48 Try.underlying48 rfl (inf := Try.types[50]) (z := .bool false) (by kernel_rfl) (by kernel_rfl) (by kernel_rfl) rfl ho ⟨_, _, rfl, hx⟩ (fun _ => rfl) (by show (n + m) * 1 ≤ _; omega) (by omega) (by show 1 ≤ 1000; omega) hd hK

theorem way_spec (n i : Nat) (hn : n ≤ 65536) (hi : i < n) (h : Heap) (t : Nat) :
    CallSpec Try.prog 33 #[.int .i64 (n : Nat), .int .i64 (i : Nat)] h t (fun v h' t' => ∃ a c, v = .slice a (way n i).length c ∧
      Own h' 50 a (way n i).length c Value.bool (way n i) ∧ (∀ b, owner a = some b → t ≤ b) ∧ Sub h h') := by
  refine Go.Vc.spec_of_vc (fn := Try.f33) Try.func33 rfl (by kernel_rfl) (by kernel_rfl) (Nat.le_of_ble_eq_true rfl) ?_
  intro hd
  conv => whnf
  refine loop_intro5 (fun (n1 i1 : Nat) (a2 : Option Addr) (c2 : Nat) (out : List Bool) => [(0, .int .i64 (n1 : Nat)), (1, .int .i64 (i1 : Nat)), (4, .slice a2 out.length c2)])
    (fun n1 i1 a2 c2 out h' t' => t ≤ t' ∧ i1 < n1 ∧ out.length + n1 ≤ n ∧ Own h' 50 a2 out.length c2 Value.bool out ∧ way n i = out ++ way n1 i1 ∧ (∀ b, owner a2 = some b → t ≤ b) ∧ Sub h h') (fun n1 _ _ _ _ => n1) n i none 0 [] ⟨rfl, rfl, rfl, trivial⟩
    ⟨by omega, by omega, by simp, Own.nil _ _ _, by simp, (fun b hb => by cases hb), Sub.refl _⟩ ?_
  rintro n1 i1 a2 c2 out g h1 t1 hd1 ⟨ht1, hi1, hm1, o1, hway, hw1, hs1⟩
  conv => whnf
  refine br (fun hb1 => ?_) (fun hb1 => ?_)
  · conv => whnf
    refine (split_spec n1 (by omega) (by omega) _ _).mono ?_
    rintro _ _ _ _ _ ⟨rfl, rfl, rfl⟩
    have hp := sp_pos n1
    have hlt := sp_lt (n := n1) (by omega)
    have wl := way_lt (n := n1) (i := i1) (by omega)
    have wg := way_ge (n := n1) (i := i1) (by omega)
    generalize hk : sp n1 = k at *
    conv => whnf
    refine br (fun hb2 => ?_) (fun hb2 => ?_)
    · rw [wl (by omega)] at hway
      conv => whnf
      repeat (first | (intro _ _; conv => whnf))
      rename_i r3 hr3
      have hs3 := hd1.sub_new hr3 (.cells #[.bool false] 50)
      have hd3 := hd1.set r3 (.cells #[.bool false] 50) (r3 + 1) (by omega) (by omega)
      refine app_turn (m := 1) (l2 := [false]) (o1.fr (fun b o _ ho => hs3 b o ho)) (ar_sl (hset_same _ _ _) rfl) (by omega) hd3 ?_
      intro a7 c7 h7 t7 ho7 ht7 hd7 hk7 how7
      have hs7 : Sub h h7 := by
        intro b o hb
        have hbt := hd b o hb
        rw [hk7 b (by omega) (fun e => by have := hw1 b e; omega), hset_ne _ _ (by omega)]
        exact hs1 b o hb
      have hw7 : ∀ b, owner a7 = some b → t ≤ b := by
        intro b hb
        rcases how7 with e | ⟨b', e, hb'⟩
        · exact hw1 b (by rw [← e]; exact hb)
        · rw [e] at hb; cases hb; omega
      conv => whnf
      refine round_end5 k i1 a7 c7 (out ++ [false]) (by omega) ⟨rfl, rfl, by rw [List.length_append]; rfl, trivial⟩
        ⟨by omega, by omega, by rw [List.length_append]; show out.length + 1 + k ≤ n; omega, by rw [List.length_append]; exact ho7, by rw [hway]; simp, hw7, hs7⟩
    · rw [wg (by omega)] at hway
      conv => whnf
      repeat (first | (intro _ _; conv => whnf))
      rename_i r3 hr3
      have hs3 := hd1.sub_new hr3 (.cells #[.bool true] 50)
      have hd3 := hd1.set r3 (.cells #[.bool true] 50) (r3 + 1) (by omega) (by omega)
      refine app_turn (m := 1) (l2 := [true]) (o1.fr (fun b o _ ho => hs3 b o ho)) (ar_sl (hset_same _ _ _) rfl) (by omega) hd3 ?_
      intro a7 c7 h7 t7 ho7 ht7 hd7 hk7 how7
      have hs7 : Sub h h7 := by
        intro b o hb
        have hbt := hd b o hb
        rw [hk7 b (by omega) (fun e => by have := hw1 b e; omega), hset_ne _ _ (by omega)]
        exact hs1 b o hb
      have hw7 : ∀ b, owner a7 = some b → t ≤ b := by
        intro b hb
        rcases how7 with e | ⟨b', e, hb'⟩
        · exact hw1 b (by rw [← e]; exact hb)
        · rw [e] at hb; cases hb; omega
      conv => whnf
      repeat (first | ((with_reducible apply Go.Vc.wr_i64); (focus exact And.intro (by omega) (by omega)); conv => whnf))
      refine round_end5 (n1 - k) (i1 - k) a7 c7 (out ++ [true]) (by omega) ⟨by show Value.int .i64 _ = Value.int .i64 _; congr 1; omega, by show Value.int .i64 _ = Value.int .i64 _; congr 1; omega, by rw [List.length_append]; rfl, trivial⟩
        ⟨by omega, by omega, by rw [List.length_append]; show out.length + 1 + (n1 - k) ≤ n; omega, by rw [List.length_append]; exact ho7, by rw [hway]; simp, hw7, hs7⟩
  · conv => whnf
    have e : way n i = out := by rw [hway, way_one (n := n1) (by omega), List.append_nil]
    rw [e]
    exact ⟨a2, c2, rfl, o1, hw1, hs1⟩
def incd (root : ByteArray) (n i : Int) (hash : ByteArray) (P : List ByteArray) : Bool :=
  decide (0 ≤ i ∧ i < n) && (decide ((way n.toNat i.toNat).length = P.length) && decide (up ndB (way n.toNat i.toNat).reverse P hash = root))

theorem included_spec (root : ByteArray) (n i : Int) (hn : -9223372036854775808 ≤ n ∧ n ≤ 65536) (hi : -9223372036854775808 ≤ i ∧ i ≤ 9223372036854775807) (hash : ByteArray) (hh : hash.size ≤ 274877906944)
    {h : Heap} {t : Nat} {a : Option Addr} {m c : Nat} {P : List ByteArray} (s : Sl h a m Value.string P) (hm : m ≤ 1000000000) (hx : ∀ x ∈ P, x.size ≤ 274877906944) :
    CallSpec Try.prog 14 #[.string root, .int .i64 n, .int .i64 i, .string hash, .slice a m c] h t (fun v h' t' => v = .bool (incd root n i hash P) ∧ Sub h h') := by
  have hPl := s.1
  refine Go.Vc.spec_of_vc (fn := Try.f14) Try.func14 rfl (by kernel_rfl) (by kernel_rfl) (Nat.le_of_ble_eq_true rfl) ?_
  intro hd
  by_cases hok : 0 ≤ i ∧ i < n
  · obtain ⟨i0, rfl⟩ : ∃ i0 : Nat, i = i0 := ⟨i.toNat, by omega⟩
    obtain ⟨n0, rfl⟩ : ∃ n0 : Nat, n = n0 := ⟨n.toNat, by omega⟩
    unfold incd
    rw [decide_eq_true hok, Bool.true_and, Int.toNat_natCast, Int.toNat_natCast]
    conv => whnf
    repeat (first | (refine Go.Vc.br_f ?_ ?_; (focus omega); conv => whnf))
    refine (way_spec n0 i0 (by omega) (by omega) _ _).mono ?_
    rintro _ h1 t1 hd1 ht1 ⟨ta, tc, rfl, o1, hw1, hs1⟩
    have hwl := way_le 17 n0 i0 (by omega)
    generalize way n0 i0 = ts at *
    conv => whnf
    refine br (fun hb1 => ?_) (fun hb1 => ?_)
    · conv => whnf
      exact ⟨by rw [decide_eq_false (by omega)]; rfl, hs1⟩
    · rw [decide_eq_true (by omega), Bool.true_and]
      conv => whnf
      refine loop_intro2 (fun (k : Nat) (x : ByteArray) => [(0, .string root), (3, .string x), (11, .slice ta ts.length tc), (29, .slice a m c), (30, .int .i64 (m : Nat)), (31, .int .i64 (k : Nat))])
        (fun k x h' t' => k ≤ m ∧ x.size ≤ 274877906944 ∧ up ndB ts.reverse P hash = up ndB (ts.reverse.drop k) (P.drop k) x ∧ Sub h1 h') (fun k _ => m - k) 0 hash ⟨rfl, rfl, rfl, rfl, rfl, rfl, trivial⟩
        ⟨by omega, hh, by simp, Sub.refl _⟩ ?_
      rintro k x g h2 t2 hd2 ⟨hk, hxs, hup, hs2⟩
      have s2 := (s.sub hs1).sub hs2
      have st2 := o1.sl.sub hs2
      conv => whnf
      refine br (fun hb2 => ?_) (fun hb2 => ?_)
      · conv => whnf
        repeat (first | ((with_reducible apply Go.Vc.sl_ix); (focus with_reducible assumption); (focus exact And.intro (by omega) (by omega)); intro xI bI offI hxI hcI; conv => whnf) | ((with_reducible apply Go.Vc.cell_i); (focus assumption); conv => whnf) | ((with_reducible apply Go.Vc.wr_i64); (focus exact And.intro (by omega) (by omega)); conv => whnf))
        obtain ⟨y, rfl⟩ : ∃ y, y = xI := ⟨xI, rfl⟩
        have hy := hxI
        clear hxI
        have hp : P[k]? = some xI := by rw [Int.toNat_natCast] at hxI; exact hxI
        have hpx := hx _ (List.mem_of_getElem? hp)
        have ht : ts.reverse[k]? = some y := by
          rw [List.getElem?_reverse (by omega), ← hy]
          congr 1
          omega
        rw [up_drop ndB (x := x) ht hp] at hup
        cases y with
        | false =>
          conv => whnf
          refine (node_spec x xI hxs hpx _ _).mono ?_
          rintro _ h3 t3 hd3 ht3 ⟨rfl, hs3⟩
          conv => whnf
          repeat (first | ((with_reducible apply Go.Vc.wr_i64); (focus exact And.intro (by omega) (by omega)); conv => whnf))
          refine round_end2 (k + 1) _ (by omega) ⟨rfl, rfl, rfl, rfl, rfl, rfl, trivial⟩ ⟨by omega, nd_le _ (by decide) _ _, hup, hs2.trans hs3⟩
        | true =>
          conv => whnf
          refine (node_spec xI x hpx hxs _ _).mono ?_
          rintro _ h3 t3 hd3 ht3 ⟨rfl, hs3⟩
          conv => whnf
          repeat (first | ((with_reducible apply Go.Vc.wr_i64); (focus exact And.intro (by omega) (by omega)); conv => whnf))
          refine round_end2 (k + 1) _ (by omega) ⟨rfl, rfl, rfl, rfl, rfl, rfl, trivial⟩ ⟨by omega, nd_le _ (by decide) _ _, hup, hs2.trans hs3⟩
      · have hkm : k = m := by omega
        rw [hkm, List.drop_eq_nil_of_le (by rw [List.length_reverse]; omega)] at hup
        have hup : up ndB ts.reverse P hash = x := hup
        rw [hup]
        conv => whnf
        exact ⟨by rw [opq_eq], hs1.trans hs2⟩
  · have e : incd root n i hash P = false := by unfold incd; rw [decide_eq_false hok]; rfl
    rw [e]
    by_cases hneg : i < 0
    · conv => whnf
      repeat (first | (refine Go.Vc.br_t ?_ ?_; (focus omega); conv => whnf))
      exact ⟨rfl, Sub.refl _⟩
    · conv => whnf
      repeat (first | (refine Go.Vc.br_t ?_ ?_; (focus omega); conv => whnf) | (refine Go.Vc.br_f ?_ ?_; (focus omega); conv => whnf))
      exact ⟨rfl, Sub.refl _⟩
end Go.Proofs.Ytmlcdkckedjdjaa
