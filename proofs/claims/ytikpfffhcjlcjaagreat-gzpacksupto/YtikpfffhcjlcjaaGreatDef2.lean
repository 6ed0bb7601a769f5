import Derived.Test.YtikpfffhcjlcjaaGreatDef1
import Derived.Test.YtikpfffhcjlcjaaGreatDefA
set_option linter.unusedSimpArgs false
namespace Go.Proofs.YtikpfffhcjlcjaaGreat
open Go Go.Vc Go.Dfl
set_option maxRecDepth 20000
set_option linter.unusedVariables false
theorem run_spec {h : Heap} {t : Nat} {a : Option Addr} {n c : Nat} {l : List Int} (s : Sl h a n (Value.int .i64) l) (hn : n ≤ 4000000) {i most : Nat} {k : Int} (hk : l[i]? = some k) (hm : most ≤ 1000) :
    CallSpec Tryz.prog 107 #[.slice a n c, .int .i64 (i : Nat), .int .i64 (most : Nat)] h t (fun v h' t' => v = .int .i64 ((min (cnt k (l.drop i)) most : Nat)) ∧ h = h' ∧ t = t') := by
  have hl := s.1
  have hin : i < n := by have := (List.getElem?_eq_some_iff.1 hk).1; omega
  refine Go.Vc.spec_of_vc (fn := Tryz.f107) Tryz.func107 rfl (by kernel_rfl) (by kernel_rfl) (Nat.le_of_ble_eq_true rfl) ?_
  intro hd
  conv => whnf
  refine loop_intro (fun j : Nat => [(0, .slice a n c), (1, .int .i64 (i : Nat)), (2, .int .i64 (most : Nat)), (7, .int .i64 (j : Nat))])
    (fun j h' t' => h = h' ∧ t = t' ∧ i + j ≤ n ∧ j ≤ most ∧ ∀ q, q < j → l[i + q]? = some k) (fun j => n - j) 0 ⟨rfl, rfl, rfl, rfl, trivial⟩ ⟨rfl, rfl, by omega, by omega, fun q hq => by omega⟩ ?_
  rintro j e g t1 hd1 ⟨rfl, rfl, hij, hjm, hq⟩
  have hge : j ≤ cnt k (l.drop i) := cnt_ge fun q h1 => by rw [List.getElem?_drop]; exact hq q h1
  have hle := cnt_le k (l.drop i)
  rw [List.length_drop] at hle
  conv => whnf
  refine Go.Vc.draw_intro [⟨0, false, false, false, 0⟩, ⟨1, false, false, false, 0⟩, ⟨2, false, false, false, 3⟩, ⟨3, false, false, false, 0⟩, ⟨4, false, false, false, 8⟩, ⟨5, false, false, false, 31⟩, ⟨6, false, false, false, 63⟩, ⟨7, false, false, false, 127⟩, ⟨8, false, false, false, 127⟩, ⟨9, false, false, false, 511⟩, ⟨10, false, false, false, 1023⟩, ⟨11, false, false, false, 2047⟩, ⟨12, false, false, false, 4095⟩, ⟨13, false, false, false, 4095⟩, ⟨14, false, false, false, 4095⟩, ⟨15, false, false, false, 28671⟩, ⟨16, false, false, false, 65535⟩, ⟨17, false, false, false, 131071⟩, ⟨18, false, false, false, 4095⟩, ⟨19, false, false, false, 4095⟩, ⟨20, false, false, false, 790527⟩, ⟨21, false, false, false, 1839103⟩, ⟨22, false, false, false, 4194303⟩, ⟨23, false, false, false, 8388607⟩] (hs := (fun _ => none)) (hsub := (fun _ _ h => nomatch h)) (hm := by kernel_rfl) (hpl := by kernel_rfl) ?_
  conv => whnf
  conv => whnf
  repeat (first | ((with_reducible apply Go.Vc.wr_i64); (focus exact And.intro (by omega) (by omega)); conv => whnf))
  refine br (fun hb => ?_) (fun hb => ?_)
  · conv => whnf
    refine br (fun hb1 => ?_) (fun hb1 => ?_)
    · conv => whnf
      repeat (first | ((with_reducible apply Go.Vc.sl_ix); (focus with_reducible assumption); (focus exact And.intro (by omega) (by omega)); intro xI bI offI hxI hcI; conv => whnf) | ((with_reducible apply Go.Vc.cell_i); (focus assumption); conv => whnf) | ((with_reducible apply Go.Vc.wr_i64); (focus exact And.intro (by omega) (by omega)); conv => whnf))
      rename_i x1 b1 o1 hx1 hc1
      rw [show ((i : Int) + (j : Int)).toNat = i + j by omega] at hx1
      rw [show ((i : Nat) : Int).toNat = i from rfl, hk] at hxI
      cases hxI
      refine br (fun hb2 => ?_) (fun hb2 => ?_)
      · conv => whnf
        repeat (first | ((with_reducible apply Go.Vc.wr_i64); (focus exact And.intro (by omega) (by omega)); conv => whnf))
        refine round_end (j + 1) (by omega) ⟨rfl, rfl, rfl, rfl, trivial⟩ ⟨rfl, rfl, by omega, by omega, fun q h1 => ?_⟩
        rcases Nat.lt_or_ge q j with h2 | h2
        · exact hq q h2
        · rw [show q = j by omega, hx1, hb2]
      · conv => whnf
        have : cnt k (l.drop i) = j := cnt_eq (fun q h1 => by rw [List.getElem?_drop]; exact hq q h1) (by rw [List.getElem?_drop, hx1]; exact fun e => hb2 (Option.some.inj e))
        exact ⟨by congr 2; omega, rfl, rfl⟩
    · conv => whnf
      exact ⟨by congr 2; omega, rfl, rfl⟩
  · conv => whnf
    exact ⟨by congr 2; omega, rfl, rfl⟩
def prevAt (l : List Int) (i : Nat) : Option Int := if i = 0 then none else l[i - 1]?
theorem prevAt_step {k : Int} {l : List Int} {i n : Nat} (hn : 1 ≤ n) (h : n ≤ cnt k (l.drop i)) : prevAt l (i + n) = some k := by
  unfold prevAt
  rw [if_neg (by omega)]
  have := cnt_get (l := l.drop i) (k := k) (j := n - 1) (by omega)
  rw [List.getElem?_drop] at this
  rw [show i + n - 1 = i + (n - 1) by omega]
  exact this
theorem own_app1 {h0 h : Heap} {t0 t r : Nat} {a : Option Addr} {n c : Nat} {l : List Int} {x : Int} {ty : TypeId} (hd0 : Dom h0 t0) (ht : t0 ≤ t) (hs : Vc.Sub h0 h) (hw : ∀ b, owner a = some b → t0 ≤ b) (hd : Dom h t) (hr : t ≤ r)
    (ho : Vc.Own h 3 a n c (Value.int .i64) l) (hn : n ≤ 100000000) {K : Value → Heap → Nat → Prop}
    (hK : ∀ a' c' h' t', Vc.Own h' 3 a' (n + 1) c' (Value.int .i64) (l ++ [x]) → t ≤ t' → Dom h' t' → Vc.Sub h0 h' → (∀ b, owner a' = some b → t0 ≤ b) → (∀ k, k < t → owner a ≠ some k → h' k = h k) → (owner a' = owner a ∨ ∃ q, owner a' = some q ∧ t ≤ q) → K (.slice a' (n + 1) c') h' t') :
    AppVC Tryz.prog #[79, 79] ty (.slice a n c) (.slice (some ⟨r, 0, none⟩) 1 1) K (hset h r (.cells #[.int .i64 x] 3 (0, 0))) (r + 1) := by
  have hs1 := hd.sub_new hr (.cells #[.int .i64 x] 3)
  refine app_int (l2 := [x]) (Own.fr ho fun k o _ hk => hs1 k o hk) (sl1 (hset_same _ _ _)) (by omega) (hd.set r _ (r + 1) (by omega) (by omega)) ?_
  intro a' c' h' t' ho' ht' hd' hk' hown'
  have hold : ∀ k, k < t → owner a ≠ some k → h' k = h k := fun k h1 h2 => by rw [hk' k (by omega) h2, hset_ne _ _ (by omega)]
  refine hK a' c' h' t' ho' (by omega) hd' (fun k o hk => ?_) (fun b hb => ?_) hold ?_
  · have := hd0 k o hk
    rw [hold k (by omega) (fun e => by have := hw k e; omega)]
    exact hs k o hk
  · rcases hown' with e | ⟨q, e, hq⟩
    · exact hw b (by rw [← e]; exact hb)
    · rw [e] at hb; cases hb; omega
  · rcases hown' with e | ⟨q, e, hq⟩
    · exact .inl e
    · exact .inr ⟨q, e, by omega⟩
theorem refruns_specO {h : Heap} {t : Nat} {a : Option Addr} {n c : Nat} {l : List Int} (s : Sl h a n (Value.int .i64) l) (hn : n ≤ 4000000) :
    CallSpec Tryz.prog 81 #[.slice a n c] h t (fun v h' t' => ∃ a1 c1 a2 c2, v = .tuple #[.slice a1 (runsF l).length c1, .slice a2 (runsF l).length c2] ∧ Sl h' a1 (runsF l).length (Value.int .i64) ((runsF l).map (·.1)) ∧ Sl h' a2 (runsF l).length (Value.int .i64) ((runsF l).map (·.2)) ∧ t ≤ t' ∧ Vc.Sub h h' ∧ (∀ b, owner a1 = some b → t ≤ b) ∧ (∀ b, owner a2 = some b → t ≤ b)) := by
  have hl := s.1
  refine Go.Vc.spec_of_vc (fn := Tryz.f81) Tryz.func81 rfl (by kernel_rfl) (by kernel_rfl) (Nat.le_of_ble_eq_true rfl) ?_
  intro hd
  conv => whnf
  refine loop_intro6 (fun (i : Nat) (O : List (Int × Int)) (a1 : Option Addr) (c1 : Nat) (a2 : Option Addr) (c2 : Nat) => [(0, .slice a n c), (4, .slice a1 O.length c1), (5, .slice a2 O.length c2), (6, .int .i64 (i : Nat))])
    (fun i O a1 c1 a2 c2 h' t' => i ≤ n ∧ O.length ≤ i ∧ O ++ rest (prevAt l i) (l.drop i) = runsF l ∧ Vc.Own h' 3 a1 O.length c1 (Value.int .i64) (O.map (·.1)) ∧ Vc.Own h' 3 a2 O.length c2 (Value.int .i64) (O.map (·.2)) ∧ (∀ b, owner a1 = some b → t ≤ b) ∧ (∀ b, owner a2 = some b → t ≤ b) ∧ (∀ b, owner a1 = some b → owner a2 ≠ some b) ∧ t ≤ t' ∧ Vc.Sub h h') (fun i _ _ _ _ _ => n - i) 0 [] none 0 none 0 ⟨rfl, rfl, rfl, rfl, trivial⟩
    ⟨by omega, by simp, by simp [prevAt, rest_none], Own.nil _ _ _, Own.nil _ _ _, (fun b hb => by cases hb), (fun b hb => by cases hb), (fun b hb => by cases hb), by omega, Sub.refl _⟩ ?_
  rintro i O a1 c1 a2 c2 e g t1 hd1 ⟨hi, hOl, hO, ho1, ho2, hw1, hw2, hne, ht1, hs1⟩
  have s1 := s.sub hs1
  conv => whnf
  refine br (fun hb => ?_) (fun hb => ?_)
  · obtain ⟨k, hk⟩ : ∃ k, l[i]? = some k := ⟨_, List.getElem?_eq_getElem (by omega)⟩
    have hcl := cnt_le k (l.drop i)
    rw [List.length_drop] at hcl
    have hc1 : 1 ≤ cnt k (l.drop i) := cnt_ge fun j hj => by rw [show j = 0 by omega, List.getElem?_drop]; exact hk
    have hk0 : (l.drop i)[0]? = some k := by rw [List.getElem?_drop]; exact hk
    conv => whnf
    repeat (first | ((with_reducible apply Go.Vc.sl_ix); (focus with_reducible assumption); (focus exact And.intro (by omega) (by omega)); intro xI bI offI hxI hcI; conv => whnf) | ((with_reducible apply Go.Vc.cell_i); (focus assumption); conv => whnf))
    rename_i x1 b1 o1 hx1 hcx1
    rw [show ((i : Nat) : Int).toNat = i from rfl, hk] at hx1 hxI
    cases hx1
    cases hxI
    refine br (fun hb1 => ?_) (fun hb1 => ?_)
    · subst hb1
      conv => whnf
      refine (run_spec s1 hn hk (most := 138) (by omega)).mono ?_
      rintro _ _ _ _ _ ⟨rfl, rfl, rfl⟩
      conv => whnf
      refine br (fun hb2 => ?_) (fun hb2 => ?_)
      · obtain ⟨m, hm⟩ : ∃ m, m = min (cnt 0 (l.drop i)) 138 := ⟨_, rfl⟩
        obtain ⟨sy, va, hsy, hva⟩ : ∃ sy va : Int, sy = 18 ∧ va = (m : Int) - 11 := ⟨_, _, rfl, rfl⟩
        have hstep : rest (prevAt l i) (l.drop i) = (sy, va) :: rest (prevAt l (i + m)) (l.drop (i + m)) := by
          rw [hsy, hva, prevAt_step (k := 0) (by omega) (by omega), ← List.drop_drop]
          exact step_zbig hk0 hm (by omega)
        rw [← hm]
        conv => whnf
        repeat (first | (intro _ _; conv => whnf) | ((with_reducible apply Go.Vc.wr_i64); (focus exact And.intro (by omega) (by omega)); conv => whnf))
        rename_i r1 hr1
        refine own_app1 hd ht1 hs1 hw1 hd1 hr1 ho1 (by omega) ?_
        intro a1' c1' g2 t2 ho1' ht2 hd2 hs2 hw1' hk2 hown2
        have hlt2 : ∀ b, owner a2 = some b → b < t1 := fun b hb => by
          obtain ⟨cs, fr, hh⟩ := own_tag ho2 hb
          exact hd1 _ _ hh
        have ho2' := Own.fr ho2 (h' := g2) fun b o hb hh => by rw [hk2 b (hd1 _ _ hh) (fun e => hne b e hb)]; exact hh
        conv => whnf
        repeat (first | (intro _ _; conv => whnf))
        rename_i r2 hr2
        refine own_app1 hd (by omega) hs2 hw2 hd2 hr2 ho2' (by omega) ?_
        intro a2' c2' g3 t3 ho2'' ht3 hd3 hs3 hw2' hk3 hown3
        have hlt1 : ∀ b, owner a1' = some b → b < t2 := fun b hb => by
          obtain ⟨cs, fr, hh⟩ := own_tag ho1' hb
          exact hd2 _ _ hh
        have hne' : ∀ b, owner a1' = some b → owner a2 ≠ some b := fun b hb e => by
          rcases hown2 with e2 | ⟨q, e2, hq⟩
          · exact hne b (by rw [← e2]; exact hb) e
          · rw [hb] at e2; cases e2
            have := hlt2 b e
            omega
        have ho1'' := Own.fr ho1' (h' := g3) fun b o hb hh => by rw [hk3 b (hd2 _ _ hh) (hne' b hb)]; exact hh
        conv => whnf
        repeat (first | ((with_reducible apply Go.Vc.wr_i64); (focus exact And.intro (by omega) (by omega)); conv => whnf))
        refine round_end6 (i + m) (O ++ [(sy, va)]) a1' c1' a2' c2' (by omega) ⟨rfl, by rw [List.length_append]; rfl, by rw [List.length_append]; rfl, (by first | rfl | (show Value.int .i64 _ = Value.int .i64 _; congr 1; omega)), trivial⟩
          ⟨by omega, by rw [List.length_append, List.length_singleton]; omega, by rw [List.append_assoc, List.singleton_append, ← hstep]; exact hO, by rw [List.length_append, List.map_append, List.map_singleton, hsy]; exact ho1'', by rw [List.length_append, List.map_append, List.map_singleton, hva]; exact ho2'', hw1', hw2', fun b hb e => ?_, by omega, hs3⟩
        rcases hown3 with e2 | ⟨q, e2, hq⟩
        · exact hne' b hb (by rw [← e2]; exact e)
        · rw [e] at e2; cases e2
          have := hlt1 b hb
          omega
      · conv => whnf
        refine br (fun hb3 => ?_) (fun hb3 => ?_)
        · obtain ⟨m, hm⟩ : ∃ m, m = cnt 0 (l.drop i) := ⟨_, rfl⟩
          obtain ⟨sy, va, hsy, hva⟩ : ∃ sy va : Int, sy = 17 ∧ va = (m : Int) - 3 := ⟨_, _, rfl, rfl⟩
          have hstep : rest (prevAt l i) (l.drop i) = (sy, va) :: rest (prevAt l (i + m)) (l.drop (i + m)) := by
            rw [hsy, hva, prevAt_step (k := 0) (by omega) (by omega), ← List.drop_drop, hm]
            exact step_zmid hk0 (by omega) (by omega)
          rw [show min (cnt 0 (l.drop i)) 138 = m by omega]
          conv => whnf
          repeat (first | (intro _ _; conv => whnf) | ((with_reducible apply Go.Vc.wr_i64); (focus exact And.intro (by omega) (by omega)); conv => whnf))
          rename_i r1 hr1
          refine own_app1 hd ht1 hs1 hw1 hd1 hr1 ho1 (by omega) ?_
          intro a1' c1' g2 t2 ho1' ht2 hd2 hs2 hw1' hk2 hown2
          have hlt2 : ∀ b, owner a2 = some b → b < t1 := fun b hb => by
            obtain ⟨cs, fr, hh⟩ := own_tag ho2 hb
            exact hd1 _ _ hh
          have ho2' := Own.fr ho2 (h' := g2) fun b o hb hh => by rw [hk2 b (hd1 _ _ hh) (fun e => hne b e hb)]; exact hh
          conv => whnf
          repeat (first | (intro _ _; conv => whnf))
          rename_i r2 hr2
          refine own_app1 hd (by omega) hs2 hw2 hd2 hr2 ho2' (by omega) ?_
          intro a2' c2' g3 t3 ho2'' ht3 hd3 hs3 hw2' hk3 hown3
          have hlt1 : ∀ b, owner a1' = some b → b < t2 := fun b hb => by
            obtain ⟨cs, fr, hh⟩ := own_tag ho1' hb
            exact hd2 _ _ hh
          have hne' : ∀ b, owner a1' = some b → owner a2 ≠ some b := fun b hb e => by
            rcases hown2 with e2 | ⟨q, e2, hq⟩
            · exact hne b (by rw [← e2]; exact hb) e
            · rw [hb] at e2; cases e2
              have := hlt2 b e
              omega
          have ho1'' := Own.fr ho1' (h' := g3) fun b o hb hh => by rw [hk3 b (hd2 _ _ hh) (hne' b hb)]; exact hh
          conv => whnf
          repeat (first | ((with_reducible apply Go.Vc.wr_i64); (focus exact And.intro (by omega) (by omega)); conv => whnf))
          refine round_end6 (i + m) (O ++ [(sy, va)]) a1' c1' a2' c2' (by omega) ⟨rfl, by rw [List.length_append]; rfl, by rw [List.length_append]; rfl, (by first | rfl | (show Value.int .i64 _ = Value.int .i64 _; congr 1; omega)), trivial⟩
            ⟨by omega, by rw [List.length_append, List.length_singleton]; omega, by rw [List.append_assoc, List.singleton_append, ← hstep]; exact hO, by rw [List.length_append, List.map_append, List.map_singleton, hsy]; exact ho1'', by rw [List.length_append, List.map_append, List.map_singleton, hva]; exact ho2'', hw1', hw2', fun b hb e => ?_, by omega, hs3⟩
          rcases hown3 with e2 | ⟨q, e2, hq⟩
          · exact hne' b hb (by rw [← e2]; exact e)
          · rw [e] at e2; cases e2
            have := hlt1 b hb
            omega
        · obtain ⟨m, hm⟩ : ∃ m, m = 1 := ⟨_, rfl⟩
          obtain ⟨sy, va, hsy, hva⟩ : ∃ sy va : Int, sy = 0 ∧ va = 0 := ⟨_, _, rfl, rfl⟩
          have hstep : rest (prevAt l i) (l.drop i) = (sy, va) :: rest (prevAt l (i + m)) (l.drop (i + m)) := by
            rw [hsy, hva, prevAt_step (k := 0) (by omega) (by omega), ← List.drop_drop, hm]
            exact step_zone hk0 (by omega)
          conv => whnf
          repeat (first | (intro _ _; conv => whnf))
          rename_i r1 hr1
          refine own_app1 hd ht1 hs1 hw1 hd1 hr1 ho1 (by omega) ?_
          intro a1' c1' g2 t2 ho1' ht2 hd2 hs2 hw1' hk2 hown2
          have hlt2 : ∀ b, owner a2 = some b → b < t1 := fun b hb => by
            obtain ⟨cs, fr, hh⟩ := own_tag ho2 hb
            exact hd1 _ _ hh
          have ho2' := Own.fr ho2 (h' := g2) fun b o hb hh => by rw [hk2 b (hd1 _ _ hh) (fun e => hne b e hb)]; exact hh
          conv => whnf
          repeat (first | (intro _ _; conv => whnf))
          rename_i r2 hr2
          refine own_app1 hd (by omega) hs2 hw2 hd2 hr2 ho2' (by omega) ?_
          intro a2' c2' g3 t3 ho2'' ht3 hd3 hs3 hw2' hk3 hown3
          have hlt1 : ∀ b, owner a1' = some b → b < t2 := fun b hb => by
            obtain ⟨cs, fr, hh⟩ := own_tag ho1' hb
            exact hd2 _ _ hh
          have hne' : ∀ b, owner a1' = some b → owner a2 ≠ some b := fun b hb e => by
            rcases hown2 with e2 | ⟨q, e2, hq⟩
            · exact hne b (by rw [← e2]; exact hb) e
            · rw [hb] at e2; cases e2
              have := hlt2 b e
              omega
          have ho1'' := Own.fr ho1' (h' := g3) fun b o hb hh => by rw [hk3 b (hd2 _ _ hh) (hne' b hb)]; exact hh
          conv => whnf
          repeat (first | ((with_reducible apply Go.Vc.wr_i64); (focus exact And.intro (by omega) (by omega)); conv => whnf))
          refine round_end6 (i + m) (O ++ [(sy, va)]) a1' c1' a2' c2' (by omega) ⟨rfl, by rw [List.length_append]; rfl, by rw [List.length_append]; rfl, (by first | rfl | (show Value.int .i64 _ = Value.int .i64 _; congr 1; omega)), trivial⟩
            ⟨by omega, by rw [List.length_append, List.length_singleton]; omega, by rw [List.append_assoc, List.singleton_append, ← hstep]; exact hO, by rw [List.length_append, List.map_append, List.map_singleton, hsy]; exact ho1'', by rw [List.length_append, List.map_append, List.map_singleton, hva]; exact ho2'', hw1', hw2', fun b hb e => ?_, by omega, hs3⟩
          rcases hown3 with e2 | ⟨q, e2, hq⟩
          · exact hne' b hb (by rw [← e2]; exact e)
          · rw [e] at e2; cases e2
            have := hlt1 b hb
            omega
    · conv => whnf
      refine Go.Vc.draw_intro [⟨0, false, false, false, 0⟩, ⟨1, false, false, false, 1⟩, ⟨2, false, false, false, 3⟩, ⟨3, false, false, false, 7⟩, ⟨4, false, false, false, 7⟩, ⟨5, false, false, false, 23⟩, ⟨6, false, false, false, 63⟩, ⟨7, false, false, false, 127⟩, ⟨8, false, false, false, 7⟩, ⟨9, false, false, false, 7⟩, ⟨10, false, false, false, 775⟩, ⟨11, false, false, false, 1799⟩, ⟨12, false, false, false, 4095⟩, ⟨13, false, false, false, 8191⟩, ⟨14, false, false, false, 16383⟩, ⟨15, false, false, false, 32767⟩, ⟨16, false, false, false, 32767⟩, ⟨17, true, false, false, 131071⟩, ⟨18, false, false, false, 262143⟩, ⟨19, false, false, false, 524287⟩] (hs := (fun _ => none)) (hsub := (fun _ _ h => nomatch h)) (hm := by kernel_rfl) (hpl := by kernel_rfl) ?_
      conv => whnf
      conv => whnf
      have hpk : ∀ {p}, 0 < i → l[i - 1]? = some p → prevAt l i = some p := fun h1 h2 => by unfold prevAt; rw [if_neg (by omega)]; exact h2
      refine br (fun hb2 => ?_) (fun hb2 => ?_)
      · conv => whnf
        repeat (first | ((with_reducible apply Go.Vc.sl_ix); (focus with_reducible assumption); (focus exact And.intro (by omega) (by omega)); intro xI bI offI hxI hcI; conv => whnf) | ((with_reducible apply Go.Vc.cell_i); (focus assumption); conv => whnf) | ((with_reducible apply Go.Vc.wr_i64); (focus exact And.intro (by omega) (by omega)); conv => whnf))
        rename_i x3 b3 o3 hx3 hc3
        rw [show ((i : Nat) : Int).toNat = i from rfl, hk] at hxI
        cases hxI
        rw [show (((i : Nat) : Int) - 1).toNat = i - 1 by omega] at hx3
        have hp := hpk (by omega) hx3
        refine br (fun hb3 => ?_) (fun hb3 => ?_)
        · rw [hb3] at hp
          conv => whnf
          refine (run_spec s1 hn hk (most := 6) (by omega)).mono ?_
          rintro _ _ _ _ _ ⟨rfl, rfl, rfl⟩
          conv => whnf
          refine br (fun hb4 => ?_) (fun hb4 => ?_)
          · conv => whnf
            refine (run_spec s1 hn hk (most := 6) (by omega)).mono ?_
            rintro _ _ _ _ _ ⟨rfl, rfl, rfl⟩
            obtain ⟨m, hm⟩ : ∃ m, m = min (cnt k (l.drop i)) 6 := ⟨_, rfl⟩
            obtain ⟨sy, va, hsy, hva⟩ : ∃ sy va : Int, sy = 16 ∧ va = (m : Int) - 3 := ⟨_, _, rfl, rfl⟩
            have hstep : rest (prevAt l i) (l.drop i) = (sy, va) :: rest (prevAt l (i + m)) (l.drop (i + m)) := by
              rw [hsy, hva, prevAt_step (k := k) (by omega) (by omega), ← List.drop_drop, hp]
              exact step_kbig hb1 hm (by omega)
            rw [← hm]
            conv => whnf
            repeat (first | (intro _ _; conv => whnf) | ((with_reducible apply Go.Vc.wr_i64); (focus exact And.intro (by omega) (by omega)); conv => whnf))
            rename_i r1 hr1
            refine own_app1 hd ht1 hs1 hw1 hd1 hr1 ho1 (by omega) ?_
            intro a1' c1' g2 t2 ho1' ht2 hd2 hs2 hw1' hk2 hown2
            have hlt2 : ∀ b, owner a2 = some b → b < t1 := fun b hb => by
              obtain ⟨cs, fr, hh⟩ := own_tag ho2 hb
              exact hd1 _ _ hh
            have ho2' := Own.fr ho2 (h' := g2) fun b o hb hh => by rw [hk2 b (hd1 _ _ hh) (fun e => hne b e hb)]; exact hh
            conv => whnf
            repeat (first | (intro _ _; conv => whnf))
            rename_i r2 hr2
            refine own_app1 hd (by omega) hs2 hw2 hd2 hr2 ho2' (by omega) ?_
            intro a2' c2' g3 t3 ho2'' ht3 hd3 hs3 hw2' hk3 hown3
            have hlt1 : ∀ b, owner a1' = some b → b < t2 := fun b hb => by
              obtain ⟨cs, fr, hh⟩ := own_tag ho1' hb
              exact hd2 _ _ hh
            have hne' : ∀ b, owner a1' = some b → owner a2 ≠ some b := fun b hb e => by
              rcases hown2 with e2 | ⟨q, e2, hq⟩
              · exact hne b (by rw [← e2]; exact hb) e
              · rw [hb] at e2; cases e2
                have := hlt2 b e
                omega
            have ho1'' := Own.fr ho1' (h' := g3) fun b o hb hh => by rw [hk3 b (hd2 _ _ hh) (hne' b hb)]; exact hh
            conv => whnf
            repeat (first | ((with_reducible apply Go.Vc.wr_i64); (focus exact And.intro (by omega) (by omega)); conv => whnf))
            refine round_end6 (i + m) (O ++ [(sy, va)]) a1' c1' a2' c2' (by omega) ⟨rfl, by rw [List.length_append]; rfl, by rw [List.length_append]; rfl, (by first | rfl | (show Value.int .i64 _ = Value.int .i64 _; congr 1; omega)), trivial⟩
              ⟨by omega, by rw [List.length_append, List.length_singleton]; omega, by rw [List.append_assoc, List.singleton_append, ← hstep]; exact hO, by rw [List.length_append, List.map_append, List.map_singleton, hsy]; exact ho1'', by rw [List.length_append, List.map_append, List.map_singleton, hva]; exact ho2'', hw1', hw2', fun b hb e => ?_, by omega, hs3⟩
            rcases hown3 with e2 | ⟨q, e2, hq⟩
            · exact hne' b hb (by rw [← e2]; exact e)
            · rw [e] at e2; cases e2
              have := hlt1 b hb
              omega
          · have hone : rest (prevAt l i) (l.drop i) = (k, 0) :: rest (some k) ((l.drop i).drop 1) := by
              rw [hp]
              exact step_kone hb1 hk0 (by omega)
            obtain ⟨m, hm⟩ : ∃ m, m = 1 := ⟨_, rfl⟩
            obtain ⟨sy, va, hsy, hva⟩ : ∃ sy va : Int, sy = k ∧ va = 0 := ⟨_, _, rfl, rfl⟩
            have hstep : rest (prevAt l i) (l.drop i) = (sy, va) :: rest (prevAt l (i + m)) (l.drop (i + m)) := by
              rw [hsy, hva, prevAt_step (k := k) (by omega) (by omega), ← List.drop_drop, hm]
              exact hone
            conv => whnf
            repeat (first | (intro _ _; conv => whnf))
            rename_i r1 hr1
            refine own_app1 hd ht1 hs1 hw1 hd1 hr1 ho1 (by omega) ?_
            intro a1' c1' g2 t2 ho1' ht2 hd2 hs2 hw1' hk2 hown2
            have hlt2 : ∀ b, owner a2 = some b → b < t1 := fun b hb => by
              obtain ⟨cs, fr, hh⟩ := own_tag ho2 hb
              exact hd1 _ _ hh
            have ho2' := Own.fr ho2 (h' := g2) fun b o hb hh => by rw [hk2 b (hd1 _ _ hh) (fun e => hne b e hb)]; exact hh
            conv => whnf
            repeat (first | (intro _ _; conv => whnf))
            rename_i r2 hr2
            refine own_app1 hd (by omega) hs2 hw2 hd2 hr2 ho2' (by omega) ?_
            intro a2' c2' g3 t3 ho2'' ht3 hd3 hs3 hw2' hk3 hown3
            have hlt1 : ∀ b, owner a1' = some b → b < t2 := fun b hb => by
              obtain ⟨cs, fr, hh⟩ := own_tag ho1' hb
              exact hd2 _ _ hh
            have hne' : ∀ b, owner a1' = some b → owner a2 ≠ some b := fun b hb e => by
              rcases hown2 with e2 | ⟨q, e2, hq⟩
              · exact hne b (by rw [← e2]; exact hb) e
              · rw [hb] at e2; cases e2
                have := hlt2 b e
                omega
            have ho1'' := Own.fr ho1' (h' := g3) fun b o hb hh => by rw [hk3 b (hd2 _ _ hh) (hne' b hb)]; exact hh
            conv => whnf
            repeat (first | ((with_reducible apply Go.Vc.wr_i64); (focus exact And.intro (by omega) (by omega)); conv => whnf))
            refine round_end6 (i + m) (O ++ [(sy, va)]) a1' c1' a2' c2' (by omega) ⟨rfl, by rw [List.length_append]; rfl, by rw [List.length_append]; rfl, (by first | rfl | (show Value.int .i64 _ = Value.int .i64 _; congr 1; omega)), trivial⟩
              ⟨by omega, by rw [List.length_append, List.length_singleton]; omega, by rw [List.append_assoc, List.singleton_append, ← hstep]; exact hO, by rw [List.length_append, List.map_append, List.map_singleton, hsy]; exact ho1'', by rw [List.length_append, List.map_append, List.map_singleton, hva]; exact ho2'', hw1', hw2', fun b hb e => ?_, by omega, hs3⟩
            rcases hown3 with e2 | ⟨q, e2, hq⟩
            · exact hne' b hb (by rw [← e2]; exact e)
            · rw [e] at e2; cases e2
              have := hlt1 b hb
              omega
        · have hone : rest (prevAt l i) (l.drop i) = (k, 0) :: rest (some k) ((l.drop i).drop 1) := step_new hb1 hk0 (by rw [hp]; exact fun e => hb3 (Option.some.inj e))
          obtain ⟨m, hm⟩ : ∃ m, m = 1 := ⟨_, rfl⟩
          obtain ⟨sy, va, hsy, hva⟩ : ∃ sy va : Int, sy = k ∧ va = 0 := ⟨_, _, rfl, rfl⟩
          have hstep : rest (prevAt l i) (l.drop i) = (sy, va) :: rest (prevAt l (i + m)) (l.drop (i + m)) := by
            rw [hsy, hva, prevAt_step (k := k) (by omega) (by omega), ← List.drop_drop, hm]
            exact hone
          conv => whnf
          repeat (first | (intro _ _; conv => whnf))
          rename_i r1 hr1
          refine own_app1 hd ht1 hs1 hw1 hd1 hr1 ho1 (by omega) ?_
          intro a1' c1' g2 t2 ho1' ht2 hd2 hs2 hw1' hk2 hown2
          have hlt2 : ∀ b, owner a2 = some b → b < t1 := fun b hb => by
            obtain ⟨cs, fr, hh⟩ := own_tag ho2 hb
            exact hd1 _ _ hh
          have ho2' := Own.fr ho2 (h' := g2) fun b o hb hh => by rw [hk2 b (hd1 _ _ hh) (fun e => hne b e hb)]; exact hh
          conv => whnf
          repeat (first | (intro _ _; conv => whnf))
          rename_i r2 hr2
          refine own_app1 hd (by omega) hs2 hw2 hd2 hr2 ho2' (by omega) ?_
          intro a2' c2' g3 t3 ho2'' ht3 hd3 hs3 hw2' hk3 hown3
          have hlt1 : ∀ b, owner a1' = some b → b < t2 := fun b hb => by
            obtain ⟨cs, fr, hh⟩ := own_tag ho1' hb
            exact hd2 _ _ hh
          have hne' : ∀ b, owner a1' = some b → owner a2 ≠ some b := fun b hb e => by
            rcases hown2 with e2 | ⟨q, e2, hq⟩
            · exact hne b (by rw [← e2]; exact hb) e
            · rw [hb] at e2; cases e2
              have := hlt2 b e
              omega
          have ho1'' := Own.fr ho1' (h' := g3) fun b o hb hh => by rw [hk3 b (hd2 _ _ hh) (hne' b hb)]; exact hh
          conv => whnf
          repeat (first | ((with_reducible apply Go.Vc.wr_i64); (focus exact And.intro (by omega) (by omega)); conv => whnf))
          refine round_end6 (i + m) (O ++ [(sy, va)]) a1' c1' a2' c2' (by omega) ⟨rfl, by rw [List.length_append]; rfl, by rw [List.length_append]; rfl, (by first | rfl | (show Value.int .i64 _ = Value.int .i64 _; congr 1; omega)), trivial⟩
            ⟨by omega, by rw [List.length_append, List.length_singleton]; omega, by rw [List.append_assoc, List.singleton_append, ← hstep]; exact hO, by rw [List.length_append, List.map_append, List.map_singleton, hsy]; exact ho1'', by rw [List.length_append, List.map_append, List.map_singleton, hva]; exact ho2'', hw1', hw2', fun b hb e => ?_, by omega, hs3⟩
          rcases hown3 with e2 | ⟨q, e2, hq⟩
          · exact hne' b hb (by rw [← e2]; exact e)
          · rw [e] at e2; cases e2
            have := hlt1 b hb
            omega
      · have hone : rest (prevAt l i) (l.drop i) = (k, 0) :: rest (some k) ((l.drop i).drop 1) := step_new hb1 hk0 (by unfold prevAt; rw [if_pos (by omega)]; simp)
        obtain ⟨m, hm⟩ : ∃ m, m = 1 := ⟨_, rfl⟩
        obtain ⟨sy, va, hsy, hva⟩ : ∃ sy va : Int, sy = k ∧ va = 0 := ⟨_, _, rfl, rfl⟩
        have hstep : rest (prevAt l i) (l.drop i) = (sy, va) :: rest (prevAt l (i + m)) (l.drop (i + m)) := by
          rw [hsy, hva, prevAt_step (k := k) (by omega) (by omega), ← List.drop_drop, hm]
          exact hone
        conv => whnf
        repeat (first | (intro _ _; conv => whnf))
        rename_i r1 hr1
        refine own_app1 hd ht1 hs1 hw1 hd1 hr1 ho1 (by omega) ?_
        intro a1' c1' g2 t2 ho1' ht2 hd2 hs2 hw1' hk2 hown2
        have hlt2 : ∀ b, owner a2 = some b → b < t1 := fun b hb => by
          obtain ⟨cs, fr, hh⟩ := own_tag ho2 hb
          exact hd1 _ _ hh
        have ho2' := Own.fr ho2 (h' := g2) fun b o hb hh => by rw [hk2 b (hd1 _ _ hh) (fun e => hne b e hb)]; exact hh
        conv => whnf
        repeat (first | (intro _ _; conv => whnf))
        rename_i r2 hr2
        refine own_app1 hd (by omega) hs2 hw2 hd2 hr2 ho2' (by omega) ?_
        intro a2' c2' g3 t3 ho2'' ht3 hd3 hs3 hw2' hk3 hown3
        have hlt1 : ∀ b, owner a1' = some b → b < t2 := fun b hb => by
          obtain ⟨cs, fr, hh⟩ := own_tag ho1' hb
          exact hd2 _ _ hh
        have hne' : ∀ b, owner a1' = some b → owner a2 ≠ some b := fun b hb e => by
          rcases hown2 with e2 | ⟨q, e2, hq⟩
          · exact hne b (by rw [← e2]; exact hb) e
          · rw [hb] at e2; cases e2
            have := hlt2 b e
            omega
        have ho1'' := Own.fr ho1' (h' := g3) fun b o hb hh => by rw [hk3 b (hd2 _ _ hh) (hne' b hb)]; exact hh
        conv => whnf
        repeat (first | ((with_reducible apply Go.Vc.wr_i64); (focus exact And.intro (by omega) (by omega)); conv => whnf))
        refine round_end6 (i + m) (O ++ [(sy, va)]) a1' c1' a2' c2' (by omega) ⟨rfl, by rw [List.length_append]; rfl, by rw [List.length_append]; rfl, (by first | rfl | (show Value.int .i64 _ = Value.int .i64 _; congr 1; omega)), trivial⟩
          ⟨by omega, by rw [List.length_append, List.length_singleton]; omega, by rw [List.append_assoc, List.singleton_append, ← hstep]; exact hO, by rw [List.length_append, List.map_append, List.map_singleton, hsy]; exact ho1'', by rw [List.length_append, List.map_append, List.map_singleton, hva]; exact ho2'', hw1', hw2', fun b hb e => ?_, by omega, hs3⟩
        rcases hown3 with e2 | ⟨q, e2, hq⟩
        · exact hne' b hb (by rw [← e2]; exact e)
        · rw [e] at e2; cases e2
          have := hlt1 b hb
          omega
  · conv => whnf
    have hin : i = n := by omega
    rw [List.drop_of_length_le (by omega), show rest (prevAt l i) [] = [] from rfl, List.append_nil] at hO
    subst hO
    exact ⟨a1, c1, a2, c2, rfl, ho1.sl, ho2.sl, ht1, hs1, hw1, hw2⟩
end Go.Proofs.YtikpfffhcjlcjaaGreat
