import Derived.Test.YtikpfffhcjlcjaaDef2
set_option linter.unusedSimpArgs false
namespace Go.Proofs.Ytikpfffhcjlcjaa
open Go Go.Vc Go.Dfl
set_option maxRecDepth 20000
set_option linter.unusedVariables false
def Two (h0 : Heap) (t0 : Nat) (h : Heap) (r2 r3 : Nat) (O : List (Int × Int)) : Prop :=
  ∃ a2 c2 a3 c3, h r2 = some (.cells #[.slice a2 O.length c2] 31 (0, 0)) ∧ h r3 = some (.cells #[.slice a3 O.length c3] 31 (0, 0)) ∧
    Vc.Own h 3 a2 O.length c2 (Value.int .i64) (O.map (·.1)) ∧ Vc.Own h 3 a3 O.length c3 (Value.int .i64) (O.map (·.2)) ∧
    (∀ b, owner a2 = some b → t0 ≤ b) ∧ (∀ b, owner a3 = some b → t0 ≤ b) ∧ (∀ b, owner a2 = some b → owner a3 ≠ some b) ∧ Vc.Sub h0 h ∧ t0 ≤ r2 ∧ t0 ≤ r3 ∧ r2 ≠ r3
theorem own_app {h0 h : Heap} {t0 t r : Nat} {a : Option Addr} {n c : Nat} {l : List Int} {x : Int} {ty : TypeId} (hd0 : Dom h0 t0) (ht : t0 ≤ t) (hs : Vc.Sub h0 h) (hw : ∀ b, owner a = some b → t0 ≤ b) (hd : Dom h t) 
    (ho : Vc.Own h 3 a n c (Value.int .i64) l) (hx : Sl h (some ⟨r, 0, none⟩) 1 (Value.int .i64) [x]) (hn : n ≤ 100000000) {K : Value → Heap → Nat → Prop}
    (hK : ∀ a' c' h' t', Vc.Own h' 3 a' (n + 1) c' (Value.int .i64) (l ++ [x]) → t ≤ t' → Dom h' t' → Vc.Sub h0 h' → (∀ b, owner a' = some b → t0 ≤ b) → (∀ k, k < t → owner a ≠ some k → h' k = h k) → (owner a' = owner a ∨ ∃ q, owner a' = some q ∧ t ≤ q) → K (.slice a' (n + 1) c') h' t') :
    AppVC Try.prog #[31, 31] ty (.slice a n c) (.slice (some ⟨r, 0, none⟩) 1 1) K h t := by
  refine app_int (l2 := [x]) ho hx (by omega) hd ?_
  intro a' c' h' t' ho' ht' hd' hk' hown'
  refine hK a' c' h' t' ho' (by omega) hd' (fun k o hk => ?_) (fun b hb => ?_) hk' hown'
  · have := hd0 k o hk
    rw [hk' k (by omega) (fun e => by have := hw k e; omega)]
    exact hs k o hk
  · rcases hown' with e | ⟨q, e, hq⟩
    · exact hw b (by rw [← e]; exact hb)
    · rw [e] at hb; cases hb; omega
theorem two_fin {h0 g : Heap} {t0 r2 r3 : Nat} {O : List (Int × Int)} {sy va : Int} {a2 a3 : Option Addr} {c2 c3 : Nat} (hd0 : Dom h0 t0) (hr2 : ∃ cs f, g r2 = some (.cells cs 31 f)) (hr3 : ∃ cs f, g r3 = some (.cells cs 31 f)) (ho2 : Vc.Own g 3 a2 (O.length + 1) c2 (Value.int .i64) (O.map (·.1) ++ [sy])) (ho3 : Vc.Own g 3 a3 (O.length + 1) c3 (Value.int .i64) (O.map (·.2) ++ [va]))
    (hw2 : ∀ b, owner a2 = some b → t0 ≤ b) (hw3 : ∀ b, owner a3 = some b → t0 ≤ b) (hne : ∀ b, owner a2 = some b → owner a3 ≠ some b) (hs : Vc.Sub h0 g) (h2 : t0 ≤ r2) (h3 : t0 ≤ r3) (hrr : r2 ≠ r3) :
    Two h0 t0 (hset (hset g r2 (.cells #[.slice a2 (O.length + 1) c2] 31 (0, 0))) r3 (.cells #[.slice a3 (O.length + 1) c3] 31 (0, 0))) r2 r3 (O ++ [(sy, va)]) := by
  obtain ⟨x2, f2, hr2⟩ := hr2
  obtain ⟨x3, f3, hr3⟩ := hr3
  have e : (O ++ [(sy, va)]).length = O.length + 1 := by simp
  have hfr : ∀ {a : Option Addr} {n c : Nat} {l : List Int}, Vc.Own g 3 a n c (Value.int .i64) l → Vc.Own (hset (hset g r2 (.cells #[.slice a2 (O.length + 1) c2] 31 (0, 0))) r3 (.cells #[.slice a3 (O.length + 1) c3] 31 (0, 0))) 3 a n c (Value.int .i64) l := fun ho => Own.fr ho fun k o hk hh => by
    rw [hset_ne _ _ (fun e => own_ne ho hr3 (by decide) (by rw [hk, e])), hset_ne _ _ (fun e => own_ne ho hr2 (by decide) (by rw [hk, e]))]
    exact hh
  refine ⟨a2, c2, a3, c3, by rw [hset_ne _ _ hrr, hset_same, e], by rw [hset_same, e], by rw [e, List.map_append]; exact hfr ho2, by rw [e, List.map_append]; exact hfr ho3, hw2, hw3, hne, fun k o hk => ?_, h2, h3, hrr⟩
  have := hd0 k o hk
  rw [hset_ne _ _ (by omega), hset_ne _ _ (by omega)]
  exact hs k o hk
theorem tell_spec {h0 h : Heap} {t0 t r2 r3 : Nat} {O : List (Int × Int)} (B : Two h0 t0 h r2 r3 O) (hd0 : Dom h0 t0) (ht : t0 ≤ t) (hO : O.length ≤ 100000000) (sy va : Int) :
    CallSpec Try.prog 30 #[.int .i64 sy, .int .i64 va, .pointer (some ⟨r2, 0, none⟩), .pointer (some ⟨r3, 0, none⟩)] h t (fun v h' t' => v = .tuple #[] ∧ Two h0 t0 h' r2 r3 (O ++ [(sy, va)]) ∧ t ≤ t') := by
  obtain ⟨a2, c2, a3, c3, hr2, hr3, ho2, ho3, hw2, hw3, hne, hs, htr2, htr3, hrr⟩ := B
  refine Go.Vc.spec_of_vc (fn := Try.f30) Try.func30 rfl (by kernel_rfl) (by kernel_rfl) (Nat.le_of_ble_eq_true rfl) ?_
  intro hd
  obtain ⟨H0, hH1, hH2, hH⟩ : ∃ H0 : Heap, H0 r2 = h r2 ∧ H0 r3 = h r3 ∧ ∀ h' : Heap, h' r2 = h r2 → h' r3 = h r3 → Vc.Sub H0 h' := by
    refine ⟨fun k => if k = r2 ∨ k = r3 then h k else none, by simp, by simp, fun h' e1 e2 k o hk => ?_⟩
    replace hk : (if k = r2 ∨ k = r3 then h k else none) = some o := hk
    by_cases e : k = r2 ∨ k = r3
    · rw [if_pos e] at hk
      rcases e with rfl | rfl
      · rw [e1]; exact hk
      · rw [e2]; exact hk
    · rw [if_neg e] at hk
      cases hk
  have hg2 := hH1.trans hr2
  have hg3 := hH2.trans hr3
  have h2t := hd _ _ hr2
  have h3t := hd _ _ hr3
  conv => whnf
  have hlt3 : ∀ b, owner a3 = some b → b < t := fun b hb => by
    obtain ⟨cs, fr, hh⟩ := own_tag ho3 hb
    exact hd _ _ hh
  have hk1 : ∀ {r : Nat} (x : Obj), t ≤ r → ∀ k, k < t → hset h r x k = h k := fun x hr k hk => hset_ne _ _ (by omega)
  refine Go.Vc.draw_of (by kernel_rfl) (Go.Vc.dany_split 2 6 (by kernel_rfl) (Go.Vc.dany_split 3 6 (by kernel_rfl) (Go.Vc.dany_plan [⟨0, false, true, false, 0⟩, ⟨1, false, false, false, 0⟩, ⟨4, false, true, false, 0⟩, ⟨5, false, true, false, 0⟩, ⟨2, true, false, true, 2⟩, ⟨3, true, false, true, 7⟩, ⟨6, true, false, true, 47⟩, ⟨7, true, false, false, 127⟩, ⟨8, true, false, false, 255⟩, ⟨9, true, false, false, 511⟩] H0 (by kernel_rfl) (hH h rfl rfl) ?_) (Go.Vc.dany_plan [⟨0, false, true, false, 0⟩, ⟨1, false, false, false, 0⟩, ⟨4, false, true, false, 0⟩, ⟨5, false, true, false, 0⟩, ⟨2, true, false, true, 2⟩, ⟨6, true, false, true, 38⟩, ⟨3, true, false, true, 103⟩, ⟨7, true, false, false, 127⟩, ⟨8, true, false, false, 255⟩, ⟨9, true, false, false, 511⟩] H0 (by kernel_rfl) (hH h rfl rfl) ?_)) (Go.Vc.dany_plan [⟨0, false, true, false, 0⟩, ⟨1, false, true, false, 0⟩, ⟨4, false, true, false, 0⟩, ⟨5, false, false, false, 0⟩, ⟨6, true, false, true, 32⟩, ⟨2, true, false, true, 98⟩, ⟨3, true, false, true, 103⟩, ⟨7, true, false, false, 127⟩, ⟨8, true, false, false, 255⟩, ⟨9, true, false, false, 511⟩] H0 (by kernel_rfl) (hH h rfl rfl) ?_))
  · conv => whnf
    repeat (first | ((with_reducible apply Go.Vc.ld_i); (focus ((repeat (first | with_reducible assumption | with_reducible exact Go.Vc.hset_same _ _ _ | with_reducible refine (Go.Vc.hset_ne _ _ (by omega)).trans ?_)); done)); (focus exact rfl); conv => whnf) | (intro _ _; conv => whnf))
    rename_i r hr
    refine ⟨hH _ (hset_ne _ _ (by omega)) (hset_ne _ _ (by omega)), ?_⟩
    have hdG := hd.set r (.cells #[.int .i64 sy] 3) (r + 1) (by omega) (by omega)
    have hsG := hs.trans (hd.sub_new hr (.cells #[.int .i64 sy] 3))
    have hGk := hk1 (.cells #[.int .i64 sy] 3) hr
    have slS := sl1 (hset_same h r (.cells #[.int .i64 sy] 3))
    conv => whnf
    refine own_app hd0 (by omega) hsG hw2 hdG (Own.fr ho2 fun b o hb hh => (hGk b (hd _ _ hh)).trans hh) slS (by omega) ?_
    intro a2' c2' g2 t2 ho2' ht2 hd2 hs2 hw2' hk2 hown2
    have hk2' : ∀ k, k < t → owner a2 ≠ some k → g2 k = h k := fun k h1 h2 => (hk2 k (by omega) h2).trans (hGk k h1)
    have er2 : g2 r2 = h r2 := hk2' _ h2t (own_ne ho2 hr2 (by decide))
    have er3 : g2 r3 = h r3 := hk2' _ h3t (own_ne ho2 hr3 (by decide))
    have hne' : ∀ b, owner a2' = some b → owner a3 ≠ some b := fun b hb e => by
      rcases hown2 with e2 | ⟨q, e2, hq⟩
      · exact hne b (by rw [← e2]; exact hb) e
      · rw [hb] at e2; cases e2
        have := hlt3 b e
        omega
    have hlt2' : ∀ b, owner a2' = some b → b < t2 := fun b hb => by
      obtain ⟨cs, fr, hh⟩ := own_tag ho2' hb
      exact hd2 _ _ hh
    refine ⟨hH _ er2 er3, ?_⟩
    conv => whnf
    repeat (first | (intro _ _; conv => whnf))
    rename_i rv hrv
    have hdQ := hd2.set rv (.cells #[.int .i64 va] 3) (rv + 1) (by omega) (by omega)
    have hsQ := hs2.trans (hd2.sub_new hrv (.cells #[.int .i64 va] 3))
    have hQk : ∀ k, k < t2 → hset g2 rv (.cells #[.int .i64 va] 3) k = g2 k := fun k hk => hset_ne _ _ (by omega)
    have slV := sl1 (hset_same g2 rv (.cells #[.int .i64 va] 3))
    refine ⟨hH _ ((hQk _ (by omega)).trans er2) ((hQk _ (by omega)).trans er3), ?_⟩
    conv => whnf
    refine own_app hd0 (by omega) hsQ hw3 hdQ (Own.fr ho3 fun b o hb hh => (hQk b (by have := hd _ _ hh; omega)).trans ((hk2' b (hd _ _ hh) (fun e => hne b e hb)).trans hh)) slV (by omega) ?_
    intro a3' c3' g3 t3 ho3' ht3 hd3 hs3 hw3' hk3 hown3
    have er2' : g3 r2 = h r2 := (hk3 _ (by omega) (own_ne ho3 hr2 (by decide))).trans ((hQk _ (by omega)).trans er2)
    have er3' : g3 r3 = h r3 := (hk3 _ (by omega) (own_ne ho3 hr3 (by decide))).trans ((hQk _ (by omega)).trans er3)
    have ho2'' := Own.fr ho2' (h' := g3) fun b o hb hh => (hk3 b (by have := hd2 _ _ hh; omega) (hne' b hb)).trans ((hQk b (hd2 _ _ hh)).trans hh)
    have hne'' : ∀ b, owner a2' = some b → owner a3' ≠ some b := fun b hb e => by
      rcases hown3 with e2 | ⟨q, e2, hq⟩
      · exact hne' b hb (by rw [← e2]; exact e)
      · rw [e] at e2; cases e2
        have := hlt2' b hb
        omega
    have hb2 : g3 r2 = some (.cells #[.slice a2 O.length c2] 31 (0, 0)) := er2'.trans hr2
    have hb3 : g3 r3 = some (.cells #[.slice a3 O.length c3] 31 (0, 0)) := er3'.trans hr3
    have hfin := two_fin (c2 := c2') (c3 := c3') (sy := sy) (va := va) hd0 ⟨_, _, hb2⟩ ⟨_, _, hb3⟩ ho2'' ho3' hw2' hw3' hne'' hs3 htr2 htr3 hrr
    have hrr' : r3 ≠ r2 := fun e => hrr e.symm
    conv => whnf
    repeat (first | ((with_reducible apply Go.Vc.st_i); (focus ((repeat (first | with_reducible assumption | with_reducible exact Go.Vc.hset_same _ _ _ | with_reducible refine (Go.Vc.hset_ne _ _ (by omega)).trans ?_)); done)); (focus exact rfl); (focus exact rfl); (focus exact rfl); (conv => whnf); intro cA hcA; (first | (simp only [List.setIfInBounds_toArray, List.set_cons_succ, List.set_cons_zero] at hcA; subst hcA) | subst hcA); conv => whnf) | ((with_reducible refine And.intro ?_ (And.intro ?_ ?_)); (focus exact rfl); (focus omega); conv => whnf))
    exact (show t ≤ t3 by omega)
  · conv => whnf
    repeat (first | ((with_reducible apply Go.Vc.ld_i); (focus ((repeat (first | with_reducible assumption | with_reducible exact Go.Vc.hset_same _ _ _ | with_reducible refine (Go.Vc.hset_ne _ _ (by omega)).trans ?_)); done)); (focus exact rfl); conv => whnf) | (intro _ _; conv => whnf))
    rename_i r hr
    refine ⟨hH _ (hset_ne _ _ (by omega)) (hset_ne _ _ (by omega)), ?_⟩
    have hdG1 := hd.set r (.cells #[.int .i64 sy] 3) (r + 1) (by omega) (by omega)
    have hsG1 := hs.trans (hd.sub_new hr (.cells #[.int .i64 sy] 3))
    have hGk1 := hk1 (.cells #[.int .i64 sy] 3) hr
    conv => whnf
    repeat (first | (intro _ _; conv => whnf))
    rename_i rv hrv
    have hdG := hdG1.set rv (.cells #[.int .i64 va] 3) (rv + 1) (by omega) (by omega)
    have hsG := hsG1.trans (hdG1.sub_new hrv (.cells #[.int .i64 va] 3))
    have hGk : ∀ k, k < t → hset (hset h r (.cells #[.int .i64 sy] 3)) rv (.cells #[.int .i64 va] 3) k = h k := fun k hk => (hset_ne _ _ (by omega)).trans (hGk1 k hk)
    have slS := sl1 (show hset (hset h r (.cells #[.int .i64 sy] 3)) rv (.cells #[.int .i64 va] 3) r = _ from (hset_ne _ _ (by omega)).trans (hset_same h r (.cells #[.int .i64 sy] 3)))
    have hrvG := hset_same (hset h r (.cells #[.int .i64 sy] 3)) rv (.cells #[.int .i64 va] 3)
    refine ⟨hH _ (hGk _ h2t) (hGk _ h3t), ?_⟩
    conv => whnf
    refine own_app hd0 (by omega) hsG hw2 hdG (Own.fr ho2 fun b o hb hh => (hGk b (hd _ _ hh)).trans hh) slS (by omega) ?_
    intro a2' c2' g2 t2 ho2' ht2 hd2 hs2 hw2' hk2 hown2
    have hk2' : ∀ k, k < t → owner a2 ≠ some k → g2 k = h k := fun k h1 h2 => (hk2 k (by omega) h2).trans (hGk k h1)
    have er2 : g2 r2 = h r2 := hk2' _ h2t (own_ne ho2 hr2 (by decide))
    have er3 : g2 r3 = h r3 := hk2' _ h3t (own_ne ho2 hr3 (by decide))
    have hne' : ∀ b, owner a2' = some b → owner a3 ≠ some b := fun b hb e => by
      rcases hown2 with e2 | ⟨q, e2, hq⟩
      · exact hne b (by rw [← e2]; exact hb) e
      · rw [hb] at e2; cases e2
        have := hlt3 b e
        omega
    have hlt2' : ∀ b, owner a2' = some b → b < t2 := fun b hb => by
      obtain ⟨cs, fr, hh⟩ := own_tag ho2' hb
      exact hd2 _ _ hh
    refine ⟨hH _ er2 er3, ?_⟩
    have hsQ := hs2
    have hdQ := hd2
    have hQk : ∀ k, k < t2 → g2 k = g2 k := fun _ _ => rfl
    have slV := sl1 ((hk2 rv (by omega) (fun e => by obtain ⟨_, _, hh⟩ := own_tag ho2 e; have := hd _ _ hh; omega)).trans hrvG)
    conv => whnf
    refine own_app hd0 (by omega) hsQ hw3 hdQ (Own.fr ho3 fun b o hb hh => (hQk b (by have := hd _ _ hh; omega)).trans ((hk2' b (hd _ _ hh) (fun e => hne b e hb)).trans hh)) slV (by omega) ?_
    intro a3' c3' g3 t3 ho3' ht3 hd3 hs3 hw3' hk3 hown3
    have er2' : g3 r2 = h r2 := (hk3 _ (by omega) (own_ne ho3 hr2 (by decide))).trans ((hQk _ (by omega)).trans er2)
    have er3' : g3 r3 = h r3 := (hk3 _ (by omega) (own_ne ho3 hr3 (by decide))).trans ((hQk _ (by omega)).trans er3)
    have ho2'' := Own.fr ho2' (h' := g3) fun b o hb hh => (hk3 b (by have := hd2 _ _ hh; omega) (hne' b hb)).trans ((hQk b (hd2 _ _ hh)).trans hh)
    have hne'' : ∀ b, owner a2' = some b → owner a3' ≠ some b := fun b hb e => by
      rcases hown3 with e2 | ⟨q, e2, hq⟩
      · exact hne' b hb (by rw [← e2]; exact e)
      · rw [e] at e2; cases e2
        have := hlt2' b hb
        omega
    have hb2 : g3 r2 = some (.cells #[.slice a2 O.length c2] 31 (0, 0)) := er2'.trans hr2
    have hb3 : g3 r3 = some (.cells #[.slice a3 O.length c3] 31 (0, 0)) := er3'.trans hr3
    have hfin := two_fin (c2 := c2') (c3 := c3') (sy := sy) (va := va) hd0 ⟨_, _, hb2⟩ ⟨_, _, hb3⟩ ho2'' ho3' hw2' hw3' hne'' hs3 htr2 htr3 hrr
    have hrr' : r3 ≠ r2 := fun e => hrr e.symm
    conv => whnf
    repeat (first | ((with_reducible apply Go.Vc.st_i); (focus ((repeat (first | with_reducible assumption | with_reducible exact Go.Vc.hset_same _ _ _ | with_reducible refine (Go.Vc.hset_ne _ _ (by omega)).trans ?_)); done)); (focus exact rfl); (focus exact rfl); (focus exact rfl); (conv => whnf); intro cA hcA; (first | (simp only [List.setIfInBounds_toArray, List.set_cons_succ, List.set_cons_zero] at hcA; subst hcA) | subst hcA); conv => whnf) | ((with_reducible refine And.intro ?_ (And.intro ?_ ?_)); (focus exact rfl); (focus omega); conv => whnf))
    exact (show t ≤ t3 by omega)
  · conv => whnf
    repeat (first | ((with_reducible apply Go.Vc.ld_i); (focus ((repeat (first | with_reducible assumption | with_reducible exact Go.Vc.hset_same _ _ _ | with_reducible refine (Go.Vc.hset_ne _ _ (by omega)).trans ?_)); done)); (focus exact rfl); conv => whnf) | (intro _ _; conv => whnf))
    rename_i rv hrv
    refine ⟨hH _ (hset_ne _ _ (by omega)) (hset_ne _ _ (by omega)), ?_⟩
    have hdG1 := hd.set rv (.cells #[.int .i64 va] 3) (rv + 1) (by omega) (by omega)
    have hsG1 := hs.trans (hd.sub_new hrv (.cells #[.int .i64 va] 3))
    have hGk1 := hk1 (.cells #[.int .i64 va] 3) hrv
    conv => whnf
    repeat (first | (intro _ _; conv => whnf))
    rename_i r hr
    have hdG := hdG1.set r (.cells #[.int .i64 sy] 3) (r + 1) (by omega) (by omega)
    have hsG := hsG1.trans (hdG1.sub_new hr (.cells #[.int .i64 sy] 3))
    have hGk : ∀ k, k < t → hset (hset h rv (.cells #[.int .i64 va] 3)) r (.cells #[.int .i64 sy] 3) k = h k := fun k hk => (hset_ne _ _ (by omega)).trans (hGk1 k hk)
    have hrvG : hset (hset h rv (.cells #[.int .i64 va] 3)) r (.cells #[.int .i64 sy] 3) rv = _ := (hset_ne _ _ (by omega)).trans (hset_same h rv (.cells #[.int .i64 va] 3))
    have slS := sl1 (hset_same (hset h rv (.cells #[.int .i64 va] 3)) r (.cells #[.int .i64 sy] 3))
    refine ⟨hH _ (hGk _ h2t) (hGk _ h3t), ?_⟩
    conv => whnf
    refine own_app hd0 (by omega) hsG hw2 hdG (Own.fr ho2 fun b o hb hh => (hGk b (hd _ _ hh)).trans hh) slS (by omega) ?_
    intro a2' c2' g2 t2 ho2' ht2 hd2 hs2 hw2' hk2 hown2
    have hk2' : ∀ k, k < t → owner a2 ≠ some k → g2 k = h k := fun k h1 h2 => (hk2 k (by omega) h2).trans (hGk k h1)
    have er2 : g2 r2 = h r2 := hk2' _ h2t (own_ne ho2 hr2 (by decide))
    have er3 : g2 r3 = h r3 := hk2' _ h3t (own_ne ho2 hr3 (by decide))
    have hne' : ∀ b, owner a2' = some b → owner a3 ≠ some b := fun b hb e => by
      rcases hown2 with e2 | ⟨q, e2, hq⟩
      · exact hne b (by rw [← e2]; exact hb) e
      · rw [hb] at e2; cases e2
        have := hlt3 b e
        omega
    have hlt2' : ∀ b, owner a2' = some b → b < t2 := fun b hb => by
      obtain ⟨cs, fr, hh⟩ := own_tag ho2' hb
      exact hd2 _ _ hh
    refine ⟨hH _ er2 er3, ?_⟩
    have hsQ := hs2
    have hdQ := hd2
    have hQk : ∀ k, k < t2 → g2 k = g2 k := fun _ _ => rfl
    have slV := sl1 ((hk2 rv (by omega) (fun e => by obtain ⟨_, _, hh⟩ := own_tag ho2 e; have := hd _ _ hh; omega)).trans hrvG)
    conv => whnf
    refine own_app hd0 (by omega) hsQ hw3 hdQ (Own.fr ho3 fun b o hb hh => (hQk b (by have := hd _ _ hh; omega)).trans ((hk2' b (hd _ _ hh) (fun e => hne b e hb)).trans hh)) slV (by omega) ?_
    intro a3' c3' g3 t3 ho3' ht3 hd3 hs3 hw3' hk3 hown3
    have er2' : g3 r2 = h r2 := (hk3 _ (by omega) (own_ne ho3 hr2 (by decide))).trans ((hQk _ (by omega)).trans er2)
    have er3' : g3 r3 = h r3 := (hk3 _ (by omega) (own_ne ho3 hr3 (by decide))).trans ((hQk _ (by omega)).trans er3)
    have ho2'' := Own.fr ho2' (h' := g3) fun b o hb hh => (hk3 b (by have := hd2 _ _ hh; omega) (hne' b hb)).trans ((hQk b (hd2 _ _ hh)).trans hh)
    have hne'' : ∀ b, owner a2' = some b → owner a3' ≠ some b := fun b hb e => by
      rcases hown3 with e2 | ⟨q, e2, hq⟩
      · exact hne' b hb (by rw [← e2]; exact e)
      · rw [e] at e2; cases e2
        have := hlt2' b hb
        omega
    have hb2 : g3 r2 = some (.cells #[.slice a2 O.length c2] 31 (0, 0)) := er2'.trans hr2
    have hb3 : g3 r3 = some (.cells #[.slice a3 O.length c3] 31 (0, 0)) := er3'.trans hr3
    have hfin := two_fin (c2 := c2') (c3 := c3') (sy := sy) (va := va) hd0 ⟨_, _, hb2⟩ ⟨_, _, hb3⟩ ho2'' ho3' hw2' hw3' hne'' hs3 htr2 htr3 hrr
    have hrr' : r3 ≠ r2 := fun e => hrr e.symm
    conv => whnf
    repeat (first | ((with_reducible apply Go.Vc.st_i); (focus ((repeat (first | with_reducible assumption | with_reducible exact Go.Vc.hset_same _ _ _ | with_reducible refine (Go.Vc.hset_ne _ _ (by omega)).trans ?_)); done)); (focus exact rfl); (focus exact rfl); (focus exact rfl); (conv => whnf); intro cA hcA; (first | (simp only [List.setIfInBounds_toArray, List.set_cons_succ, List.set_cons_zero] at hcA; subst hcA) | subst hcA); conv => whnf) | ((with_reducible refine And.intro ?_ (And.intro ?_ ?_)); (focus exact rfl); (focus omega); conv => whnf))
    exact (show t ≤ t3 by omega)
theorem runs_spec {h : Heap} {t : Nat} {a : Option Addr} {n c : Nat} {l : List Int} (s : Sl h a n (Value.int .i64) l) (hn : n ≤ 4000000) (hc : n ≤ c) :
    CallSpec Try.prog 17 #[.slice a n c] h t (fun v h' t' => ∃ a1 c1 a2 c2, v = .tuple #[.slice a1 (runsF l).length c1, .slice a2 (runsF l).length c2] ∧ Sl h' a1 (runsF l).length (Value.int .i64) ((runsF l).map (·.1)) ∧ Sl h' a2 (runsF l).length (Value.int .i64) ((runsF l).map (·.2)) ∧ t ≤ t' ∧ Vc.Sub h h' ∧ (∀ b, owner a1 = some b → t ≤ b) ∧ ∀ b, owner a2 = some b → t ≤ b) := by
  have hl := s.1
  refine Go.Vc.spec_of_vc (fn := Try.f17) Try.func17 rfl (by kernel_rfl) (by kernel_rfl) (Nat.le_of_ble_eq_true rfl) ?_
  intro hd
  conv => whnf
  intro r2 hr2
  conv => whnf
  intro r3 hr3
  conv => whnf
  have hs1 := hd.sub_new hr2 (.cells #[.slice none 0 0] 31)
  have hd1 := hd.set r2 (.cells #[.slice none 0 0] 31) (r2 + 1) (by omega) (by omega)
  have hs2 := hd1.sub_new hr3 (.cells #[.slice none 0 0] 31)
  have hs0 := hs1.trans hs2
  have B0 : Two h t (hset (hset h r2 (.cells #[.slice none 0 0] 31)) r3 (.cells #[.slice none 0 0] 31)) r2 r3 [] :=
    ⟨none, 0, none, 0, by rw [hset_ne _ _ (by omega), hset_same]; rfl, by rw [hset_same]; rfl, Own.nil _ _ _, Own.nil _ _ _, (fun b hb => by cases hb), (fun b hb => by cases hb), (fun b hb => by cases hb), hs0, by omega, by omega, by omega⟩
  refine loop_intro5 (fun (n : Nat) (L : List Int) (O : List (Int × Int)) (a : Option Addr) (c : Nat) => [(0, .slice a n c), (2, .pointer (some ⟨r2, 0, none⟩)), (3, .pointer (some ⟨r3, 0, none⟩)), (4, .func (.func 30) #[] #[.pointer (some ⟨r2, 0, none⟩), .pointer (some ⟨r3, 0, none⟩)])])
    (fun n L O a c h' t' => Sl h a n (Value.int .i64) L ∧ n ≤ c ∧ n + O.length ≤ 4000000 ∧ O ++ runsF L = runsF l ∧ Two h t h' r2 r3 O ∧ t ≤ t') (fun n _ _ _ _ => n) n l [] a c ⟨rfl, rfl, rfl, rfl, trivial⟩
    ⟨s, hc, by simp; omega, rfl, B0, by omega⟩ ?_
  rintro n1 L O a1 c1 e1 g t1 hd1 ⟨s1, hc1, hOn, hO, B1, ht1⟩
  have hl1 := s1.1
  have hs3 : Vc.Sub h g := by
    obtain ⟨_, _, _, _, _, _, _, _, _, _, _, hs, _⟩ := B1
    exact hs
  have sg1 := s1.sub hs3
  conv => whnf
  refine br (fun hb => ?_) (fun hb => ?_)
  · obtain ⟨k, r, rfl⟩ : ∃ k r, L = k :: r := by
      cases L with
      | nil => simp at hl1; omega
      | cons k r => exact ⟨k, r, rfl⟩
    conv => whnf
    refine Go.Vc.draw_intro [⟨0, false, false, false, 0⟩, ⟨1, false, false, false, 1⟩, ⟨2, false, false, false, 3⟩, ⟨3, false, false, false, 0⟩, ⟨4, false, false, false, 15⟩] (hs := (fun _ => none)) (hsub := (fun _ _ h => nomatch h)) (hm := by kernel_rfl) (hpl := by kernel_rfl) ?_
    conv => whnf
    conv => whnf
    repeat (first | ((with_reducible apply Go.Vc.sl_ix); (focus with_reducible assumption); (focus exact And.intro (by omega) (by omega)); intro xI bI offI hxI hcI; conv => whnf) | ((with_reducible apply Go.Vc.cell_i); (focus assumption); conv => whnf))
    cases hxI
    have hcn := cnt_le k (k :: r)
    refine loop_intro (fun j : Nat => [(0, .slice a1 n1 c1), (2, .pointer (some ⟨r2, 0, none⟩)), (3, .pointer (some ⟨r3, 0, none⟩)), (4, .func (.func 30) #[] #[.pointer (some ⟨r2, 0, none⟩), .pointer (some ⟨r3, 0, none⟩)]), (5, .int .i64 (j : Nat)), (6, .int .i64 k)])
      (fun j h' t' => g = h' ∧ t1 = t' ∧ j ≤ n1 ∧ ∀ q, q < j → (k :: r)[q]? = some k) (fun j => n1 - j) 0 ⟨rfl, rfl, rfl, rfl, rfl, rfl, trivial⟩ ⟨rfl, rfl, by omega, fun q hq => by omega⟩ ?_
    rintro j e2 _ _ hd1 ⟨rfl, rfl, hj, hq⟩
    have hge : j ≤ cnt k (k :: r) := cnt_ge fun q h1 => hq q h1
    conv => whnf
    refine br (fun hb2 => ?_) (fun hb2 => ?_)
    · conv => whnf
      repeat (first | ((with_reducible apply Go.Vc.sl_ix); (focus with_reducible assumption); (focus exact And.intro (by omega) (by omega)); intro xI bI offI hxI hcI; conv => whnf) | ((with_reducible apply Go.Vc.cell_i); (focus assumption); conv => whnf))
      have hx4 : (k :: r)[j]? = some xI := hxI
      refine br (fun hb3 => ?_) (fun hb3 => ?_)
      · conv => whnf
        repeat (first | ((with_reducible apply Go.Vc.wr_i64); (focus exact And.intro (by omega) (by omega)); conv => whnf))
        refine round_end (j + 1) (by omega) ⟨rfl, rfl, rfl, rfl, rfl, rfl, trivial⟩ ⟨rfl, rfl, by omega, fun q h1 => ?_⟩
        rcases Nat.lt_or_ge q j with h2 | h2
        · exact hq q h2
        · rw [show q = j by omega, hx4, hb3]
      · have hcj : cnt k (k :: r) = j := cnt_eq hq (by rw [hx4]; exact fun e => hb3 (Option.some.inj e))
        have hj1 : 1 ≤ j := by have := cnt_self k r; omega
        have hgr : runsF (k :: r) = grp k j ++ runsF ((k :: r).drop j) := by
          have := cnt_self k r
          rw [runsF, show j = cnt k r + 1 by omega, List.drop_succ_cons]
        conv => whnf
        repeat (first | ((with_reducible refine And.intro (And.intro ?_ ?_) ?_); (focus omega); (focus omega); conv => whnf) | (intro _ _; conv => whnf))
        rename_i a9 ha9
        have s9 := s1.drop (m := j) (c := c1) (by omega) hc1 ha9
        rw [hgr] at hO
        generalize hR : (k :: r).drop j = R at s9 hO
        clear hgr
        refine br (fun hk => ?_) (fun hk => ?_)
        · rw [grp, if_neg hk, List.cons_append, ← List.singleton_append, ← List.append_assoc] at hO
          conv => whnf
          refine (tell_spec B1 hd ht1 (by omega) _ _).mono ?_
          rintro _ g1 t1' hd1' _ ⟨rfl, B1', ht1'⟩
          conv => whnf
          repeat (first | ((with_reducible apply Go.Vc.wr_i64); (focus exact And.intro (by omega) (by omega)); conv => whnf))
          refine loop_intro2 (fun (m : Nat) (O : List (Int × Int)) => [(0, .slice a9 (n1 - j) (c1 - j)), (2, .pointer (some ⟨r2, 0, none⟩)), (3, .pointer (some ⟨r3, 0, none⟩)), (4, .func (.func 30) #[] #[.pointer (some ⟨r2, 0, none⟩), .pointer (some ⟨r3, 0, none⟩)]), (5, .int .i64 (m : Nat)), (6, .int .i64 k)])
            (fun m O h' t' => m ≤ n1 ∧ (n1 - j) + O.length + m ≤ 4000000 ∧ O ++ (ks k m ++ runsF R) = runsF l ∧ Two h t h' r2 r3 O ∧ t ≤ t') (fun m _ => m) (j - 1) (O ++ [(k, 0)]) ⟨rfl, rfl, rfl, rfl, (by show Value.int .i64 _ = Value.int .i64 _; congr 1; omega), rfl, trivial⟩ ⟨by omega, by rw [List.length_append, List.length_singleton]; omega, hO, B1', by omega⟩ ?_
          rintro m O e9 g t1 hd1 ⟨hm, hOm, hO, B1, ht1⟩
          conv => whnf
          refine br (fun hb => ?_) (fun hb => ?_)
          · conv => whnf
            repeat (first | (refine Go.Vc.br_t ?_ ?_; (focus omega); conv => whnf) | (refine Go.Vc.br_f ?_ ?_; (focus omega); conv => whnf))
            refine br (fun hb3 => ?_) (fun hb3 => ?_)
            · rw [ks_big (by omega), List.cons_append, ← List.singleton_append, ← List.append_assoc] at hO
              conv => whnf
              repeat (first | ((with_reducible apply Go.Vc.wr_i64); (focus exact And.intro (by omega) (by omega)); conv => whnf))
              rw [show (if (6 : Int) < (m : Int) then (6 : Int) else (m : Int)) = ((min m 6 : Nat) : Int) by split <;> omega]
              refine (tell_spec B1 hd ht1 (by omega) _ _).mono ?_
              rintro _ g2 t2 hd2 _ ⟨rfl, B2, ht2⟩
              conv => whnf
              repeat (first | ((with_reducible apply Go.Vc.wr_i64); (focus exact And.intro (by omega) (by omega)); conv => whnf))
              exact round_end2 (m - min m 6) (O ++ [(16, ((min m 6 : Nat) : Int) - 3)]) (by omega) ⟨rfl, rfl, rfl, rfl, (by show Value.int .i64 _ = Value.int .i64 _; congr 1; omega), rfl, trivial⟩ ⟨by omega, by rw [List.length_append, List.length_singleton]; omega, hO, B2, by omega⟩
            · rw [ks_one (by omega) (by omega), List.cons_append, ← List.singleton_append, ← List.append_assoc] at hO
              conv => whnf
              refine (tell_spec B1 hd ht1 (by omega) _ _).mono ?_
              rintro _ g2 t2 hd2 _ ⟨rfl, B2, ht2⟩
              conv => whnf
              repeat (first | ((with_reducible apply Go.Vc.wr_i64); (focus exact And.intro (by omega) (by omega)); conv => whnf))
              exact round_end2 (m - 1) (O ++ [(k, 0)]) (by omega) ⟨rfl, rfl, rfl, rfl, (by show Value.int .i64 _ = Value.int .i64 _; congr 1; omega), rfl, trivial⟩ ⟨by omega, by rw [List.length_append, List.length_singleton]; omega, hO, B2, by omega⟩
          · obtain rfl : m = 0 := by omega
            rw [ks_nil, List.nil_append] at hO
            conv => whnf
            exact round_end5 (n1 - j) R O a9 (c1 - j) (by omega) ⟨rfl, rfl, rfl, rfl, trivial⟩ ⟨s9, by omega, by omega, hO, B1, by omega⟩
        · have hk : k = 0 := Decidable.not_not.1 hk
          subst hk
          rw [grp, if_pos rfl] at hO
          conv => whnf
          refine loop_intro2 (fun (m : Nat) (O : List (Int × Int)) => [(0, .slice a9 (n1 - j) (c1 - j)), (2, .pointer (some ⟨r2, 0, none⟩)), (3, .pointer (some ⟨r3, 0, none⟩)), (4, .func (.func 30) #[] #[.pointer (some ⟨r2, 0, none⟩), .pointer (some ⟨r3, 0, none⟩)]), (5, .int .i64 (m : Nat)), (6, .int .i64 0)])
            (fun m O h' t' => m ≤ n1 ∧ (n1 - j) + O.length + m ≤ 4000000 ∧ O ++ (zs m ++ runsF R) = runsF l ∧ Two h t h' r2 r3 O ∧ t ≤ t') (fun m _ => m) j O ⟨rfl, rfl, rfl, rfl, rfl, rfl, trivial⟩ ⟨by omega, by omega, hO, B1, ht1⟩ ?_
          rintro m O e9 g t1 hd1 ⟨hm, hOm, hO, B1, ht1⟩
          conv => whnf
          refine br (fun hb => ?_) (fun hb => ?_)
          · conv => whnf
            repeat (first | (refine Go.Vc.br_t ?_ ?_; (focus omega); conv => whnf))
            refine br (fun hb3 => ?_) (fun hb3 => ?_)
            · rw [zs_big (by omega), List.cons_append, ← List.singleton_append, ← List.append_assoc] at hO
              conv => whnf
              repeat (first | ((with_reducible apply Go.Vc.wr_i64); (focus exact And.intro (by omega) (by omega)); conv => whnf))
              rw [show (if (138 : Int) < (m : Int) then (138 : Int) else (m : Int)) = ((min m 138 : Nat) : Int) by split <;> omega]
              refine (tell_spec B1 hd ht1 (by omega) _ _).mono ?_
              rintro _ g2 t2 hd2 _ ⟨rfl, B2, ht2⟩
              conv => whnf
              repeat (first | ((with_reducible apply Go.Vc.wr_i64); (focus exact And.intro (by omega) (by omega)); conv => whnf))
              exact round_end2 (m - min m 138) (O ++ [(18, ((min m 138 : Nat) : Int) - 11)]) (by omega) ⟨rfl, rfl, rfl, rfl, (by show Value.int .i64 _ = Value.int .i64 _; congr 1; omega), rfl, trivial⟩ ⟨by omega, by rw [List.length_append, List.length_singleton]; omega, hO, B2, by omega⟩
            · conv => whnf
              repeat (first | (refine Go.Vc.br_t ?_ ?_; (focus omega); conv => whnf))
              refine br (fun hb4 => ?_) (fun hb4 => ?_)
              · rw [zs_mid (by omega) (by omega), ← List.append_assoc] at hO
                conv => whnf
                repeat (first | ((with_reducible apply Go.Vc.wr_i64); (focus exact And.intro (by omega) (by omega)); conv => whnf))
                refine (tell_spec B1 hd ht1 (by omega) _ _).mono ?_
                rintro _ g2 t2 hd2 _ ⟨rfl, B2, ht2⟩
                conv => whnf
                repeat (first | ((with_reducible apply Go.Vc.wr_i64); (focus exact And.intro (by omega) (by omega)); conv => whnf))
                exact round_end2 0 (O ++ [(17, (m : Int) - 3)]) (by omega) ⟨rfl, rfl, rfl, rfl, (by show Value.int .i64 _ = Value.int .i64 _; congr 1; omega), rfl, trivial⟩ ⟨by omega, by rw [List.length_append, List.length_singleton]; omega, by rw [zs_nil]; exact hO, B2, by omega⟩
              · rw [zs_one (by omega) (by omega), List.cons_append, ← List.singleton_append, ← List.append_assoc] at hO
                conv => whnf
                repeat (first | (refine Go.Vc.br_f ?_ ?_; (focus omega); conv => whnf))
                refine (tell_spec B1 hd ht1 (by omega) _ _).mono ?_
                rintro _ g2 t2 hd2 _ ⟨rfl, B2, ht2⟩
                conv => whnf
                repeat (first | ((with_reducible apply Go.Vc.wr_i64); (focus exact And.intro (by omega) (by omega)); conv => whnf))
                exact round_end2 (m - 1) (O ++ [(0, 0)]) (by omega) ⟨rfl, rfl, rfl, rfl, (by show Value.int .i64 _ = Value.int .i64 _; congr 1; omega), rfl, trivial⟩ ⟨by omega, by rw [List.length_append, List.length_singleton]; omega, hO, B2, by omega⟩
          · obtain rfl : m = 0 := by omega
            rw [zs_nil, List.nil_append] at hO
            conv => whnf
            exact round_end5 (n1 - j) R O a9 (c1 - j) (by omega) ⟨rfl, rfl, rfl, rfl, trivial⟩ ⟨s9, by omega, by omega, hO, B1, by omega⟩
    · have hcj : cnt k (k :: r) = j := cnt_eq hq (by rw [List.getElem?_eq_none (by omega)]; simp)
      have hj1 : 1 ≤ j := by have := cnt_self k r; omega
      have hgr : runsF (k :: r) = grp k j ++ runsF ((k :: r).drop j) := by
        have := cnt_self k r
        rw [runsF, show j = cnt k r + 1 by omega, List.drop_succ_cons]
      conv => whnf
      repeat (first | ((with_reducible refine And.intro (And.intro ?_ ?_) ?_); (focus omega); (focus omega); conv => whnf) | (intro _ _; conv => whnf))
      rename_i a9 ha9
      have s9 := s1.drop (m := j) (c := c1) (by omega) hc1 ha9
      rw [hgr] at hO
      generalize hR : (k :: r).drop j = R at s9 hO
      clear hgr
      refine br (fun hk => ?_) (fun hk => ?_)
      · rw [grp, if_neg hk, List.cons_append, ← List.singleton_append, ← List.append_assoc] at hO
        conv => whnf
        refine (tell_spec B1 hd ht1 (by omega) _ _).mono ?_
        rintro _ g1 t1' hd1' _ ⟨rfl, B1', ht1'⟩
        conv => whnf
        repeat (first | ((with_reducible apply Go.Vc.wr_i64); (focus exact And.intro (by omega) (by omega)); conv => whnf))
        refine loop_intro2 (fun (m : Nat) (O : List (Int × Int)) => [(0, .slice a9 (n1 - j) (c1 - j)), (2, .pointer (some ⟨r2, 0, none⟩)), (3, .pointer (some ⟨r3, 0, none⟩)), (4, .func (.func 30) #[] #[.pointer (some ⟨r2, 0, none⟩), .pointer (some ⟨r3, 0, none⟩)]), (5, .int .i64 (m : Nat)), (6, .int .i64 k)])
          (fun m O h' t' => m ≤ n1 ∧ (n1 - j) + O.length + m ≤ 4000000 ∧ O ++ (ks k m ++ runsF R) = runsF l ∧ Two h t h' r2 r3 O ∧ t ≤ t') (fun m _ => m) (j - 1) (O ++ [(k, 0)]) ⟨rfl, rfl, rfl, rfl, (by show Value.int .i64 _ = Value.int .i64 _; congr 1; omega), rfl, trivial⟩ ⟨by omega, by rw [List.length_append, List.length_singleton]; omega, hO, B1', by omega⟩ ?_
        rintro m O e9 g t1 hd1 ⟨hm, hOm, hO, B1, ht1⟩
        conv => whnf
        refine br (fun hb => ?_) (fun hb => ?_)
        · conv => whnf
          repeat (first | (refine Go.Vc.br_t ?_ ?_; (focus omega); conv => whnf) | (refine Go.Vc.br_f ?_ ?_; (focus omega); conv => whnf))
          refine br (fun hb3 => ?_) (fun hb3 => ?_)
          · rw [ks_big (by omega), List.cons_append, ← List.singleton_append, ← List.append_assoc] at hO
            conv => whnf
            repeat (first | ((with_reducible apply Go.Vc.wr_i64); (focus exact And.intro (by omega) (by omega)); conv => whnf))
            rw [show (if (6 : Int) < (m : Int) then (6 : Int) else (m : Int)) = ((min m 6 : Nat) : Int) by split <;> omega]
            refine (tell_spec B1 hd ht1 (by omega) _ _).mono ?_
            rintro _ g2 t2 hd2 _ ⟨rfl, B2, ht2⟩
            conv => whnf
            repeat (first | ((with_reducible apply Go.Vc.wr_i64); (focus exact And.intro (by omega) (by omega)); conv => whnf))
            exact round_end2 (m - min m 6) (O ++ [(16, ((min m 6 : Nat) : Int) - 3)]) (by omega) ⟨rfl, rfl, rfl, rfl, (by show Value.int .i64 _ = Value.int .i64 _; congr 1; omega), rfl, trivial⟩ ⟨by omega, by rw [List.length_append, List.length_singleton]; omega, hO, B2, by omega⟩
          · rw [ks_one (by omega) (by omega), List.cons_append, ← List.singleton_append, ← List.append_assoc] at hO
            conv => whnf
            refine (tell_spec B1 hd ht1 (by omega) _ _).mono ?_
            rintro _ g2 t2 hd2 _ ⟨rfl, B2, ht2⟩
            conv => whnf
            repeat (first | ((with_reducible apply Go.Vc.wr_i64); (focus exact And.intro (by omega) (by omega)); conv => whnf))
            exact round_end2 (m - 1) (O ++ [(k, 0)]) (by omega) ⟨rfl, rfl, rfl, rfl, (by show Value.int .i64 _ = Value.int .i64 _; congr 1; omega), rfl, trivial⟩ ⟨by omega, by rw [List.length_append, List.length_singleton]; omega, hO, B2, by omega⟩
        · obtain rfl : m = 0 := by omega
          rw [ks_nil, List.nil_append] at hO
          conv => whnf
          exact round_end5 (n1 - j) R O a9 (c1 - j) (by omega) ⟨rfl, rfl, rfl, rfl, trivial⟩ ⟨s9, by omega, by omega, hO, B1, by omega⟩
      · have hk : k = 0 := Decidable.not_not.1 hk
        subst hk
        rw [grp, if_pos rfl] at hO
        conv => whnf
        refine loop_intro2 (fun (m : Nat) (O : List (Int × Int)) => [(0, .slice a9 (n1 - j) (c1 - j)), (2, .pointer (some ⟨r2, 0, none⟩)), (3, .pointer (some ⟨r3, 0, none⟩)), (4, .func (.func 30) #[] #[.pointer (some ⟨r2, 0, none⟩), .pointer (some ⟨r3, 0, none⟩)]), (5, .int .i64 (m : Nat)), (6, .int .i64 0)])
          (fun m O h' t' => m ≤ n1 ∧ (n1 - j) + O.length + m ≤ 4000000 ∧ O ++ (zs m ++ runsF R) = runsF l ∧ Two h t h' r2 r3 O ∧ t ≤ t') (fun m _ => m) j O ⟨rfl, rfl, rfl, rfl, rfl, rfl, trivial⟩ ⟨by omega, by omega, hO, B1, ht1⟩ ?_
        rintro m O e9 g t1 hd1 ⟨hm, hOm, hO, B1, ht1⟩
        conv => whnf
        refine br (fun hb => ?_) (fun hb => ?_)
        · conv => whnf
          repeat (first | (refine Go.Vc.br_t ?_ ?_; (focus omega); conv => whnf))
          refine br (fun hb3 => ?_) (fun hb3 => ?_)
          · rw [zs_big (by omega), List.cons_append, ← List.singleton_append, ← List.append_assoc] at hO
            conv => whnf
            repeat (first | ((with_reducible apply Go.Vc.wr_i64); (focus exact And.intro (by omega) (by omega)); conv => whnf))
            rw [show (if (138 : Int) < (m : Int) then (138 : Int) else (m : Int)) = ((min m 138 : Nat) : Int) by split <;> omega]
            refine (tell_spec B1 hd ht1 (by omega) _ _).mono ?_
            rintro _ g2 t2 hd2 _ ⟨rfl, B2, ht2⟩
            conv => whnf
            repeat (first | ((with_reducible apply Go.Vc.wr_i64); (focus exact And.intro (by omega) (by omega)); conv => whnf))
            exact round_end2 (m - min m 138) (O ++ [(18, ((min m 138 : Nat) : Int) - 11)]) (by omega) ⟨rfl, rfl, rfl, rfl, (by show Value.int .i64 _ = Value.int .i64 _; congr 1; omega), rfl, trivial⟩ ⟨by omega, by rw [List.length_append, List.length_singleton]; omega, hO, B2, by omega⟩
          · conv => whnf
            repeat (first | (refine Go.Vc.br_t ?_ ?_; (focus omega); conv => whnf))
            refine br (fun hb4 => ?_) (fun hb4 => ?_)
            · rw [zs_mid (by omega) (by omega), ← List.append_assoc] at hO
              conv => whnf
              repeat (first | ((with_reducible apply Go.Vc.wr_i64); (focus exact And.intro (by omega) (by omega)); conv => whnf))
              refine (tell_spec B1 hd ht1 (by omega) _ _).mono ?_
              rintro _ g2 t2 hd2 _ ⟨rfl, B2, ht2⟩
              conv => whnf
              repeat (first | ((with_reducible apply Go.Vc.wr_i64); (focus exact And.intro (by omega) (by omega)); conv => whnf))
              exact round_end2 0 (O ++ [(17, (m : Int) - 3)]) (by omega) ⟨rfl, rfl, rfl, rfl, (by show Value.int .i64 _ = Value.int .i64 _; congr 1; omega), rfl, trivial⟩ ⟨by omega, by rw [List.length_append, List.length_singleton]; omega, by rw [zs_nil]; exact hO, B2, by omega⟩
            · rw [zs_one (by omega) (by omega), List.cons_append, ← List.singleton_append, ← List.append_assoc] at hO
              conv => whnf
              repeat (first | (refine Go.Vc.br_f ?_ ?_; (focus omega); conv => whnf))
              refine (tell_spec B1 hd ht1 (by omega) _ _).mono ?_
              rintro _ g2 t2 hd2 _ ⟨rfl, B2, ht2⟩
              conv => whnf
              repeat (first | ((with_reducible apply Go.Vc.wr_i64); (focus exact And.intro (by omega) (by omega)); conv => whnf))
              exact round_end2 (m - 1) (O ++ [(0, 0)]) (by omega) ⟨rfl, rfl, rfl, rfl, (by show Value.int .i64 _ = Value.int .i64 _; congr 1; omega), rfl, trivial⟩ ⟨by omega, by rw [List.length_append, List.length_singleton]; omega, hO, B2, by omega⟩
        · obtain rfl : m = 0 := by omega
          rw [zs_nil, List.nil_append] at hO
          conv => whnf
          exact round_end5 (n1 - j) R O a9 (c1 - j) (by omega) ⟨rfl, rfl, rfl, rfl, trivial⟩ ⟨s9, by omega, by omega, hO, B1, by omega⟩
  · conv => whnf
    obtain rfl : L = [] := List.length_eq_zero_iff.1 (by omega)
    obtain ⟨a2, c2, a3, c3, hb2, hb3, ho2, ho3, hw2, hw3, hne, hs, htr2, htr3, hrr⟩ := B1
    have hsame : ∀ {b : Nat} {x : Obj}, g b = some x → Vc.Sub g (hset g b x) := fun {b} {x} hx k o hk => by
      by_cases e : k = b
      · subst e
        rw [hset_same]
        exact hx.symm.trans hk
      · rw [hset_ne _ _ e]
        exact hk
    refine Go.Vc.draw_intro [⟨0, false, false, false, 0⟩, ⟨1, false, true, false, 0⟩, ⟨2, true, false, true, 1⟩, ⟨3, true, false, false, 7⟩] (hs := g) (hsub := (Sub.refl g)) (hm := by kernel_rfl) (hpl := by kernel_rfl) ?_
    conv => whnf
    conv => whnf
    repeat (first | ((with_reducible apply Go.Vc.ld_i); (focus ((repeat (first | with_reducible assumption | with_reducible exact Go.Vc.hset_same _ _ _ | with_reducible refine (Go.Vc.hset_ne _ _ (by omega)).trans ?_)); done)); (focus exact rfl); conv => whnf) | ((with_reducible apply Go.Vc.st_i); (focus ((repeat (first | with_reducible assumption | with_reducible exact Go.Vc.hset_same _ _ _ | with_reducible refine (Go.Vc.hset_ne _ _ (by omega)).trans ?_)); done)); (focus exact rfl); (focus exact rfl); (focus exact rfl); (conv => whnf); intro cA hcA; (first | (simp only [List.setIfInBounds_toArray, List.set_cons_succ, List.set_cons_zero] at hcA; subst hcA) | subst hcA); conv => whnf))
    refine ⟨hsame hb2, ?_⟩
    conv => whnf
    repeat (first | ((with_reducible apply Go.Vc.ld_i); (focus ((repeat (first | with_reducible assumption | with_reducible exact Go.Vc.hset_same _ _ _ | with_reducible refine (Go.Vc.hset_ne _ _ (by omega)).trans ?_)); done)); (focus exact rfl); conv => whnf) | ((with_reducible apply Go.Vc.st_i); (focus ((repeat (first | with_reducible assumption | with_reducible exact Go.Vc.hset_same _ _ _ | with_reducible refine (Go.Vc.hset_ne _ _ (by omega)).trans ?_)); done)); (focus exact rfl); (focus exact rfl); (focus exact rfl); (conv => whnf); intro cA hcA; (first | (simp only [List.setIfInBounds_toArray, List.set_cons_succ, List.set_cons_zero] at hcA; subst hcA) | subst hcA); conv => whnf))
    rw [runsF, List.append_nil] at hO
    rw [← hO]
    have hb3' := (hset_ne g (.cells #[.slice a2 O.length c2] 31) hrr.symm).trans hb3
    have hss : Vc.Sub g (hset (hset g r2 (.cells #[.slice a2 O.length c2] 31)) r3 (.cells #[.slice a3 O.length c3] 31)) := (hsame hb2).trans (fun k o hk => by
      by_cases e : k = r3
      · subst e
        rw [hset_same]
        exact hb3'.symm.trans hk
      · rw [hset_ne _ _ e]
        exact hk)
    exact ⟨a2, c2, a3, c3, rfl, ho2.sl.sub hss, ho3.sl.sub hss, ht1, hs3.trans hss, hw2, hw3⟩
end Go.Proofs.Ytikpfffhcjlcjaa
