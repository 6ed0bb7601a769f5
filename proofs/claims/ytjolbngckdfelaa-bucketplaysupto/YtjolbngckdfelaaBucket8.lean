/- The reference's bucket. -/
import Derived.Test.YtjolbngckdfelaaBucket7
import Derived.Test.YtjolbngckdfelaaVc14
namespace Go.Proofs.Ytjolbngckdfelaa
open Go Go.Vc
set_option maxRecDepth 10000
set_option linter.unusedVariables false

theorem own_tag {α : Type} {h : Heap} {E : TypeId} {a : Option Addr} {n c b : Nat} {f : α → Value} {l : List α} (o : Vc.Own h E a n c f l) (hb : owner a = some b) : ∃ cs fr, h b = some (.cells cs E fr) := by
  rcases o.2 with ⟨rfl, _⟩ | ⟨b0, off, cs, fr, rfl, _, h1, _⟩
  · cases hb
  · cases hb; exact ⟨cs, fr, h1⟩
theorem own_ne {α : Type} {h : Heap} {E : TypeId} {a : Option Addr} {n c b : Nat} {f : α → Value} {l : List α} (o : Vc.Own h E a n c f l) {cs : Array Value} {T : TypeId} {fr : Nat × Nat} (hb : h b = some (.cells cs T fr)) (hT : T ≠ E) : owner a ≠ some b := by
  intro e
  obtain ⟨cs2, fr2, h2⟩ := own_tag o e
  rw [hb] at h2
  cases h2
  exact hT rfl

/-- The reference's state. -/
structure RS where
  L : List (ByteArray × ByteArray)
  lock : ByteArray
  ver : Int
  F : List Int
def ob (p : ByteArray × ByteArray) : List Value := [.string p.1, .string p.2]
theorem ob_len (p : ByteArray × ByteArray) : (ob p).length = 2 := rfl
def RBk (h : Heap) (x : Nat) (s : RS) : Prop := ∃ aL cL aF cF, h x = some (.cells #[.slice aL s.L.length cL, .string s.lock, .int .i64 s.ver, .slice aF s.F.length cF] 47 (0, 0)) ∧ Vc.Own h 52 aL (s.L.length * 2) (cL * 2) id (s.L.flatMap ob) ∧ Vc.Own h 3 aF s.F.length cF (Value.int .i64) s.F
theorem rnext_spec {h : Heap} {t x : Nat} {s : RS} (B : RBk h x s) :
    CallSpec Try.prog 40 #[.pointer (some ⟨x, 0, none⟩)] h t (fun v h' t' => v = .int .i64 (fateOf s.F) ∧ RBk h' x { s with F := s.F.tail } ∧ t' = t ∧ ∀ k, k ≠ x → h' k = h k) := by
  obtain ⟨aL, cL, aF, cF, hx, hL, hF⟩ := B
  refine Go.Vc.spec_of_vc (fn := Try.f40) Try.func40 rfl (by kernel_rfl) (by kernel_rfl) (Nat.le_of_ble_eq_true rfl) ?_
  intro hd
  conv => whnf
  repeat (first | ((with_reducible apply Go.Vc.ld_i); (focus ((repeat (first | with_reducible assumption | with_reducible exact Go.Vc.hset_same _ _ _ | with_reducible refine (Go.Vc.hset_ne _ _ (by omega)).trans ?_)); done)); (focus exact rfl); conv => whnf))
  refine br (fun hb => ?_) (fun hb => ?_)
  · conv => whnf
    have hF0 : s.F = [] := List.length_eq_zero_iff.1 (by omega)
    refine ⟨by rw [hF0]; rfl, ⟨aL, cL, aF, cF, ?_, hL, ?_⟩, rfl, fun _ _ => rfl⟩
    · rw [hF0] at hx ⊢; exact hx
    · rw [hF0] at hF ⊢; exact hF
  · obtain ⟨n, r, hnr⟩ : ∃ n r, s.F = n :: r := by
      cases hF2 : s.F with
      | nil => rw [hF2] at hb; simp at hb
      | cons n r => exact ⟨n, r, rfl⟩
    obtain ⟨bF, offF, eF⟩ := Own.at hF (by omega)
    subst eF
    have hcF := Own.cell hF (j := 0) (x := n) (by rw [hnr]; rfl)
    have hcap := hF.cap
    have hne : bF ≠ x := fun e => by
      obtain ⟨cs, fr, h2⟩ : ∃ cs fr, h bF = some (.cells cs 3 fr) := by
        rcases hF.2 with ⟨h0, _⟩ | ⟨_, _, cs, fr, e, _, h2, _⟩
        · cases h0
        · cases e; exact ⟨cs, fr, h2⟩
      rw [e, hx] at h2; cases h2
    conv => whnf
    repeat (first | ((with_reducible apply Go.Vc.own_ix); (focus exact And.intro (by omega) (by omega)); conv => whnf) | ((with_reducible refine And.intro (And.intro ?_ ?_) ?_); (focus omega); (focus omega); conv => whnf) | ((with_reducible apply Go.Vc.ld_i); (focus ((repeat (first | with_reducible assumption | with_reducible exact Go.Vc.hset_same _ _ _ | with_reducible refine (Go.Vc.hset_ne _ _ (by omega)).trans ?_)); done)); (focus exact rfl); conv => whnf) | ((with_reducible apply Go.Vc.st_i); (focus ((repeat (first | with_reducible assumption | with_reducible exact Go.Vc.hset_same _ _ _ | with_reducible refine (Go.Vc.hset_ne _ _ (by omega)).trans ?_)); done)); (focus exact rfl); (focus exact rfl); (focus exact rfl); (conv => whnf); intro cA hcA; (first | (simp only [List.setIfInBounds_toArray, List.set_cons_succ, List.set_cons_zero] at hcA; subst hcA) | subst hcA); conv => whnf) | ((with_reducible apply Go.Vc.cell_i); (focus assumption); conv => whnf) | (intro _ _; conv => whnf))
    rename_i a2 ha2
    have hend : ∀ c', c' = #[Value.slice aL s.L.length cL, .string s.lock, .int .i64 s.ver, .slice a2 (s.F.length - 1) (cF - 1)] → RBk (hset h x (.cells c' 47 (0, 0))) x { s with F := s.F.tail } ∧ ∀ k, k ≠ x → hset h x (.cells c' 47 (0, 0)) k = h k := fun c' hc' => by
      subst hc'
      have hd1 := Own.drop hF (m := 1) (by omega) ha2
      rw [List.drop_one] at hd1
      refine ⟨⟨aL, cL, a2, cF - 1, ?_, ?_, ?_⟩, fun k hk => hset_ne _ _ hk⟩
      · rw [hset_same]
        simp only [List.length_tail]
      · exact hL.keep (fun b hb => hset_ne _ _ (fun e => own_ne hL hx (by decide) (by rw [hb, e])))
      · have hd2 : Vc.Own h 3 a2 s.F.tail.length (cF - 1) (Value.int .i64) s.F.tail := by rw [List.length_tail]; exact hd1
        refine hd2.keep (fun b hb => hset_ne _ _ (fun e => hne ?_))
        have : owner a2 = some bF := by rw [ha2, owner_cut']; rfl
        rw [this] at hb; cases hb; exact e
    refine br (fun hb1 => ?_) (fun hb1 => ?_)
    · conv => whnf
      obtain ⟨h1, h2⟩ := hend _ rfl
      refine ⟨by rw [hnr]; simp only [fateOf]; rw [Int.max_eq_right (by omega)]; rfl, h1, rfl, h2⟩
    · conv => whnf
      repeat (first | ((with_reducible apply Go.Vc.rem_i); (focus omega); conv => whnf) | ((with_reducible refine And.intro ?_ (And.intro ?_ ?_)); (focus exact rfl); (focus omega); conv => whnf))
      obtain ⟨h1, h2⟩ := hend _ rfl
      refine ⟨by rw [hnr]; simp only [fateOf]; rw [Int.max_eq_left (by omega)], h1, rfl, h2⟩
theorem ob_one (l : List (ByteArray × ByteArray)) : (l.flatMap ob).all oneC = true := by
  rw [List.all_eq_true]
  intro v hv
  obtain ⟨x, _, hx⟩ := List.mem_flatMap.1 hv
  simp [ob] at hx
  rcases hx with rfl | rfl <;> rfl
theorem app_ob {ty : TypeId} {h : Heap} {t : Nat} {a : Option Addr} {n c : Nat} {l l2 : List Value} {xa : Option Addr} {xc m : Nat}
    (ho : Vc.Own h 52 a (n * 2) (c * 2) id l) (hx : Sl h xa (m * 2) id l2) (hf : l2.all oneC = true) (hb : n + m ≤ 1000000) (hdm : Dom h t) {K : Value → Heap → Nat → Prop}
    (hK : ∀ a' c' h' t', Vc.Own h' 52 a' ((n + m) * 2) (c' * 2) id (l ++ l2) → t ≤ t' → Dom h' t' → (∀ k, k < t → owner a ≠ some k → h' k = h k) → (owner a' = owner a ∨ ∃ r, owner a' = some r ∧ t ≤ r) → K (.slice a' (n + m) c') h' t') :
    AppVC Try.prog #[45, 45] ty (.slice a n c) (.slice xa m xc) K h t :=
  app_vcW (E := 52) (inf := Try.types[52]) (z := .agg #[.string ⟨#[]⟩, .string ⟨#[]⟩]) (W := 2) Try.underlying45 Try.underlying45 rfl (by kernel_rfl) (by kernel_rfl) (by decide) (by kernel_rfl) rfl ho hx hf (by
    show (n + m) * 32 ≤ 2 ^ 40
    omega) (by omega) (by show 32 ≤ 1000; decide) hdm hK
def leB (a b : ByteArray) : Bool := !Op.bytesLess b.toList a.toList
def rG (name s : ByteArray) : List (ByteArray × ByteArray) → Bool → List (ByteArray × ByteArray)
  | [], d => if d then [] else [(name, s)]
  | p :: r, d => (if (!d && leB name p.1) then [(name, s)] else []) ++ (if p.1 ≠ name then [p] else []) ++ rG name s r (d || leB name p.1)

theorem rset_spec {h : Heap} {t x : Nat} {s : RS} (B : RBk h x s) (name txt : ByteArray) (hn : s.L.length ≤ 1000) :
    CallSpec Try.prog 42 #[.pointer (some ⟨x, 0, none⟩), .string name, .string txt] h t (fun v h' t' => v = .tuple #[] ∧ RBk h' x { s with L := rG name txt s.L false } ∧ t ≤ t' ∧ ∀ k o, k ≠ x → h k = some o → h' k = some o) := by
  obtain ⟨aL, cL, aF, cF, hx, hL, hF⟩ := B
  refine Go.Vc.spec_of_vc (fn := Try.f42) Try.func42 rfl (by kernel_rfl) (by kernel_rfl) (Nat.le_of_ble_eq_true rfl) ?_
  intro hd
  conv => whnf
  refine loop_intro5 (fun (i : Nat) (d : Bool) (a : Option Addr) (c : Nat) (O : List (ByteArray × ByteArray)) => [(0, .pointer (some ⟨x, 0, none⟩)), (1, .string name), (2, .string txt), (6, .slice a O.length c), (7, .bool d), (8, .int .i64 (i : Nat))])
    (fun i d a c O h' t' => i ≤ s.L.length ∧ O.length ≤ i + (if d then 1 else 0) ∧ O ++ rG name txt (s.L.drop i) d = rG name txt s.L false ∧ Vc.Own h' 52 a (O.length * 2) (c * 2) id (O.flatMap ob) ∧ Vc.Sub h h' ∧ t ≤ t' ∧ ∀ b, owner a = some b → t ≤ b) (fun i _ _ _ _ => s.L.length - i) 0 false none 0 [] ⟨rfl, rfl, rfl, rfl, rfl, rfl, trivial⟩
    ⟨by omega, by simp, rfl, ⟨rfl, .inl ⟨rfl, rfl, rfl⟩⟩, Sub.refl _, Nat.le_refl _, fun b hb => by cases hb⟩ ?_
  rintro i d a c O g h1 t1 hd1 ⟨hi, hOl, hO, ho, hs1, ht1, hown⟩
  have hx1 := hs1 _ _ hx
  have hL1 := Own.fr hL (h' := h1) (fun b o _ hb => hs1 b o hb)
  conv => whnf
  repeat (first | ((with_reducible apply Go.Vc.ld_i); (focus ((repeat (first | with_reducible assumption | with_reducible exact Go.Vc.hset_same _ _ _ | with_reducible refine (Go.Vc.hset_ne _ _ (by omega)).trans ?_)); done)); (focus exact rfl); conv => whnf))
  refine br (fun hb => ?_) (fun hb => ?_)
  · obtain ⟨p, bL, offL, hp, haL, hrow⟩ := slW_row (i := i) ob_len hL.sl (by decide) (by omega)
    subst haL
    have hdrop : s.L.drop i = p :: s.L.drop (i + 1) := by
      obtain ⟨hlt, rfl⟩ := List.getElem?_eq_some_iff.1 hp
      exact List.drop_eq_getElem_cons hlt
    have hr1 := hrow.mono (fun o hb => hs1 _ _ hb)
    have hc1 := hr1.cell0 (v := .string p.1) rfl
    rw [hdrop, rG] at hO
    have hOb : O.length ≤ i + 1 := by revert hOl; split <;> omega
    cases d with
    | true =>
      have hOl2 : O.length ≤ i + 1 := hOl
      simp only [Bool.not_true, Bool.false_and, Bool.false_eq_true, if_false, List.nil_append, Bool.true_or] at hO
      conv => whnf
      repeat (first | ((with_reducible apply Go.Vc.own_ix); (focus exact And.intro (by omega) (by omega)); conv => whnf) | ((with_reducible apply Go.Vc.ld_i); (focus ((repeat (first | with_reducible assumption | with_reducible exact Go.Vc.hset_same _ _ _ | with_reducible refine (Go.Vc.hset_ne _ _ (by omega)).trans ?_)); done)); (focus exact rfl); conv => whnf) | ((with_reducible apply Go.Vc.cell_i); (focus assumption); conv => whnf))
      conv => whnf
      refine br (fun hb2 => ?_) (fun hb2 => ?_)
      · rw [if_pos hb2] at hO
        conv => whnf
        repeat (first | ((with_reducible apply Go.Vc.own_ix); (focus exact And.intro (by omega) (by omega)); conv => whnf) | ((with_reducible apply Go.Vc.ld_i); (focus ((repeat (first | with_reducible assumption | with_reducible exact Go.Vc.hset_same _ _ _ | with_reducible refine (Go.Vc.hset_ne _ _ (by omega)).trans ?_)); done)); (focus exact rfl); conv => whnf))
        refine hr1.row (W := 2) rfl (by decide) ?_
        conv => whnf
        repeat (first | (intro _ _; conv => whnf))
        rename_i rb hrb
        have hd2 := hd1.set rb (.cells (ob p).toArray 52 (0, 0)) (rb + 1) (by omega) (by omega)
        refine app_ob (n := O.length) (m := 1) (l2 := ob p) (Own.fr ho (fun b o _ hb => hd1.sub_new hrb _ b o hb)) (vl_sl (hset_same _ _ _) rfl) rfl (by omega) hd2 ?_
        intro a2 c2 h2 t2 ho2 ht2 hd3 hk2 hown2
        conv => whnf
        repeat (first | ((with_reducible apply Go.Vc.wr_i64); (focus exact And.intro (by omega) (by omega)); conv => whnf))
        refine round_end5 (i + 1) _ a2 c2 (O ++ [p]) (by omega) ⟨rfl, rfl, rfl, by rw [List.length_append]; rfl, rfl, rfl, trivial⟩ ⟨by omega, by rw [List.length_append]; simp at hOl ⊢; omega, by rw [← hO, List.append_assoc], ?_, fun b o hb => ?_, by omega, fun b hb => ?_⟩
        · rw [List.length_append, List.flatMap_append]
          exact ho2
        · have := hd b o hb
          rw [hk2 b (by omega) (fun e => by have := hown b e; omega), hset_ne _ _ (by omega)]
          exact hs1 b o hb
        · rcases hown2 with e | ⟨r, e, hr⟩
          · exact hown b (by rw [← e]; exact hb)
          · rw [e] at hb; cases hb; omega
      · rw [if_neg hb2, List.nil_append] at hO
        conv => whnf
        repeat (first | ((with_reducible apply Go.Vc.wr_i64); (focus exact And.intro (by omega) (by omega)); conv => whnf))
        exact round_end5 (i + 1) _ a c O (by omega) ⟨rfl, rfl, rfl, rfl, rfl, rfl, trivial⟩ ⟨by omega, by simp at hOl ⊢; omega, hO, ho, hs1, ht1, hown⟩
    | false =>
      simp only [Bool.not_false, Bool.true_and, Bool.false_or, List.append_assoc] at hO
      conv => whnf
      repeat (first | ((with_reducible apply Go.Vc.own_ix); (focus exact And.intro (by omega) (by omega)); conv => whnf) | ((with_reducible apply Go.Vc.ld_i); (focus ((repeat (first | with_reducible assumption | with_reducible exact Go.Vc.hset_same _ _ _ | with_reducible refine (Go.Vc.hset_ne _ _ (by omega)).trans ?_)); done)); (focus exact rfl); conv => whnf) | ((with_reducible apply Go.Vc.cell_i); (focus assumption); conv => whnf))
      refine bsel_intro (fun hle => ?_) (fun hle => ?_)
      · rw [opq_eq] at hle
        have hle2 : leB name p.1 = true := hle
        rw [hle2, if_pos rfl] at hO
        conv => whnf
        repeat (first | (intro _ _; conv => whnf))
        rename_i rc hrc
        have hd2 := hd1.set rc (.cells (ob (name, txt)).toArray 52 (0, 0)) (rc + 1) (by omega) (by omega)
        refine app_ob (n := O.length) (m := 1) (l2 := ob (name, txt)) (Own.fr ho (fun b o _ hb => hd1.sub_new hrc _ b o hb)) (vl_sl (hset_same _ _ _) rfl) rfl (by omega) hd2 ?_
        intro a2 c2 h2 t2 ho2 ht2 hd3 hk2 hown2
        have hkeep : ∀ b o, h b = some o → h2 b = some o := fun b o hb => by
          have := hd b o hb
          rw [hk2 b (by omega) (fun e => by have := hown b e; omega), hset_ne _ _ (by omega)]
          exact hs1 b o hb
        have hown3 : ∀ b, owner a2 = some b → t ≤ b := fun b hb => by
          rcases hown2 with e | ⟨r, e, hr⟩
          · exact hown b (by rw [← e]; exact hb)
          · rw [e] at hb; cases hb; omega
        have ht3 : t ≤ t2 := by omega
        obtain ⟨O2, hO2⟩ : ∃ O2, O2 = O ++ [(name, txt)] := ⟨_, rfl⟩
        have hO3 : O2.length = O.length + 1 := by rw [hO2, List.length_append]; rfl
        rw [← List.append_assoc, ← hO2] at hO
        have ho3 : Vc.Own h2 52 a2 (O2.length * 2) (c2 * 2) id (O2.flatMap ob) := by
          rw [hO3, hO2, List.flatMap_append]
          exact ho2
        rw [← hO3]
        have hOl2 : O2.length ≤ i + 1 := by simp at hOl; omega
        have hr2 := hrow.mono (fun o hb => hkeep _ _ hb)
        have hc2 := hr2.cell0 (v := .string p.1) rfl
        have hx2 := hkeep _ _ hx
        clear hc1 hr1 hx1 hL1 ho ho2 hown hown2 hs1 hd1 ht1 hd2 hk2
        conv => whnf
        repeat (first | ((with_reducible apply Go.Vc.own_ix); (focus exact And.intro (by omega) (by omega)); conv => whnf) | ((with_reducible apply Go.Vc.ld_i); (focus ((repeat (first | with_reducible assumption | with_reducible exact Go.Vc.hset_same _ _ _ | with_reducible refine (Go.Vc.hset_ne _ _ (by omega)).trans ?_)); done)); (focus exact rfl); conv => whnf) | ((with_reducible apply Go.Vc.cell_i); (focus assumption); conv => whnf))
        refine br (fun hb9 => ?_) (fun hb9 => ?_)
        · rw [if_pos hb9] at hO
          conv => whnf
          repeat (first | ((with_reducible apply Go.Vc.own_ix); (focus exact And.intro (by omega) (by omega)); conv => whnf) | ((with_reducible apply Go.Vc.ld_i); (focus ((repeat (first | with_reducible assumption | with_reducible exact Go.Vc.hset_same _ _ _ | with_reducible refine (Go.Vc.hset_ne _ _ (by omega)).trans ?_)); done)); (focus exact rfl); conv => whnf))
          refine hr2.row (W := 2) rfl (by decide) ?_
          conv => whnf
          repeat (first | (intro _ _; conv => whnf))
          rename_i r9 hr9
          have hd8 := hd3.set r9 (.cells (ob p).toArray 52 (0, 0)) (r9 + 1) (by omega) (by omega)
          refine app_ob (n := O2.length) (m := 1) (l2 := ob p) (Own.fr ho3 (fun b o _ hb => hd3.sub_new hr9 _ b o hb)) (vl_sl (hset_same _ _ _) rfl) rfl (by omega) hd8 ?_
          intro a9 c9 h9 t9 ho9 ht9 hd9 hk9 hown9
          conv => whnf
          repeat (first | ((with_reducible apply Go.Vc.wr_i64); (focus exact And.intro (by omega) (by omega)); conv => whnf))
          refine round_end5 (i + 1) _ a9 c9 (O2 ++ [p]) (by omega) ⟨rfl, rfl, rfl, by rw [List.length_append]; rfl, rfl, rfl, trivial⟩ ⟨by omega, by rw [List.length_append]; simp at hOl2 ⊢; omega, by rw [← hO, List.append_assoc], ?_, fun b o hb => ?_, by omega, fun b hb => ?_⟩
          · rw [List.length_append, List.flatMap_append]
            exact ho9
          · have := hd b o hb
            rw [hk9 b (by omega) (fun e => by have := hown3 b e; omega), hset_ne _ _ (by omega)]
            exact hkeep b o hb
          · rcases hown9 with e | ⟨r, e, hr⟩
            · exact hown3 b (by rw [← e]; exact hb)
            · rw [e] at hb; cases hb; omega
        · rw [if_neg hb9, List.nil_append] at hO
          conv => whnf
          repeat (first | ((with_reducible apply Go.Vc.wr_i64); (focus exact And.intro (by omega) (by omega)); conv => whnf))
          exact round_end5 (i + 1) _ a2 c2 O2 (by omega) ⟨rfl, rfl, rfl, rfl, rfl, rfl, trivial⟩ ⟨by omega, by simp at hOl2 ⊢; omega, hO, ho3, hkeep, ht3, hown3⟩
      · rw [opq_eq] at hle
        have hle2 : leB name p.1 = false := hle
        rw [hle2] at hO
        simp only [Bool.false_eq_true, if_false, List.nil_append] at hO
        conv => whnf
        repeat (first | ((with_reducible apply Go.Vc.own_ix); (focus exact And.intro (by omega) (by omega)); conv => whnf) | ((with_reducible apply Go.Vc.ld_i); (focus ((repeat (first | with_reducible assumption | with_reducible exact Go.Vc.hset_same _ _ _ | with_reducible refine (Go.Vc.hset_ne _ _ (by omega)).trans ?_)); done)); (focus exact rfl); conv => whnf) | ((with_reducible apply Go.Vc.cell_i); (focus assumption); conv => whnf))
        conv => whnf
        refine br (fun hb2 => ?_) (fun hb2 => ?_)
        · rw [if_pos hb2] at hO
          conv => whnf
          repeat (first | ((with_reducible apply Go.Vc.own_ix); (focus exact And.intro (by omega) (by omega)); conv => whnf) | ((with_reducible apply Go.Vc.ld_i); (focus ((repeat (first | with_reducible assumption | with_reducible exact Go.Vc.hset_same _ _ _ | with_reducible refine (Go.Vc.hset_ne _ _ (by omega)).trans ?_)); done)); (focus exact rfl); conv => whnf))
          refine hr1.row (W := 2) rfl (by decide) ?_
          conv => whnf
          repeat (first | (intro _ _; conv => whnf))
          rename_i rb hrb
          have hd2 := hd1.set rb (.cells (ob p).toArray 52 (0, 0)) (rb + 1) (by omega) (by omega)
          refine app_ob (n := O.length) (m := 1) (l2 := ob p) (Own.fr ho (fun b o _ hb => hd1.sub_new hrb _ b o hb)) (vl_sl (hset_same _ _ _) rfl) rfl (by omega) hd2 ?_
          intro a2 c2 h2 t2 ho2 ht2 hd3 hk2 hown2
          conv => whnf
          repeat (first | ((with_reducible apply Go.Vc.wr_i64); (focus exact And.intro (by omega) (by omega)); conv => whnf))
          refine round_end5 (i + 1) _ a2 c2 (O ++ [p]) (by omega) ⟨rfl, rfl, rfl, by rw [List.length_append]; rfl, rfl, rfl, trivial⟩ ⟨by omega, by rw [List.length_append]; simp at hOl ⊢; omega, by rw [← hO, List.append_assoc], ?_, fun b o hb => ?_, by omega, fun b hb => ?_⟩
          · rw [List.length_append, List.flatMap_append]
            exact ho2
          · have := hd b o hb
            rw [hk2 b (by omega) (fun e => by have := hown b e; omega), hset_ne _ _ (by omega)]
            exact hs1 b o hb
          · rcases hown2 with e | ⟨r, e, hr⟩
            · exact hown b (by rw [← e]; exact hb)
            · rw [e] at hb; cases hb; omega
        · rw [if_neg hb2, List.nil_append] at hO
          conv => whnf
          repeat (first | ((with_reducible apply Go.Vc.wr_i64); (focus exact And.intro (by omega) (by omega)); conv => whnf))
          exact round_end5 (i + 1) _ a c O (by omega) ⟨rfl, rfl, rfl, rfl, rfl, rfl, trivial⟩ ⟨by omega, by simp at hOl ⊢; omega, hO, ho, hs1, ht1, hown⟩
  · have hie : s.L.drop i = [] := List.drop_of_length_le (by omega)
    rw [hie, rG] at hO
    have hxa : owner a ≠ some x := own_ne ho hx1 (by decide)
    have hend : ∀ (h2 : Heap) (t2 : Nat) (a2 : Option Addr) (c2 : Nat), Dom h2 t2 → Vc.Own h2 52 a2 ((rG name txt s.L false).length * 2) (c2 * 2) id ((rG name txt s.L false).flatMap ob) → Vc.Sub h h2 → t ≤ t2 → ∀ c', c' = #[Value.slice a2 (rG name txt s.L false).length c2, .string s.lock, .int .i64 s.ver, .slice aF s.F.length cF] →
        (RBk (hset h2 x (.cells c' 47 (0, 0))) x { s with L := rG name txt s.L false } ∧ t ≤ t2 ∧ ∀ k o, k ≠ x → h k = some o → hset h2 x (.cells c' 47 (0, 0)) k = some o) := fun h2 t2 a2 c2 hd2 ho2 hs2 ht2 c' hc' => by
      subst hc'
      have hx2 := hs2 _ _ hx
      refine ⟨⟨a2, c2, aF, cF, hset_same _ _ _, ?_, ?_⟩, ht2, fun k o hk hb => by rw [hset_ne _ _ hk]; exact hs2 k o hb⟩
      · exact ho2.keep (fun b hb => hset_ne _ _ (fun e => own_ne ho2 hx2 (by decide) (by rw [hb, e])))
      · have hF2 := Own.fr hF (h' := h2) (fun b o _ hb => hs2 b o hb)
        exact hF2.keep (fun b hb => hset_ne _ _ (fun e => own_ne hF2 hx2 (by decide) (by rw [hb, e])))
    cases d with
    | true =>
      simp only [if_true, List.append_nil] at hO
      subst hO
      conv => whnf
      repeat (first | ((with_reducible apply Go.Vc.st_i); (focus ((repeat (first | with_reducible assumption | with_reducible exact Go.Vc.hset_same _ _ _ | with_reducible refine (Go.Vc.hset_ne _ _ (by omega)).trans ?_)); done)); (focus exact rfl); (focus exact rfl); (focus exact rfl); (conv => whnf); intro cA hcA; (first | (simp only [List.setIfInBounds_toArray, List.set_cons_succ, List.set_cons_zero] at hcA; subst hcA) | subst hcA); conv => whnf))
      exact ⟨rfl, hend h1 t1 a c hd1 ho hs1 ht1 _ rfl⟩
    | false =>
      have hOb : O.length ≤ i + 1 := by simp at hOl; omega
      simp only [Bool.false_eq_true, if_false] at hO
      conv => whnf
      repeat (first | (intro _ _; conv => whnf))
      rename_i rc hrc
      have hd2 := hd1.set rc (.cells (ob (name, txt)).toArray 52 (0, 0)) (rc + 1) (by omega) (by omega)
      refine app_ob (n := O.length) (m := 1) (l2 := ob (name, txt)) (Own.fr ho (fun b o _ hb => hd1.sub_new hrc _ b o hb)) (vl_sl (hset_same _ _ _) rfl) rfl (by omega) hd2 ?_
      intro a2 c2 h2 t2 ho2 ht2 hd3 hk2 hown2
      have hkeep : ∀ b o, h b = some o → h2 b = some o := fun b o hb => by
        have := hd b o hb
        rw [hk2 b (by omega) (fun e => by have := hown b e; omega), hset_ne _ _ (by omega)]
        exact hs1 b o hb
      have hx2 := hkeep _ _ hx
      have hlen : O.length + 1 = (rG name txt s.L false).length := by rw [← hO, List.length_append]; rfl
      have ho3 : Vc.Own h2 52 a2 ((rG name txt s.L false).length * 2) (c2 * 2) id ((rG name txt s.L false).flatMap ob) := by
        rw [← hlen, ← hO, List.flatMap_append]
        exact ho2
      rw [hlen]
      conv => whnf
      repeat (first | ((with_reducible apply Go.Vc.st_i); (focus ((repeat (first | with_reducible assumption | with_reducible exact Go.Vc.hset_same _ _ _ | with_reducible refine (Go.Vc.hset_ne _ _ (by omega)).trans ?_)); done)); (focus exact rfl); (focus exact rfl); (focus exact rfl); (conv => whnf); intro cA hcA; (first | (simp only [List.setIfInBounds_toArray, List.set_cons_succ, List.set_cons_zero] at hcA; subst hcA) | subst hcA); conv => whnf))
      exact ⟨rfl, hend h2 t2 a2 c2 hd3 ho3 hkeep (by omega) _ rfl⟩

end Go.Proofs.Ytjolbngckdfelaa
