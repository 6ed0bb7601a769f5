import Derived.Test.YtlkpgjicpjjlcaaGreatDoorVc13
/- A region that draws its order, and in which two operations may stand either way: two plans. -/
namespace Go.Vc
open Go
set_option maxRecDepth 10000
set_option linter.unusedVariables false
variable {P : Program}

def behind (j : Nat) (o : Oper) : Oper := { o with after := o.after.push { on := j, ground := .data } }
def edgeL : List Oper → Nat → Nat → List Oper
  | o :: l, 0, j => behind j o :: l
  | o :: l, i + 1, j => o :: edgeL l i j
  | [], _, _ => []
def withEdge (ops : Array Oper) (i j : Nat) : Array Oper := ⟨edgeL ops.toList i j⟩
theorem edgeL_get : ∀ (l : List Oper) (i j k : Nat), (edgeL l i j)[k]? = if k = i then (l[k]?).map (behind j) else l[k]?
  | [], i, j, k => by simp [edgeL]
  | o :: l, 0, j, 0 => by simp [edgeL]
  | o :: l, 0, j, k + 1 => by simp [edgeL]
  | o :: l, i + 1, j, 0 => by simp [edgeL]
  | o :: l, i + 1, j, k + 1 => by
    have := edgeL_get l i j k
    simp only [edgeL, List.getElem?_cons_succ, this, Nat.add_right_cancel_iff]
theorem withEdge_get (ops : Array Oper) (i j k : Nat) : (withEdge ops i j)[k]? = if k = i then (ops[k]?).map (behind j) else ops[k]? := by
  have := edgeL_get ops.toList i j k
  simpa [withEdge] using this
theorem edgeL_len : ∀ (l : List Oper) (i j : Nat), (edgeL l i j).length = l.length
  | [], _, _ => rfl
  | o :: l, 0, j => rfl
  | o :: l, i + 1, j => by simp [edgeL, edgeL_len l i j]
theorem withEdge_size (ops : Array Oper) (i j : Nat) : (withEdge ops i j).size = ops.size := by simp [withEdge, edgeL_len]

theorem yielded_edge (ops : Array Oper) (i j : Nat) (tmps : Array Value) : yielded (withEdge ops i j) tmps = yielded ops tmps := by
  funext k
  unfold yielded
  rw [withEdge_get]
  have e : ((if k = i then Option.map (behind j) ops[k]? else ops[k]?).bind (·.dst)) = (ops[k]?).bind (·.dst) := by
    split
    · cases ops[k]? <;> rfl
    · rfl
  rw [e]
theorem wpOp_edge (ops : Array Oper) (i j k : Nat) (Q : Exit → Act → World → Prop) (K : Act → World → Prop) (a : Act) (w : World) : wpOp P (withEdge ops i j) Q k K a w = wpOp P ops Q k K a w := by
  unfold wpOp
  rw [withEdge_get, yielded_edge]
  by_cases e : k = i
  · rw [if_pos e]
    cases ops[k]? with
    | none => rfl
    | some o => rfl
  · rw [if_neg e]
theorem ready_edge {ops : Array Oper} {i j k : Nat} {listed : Array Bool} : k ∈ Region.ready .any (withEdge ops i j) listed ↔ k ∈ Region.ready .any ops listed ∧ (k = i → lst listed j = true) := by
  rw [mem_ready, mem_ready, withEdge_get]
  constructor
  · rintro ⟨h1, o, ho, he⟩
    by_cases e : k = i
    · rw [if_pos e] at ho
      cases h : ops[k]? with
      | none => rw [h] at ho; cases ho
      | some o1 =>
        rw [h] at ho
        simp only [Option.map_some, Option.some.injEq] at ho
        subst ho
        exact ⟨⟨h1, o1, rfl, fun x hx hb => he x (by simp [behind, hx]) hb⟩, fun _ => he { on := j, ground := .data } (by simp [behind]) rfl⟩
    · rw [if_neg e] at ho
      exact ⟨⟨h1, o, ho, he⟩, fun e' => absurd e' e⟩
  · rintro ⟨⟨h1, o, ho, he⟩, h2⟩
    by_cases e : k = i
    · rw [if_pos e, ho]
      refine ⟨h1, _, rfl, fun x hx hb => ?_⟩
      simp only [behind, Array.mem_push] at hx
      rcases hx with hx | rfl
      · exact he x hx hb
      · exact h2 e
    · rw [if_neg e]
      exact ⟨h1, o, ho, he⟩

/-- An operation that calls nothing. -/
def quietO : Op → Bool
  | .move _ | .load _ _ | .assign _ | .fieldAddr _ _ _ | .alloc _ | .box _ _ | .build _ _ | .buildSlice _ _ _ | .binOp _ _ _ _ _ | .unOp _ _ _ | .convert _ _ _ | .makeSlice _ _ _ | .slice _ _ _ _ _ | .field _ _ _ | .indexAddr _ _ _ | .index _ _ _ | .lookup _ _ _ _ => true
  | _ => false
theorem upon_and {o : Oper} (hq : quietO o.op = true) {a : Act} {w : World} {K1 K2 : Act → World → Prop} {Q : Exit → Act → World → Prop} (h1 : o.wp P a w K1 Q) (h2 : o.wp P a w K2 Q) : o.wp P a w (fun a w => K1 a w ∧ K2 a w) Q := by
  have hform : ∃ s : Sem Value, execOp a.eval o = (do pure (.value (← s)) : Sem Next) := by
    obtain ⟨d, op, ty, pos, af, gu⟩ := o
    cases op
    case move x => exact ⟨pure (a.eval x), rfl⟩
    case load T x => exact ⟨Instr.loadAt T (a.eval x), rfl⟩
    case assign x => exact ⟨pure (a.eval x), rfl⟩
    case fieldAddr T x f => exact ⟨Instr.fieldAt T (a.eval x) f, rfl⟩
    case alloc => exact ⟨_, rfl⟩
    case box => exact ⟨_, rfl⟩
    case build => exact ⟨_, rfl⟩
    case buildSlice => exact ⟨_, rfl⟩
    case binOp => exact ⟨_, rfl⟩
    case unOp => exact ⟨_, rfl⟩
    case convert => exact ⟨_, rfl⟩
    case makeSlice => exact ⟨_, rfl⟩
    case slice => exact ⟨_, rfl⟩
    case field => exact ⟨_, rfl⟩
    case indexAddr => exact ⟨_, rfl⟩
    case index => exact ⟨_, rfl⟩
    case lookup => exact ⟨_, rfl⟩
    all_goals cases hq
  obtain ⟨s, hs⟩ := hform
  unfold Oper.wp at *
  rw [hs, Sem.run_bind] at h1 h2 ⊢
  cases hr : s.run P w with
  | ok v w' =>
    rw [hr] at h1 h2
    exact ⟨h1, h2⟩
  | halt x w' =>
    rw [hr] at h1 h2
    cases x <;> first
      | exact h1
      | exact h1.elim
theorem wpOp_and {ops : Array Oper} {k : Nat} {o : Oper} (ho : ops[k]? = some o) (hq : quietO o.op = true) {a : Act} {w : World} {K1 K2 : Act → World → Prop} {Q : Exit → Act → World → Prop} (h1 : wpOp P ops Q k K1 a w) (h2 : wpOp P ops Q k K2 a w) : wpOp P ops Q k (fun a w => K1 a w ∧ K2 a w) a w := by
  unfold wpOp at *
  rw [ho] at *
  simp only at *
  split
  · rename_i hw
    rw [if_pos hw] at h1 h2
    rcases h1 with h1 | h1
    · rcases h2 with h2 | h2
      · exact .inl (upon_and hq h1 h2)
      · exact .inr h2
    · exact .inr h1
  · rename_i hw
    rw [if_neg hw] at h1 h2
    exact ⟨h1, h2⟩
def splitOk (ops : Array Oper) (i j : Nat) : Bool := (i != j) && (List.range ops.size).all fun k => k == i || k == j || ((ops[k]?).map fun o => quietO o.op).getD true || (edgesOf ops k).contains i || (edgesOf ops k).contains j

theorem any_split {ops : Array Oper} {Q : Exit → Act → World → Prop} {i j : Nat} (hij : i ≠ j) (hsp : splitOk ops i j = true) : ∀ (fuel : Nat) (listed : Array Bool) (a : Act) (w : World), listed.size = ops.size →
    ((lst listed i = false ∧ lst listed j = false ∧ wpAny P .any (withEdge ops j i) Q fuel listed a w ∧ wpAny P .any (withEdge ops i j) Q fuel listed a w) ∨
     (lst listed i = true ∧ wpAny P .any (withEdge ops j i) Q fuel listed a w) ∨ (lst listed j = true ∧ wpAny P .any (withEdge ops i j) Q fuel listed a w)) → wpAny P .any ops Q fuel listed a w := by
  have key : ∀ (listed : Array Bool), (∀ k, k ∈ Region.ready .any ops listed → (k ∈ Region.ready .any (withEdge ops j i) listed ∨ k ∈ Region.ready .any (withEdge ops i j) listed)) := by
    intro listed k hk
    by_cases e : k = i
    · exact .inl (ready_edge.2 ⟨hk, fun e' => absurd (e.symm.trans e') hij⟩)
    · exact .inr (ready_edge.2 ⟨hk, fun e' => absurd e' e⟩)
  have sub1 : ∀ (listed : Array Bool) (p q : Nat), Region.ready .any ops listed = [] → Region.ready .any (withEdge ops p q) listed = [] := by
    intro listed p q h
    apply List.eq_nil_iff_forall_not_mem.2
    intro k hk
    have := (ready_edge.1 hk).1
    rw [h] at this; cases this
  have back : ∀ (listed : Array Bool) (p q : Nat), lst listed q = true → ∀ k, k ∈ Region.ready .any ops listed → k ∈ Region.ready .any (withEdge ops p q) listed := fun listed p q hq k hk => ready_edge.2 ⟨hk, fun _ => hq⟩
  intro fuel
  induction fuel with
  | zero =>
    rintro listed a w hsz (⟨h1, h2, hA, hB⟩ | ⟨h1, hA⟩ | ⟨h1, hA⟩)
    · refine ⟨List.eq_nil_iff_forall_not_mem.2 fun k hk => ?_, hA.2⟩
      rcases key listed k hk with h | h
      · rw [hA.1] at h; cases h
      · rw [hB.1] at h; cases h
    · refine ⟨List.eq_nil_iff_forall_not_mem.2 fun k hk => ?_, hA.2⟩
      have := back listed j i h1 k hk
      rw [hA.1] at this; cases this
    · refine ⟨List.eq_nil_iff_forall_not_mem.2 fun k hk => ?_, hA.2⟩
      have := back listed i j h1 k hk
      rw [hA.1] at this; cases this
  | succ fuel ih =>
    have hget : ∀ (listed : Array Bool) (k : Nat), listed.size = ops.size → k ∈ Region.ready .any ops listed → ∀ q, lst (listed.setIfInBounds k true) q = (lst listed q || q == k) := by
      intro listed k hsz hk q
      obtain ⟨_, o, ho, _⟩ := mem_ready.1 hk
      exact lst_set (by rw [hsz]; exact (Array.getElem?_eq_some_iff.1 ho).1) q
    rintro listed a w hsz (⟨h1, h2, hA, hB⟩ | ⟨h1, hA⟩ | ⟨h1, hA⟩)
    · refine ⟨fun hn => hA.1 (sub1 listed j i hn), fun k hk => ?_⟩
      have hs := hget listed k hsz hk
      by_cases e1 : k = i
      · have h3 := hA.2 k (ready_edge.2 ⟨hk, fun e' => absurd (e1.symm.trans e') hij⟩)
        rw [wpOp_edge] at h3
        exact wpOp_mono (fun a w h => ih _ a w (by simpa using hsz) (.inr (.inl ⟨by rw [hs, e1]; simp, h⟩))) h3
      · by_cases e2 : k = j
        · have h3 := hB.2 k (ready_edge.2 ⟨hk, fun e' => absurd e' e1⟩)
          rw [wpOp_edge] at h3
          exact wpOp_mono (fun a w h => ih _ a w (by simpa using hsz) (.inr (.inr ⟨by rw [hs, e2]; simp, h⟩))) h3
        · have h3 := hA.2 k (ready_edge.2 ⟨hk, fun e' => absurd e' e2⟩)
          have h4 := hB.2 k (ready_edge.2 ⟨hk, fun e' => absurd e' e1⟩)
          rw [wpOp_edge] at h3 h4
          obtain ⟨_, o, ho, hed⟩ := mem_ready.1 hk
          have hedge : ∀ q ∈ edgesOf ops k, lst listed q = true := by
            intro q hq
            simp only [edgesOf, ho, Option.map_some, Option.getD_some] at hq
            obtain ⟨ed, hed1, rfl⟩ := List.mem_map.1 hq
            obtain ⟨hed2, hb⟩ := List.mem_filter.1 hed1
            exact hed ed (by simpa using hed2) hb
          simp only [splitOk, Bool.and_eq_true, List.all_eq_true] at hsp
          have h5 := hsp.2 k (by simpa using (Array.getElem?_eq_some_iff.1 ho).1)
          simp only [Bool.or_eq_true, beq_iff_eq, ho, Option.map_some, Option.getD_some, List.contains_iff_mem] at h5
          have hq : quietO o.op = true := by
            rcases h5 with (((h5 | h5) | h5) | h5) | h5
            · exact absurd h5 e1
            · exact absurd h5 e2
            · exact h5
            · have := hedge i h5; rw [h1] at this; cases this
            · have := hedge j h5; rw [h2] at this; cases this
          exact wpOp_mono (fun a w h => ih _ a w (by simpa using hsz) (.inl ⟨by rw [hs, h1]; simp [Ne.symm e1], by rw [hs, h2]; simp [Ne.symm e2], h.1, h.2⟩)) (wpOp_and ho hq h3 h4)
    · refine ⟨fun hn => hA.1 (sub1 listed j i hn), fun k hk => ?_⟩
      have h3 := hA.2 k (back listed j i h1 k hk)
      rw [wpOp_edge] at h3
      exact wpOp_mono (fun a w h => ih _ a w (by simpa using hsz) (.inr (.inl ⟨by rw [hget listed k hsz hk, h1]; rfl, h⟩))) h3
    · refine ⟨fun hn => hA.1 (sub1 listed i j hn), fun k hk => ?_⟩
      have h3 := hA.2 k (back listed i j h1 k hk)
      rw [wpOp_edge] at h3
      exact wpOp_mono (fun a w h => ih _ a w (by simpa using hsz) (.inr (.inr ⟨by rw [hget listed k hsz hk, h1]; rfl, h⟩))) h3

theorem draw_any {ops : Array Oper} {K : Env → Heap → Nat → Prop} {e : Env} {h : Heap} {t : Nat} (plan : List PI) (hs : Heap) (hpl : planOk ops plan = true)
    (hsub : Sub hs h) (hv : vcD P ops hs K plan e h t) {n : Nat} {g : World} {a : Act} {w : World} {Q : Exit → Act → World → Prop} (hr : Rel g h t w) (ha : AR n e a)
    (hn : ∀ o ∈ ops.toList, ∀ d, o.dst = some d → d < n) (hq : ∀ e' h' t' a' w', Rel g h' t' w' → t ≤ t' → AR n e' a' → K e' h' t' → Q .normal a' w') : wpAny P .any ops Q ops.size (Array.replicate ops.size false) a w := by
  have hp0 := hpl
  simp only [planOk, Bool.and_eq_true, List.all_eq_true] at hp0
  have hl0 : ∀ i, lst (Array.replicate ops.size false) i = false := by
    intro i; simp only [lst, Array.getD_eq_getD_getElem?, Array.getElem?_replicate]; split <;> rfl
  have hlen : plan.length = ops.size := Nat.eq_of_beq_eq_true hp0.1
  refine any_sound (t0 := t) (e0 := e) (K := K) (hs := hs) hpl hn hq ops.size (pre := []) (suf := plan) (e := e) (h := h) (t := t) ?_ ?_
  · rw [← hlen]; exact List.countP_le_length
  · refine { split := by simp, lsz := by simp, louds := (fun x hx => by cases hx), sub := (fun x _ hl => by rw [hl0] at hl; cases hl), closed := (fun x _ hl => by rw [hl0] at hl; cases hl), vc := hv, rel := hr, le := Nat.le_refl _, defers := ha.defers, size := ha.size, slots := (fun s _ => ha.get s), slotsP := (fun x hx => by cases hx), e0s := (fun s _ => rfl), pend := (fun x hx => by cases hx), subh := fun _ => hsub }
/-- Operations i and j may stand either way. -/
theorem draw_split {ops : Array Oper} {K : Env → Heap → Nat → Prop} {e : Env} {h : Heap} {t : Nat} (i j : Nat) (plan1 plan2 : List PI) (hs : Heap) (hm : P.follows .mixedOrders = true) (hsp : splitOk ops i j = true)
    (hp1 : planOk (withEdge ops j i) plan1 = true) (hp2 : planOk (withEdge ops i j) plan2 = true) (hsub : Sub hs h) (hv1 : vcD P (withEdge ops j i) hs K plan1 e h t) (hv2 : vcD P (withEdge ops i j) hs K plan2 e h t) : DrawVC P ops K e h t := by
  refine ⟨?_⟩
  intro n g a w Q hr ha hn hq m
  simp only [Region.schedule, hm, Bool.true_or, if_true]
  have hl0 : ∀ i, lst (Array.replicate ops.size false) i = false := by
    intro i; simp only [lst, Array.getD_eq_getD_getElem?, Array.getElem?_replicate]; split <;> rfl
  have hn' : ∀ p q, ∀ o ∈ (withEdge ops p q).toList, ∀ d, o.dst = some d → d < n := by
    intro p q o ho d hd
    obtain ⟨k, hk⟩ := List.getElem?_of_mem ho
    rw [Array.getElem?_toList, withEdge_get] at hk
    by_cases e : k = p
    · rw [if_pos e] at hk
      cases ho2 : ops[k]? with
      | none => rw [ho2] at hk; cases hk
      | some o2 =>
        rw [ho2] at hk
        simp only [Option.map_some, Option.some.injEq] at hk
        subst hk
        exact hn o2 (List.mem_of_getElem? (by rw [Array.getElem?_toList]; exact ho2)) d hd
    · rw [if_neg e] at hk
      exact hn o (List.mem_of_getElem? (by rw [Array.getElem?_toList]; exact hk)) d hd
  have h1 := draw_any plan1 hs hp1 hsub hv1 hr ha (hn' j i) hq
  have h2 := draw_any plan2 hs hp2 hsub hv2 hr ha (hn' i j) hq
  rw [withEdge_size] at h1 h2
  have hne : i ≠ j := by
    simp only [splitOk, Bool.and_eq_true, bne_iff_ne] at hsp
    exact hsp.1
  exact wpAny_sound ops.size m _ a w (any_split hne hsp ops.size _ a w (by simp) (.inl ⟨hl0 _, hl0 _, h1, h2⟩))
/-- In whatever order. -/
structure DrawAny (P : Program) (ops : Array Oper) (K : Env → Heap → Nat → Prop) (e : Env) (h : Heap) (t : Nat) : Prop where
  run : ∀ (n : Nat) (g : World) (a : Act) (w : World) (Q : Exit → Act → World → Prop), Rel g h t w → AR n e a →
    (∀ o ∈ ops.toList, ∀ d, o.dst = some d → d < n) →
    (∀ e' h' t' a' w', Rel g h' t' w' → t ≤ t' → AR n e' a' → K e' h' t' → Q .normal a' w') → wpAny P .any ops Q ops.size (Array.replicate ops.size false) a w
theorem dany_plan {ops : Array Oper} {K : Env → Heap → Nat → Prop} {e : Env} {h : Heap} {t : Nat} (plan : List PI) (hs : Heap) (hpl : planOk ops plan = true) (hsub : Sub hs h) (hv : vcD P ops hs K plan e h t) : DrawAny P ops K e h t :=
  ⟨fun n g a w Q hr ha hn hq => draw_any plan hs hpl hsub hv hr ha hn hq⟩
theorem edge_dst {ops : Array Oper} {n p q : Nat} (hn : ∀ o ∈ ops.toList, ∀ d, o.dst = some d → d < n) : ∀ o ∈ (withEdge ops p q).toList, ∀ d, o.dst = some d → d < n := by
  intro o ho d hd
  obtain ⟨k, hk⟩ := List.getElem?_of_mem ho
  rw [Array.getElem?_toList, withEdge_get] at hk
  by_cases e : k = p
  · rw [if_pos e] at hk
    cases ho2 : ops[k]? with
    | none => rw [ho2] at hk; cases hk
    | some o2 =>
      rw [ho2] at hk
      simp only [Option.map_some, Option.some.injEq] at hk
      subst hk
      exact hn o2 (List.mem_of_getElem? (by rw [Array.getElem?_toList]; exact ho2)) d hd
  · rw [if_neg e] at hk
    exact hn o (List.mem_of_getElem? (by rw [Array.getElem?_toList]; exact hk)) d hd
theorem dany_split {ops : Array Oper} {K : Env → Heap → Nat → Prop} {e : Env} {h : Heap} {t : Nat} (i j : Nat) (hsp : splitOk ops i j = true) (h1 : DrawAny P (withEdge ops j i) K e h t) (h2 : DrawAny P (withEdge ops i j) K e h t) : DrawAny P ops K e h t := by
  refine ⟨fun n g a w Q hr ha hn hq => ?_⟩
  have hl0 : ∀ i, lst (Array.replicate ops.size false) i = false := by
    intro i; simp only [lst, Array.getD_eq_getD_getElem?, Array.getElem?_replicate]; split <;> rfl
  have g1 := h1.run n g a w Q hr ha (edge_dst hn) hq
  have g2 := h2.run n g a w Q hr ha (edge_dst hn) hq
  rw [withEdge_size] at g1 g2
  have hne : i ≠ j := by
    simp only [splitOk, Bool.and_eq_true, bne_iff_ne] at hsp
    exact hsp.1
  exact any_split hne hsp ops.size _ a w (by simp) (.inl ⟨hl0 _, hl0 _, g1, g2⟩)
theorem draw_of {ops : Array Oper} {K : Env → Heap → Nat → Prop} {e : Env} {h : Heap} {t : Nat} (hm : P.follows .mixedOrders = true) (hd : DrawAny P ops K e h t) : DrawVC P ops K e h t := by
  refine ⟨?_⟩
  intro n g a w Q hr ha hn hq m
  simp only [Region.schedule, hm, Bool.true_or, if_true]
  exact wpAny_sound ops.size m _ a w (hd.run n g a w Q hr ha hn hq)
theorem Own.unmap {α : Type} {h : Heap} {E : TypeId} {a : Option Addr} {n c : Nat} {f : α → Value} {l : List α} (o : Vc.Own h E a n c id (l.map f)) : Vc.Own h E a n c f l := by
  refine ⟨by simpa using o.1, ?_⟩
  rcases o.2 with h1 | ⟨b, off, cs, fr, ha, hn, hb, hs, hfz, hc⟩
  · exact .inl h1
  · refine .inr ⟨b, off, cs, fr, ha, hn, hb, hs, hfz, fun i hi => ?_⟩
    have := hc i (by simpa using hi)
    rw [this]; simp
end Go.Vc
