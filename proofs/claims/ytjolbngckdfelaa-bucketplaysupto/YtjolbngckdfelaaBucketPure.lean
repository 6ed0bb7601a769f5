/- The reference's rising list and our map hold the same. -/
import Derived.Test.YtjolbngckdfelaaBucket9
namespace Go.Proofs.Ytjolbngckdfelaa
open Go Go.Vc
set_option linter.unusedVariables false

theorem bl_lt : ∀ (x y : List UInt8), Op.bytesLess x y = true ↔ x < y
  | _, [] => by simp [Op.bytesLess]
  | [], b :: y => by simp [Op.bytesLess]
  | a :: x, b :: y => by
    rw [Op.bytesLess, List.cons_lt_cons_iff, ← bl_lt x y]
    simp
def ltS (a b : ByteArray) : Prop := a.toList < b.toList
theorem ltS_trans {a b c : ByteArray} (h : ltS a b) (h' : ltS b c) : ltS a c := List.lt_trans h h'
theorem ltS_irr {a : ByteArray} : ¬ ltS a a := List.lt_irrefl _
theorem toList_inj {a b : ByteArray} (h : a.toList = b.toList) : a = b := by
  rw [ByteArray.toList_eq, ByteArray.toList_eq] at h
  exact ByteArray.ext (Array.toList_inj.1 h)
theorem ltS_tot {a b : ByteArray} (h : a ≠ b) : ltS a b ∨ ltS b a := by
  unfold ltS
  rcases Classical.em (a.toList < b.toList) with h1 | h1
  · exact .inl h1
  · refine .inr ?_
    have h2 : b.toList ≤ a.toList := h1
    rcases Classical.em (b.toList < a.toList) with h3 | h3
    · exact h3
    · have h4 : a.toList ≤ b.toList := h3
      exact absurd (toList_inj (List.le_antisymm h4 h2)) h
theorem leB_iff {a b : ByteArray} : leB a b = true ↔ ¬ ltS b a := by
  unfold leB ltS
  rw [← bl_lt]
  cases Op.bytesLess b.toList a.toList <;> simp
def Ris (L : List (ByteArray × ByteArray)) : Prop := L.Pairwise fun p q => ltS p.1 q.1
theorem rG_true (name s : ByteArray) (L : List (ByteArray × ByteArray)) : rG name s L true = L.filter fun p => decide (p.1 ≠ name) := by
  induction L with
  | nil => rfl
  | cons p r ih =>
    rw [rG, Bool.true_or, ih]
    by_cases h : p.1 = name <;> simp [h]
theorem rG_mem {name s : ByteArray} : ∀ {L : List (ByteArray × ByteArray)} {p : ByteArray × ByteArray}, p ∈ rG name s L false → p = (name, s) ∨ (p ∈ L ∧ p.1 ≠ name)
  | [], p, h => by simpa [rG] using h
  | q :: r, p, h => by
    rw [rG] at h
    cases hl : leB name q.1 with
    | true =>
      rw [hl] at h
      simp only [Bool.not_false, Bool.true_and, if_true, Bool.false_or, rG_true, List.mem_append, List.mem_singleton] at h
      rcases h with (h | h) | h
      · exact .inl h
      · by_cases e : q.1 = name
        · rw [if_neg (fun x => x e)] at h; cases h
        · rw [if_pos e] at h
          have := List.mem_singleton.1 h
          subst this
          exact .inr ⟨by simp, e⟩
      · obtain ⟨h1, h2⟩ := List.mem_filter.1 h
        exact .inr ⟨by simp [h1], by simpa using h2⟩
    | false =>
      rw [hl] at h
      simp only [Bool.not_false, Bool.true_and, Bool.false_eq_true, if_false, Bool.or_false, List.nil_append, List.mem_append] at h
      rcases h with h | h
      · by_cases e : q.1 = name
        · rw [if_neg (fun x => x e)] at h; cases h
        · rw [if_pos e] at h
          have := List.mem_singleton.1 h
          subst this
          exact .inr ⟨by simp, e⟩
      · rcases rG_mem h with h | ⟨h1, h2⟩
        · exact .inl h
        · exact .inr ⟨by simp [h1], h2⟩
theorem rG_ris {name s : ByteArray} : ∀ {L : List (ByteArray × ByteArray)}, Ris L → Ris (rG name s L false)
  | [], h => by simp [rG, Ris]
  | q :: r, h => by
    have h1 := List.pairwise_cons.1 h
    rw [rG]
    cases hl : leB name q.1 with
    | true =>
      have hle := leB_iff.1 hl
      simp only [Bool.not_false, Bool.true_and, if_true, Bool.false_or, rG_true]
      have hfr : Ris (r.filter fun p => decide (p.1 ≠ name)) := h1.2.sublist (List.filter_sublist)
      by_cases e : q.1 = name
      · rw [if_neg (fun x => x e)]
        refine List.pairwise_cons.2 ⟨fun p hp => ?_, hfr⟩
        have := h1.1 p (List.mem_filter.1 hp).1
        rwa [e] at this
      · rw [if_pos e]
        have hlt : ltS name q.1 := by
          rcases ltS_tot e with x | x
          · exact absurd x hle
          · exact x
        refine List.pairwise_cons.2 ⟨fun p hp => ?_, List.pairwise_cons.2 ⟨fun p hp => h1.1 p (List.mem_filter.1 hp).1, hfr⟩⟩
        rcases List.mem_cons.1 hp with rfl | hp
        · exact hlt
        · exact ltS_trans hlt (h1.1 p (List.mem_filter.1 hp).1)
    | false =>
      have hlt : ltS q.1 name := by
        have : ¬ ¬ ltS q.1 name := fun x => by rw [leB_iff.2 x] at hl; cases hl
        exact Classical.not_not.1 this
      have e : q.1 ≠ name := fun e => ltS_irr (e ▸ hlt : ltS name name)
      simp only [Bool.not_false, Bool.true_and, Bool.false_eq_true, if_false, Bool.or_false, List.nil_append]
      rw [if_pos e]
      refine List.pairwise_cons.2 ⟨fun p hp => ?_, rG_ris h1.2⟩
      rcases rG_mem hp with rfl | ⟨hp, _⟩
      · exact hlt
      · exact h1.1 p hp
theorem aGet_cons (p : ByteArray × ByteArray) (r : List (ByteArray × ByteArray)) (n : ByteArray) : aGet (p :: r) n = if p.1 = n then some p.2 else aGet r n := by
  by_cases h : p.1 = n <;> simp [aGet, h]
theorem aGet_filter {name n : ByteArray} (h : n ≠ name) (L : List (ByteArray × ByteArray)) : aGet (L.filter fun p => decide (p.1 ≠ name)) n = aGet L n := by
  induction L with
  | nil => rfl
  | cons p r ih =>
    by_cases e : p.1 = name
    · rw [List.filter_cons_of_neg (by simp [e]), ih, aGet_cons, if_neg (fun x => h (x.symm.trans e))]
    · rw [List.filter_cons_of_pos (by simp [e]), aGet_cons, aGet_cons, ih]
theorem aGet_rG {name s n : ByteArray} : ∀ (L : List (ByteArray × ByteArray)), aGet (rG name s L false) n = if n = name then some s else aGet L n
  | [] => by
    show aGet [(name, s)] n = _
    rw [aGet_cons]
    by_cases h : n = name
    · rw [if_pos h.symm, if_pos h]
    · rw [if_neg (fun x => h x.symm), if_neg h]
  | q :: r => by
    rw [rG]
    cases hl : leB name q.1 with
    | true =>
      simp only [Bool.not_false, Bool.true_and, if_true, Bool.false_or, rG_true]
      by_cases h : n = name
      · rw [if_pos h]
        show aGet ((name, s) :: _) n = _
        rw [aGet_cons, if_pos h.symm]
      · rw [if_neg h]
        by_cases e : q.1 = name
        · rw [if_neg (fun x => x e)]
          show aGet ((name, s) :: (r.filter _)) n = _
          rw [aGet_cons, if_neg (fun x => h x.symm), aGet_filter h, aGet_cons, if_neg (fun x => h (x.symm.trans e))]
        · rw [if_pos e]
          show aGet ((name, s) :: q :: (r.filter _)) n = _
          rw [aGet_cons, if_neg (fun x => h x.symm), aGet_cons, aGet_filter h, aGet_cons]
    | false =>
      have hlt : ltS q.1 name := by
        have : ¬ ¬ ltS q.1 name := fun x => by rw [leB_iff.2 x] at hl; cases hl
        exact Classical.not_not.1 this
      have e : q.1 ≠ name := fun e => ltS_irr (e ▸ hlt : ltS name name)
      simp only [Bool.not_false, Bool.true_and, Bool.false_eq_true, if_false, Bool.or_false, List.nil_append]
      rw [if_pos e, List.singleton_append, aGet_cons, aGet_rG r, aGet_cons]
      by_cases h : n = name
      · rw [if_pos h, if_pos h, if_neg (fun x => e (x.trans h))]
      · rw [if_neg h, if_neg h]
theorem aGet_mem {L : List (ByteArray × ByteArray)} {n : ByteArray} : (aGet L n).isSome = true ↔ n ∈ L.map (·.1) := by
  induction L with
  | nil => simp [aGet]
  | cons p r ih =>
    rw [aGet_cons]
    by_cases h : p.1 = n
    · simp [h]
    · rw [if_neg h, ih]; simp [Ne.symm h]
theorem ris_at {L : List (ByteArray × ByteArray)} (h : Ris L) {k : Nat} {p : ByteArray × ByteArray} (hp : L[k]? = some p) : aGet L p.1 = some p.2 := by
  induction L generalizing k with
  | nil => simp at hp
  | cons q r ih =>
    have h1 := List.pairwise_cons.1 h
    cases k with
    | zero => simp at hp; subst hp; rw [aGet_cons, if_pos rfl]
    | succ k =>
      have hp' : r[k]? = some p := by simpa using hp
      have := h1.1 p (List.mem_of_getElem? hp')
      rw [aGet_cons, if_neg (fun (e : q.1 = p.1) => by rw [e] at this; exact ltS_irr this)]
      exact ih h1.2 hp'
/-- The names, sorted. -/
theorem names_eq {L D : List (ByteArray × ByteArray)} (hr : Ris L) (hD : (D.map (·.1)).Nodup) (h : ∀ n, aGet L n = aGet D n) : sortB (D.map (·.1)) = L.map (·.1) := by
  have hLn : (L.map (·.1)).Nodup := by
    refine List.pairwise_map.2 (hr.imp fun {p q} h e => ?_)
    exact ltS_irr (e ▸ h : ltS q.1 q.1)
  have hperm : (D.map (·.1)).Perm (L.map (·.1)) := by
    refine (List.perm_ext_iff_of_nodup hD hLn).2 fun n => ?_
    rw [← aGet_mem, ← aGet_mem, h n]
  unfold sortB
  have h1 : (((D.map (·.1)).map fun x => x.data.toList).mergeSort fun x y => decide (x ≤ y)) = (L.map (·.1)).map fun x => x.data.toList := by
    have tr : ∀ x y z : List UInt8, decide (x ≤ y) = true → decide (y ≤ z) = true → decide (x ≤ z) = true := fun x y z h1 h2 => by
      simp only [decide_eq_true_eq] at *; exact List.le_trans h1 h2
    have to : ∀ x y : List UInt8, (decide (x ≤ y) || decide (y ≤ x)) = true := fun x y => by
      simp only [Bool.or_eq_true, decide_eq_true_eq]; exact List.le_total x y
    refine List.Perm.eq_of_pairwise (le := fun x y => decide (x ≤ y) = true) (fun x y _ _ h1 h2 => ?_) (List.pairwise_mergeSort tr to _) ?_ ((List.mergeSort_perm _ _).trans (hperm.map _))
    · simp only [decide_eq_true_eq] at h1 h2
      exact List.le_antisymm h1 h2
    · refine List.pairwise_map.2 (List.pairwise_map.2 (hr.imp fun {p q} h => ?_))
      have h : p.1.toList < q.1.toList := h
      rw [ByteArray.toList_eq, ByteArray.toList_eq] at h
      exact decide_eq_true (List.le_of_lt h)
  rw [h1, List.map_map]
  simp
end Go.Proofs.Ytjolbngckdfelaa
