/- Our bucket and the reference's, deed by deed. -/
import Derived.Test.YtjolbngckdfelaaBucketPure
namespace Go.Proofs.Ytjolbngckdfelaa
open Go Go.Vc
set_option linter.unusedVariables false

structure Rel (s : BS) (r : RS) : Prop where
  lock : s.lock = r.lock
  ver : s.ver = r.ver
  fs : s.fs = r.F
  ris : Ris r.L
  nd : (s.D.map (·.1)).Nodup
  get : ∀ n, aGet r.L n = aGet s.D n

theorem Rel.next {s : BS} {r : RS} (R : Rel s r) : Rel s.next r.next := by
  obtain ⟨h1, h2, h3, h4, h5, h6⟩ := R
  refine ⟨h1, h2, ?_, h4, h5, h6⟩
  have : s.next.fs = s.fs.tail := by
    unfold BS.next
    cases s.fs <;> rfl
  rw [this, h3]
  rfl

theorem aGet_app (D E : List (ByteArray × ByteArray)) (n : ByteArray) : aGet (D ++ E) n = if (aGet D n).isSome then aGet D n else aGet E n := by
  induction D with
  | nil => rfl
  | cons p r ih =>
    rw [List.cons_append, aGet_cons, aGet_cons, ih]
    by_cases h : p.1 = n <;> simp [h]
theorem aGet_map (D : List (ByteArray × ByteArray)) (name x n : ByteArray) : aGet (D.map (fun p => if p.1 = name then (name, x) else p)) n = if n = name then (if (aGet D n).isSome then some x else none) else aGet D n := by
  induction D with
  | nil => by_cases h : n = name <;> simp [h, aGet]
  | cons p r ih =>
    rw [List.map_cons, aGet_cons, aGet_cons, ih]
    by_cases hp : p.1 = name
    · rw [if_pos hp]
      by_cases h : n = name
      · simp [h, hp]
      · have : ¬ name = n := fun e => h e.symm
        simp [h, hp, this]
    · rw [if_neg hp]
      by_cases h : n = name
      · subst h
        simp [hp]
      · simp [h]
theorem any_iff (D : List (ByteArray × ByteArray)) (name : ByteArray) : D.any (fun p => decide (p.1 = name)) = true ↔ name ∈ D.map (·.1) := by
  simp [List.any_eq_true]
theorem aGet_aPut (D : List (ByteArray × ByteArray)) (name x n : ByteArray) : aGet (aPut D name x) n = if n = name then some x else aGet D n := by
  unfold aPut
  split
  · rename_i hk
    rw [aGet_map]
    have := aGet_mem.2 ((any_iff D name).1 hk)
    by_cases h : n = name
    · subst h
      simp [this]
    · simp [h]
  · rename_i hk
    have hm : (aGet D name).isSome = false := by
      cases e : (aGet D name).isSome
      · rfl
      · exact absurd ((any_iff D name).2 (aGet_mem.1 e)) hk
    rw [aGet_app, aGet_cons]
    by_cases h : n = name
    · subst h
      simp [hm]
    · have : ¬ name = n := fun e => h e.symm
      simp only [h, this, if_false]
      cases e : aGet D n <;> simp [aGet]
theorem aPut_nd {D : List (ByteArray × ByteArray)} (name x : ByteArray) (h : (D.map (·.1)).Nodup) : ((aPut D name x).map (·.1)).Nodup := by
  unfold aPut
  split
  · rw [List.map_map]
    have : D.map ((fun p : ByteArray × ByteArray => p.1) ∘ fun p => if p.1 = name then (name, x) else p) = D.map (·.1) := by
      refine List.map_congr_left fun p _ => ?_
      show (if p.1 = name then (name, x) else p).1 = p.1
      split
      · rename_i e
        exact e.symm
      · rfl
    rw [this]
    exact h
  · rename_i hk
    have hm : name ∉ D.map (·.1) := fun e => hk ((any_iff D name).2 e)
    rw [List.map_append, List.nodup_append]
    refine ⟨h, by simp, fun a ha b hb => ?_⟩
    have : b = name := by simpa using hb
    subst this
    exact fun e => hm (e ▸ ha)

theorem Rel.set {s : BS} {r : RS} (R : Rel s r) (name x : ByteArray) : Rel { s with D := aPut s.D name x } { r with L := rG name x r.L false } := by
  refine ⟨R.lock, R.ver, R.fs, rG_ris R.ris, aPut_nd name x R.nd, fun n => ?_⟩
  show aGet (rG name x r.L false) n = aGet (aPut s.D name x) n
  rw [aGet_rG, aGet_aPut, R.get]

theorem sim_put {s : BS} {r : RS} (R : Rel s r) (name x : ByteArray) : (callR s (isNamed name) (putR name x)).1 = (rPut name x r).1 ∧ Rel (callR s (isNamed name) (putR name x)).2 (rPut name x r).2 := by
  have hf := fate_range r.F
  have h1 := R.next
  have h2 := R.next.set name x
  unfold callR rPut putR
  rw [R.fs]
  cases isNamed name
  · exact ⟨rfl, h1⟩
  · rcases (by omega : fateOf r.F = 0 ∨ fateOf r.F = 1 ∨ fateOf r.F = 2) with h | h | h <;> rw [h] <;> first | exact ⟨rfl, h1⟩ | exact ⟨rfl, h2⟩
theorem sim_swap {s : BS} {r : RS} (R : Rel s r) (v : Int) (x : ByteArray) : (callR s true (fun s => swapR s v x)).1 = (rSwap v x r).1 ∧ Rel (callR s true (fun s => swapR s v x)).2 (rSwap v x r).2 := by
  have hf := fate_range r.F
  have h1 := R.next
  have hv : s.next.ver = r.ver := R.ver
  have h2 : v = r.ver → Rel { s.next with lock := x, ver := v + 1 } { r.next with lock := x, ver := r.ver + 1 } := fun e => ⟨rfl, by rw [e], h1.fs, h1.ris, h1.nd, h1.get⟩
  have hs : swapR s.next v x = if v = r.ver then (0, { s.next with lock := x, ver := v + 1 }) else (6, s.next) := by unfold swapR; rw [hv]
  unfold callR rSwap
  show (if true = false then (1, s.next) else if fateOf s.fs = 1 then (7, s.next) else if fateOf s.fs = 0 then swapR s.next v x else (7, (swapR s.next v x).2)).1 = _ ∧ Rel (if true = false then (1, s.next) else if fateOf s.fs = 1 then (7, s.next) else if fateOf s.fs = 0 then swapR s.next v x else (7, (swapR s.next v x).2)).2 _
  rw [R.fs, hs]
  by_cases e : v = r.ver
  · rw [if_pos e]
    have h3 := h2 e
    rcases (by omega : fateOf r.F = 0 ∨ fateOf r.F = 1 ∨ fateOf r.F = 2) with h | h | h <;> rw [h] <;> refine ⟨by simp [e], ?_⟩ <;> first | simpa [e] using h3 | simpa [e] using h1
  · rw [if_neg e]
    rcases (by omega : fateOf r.F = 0 ∨ fateOf r.F = 1 ∨ fateOf r.F = 2) with h | h | h <;> rw [h] <;> refine ⟨by simp [e], ?_⟩ <;> simpa [e] using h1
theorem sim_putNew {s : BS} {r : RS} (R : Rel s r) (name x : ByteArray) : (callR s (isNamed name) (putNewR name x)).1 = (rPutNew name x r).1 ∧ Rel (callR s (isNamed name) (putNewR name x)).2 (rPutNew name x r).2 := by
  have hf := fate_range r.F
  have h1 := R.next
  have h2 := R.next.set name x
  have hg : aGet s.next.D name = aGet r.L name := (R.get name).symm
  unfold callR rPutNew putNewR
  rw [R.fs, hg]
  cases isNamed name
  · exact ⟨rfl, h1⟩
  · rcases (by omega : fateOf r.F = 0 ∨ fateOf r.F = 1 ∨ fateOf r.F = 2) with h | h | h <;> rw [h] <;> cases e : (aGet r.L name).isSome <;> first | exact ⟨rfl, h1⟩ | exact ⟨rfl, h2⟩

theorem sim_get {s : BS} {r : RS} (R : Rel s r) (name : ByteArray) : (callR s (isNamed name) (getR name)).1 = (rGet name r).2 ∧ (if (callR s (isNamed name) (getR name)).1 = 0 then (aGet s.D name).getD ByteArray.empty else ByteArray.empty) = (rGet name r).1 ∧ Rel (callR s (isNamed name) (getR name)).2 r.next := by
  have hf := fate_range r.F
  have h1 := R.next
  have hg : aGet s.D name = aGet r.L name := (R.get name).symm
  have hg2 : aGet s.next.D name = aGet r.L name := (R.get name).symm
  rw [getR_next]
  refine ⟨?_, ?_, h1⟩
  · unfold callR rGet getR
    rw [R.fs, hg2]
    cases isNamed name
    · rfl
    · rcases (by omega : fateOf r.F = 0 ∨ fateOf r.F = 1 ∨ fateOf r.F = 2) with h | h | h <;> rw [h] <;> cases e : (aGet r.L name).isSome <;> rfl
  · unfold callR rGet getR
    rw [R.fs, hg2, hg]
    cases isNamed name
    · rfl
    · rcases (by omega : fateOf r.F = 0 ∨ fateOf r.F = 1 ∨ fateOf r.F = 2) with h | h | h <;> rw [h] <;> cases e : (aGet r.L name).isSome <;> rfl
theorem sim_lock {s : BS} {r : RS} (R : Rel s r) : (callR s true lockR).1 = (rLocked r).2.2 ∧ (if (callR s true lockR).1 = 0 then s.ver else 0) = (rLocked r).2.1 ∧ (if (callR s true lockR).1 = 0 then s.lock else ByteArray.empty) = (rLocked r).1 ∧ Rel s.next r.next := by
  have hf := fate_range r.F
  refine ⟨?_, ?_, ?_, R.next⟩
  all_goals
    unfold callR rLocked lockR
    rw [R.fs]
    try rw [R.ver]
    try rw [R.lock]
    rcases (by omega : fateOf r.F = 0 ∨ fateOf r.F = 1 ∨ fateOf r.F = 2) with h | h | h <;> rw [h] <;> rfl
theorem sim_fates {s : BS} {r : RS} (R : Rel s r) (l : List Int) : Rel { s with fs := s.fs ++ l } { r with F := r.F ++ l } := ⟨R.lock, R.ver, by show s.fs ++ l = r.F ++ l; rw [R.fs], R.ris, R.nd, R.get⟩
theorem rel_zero : Rel ⟨[], ByteArray.empty, 0, []⟩ ⟨[], ByteArray.empty, 0, []⟩ := ⟨rfl, rfl, rfl, List.Pairwise.nil, List.nodup_nil, fun _ => rfl⟩
theorem rel_names {s : BS} {r : RS} (R : Rel s r) : sortB (s.D.map (·.1)) = r.L.map (·.1) := names_eq R.ris R.nd R.get
theorem rel_len {s : BS} {r : RS} (R : Rel s r) : s.D.length = r.L.length := by
  have := congrArg List.length (rel_names R)
  have h2 := sortB_len (s.D.map (·.1))
  simp only [List.length_map] at this h2
  omega
/-- The reference's set makes the list one longer at most. -/
theorem aPut_len (D : List (ByteArray × ByteArray)) (name x : ByteArray) : (aPut D name x).length ≤ D.length + 1 := by
  unfold aPut
  split <;> simp
end Go.Proofs.Ytjolbngckdfelaa
