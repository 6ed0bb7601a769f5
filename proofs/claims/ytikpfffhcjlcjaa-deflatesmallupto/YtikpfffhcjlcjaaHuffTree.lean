/- Huffman's trees in plain Lean: the lists that are merged, the depths. -/
import Derived.Test.YtikpfffhcjlcjaaHuffPure
set_option linter.unusedSimpArgs false
namespace Go.Huf
set_option linter.unusedVariables false
abbrev Nd := Int × Nat
/-- Is a ahead of b? -/
def ahead (a b : Nd) : Prop := a.1 < b.1 ∨ (a.1 = b.1 ∧ a.2 < b.2)
instance (a b : Nd) : Decidable (ahead a b) := by unfold ahead; infer_instance
theorem ahead_trans {a b c : Nd} (h : ahead a b) (h' : ahead b c) : ahead a c := by unfold ahead at *; omega
theorem ahead_irr {a : Nd} : ¬ ahead a a := by unfold ahead; omega
theorem ahead_total {a b : Nd} (h : a.2 ≠ b.2) : ahead a b ∨ ahead b a := by unfold ahead; omega
def ins (x : Nd) : List Nd → List Nd
  | [] => [x]
  | y :: r => if ahead y x then y :: ins x r else x :: y :: r
theorem ins_len (x : Nd) (l : List Nd) : (ins x l).length = l.length + 1 := by
  induction l with
  | nil => rfl
  | cons y r ih => unfold ins; split <;> simp [ih]
theorem ins_perm (x : Nd) (l : List Nd) : (ins x l).Perm (x :: l) := by
  induction l with
  | nil => exact .refl _
  | cons y r ih =>
    unfold ins; split
    · exact (List.Perm.cons y ih).trans (List.Perm.swap x y r)
    · exact .refl _
theorem ins_mem {x y : Nd} {l : List Nd} : y ∈ ins x l ↔ y = x ∨ y ∈ l := by rw [(ins_perm x l).mem_iff]; simp
def Srt (l : List Nd) : Prop := l.Pairwise ahead
theorem ins_srt {x : Nd} {l : List Nd} (h : Srt l) (hx : ∀ y ∈ l, y.2 ≠ x.2) : Srt (ins x l) := by
  induction l with
  | nil => simp [ins, Srt]
  | cons y r ih =>
    unfold Srt at h
    rw [List.pairwise_cons] at h
    unfold ins; split
    · rename_i hy
      refine List.pairwise_cons.2 ⟨fun z hz => ?_, ih h.2 (fun z hz => hx z (by simp [hz]))⟩
      rcases ins_mem.1 hz with rfl | hz
      · exact hy
      · exact h.1 z hz
    · rename_i hy
      have hxy : ahead x y := (ahead_total (hx y (by simp))).resolve_left hy
      refine List.pairwise_cons.2 ⟨fun z hz => ?_, List.pairwise_cons.2 h⟩
      rcases List.mem_cons.1 hz with rfl | hz
      · exact hxy
      · exact ahead_trans hxy (h.1 z hz)
theorem srt_unique {l l' : List Nd} (h : Srt l) (h' : Srt l') (hp : l.Perm l') : l = l' :=
  List.Perm.eq_of_pairwise (le := ahead) (fun a b _ _ h1 h2 => absurd (ahead_trans h1 h2) ahead_irr) h h' hp

/-- The depths: of what is in the list, and of what is made of them (numbered from nx on). -/
def dep : Nat → List Nd → Nat → Nat → Nat
  | k + 1, a :: b :: r, nx => fun v => if v = a.2 ∨ v = b.2 then dep k (ins (a.1 + b.1, nx) r) (nx + 1) nx + 1 else dep k (ins (a.1 + b.1, nx) r) (nx + 1) v
  | _, _, _ => fun _ => 0
theorem dep_zero (W : List Nd) (nx v : Nat) : dep 0 W nx v = 0 := rfl
theorem dep_step (k : Nat) (a b : Nd) (r : List Nd) (nx v : Nat) : dep (k + 1) (a :: b :: r) nx v = if v = a.2 ∨ v = b.2 then dep k (ins (a.1 + b.1, nx) r) (nx + 1) nx + 1 else dep k (ins (a.1 + b.1, nx) r) (nx + 1) v := rfl
/-- What a list must be: sorted, its numbers below nx, positive weights. -/
structure Ok (W : List Nd) (nx : Nat) : Prop where
  srt : Srt W
  lt : ∀ x ∈ W, x.2 < nx
  pos : ∀ x ∈ W, 0 < x.1
theorem Srt.ne {W : List Nd} (h : Srt W) : W.Pairwise (fun a b => a.1 ≤ b.1) := h.imp (fun {a b} h => by unfold ahead at h; omega)
theorem Ok.step {a b : Nd} {r : List Nd} {nx : Nat} (h : Ok (a :: b :: r) nx) : Ok (ins (a.1 + b.1, nx) r) (nx + 1) := by
  have h1 := List.pairwise_cons.1 h.srt
  have h2 := List.pairwise_cons.1 h1.2
  refine ⟨ins_srt h2.2 (fun y hy => by have := h.lt y (by simp [hy]); simp; omega), fun x hx => ?_, fun x hx => ?_⟩
  · rcases ins_mem.1 hx with rfl | hx
    · simp
    · have := h.lt x (by simp [hx]); omega
  · rcases ins_mem.1 hx with rfl | hx
    · have := h.pos a (by simp); have := h.pos b (by simp); simp; omega
    · exact h.pos x (by simp [hx])
theorem Ok.two {a b : Nd} {r : List Nd} {nx : Nat} (h : Ok (a :: b :: r) nx) : ahead a b ∧ (∀ x ∈ r, ahead a x) ∧ (∀ x ∈ r, ahead b x) ∧ Srt r := by
  have h1 := List.pairwise_cons.1 h.srt
  have h2 := List.pairwise_cons.1 h1.2
  exact ⟨h1.1 b (by simp), fun x hx => h1.1 x (by simp [hx]), h2.1, h2.2⟩
theorem ahead_num {a b : Nd} {nx : Nat} (h : Srt (a :: b :: [])) : a.2 ≠ b.2 ∨ a.1 ≠ b.1 := by
  have := (List.pairwise_cons.1 h).1 b (by simp)
  unfold ahead at this; omega

/-- No number stands twice. -/
def Nums (W : List Nd) : Prop := (W.map (·.2)).Nodup
theorem Nums.step {a b : Nd} {r : List Nd} {nx : Nat} (h : Nums (a :: b :: r)) (hl : ∀ x ∈ a :: b :: r, x.2 < nx) : Nums (ins (a.1 + b.1, nx) r) := by
  unfold Nums at *
  have hp := (ins_perm (a.1 + b.1, nx) r).map (·.2)
  rw [hp.nodup_iff]
  simp only [List.map_cons, List.nodup_cons] at h ⊢
  refine ⟨fun hm => ?_, h.2.2⟩
  obtain ⟨x, hx, hxe⟩ := List.mem_map.1 hm
  have := hl x (by simp [hx])
  omega

/-! ### Kraft's sum: over the list, of 2^(top - depth): just 2^top. -/
theorem dep_le : ∀ (k : Nat) (W : List Nd) (nx v : Nat), dep k W nx v ≤ k := by
  intro k
  induction k with
  | zero => intro W nx v; exact Nat.le_refl _
  | succ k ih =>
    intro W nx v
    match W with
    | [] => simp [dep]
    | [_] => simp [dep]
    | a :: b :: r =>
      rw [dep_step]
      have h1 := ih (ins (a.1 + b.1, nx) r) (nx + 1) nx
      have h2 := ih (ins (a.1 + b.1, nx) r) (nx + 1) v
      split <;> omega
def kraft (top : Nat) (f : Nat → Nat) (W : List Nd) : Nat := (W.map fun x => 2 ^ (top - f x.2)).sum
theorem kraft_perm {top : Nat} {f : Nat → Nat} {W W' : List Nd} (h : W.Perm W') : kraft top f W = kraft top f W' := (h.map _).sum_nat
theorem kraft_congr {top : Nat} {f g : Nat → Nat} {W : List Nd} (h : ∀ x ∈ W, f x.2 = g x.2) : kraft top f W = kraft top g W := by
  unfold kraft; congr 1
  exact List.map_congr_left (fun x hx => by rw [h x hx])
theorem kraft_dep : ∀ (k : Nat) (W : List Nd) (nx top : Nat), W.length = k + 1 → Nums W → (∀ x ∈ W, x.2 < nx) → (∀ x ∈ W, dep k W nx x.2 ≤ top) → kraft top (dep k W nx) W = 2 ^ top := by
  intro k
  induction k with
  | zero =>
    intro W nx top hl _ _ _
    match W, hl with
    | [x], _ => simp [kraft, dep]
  | succ k ih =>
    intro W nx top hl hn hlt hd
    match W, hl with
    | a :: b :: r, hl =>
      have hl' : (ins (a.1 + b.1, nx) r).length = k + 1 := by rw [ins_len]; simp at hl; omega
      have hn' := hn.step hlt
      have hlt' : ∀ x ∈ ins (a.1 + b.1, nx) r, x.2 < nx + 1 := by
        intro x hx
        rcases ins_mem.1 hx with rfl | hx
        · simp
        · have := hlt x (by simp [hx]); omega
      have hnum := hn
      unfold Nums at hnum
      simp only [List.map_cons, List.nodup_cons, List.mem_cons, not_or] at hnum
      have hr : ∀ x ∈ r, dep (k + 1) (a :: b :: r) nx x.2 = dep k (ins (a.1 + b.1, nx) r) (nx + 1) x.2 := by
        intro x hx
        rw [dep_step, if_neg]
        rintro (h | h)
        · exact hnum.1.2 (List.mem_map.2 ⟨x, hx, h⟩)
        · exact hnum.2.1 (List.mem_map.2 ⟨x, hx, h⟩)
      have ha : dep (k + 1) (a :: b :: r) nx a.2 = dep k (ins (a.1 + b.1, nx) r) (nx + 1) nx + 1 := by rw [dep_step, if_pos (.inl rfl)]
      have hb : dep (k + 1) (a :: b :: r) nx b.2 = dep k (ins (a.1 + b.1, nx) r) (nx + 1) nx + 1 := by rw [dep_step, if_pos (.inr rfl)]
      have hda := hd a (by simp)
      rw [ha] at hda
      have hd' : ∀ x ∈ ins (a.1 + b.1, nx) r, dep k (ins (a.1 + b.1, nx) r) (nx + 1) x.2 ≤ top := by
        intro x hx
        rcases ins_mem.1 hx with rfl | hx
        · show dep k _ (nx + 1) nx ≤ top; omega
        · rw [← hr x hx]; exact hd x (by simp [hx])
      have key := ih _ (nx + 1) top hl' hn' hlt' hd'
      rw [kraft_perm (ins_perm _ _)] at key
      have e1 : kraft top (dep (k + 1) (a :: b :: r) nx) r = kraft top (dep k (ins (a.1 + b.1, nx) r) (nx + 1)) r := kraft_congr hr
      have e2 : 2 ^ (top - dep k (ins (a.1 + b.1, nx) r) (nx + 1) nx) = 2 ^ (top - (dep k (ins (a.1 + b.1, nx) r) (nx + 1) nx + 1)) + 2 ^ (top - (dep k (ins (a.1 + b.1, nx) r) (nx + 1) nx + 1)) := by
        rw [show top - dep k (ins (a.1 + b.1, nx) r) (nx + 1) nx = top - (dep k (ins (a.1 + b.1, nx) r) (nx + 1) nx + 1) + 1 by omega, Nat.pow_succ]; omega
      unfold kraft at *
      simp only [List.map_cons, List.sum_cons] at key ⊢
      rw [ha, hb, e1]
      omega

/-! ### What is heavier is no deeper. -/
theorem pairwise_ins {R : Nd → Nd → Prop} {x : Nd} {l : List Nd} (h : (ins x l).Pairwise R) (hs : Srt l) : l.Pairwise R ∧ ∀ y ∈ l, ahead y x → R y x := by
  induction l with
  | nil => exact ⟨List.Pairwise.nil, fun y hy => by cases hy⟩
  | cons y r ih =>
    have hs' := List.pairwise_cons.1 hs
    unfold ins at h
    split at h
    · rename_i hy
      rw [List.pairwise_cons] at h
      have ih' := ih h.2 hs'.2
      refine ⟨List.pairwise_cons.2 ⟨fun z hz => h.1 z (ins_mem.2 (.inr hz)), ih'.1⟩, fun z hz hza => ?_⟩
      rcases List.mem_cons.1 hz with rfl | hz
      · exact h.1 x (ins_mem.2 (.inl rfl))
      · exact ih'.2 z hz hza
    · rename_i hy
      rw [List.pairwise_cons] at h
      refine ⟨h.2, fun z hz hza => ?_⟩
      rcases List.mem_cons.1 hz with rfl | hz
      · exact absurd hza hy
      · exact absurd (ahead_trans (hs'.1 z hz) hza) hy
theorem pairwise_ahead {R : Nd → Nd → Prop} {l : List Nd} (h : l.Pairwise R) (hs : Srt l) {x y : Nd} (hx : x ∈ l) (hy : y ∈ l) (hxy : ahead x y) : R x y := by
  induction l with
  | nil => cases hx
  | cons z r ih =>
    have h' := List.pairwise_cons.1 h
    have hs' := List.pairwise_cons.1 hs
    rcases List.mem_cons.1 hx with ex | gx
    · subst ex
      rcases List.mem_cons.1 hy with ey | gy
      · subst ey; exact absurd hxy ahead_irr
      · exact h'.1 y gy
    · rcases List.mem_cons.1 hy with ey | gy
      · subst ey; exact absurd (ahead_trans hxy (hs'.1 x gx)) ahead_irr
      · exact ih h'.2 hs'.2 gx gy
def Two : List Nd → Nd → Prop
  | a :: b :: _, x => x.1 ≤ a.1 + b.1
  | _, _ => True
theorem two_of_low {W : List Nd} {lo : Int} {x : Nd} (h : ∀ y ∈ W, lo ≤ y.1) (hx : x.1 ≤ lo + lo) : Two W x := by
  match W with
  | [] => trivial
  | [_] => trivial
  | a :: b :: r =>
    have := h a (by simp)
    have := h b (by simp)
    show x.1 ≤ a.1 + b.1
    omega
theorem step_facts {a b : Nd} {r : List Nd} {nx : Nat} (h : Ok (a :: b :: r) nx) : a.1 ≤ b.1 ∧ (∀ y ∈ ins (a.1 + b.1, nx) r, b.1 ≤ y.1) := by
  obtain ⟨h1, h2, h3, h4⟩ := h.two
  have ha := h.pos a (by simp)
  refine ⟨by unfold ahead at h1; omega, fun y hy => ?_⟩
  rcases ins_mem.1 hy with rfl | hy
  · show b.1 ≤ a.1 + b.1; omega
  · have := h3 y hy; unfold ahead at this; omega
theorem dep_rest {k : Nat} {a b : Nd} {r : List Nd} {nx : Nat} (hn : Nums (a :: b :: r)) {x : Nd} (hx : x ∈ r) : dep (k + 1) (a :: b :: r) nx x.2 = dep k (ins (a.1 + b.1, nx) r) (nx + 1) x.2 := by
  unfold Nums at hn
  simp only [List.map_cons, List.nodup_cons, List.mem_cons, not_or] at hn
  rw [dep_step, if_neg]
  rintro (h | h)
  · exact hn.1.2 (List.mem_map.2 ⟨x, hx, h⟩)
  · exact hn.2.1 (List.mem_map.2 ⟨x, hx, h⟩)
theorem mono_dep : ∀ (k : Nat) (W : List Nd) (nx : Nat), W.length = k + 1 → Ok W nx → Nums W →
    W.Pairwise (fun x y => dep k W nx y.2 ≤ dep k W nx x.2) ∧ (∀ x ∈ W, Two W x → ∀ u ∈ W, dep k W nx u.2 ≤ dep k W nx x.2 + 1) := by
  intro k
  induction k with
  | zero =>
    intro W nx hl _ _
    match W, hl with
    | [x], _ => exact ⟨by simp, fun y hy _ u hu => by simp [dep]⟩
  | succ k ih =>
    intro W nx hl hok hn
    match W, hl with
    | a :: b :: r, hl =>
      have hl' : (ins (a.1 + b.1, nx) r).length = k + 1 := by rw [ins_len]; simp at hl; omega
      have hok' := hok.step
      have hn' := hn.step hok.lt
      obtain ⟨i1, i2⟩ := ih _ (nx + 1) hl' hok' hn'
      obtain ⟨hab, hlow⟩ := step_facts hok
      obtain ⟨_, _, _, hsr⟩ := hok.two
      have hp2 : Two (ins (a.1 + b.1, nx) r) (a.1 + b.1, nx) := two_of_low hlow (by show a.1 + b.1 ≤ b.1 + b.1; omega)
      have hpm : (a.1 + b.1, nx) ∈ ins (a.1 + b.1, nx) r := ins_mem.2 (.inl rfl)
      have P1 : ∀ u ∈ r, dep k (ins (a.1 + b.1, nx) r) (nx + 1) u.2 ≤ dep k (ins (a.1 + b.1, nx) r) (nx + 1) nx + 1 := fun u hu => i2 _ hpm hp2 u (ins_mem.2 (.inr hu))
      have ha : dep (k + 1) (a :: b :: r) nx a.2 = dep k (ins (a.1 + b.1, nx) r) (nx + 1) nx + 1 := by rw [dep_step, if_pos (.inl rfl)]
      have hb : dep (k + 1) (a :: b :: r) nx b.2 = dep k (ins (a.1 + b.1, nx) r) (nx + 1) nx + 1 := by rw [dep_step, if_pos (.inr rfl)]
      have hr := fun {x : Nd} (hx : x ∈ r) => dep_rest (k := k) (nx := nx) hn hx
      have j := pairwise_ins i1 hsr
      refine ⟨List.pairwise_cons.2 ⟨fun y hy => ?_, List.pairwise_cons.2 ⟨fun y hy => ?_, ?_⟩⟩, ?_⟩
      · rcases List.mem_cons.1 hy with rfl | hy
        · rw [ha, hb]; exact Nat.le_refl _
        · rw [ha, hr hy]; exact P1 y hy
      · rw [hb, hr hy]; exact P1 y hy
      · refine List.Pairwise.imp_of_mem ?_ j.1
        intro x y hx hy h
        rw [hr hx, hr hy]; exact h
      · intro x hx htw u hu
        have hxr : x ∈ r → dep k (ins (a.1 + b.1, nx) r) (nx + 1) nx ≤ dep k (ins (a.1 + b.1, nx) r) (nx + 1) x.2 := by
          intro hx'
          refine j.2 x hx' ?_
          have h1 : x.1 ≤ a.1 + b.1 := htw
          have h2 := hok.lt x hx
          unfold ahead
          show x.1 < a.1 + b.1 ∨ (x.1 = a.1 + b.1 ∧ x.2 < nx)
          omega
        have hcase : ∀ y ∈ a :: b :: r, dep (k + 1) (a :: b :: r) nx y.2 = dep k (ins (a.1 + b.1, nx) r) (nx + 1) nx + 1 ∨ (y ∈ r ∧ dep (k + 1) (a :: b :: r) nx y.2 = dep k (ins (a.1 + b.1, nx) r) (nx + 1) y.2) := by
          intro y hy
          rcases List.mem_cons.1 hy with rfl | hy
          · exact .inl ha
          · rcases List.mem_cons.1 hy with rfl | hy
            · exact .inl hb
            · exact .inr ⟨hy, hr hy⟩
        rcases hcase x hx with ex | ⟨hx', ex⟩ <;> rcases hcase u hu with eu | ⟨hu', eu⟩ <;> rw [ex, eu]
        · omega
        · have := P1 u hu'; omega
        · have := hxr hx'; omega
        · exact i2 x (ins_mem.2 (.inr hx')) (two_of_low hlow (by have : x.1 ≤ a.1 + b.1 := htw; omega)) u (ins_mem.2 (.inr hu'))
theorem heavy_dep {k : Nat} {W : List Nd} {nx : Nat} (hl : W.length = k + 1) (hok : Ok W nx) (hn : Nums W) {x y : Nd} (hx : x ∈ W) (hy : y ∈ W) (h : x.1 < y.1) : dep k W nx y.2 ≤ dep k W nx x.2 :=
  pairwise_ahead (mono_dep k W nx hl hok hn).1 hok.srt hx hy (.inl h)

/-! ### Where none is heavier than the lightest two together: a level tree. -/
def Bal (W : List Nd) : Prop := ∀ x ∈ W, Two W x
theorem ins_end {x : Nd} {l : List Nd} (h : ∀ y ∈ l, ahead y x) : ins x l = l ++ [x] := by
  induction l with
  | nil => rfl
  | cons y r ih =>
    unfold ins
    rw [if_pos (h y (by simp)), ih (fun z hz => h z (by simp [hz]))]; rfl
theorem Bal.step {a b : Nd} {r : List Nd} {nx : Nat} (hb : Bal (a :: b :: r)) (hok : Ok (a :: b :: r) nx) : ins (a.1 + b.1, nx) r = r ++ [(a.1 + b.1, nx)] ∧ Bal (ins (a.1 + b.1, nx) r) := by
  obtain ⟨hab, hlow⟩ := step_facts hok
  refine ⟨ins_end (fun y hy => ?_), fun x hx => ?_⟩
  · have h1 : y.1 ≤ a.1 + b.1 := hb y (by simp [hy])
    have h2 := hok.lt y (by simp [hy])
    unfold ahead
    show y.1 < a.1 + b.1 ∨ (y.1 = a.1 + b.1 ∧ y.2 < nx)
    omega
  · refine two_of_low hlow ?_
    rcases ins_mem.1 hx with rfl | hx
    · show a.1 + b.1 ≤ _; omega
    · have h1 : x.1 ≤ a.1 + b.1 := hb x (by simp [hx])
      omega
theorem bal_dep : ∀ (m : Nat) (W : List Nd) (nx e : Nat), W.length = m + 1 → Ok W nx → Nums W → Bal W → 2 ^ e ≤ m + 1 → m + 1 < 2 ^ (e + 1) → ∀ (i : Nat) (x : Nd), W[i]? = some x → dep m W nx x.2 = if i < 2 * (m + 1 - 2 ^ e) then e + 1 else e := by
  intro m
  induction m with
  | zero =>
    intro W nx e hl _ _ _ h1 h2 i x hx
    have he : e = 0 := by
      rcases Nat.eq_zero_or_pos e with h | h
      · exact h
      · have := Nat.pow_le_pow_right (n := 2) (by omega) h
        omega
    subst he
    simp [dep]
  | succ m ih =>
    intro W nx e hl hok hn hb h1 h2 i x hx
    match W, hl with
    | a :: b :: r, hl =>
      have hl' : (ins (a.1 + b.1, nx) r).length = m + 1 := by rw [ins_len]; simp at hl; omega
      obtain ⟨hend, hb'⟩ := hb.step hok
      have hrl : r.length = m := by simp at hl; omega
      have hplast : (ins (a.1 + b.1, nx) r)[m]? = some (a.1 + b.1, nx) := by rw [hend, ← hrl]; simp
      have ha : dep (m + 1) (a :: b :: r) nx a.2 = dep m (ins (a.1 + b.1, nx) r) (nx + 1) nx + 1 := by rw [dep_step, if_pos (.inl rfl)]
      have hbd : dep (m + 1) (a :: b :: r) nx b.2 = dep m (ins (a.1 + b.1, nx) r) (nx + 1) nx + 1 := by rw [dep_step, if_pos (.inr rfl)]
      have hp1 : 2 ^ (e + 1) = 2 * 2 ^ e := by rw [Nat.pow_succ]; omega
      have hpos : 1 ≤ 2 ^ e := Nat.pow_pos (by omega)
      have hrest : ∀ j, i = j + 2 → (ins (a.1 + b.1, nx) r)[j]? = some x ∧ dep (m + 1) (a :: b :: r) nx x.2 = dep m (ins (a.1 + b.1, nx) r) (nx + 1) x.2 := by
        rintro j rfl
        have hxr : r[j]? = some x := by simpa using hx
        have hj : j < r.length := (List.getElem?_eq_some_iff.1 hxr).1
        refine ⟨by rw [hend, List.getElem?_append_left hj]; exact hxr, dep_rest hn (List.mem_of_getElem? hxr)⟩
      have hi : i < m + 2 := by have := (List.getElem?_eq_some_iff.1 hx).1; simp at this; omega
      have hfirst : i < 2 → dep (m + 1) (a :: b :: r) nx x.2 = dep m (ins (a.1 + b.1, nx) r) (nx + 1) nx + 1 := by
        intro hi2
        have : i = 0 ∨ i = 1 := by omega
        rcases this with rfl | rfl
        · have : a = x := by simpa using hx
          rw [← this]; exact ha
        · have : b = x := by simpa using hx
          rw [← this]; exact hbd
      by_cases hc : 2 ^ e ≤ m + 1
      · have key := ih _ (nx + 1) e hl' hok.step (hn.step hok.lt) hb' hc (by omega)
        have kp := key m _ hplast
        rw [if_neg (by omega)] at kp
        by_cases hi2 : i < 2
        · rw [hfirst hi2]
          have kp' : dep m (ins (a.1 + b.1, nx) r) (nx + 1) nx = e := kp
          rw [kp', if_pos (by omega)]
        · obtain ⟨g1, g2⟩ := hrest (i - 2) (by omega)
          rw [g2, key _ _ g1]
          by_cases hh : i - 2 < 2 * (m + 1 - 2 ^ e)
          · rw [if_pos hh, if_pos (by omega)]
          · rw [if_neg hh, if_neg (by omega)]
      · have he : e ≠ 0 := by rintro rfl; simp at hc
        obtain ⟨e', rfl⟩ : ∃ e', e = e' + 1 := ⟨e - 1, by omega⟩
        have hp2 : 2 ^ (e' + 1) = 2 * 2 ^ e' := by rw [Nat.pow_succ]; omega
        have key := ih _ (nx + 1) e' hl' hok.step (hn.step hok.lt) hb' (by omega) (by omega)
        have kp := key m _ hplast
        rw [if_neg (by omega)] at kp
        rw [if_neg (by omega)]
        by_cases hi2 : i < 2
        · rw [hfirst hi2]
          have kp' : dep m (ins (a.1 + b.1, nx) r) (nx + 1) nx = e' := kp
          rw [kp']
        · obtain ⟨g1, g2⟩ := hrest (i - 2) (by omega)
          rw [g2, key _ _ g1, if_pos (by omega)]
end Go.Huf
