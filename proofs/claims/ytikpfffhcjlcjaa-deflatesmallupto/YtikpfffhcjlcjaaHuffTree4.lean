/- The reference's way: every symbol of two nodes that join gets one more. -/
import Derived.Test.YtikpfffhcjlcjaaHuffTree3
set_option linter.unusedSimpArgs false
namespace Go.Huf
set_option linter.unusedVariables false

def incr (D : List Int) (vs : List Nat) : List Int := vs.foldl (fun D v => D.set v (D.getD v 0 + 1)) D
theorem incr_len (D : List Int) (vs : List Nat) : (incr D vs).length = D.length := by
  unfold incr
  induction vs generalizing D with
  | nil => rfl
  | cons v vs ih => rw [List.foldl_cons, ih]; simp
theorem incr_take {D : List Int} {vs : List Nat} {k v : Nat} (h : vs[k]? = some v) : incr D (vs.take (k + 1)) = (incr D (vs.take k)).set v ((incr D (vs.take k)).getD v 0 + 1) := by
  unfold incr
  rw [List.take_add_one, h]
  simp [List.foldl_append]
theorem getD_set {D : List Int} {v w : Nat} {x : Int} (hv : v < D.length) : (D.set v x).getD w 0 = if v = w then x else D.getD w 0 := by
  rw [List.getD_eq_getElem?_getD, List.getD_eq_getElem?_getD, List.getElem?_set]
  by_cases e : v = w
  · subst e; rw [if_pos rfl, if_pos hv, if_pos rfl]; rfl
  · rw [if_neg e, if_neg e]
theorem incr_get {D : List Int} {vs : List Nat} (hn : vs.Nodup) (hl : ∀ v ∈ vs, v < D.length) (w : Nat) : (incr D vs).getD w 0 = D.getD w 0 + if w ∈ vs then 1 else 0 := by
  induction vs generalizing D with
  | nil => simp [incr]
  | cons v vs ih =>
    have h1 := List.nodup_cons.1 hn
    have h2 : incr D (v :: vs) = incr (D.set v (D.getD v 0 + 1)) vs := rfl
    rw [h2, ih h1.2 (fun u hu => by rw [List.length_set]; exact hl u (by simp [hu])), getD_set (hl v (by simp))]
    by_cases e : v = w
    · subst e
      rw [if_pos rfl, if_neg h1.1, if_pos (by simp)]; omega
    · rw [if_neg e]
      by_cases e2 : w ∈ vs
      · rw [if_pos e2, if_pos (by simp [e2])]
      · rw [if_neg e2, if_neg (by simp [e2, Ne.symm e])]
/-- The greatest so far. -/
def Mx (D : List Int) (m : Int) : Prop := (∀ x ∈ D, x ≤ m) ∧ 0 ≤ m ∧ (m = 0 ∨ m ∈ D)
theorem Mx.step {D : List Int} {m x : Int} {v : Nat} (h : Mx D m) (hx : D[v]? = some x) (h0 : 0 ≤ x) : Mx (D.set v (x + 1)) (max m (x + 1)) := by
  obtain ⟨hv, rfl⟩ := List.getElem?_eq_some_iff.1 hx
  refine ⟨fun y hy => ?_, by omega, .inr ?_⟩
  · rcases List.mem_or_eq_of_mem_set hy with hy | rfl
    · have := h.1 y hy; omega
    · omega
  · by_cases e : D[v] + 1 ≤ m
    · rw [show max m (D[v] + 1) = m from by omega]
      rcases h.2.2 with h2 | h2
      · omega
      · obtain ⟨i, hi, hie⟩ := List.getElem_of_mem h2
        refine List.mem_iff_getElem.2 ⟨i, by rw [List.length_set]; exact hi, ?_⟩
        rw [List.getElem_set_ne]
        · exact hie
        · intro e2; subst e2; rw [hie] at e; omega
    · rw [show max m (D[v] + 1) = D[v] + 1 from by omega]
      exact List.mem_iff_getElem.2 ⟨v, by rw [List.length_set]; exact hv, by rw [List.getElem_set_self]⟩

/-- A list of nodes with their symbols, ahead of k merges. -/
structure RInv (l : List Int) (M : List (Nd × List Nat)) (W : List Nd) (nx k : Nat) (D : List Int) : Prop where
  perm : (M.map (·.1)).Perm W
  wi : WI W nx
  len : W.length = k + 1
  dlen : D.length = l.length
  pos : ∀ x ∈ D, 0 ≤ x
  syms : ∀ m ∈ M, ∀ v ∈ m.2, v < l.length ∧ D.getD v 0 + ((dep k W nx m.1.2 : Nat) : Int) = ((depOf l v : Nat) : Int)
  rest : ∀ v, v < l.length → (∀ m ∈ M, v ∉ m.2) → D.getD v 0 = ((depOf l v : Nat) : Int)
  nodup : (M.flatMap (·.2)).Nodup

theorem RInv.end_ {l : List Int} {M : List (Nd × List Nat)} {W : List Nd} {nx : Nat} {D : List Int} (h : RInv l M W nx 0 D) (hb : (base l).length ≠ 1) : D = lens l := by
  unfold lens
  rw [if_neg hb]
  apply List.ext_getElem
  · rw [h.dlen]; simp
  · intro v h1 h2
    simp only [List.getElem_map, List.getElem_range]
    have hv : v < l.length := by rw [← h.dlen]; exact h1
    have e : D[v] = D.getD v 0 := by rw [List.getD_eq_getElem?_getD, List.getElem?_eq_getElem h1]; rfl
    rw [e]
    by_cases hm : ∃ m ∈ M, v ∈ m.2
    · obtain ⟨m, hm, hvm⟩ := hm
      have := (h.syms m hm v hvm).2
      rw [dep_zero] at this
      omega
    · exact h.rest v hv (fun m h1 hvm => hm ⟨m, h1, hvm⟩)
theorem head_of {W : List Nd} {x : Nd} {L : List Nd} (hs : Srt W) (hp : (x :: L).Perm W) (hmin : ∀ y ∈ L, ahead x y) : ∃ W', W = x :: W' ∧ L.Perm W' := by
  cases W with
  | nil => have := hp.length_eq; simp at this
  | cons w W' =>
    have hw : w ∈ x :: L := hp.mem_iff.2 (by simp)
    have hx : x ∈ w :: W' := hp.mem_iff.1 (by simp)
    have e : x = w := by
      rcases List.mem_cons.1 hw with e | hw
      · exact e.symm
      · rcases List.mem_cons.1 hx with e | hx
        · exact e
        · exact absurd (ahead_trans (hmin w hw) ((List.pairwise_cons.1 hs).1 x hx)) ahead_irr
    subst e
    exact ⟨W', rfl, (List.perm_cons x).1 hp⟩
theorem cut_perm {α : Type} {M : List α} {i : Nat} {a : α} (ha : M[i]? = some a) : M.Perm (a :: (M.take i ++ M.drop (i + 1))) := by
  obtain ⟨hi, rfl⟩ := List.getElem?_eq_some_iff.1 ha
  have : M = M.take i ++ M[i] :: M.drop (i + 1) := by rw [← List.drop_eq_getElem_cons hi, List.take_append_drop]
  conv => lhs; rw [this]
  exact List.perm_middle
theorem cut_mem {α : Type} {M : List α} {i : Nat} {m : α} (h : m ∈ M.take i ++ M.drop (i + 1)) : ∃ j, j ≠ i ∧ M[j]? = some m := by
  rcases List.mem_append.1 h with h | h
  · obtain ⟨j, hj, e⟩ := List.getElem_of_mem h
    rw [List.length_take] at hj
    exact ⟨j, by omega, by rw [← e, List.getElem_take, List.getElem?_eq_getElem (by omega)]⟩
  · obtain ⟨j, hj, e⟩ := List.getElem_of_mem h
    rw [List.length_drop] at hj
    exact ⟨i + 1 + j, by omega, by rw [← e, List.getElem_drop, List.getElem?_eq_getElem (by omega)]⟩
theorem incr_pos {D : List Int} {vs : List Nat} (h : ∀ x ∈ D, 0 ≤ x) : ∀ x ∈ incr D vs, 0 ≤ x := by
  unfold incr
  induction vs generalizing D with
  | nil => exact h
  | cons v vs ih =>
    rw [List.foldl_cons]
    refine ih fun x hx => ?_
    rcases List.mem_or_eq_of_mem_set hx with hx | rfl
    · exact h x hx
    · have : 0 ≤ D.getD v 0 := by
        rw [List.getD_eq_getElem?_getD]
        cases e : D[v]? with
        | none => simp
        | some y => exact h y (List.mem_of_getElem? e)
      omega
theorem RInv.step {l : List Int} {M : List (Nd × List Nat)} {W : List Nd} {nx k : Nat} {D : List Int} (h : RInv l M W nx (k + 1) D) {i j : Nat} {a b : Nd × List Nat} (ha : M[i]? = some a) (hmin : ∀ q m, M[q]? = some m → q ≠ i → ahead a.1 m.1)
    {M1 : List (Nd × List Nat)} (hM1 : M1 = M.take i ++ M.drop (i + 1)) (hb : M1[j]? = some b) (hmin2 : ∀ q m, M1[q]? = some m → q ≠ j → ahead b.1 m.1) :
    ∃ W2, RInv l (M1.take j ++ M1.drop (j + 1) ++ [((a.1.1 + b.1.1, nx), a.2 ++ b.2)]) W2 (nx + 1) k (incr D (a.2 ++ b.2)) := by
  have p1 : M.Perm (a :: M1) := by rw [hM1]; exact cut_perm ha
  have p2 : M1.Perm (b :: (M1.take j ++ M1.drop (j + 1))) := cut_perm hb
  have hM2mem : ∀ m ∈ M1.take j ++ M1.drop (j + 1), ahead b.1 m.1 := fun m hm => by
    obtain ⟨q, hq, e⟩ := cut_mem hm
    exact hmin2 q m e hq
  have hM1mem : ∀ m ∈ M1, ahead a.1 m.1 := fun m hm => by
    rw [hM1] at hm
    obtain ⟨q, hq, e⟩ := cut_mem hm
    exact hmin q m e hq
  generalize M1.take j ++ M1.drop (j + 1) = M2 at *
  obtain ⟨W1, hW1, q1⟩ := head_of (x := a.1) (L := M1.map (fun m : Nd × List Nat => m.1)) h.wi.ok.srt ((p1.map (fun m : Nd × List Nat => m.1)).symm.trans h.perm) (fun y hy => by
    obtain ⟨m, hm, rfl⟩ := List.mem_map.1 hy
    exact hM1mem m hm)
  have hs1 : Srt W1 := by
    have := h.wi.ok.srt
    rw [hW1] at this
    exact (List.pairwise_cons.1 this).2
  obtain ⟨r, hr, q2⟩ := head_of (x := b.1) (L := M2.map (fun m : Nd × List Nat => m.1)) hs1 ((p2.map (fun m : Nd × List Nat => m.1)).symm.trans q1) (fun y hy => by
    obtain ⟨m, hm, rfl⟩ := List.mem_map.1 hy
    exact hM2mem m hm)
  subst hr
  subst hW1
  have pM : M.Perm (a :: b :: M2) := p1.trans (p2.cons a)
  have hmem : ∀ m, m ∈ M ↔ m = a ∨ m = b ∨ m ∈ M2 := fun m => by rw [pM.mem_iff]; simp
  have hnd : (a.2 ++ (b.2 ++ M2.flatMap (·.2))).Nodup := by
    have := (pM.flatMap_right (·.2)).nodup_iff.1 h.nodup
    simpa using this
  have hab : (a.2 ++ b.2).Nodup := by
    rw [← List.append_assoc] at hnd
    exact (List.nodup_append.1 hnd).1
  have hdis : ∀ v, v ∈ a.2 ++ b.2 → ∀ m ∈ M2, v ∉ m.2 := fun v hv m hm hvm => by
    rw [← List.append_assoc] at hnd
    exact (List.nodup_append.1 hnd).2.2 v hv v (List.mem_flatMap.2 ⟨m, hm, hvm⟩) rfl
  have hlt : ∀ v ∈ a.2 ++ b.2, v < D.length := fun v hv => by
    rw [h.dlen]
    rcases List.mem_append.1 hv with hv | hv
    · exact (h.syms a ((hmem a).2 (.inl rfl)) v hv).1
    · exact (h.syms b ((hmem b).2 (.inr (.inl rfl))) v hv).1
  refine ⟨ins (a.1.1 + b.1.1, nx) r, ?_, h.wi.step, ?_, ?_, incr_pos h.pos, ?_, ?_, ?_⟩
  · rw [List.map_append]
    refine List.perm_append_comm.trans ?_
    exact (q2.cons _).trans (ins_perm _ _).symm
  · have := h.len
    rw [ins_len]; simp only [List.length_cons] at this; omega
  · rw [incr_len]; exact h.dlen
  · intro m hm v hv
    rcases List.mem_append.1 hm with hm | hm
    · have hmM := (hmem m).2 (.inr (.inr hm))
      have h1 := h.syms m hmM v hv
      refine ⟨h1.1, ?_⟩
      rw [incr_get hab hlt, if_neg (fun e => hdis v e m hm hv)]
      rw [← h1.2]
      have hx : m.1 ∈ r := q2.mem_iff.1 (List.mem_map.2 ⟨m, hm, rfl⟩)
      rw [dep_rest h.wi.nums hx]
      omega
    · have hm := List.mem_singleton.1 hm
      subst hm
      have hv : v ∈ a.2 ++ b.2 := hv
      rw [incr_get hab hlt, if_pos hv]
      rcases List.mem_append.1 hv with hv1 | hv1
      · have h1 := h.syms a ((hmem a).2 (.inl rfl)) v hv1
        refine ⟨h1.1, ?_⟩
        rw [← h1.2, dep_step, if_pos (.inl rfl)]
        simp only
        omega
      · have h1 := h.syms b ((hmem b).2 (.inr (.inl rfl))) v hv1
        refine ⟨h1.1, ?_⟩
        rw [← h1.2, dep_step, if_pos (.inr rfl)]
        simp only
        omega
  · intro v hv hno
    have hnab : v ∉ a.2 ++ b.2 := hno _ (List.mem_append.2 (.inr (List.mem_singleton.2 rfl)))
    rw [incr_get hab hlt, if_neg hnab, Int.add_zero]
    refine h.rest v hv fun m hm hvm => ?_
    rcases (hmem m).1 hm with rfl | rfl | hm
    · exact hnab (List.mem_append.2 (.inl hvm))
    · exact hnab (List.mem_append.2 (.inr hvm))
    · exact hno m (List.mem_append.2 (.inl hm)) hvm
  · rw [List.flatMap_append]
    rw [← List.append_assoc] at hnd
    have := List.perm_append_comm.nodup_iff.1 hnd
    simpa using this

/-- At the start. -/
theorem rinv_start {l : List Int} {M : List (Nd × List Nat)} (hM : M = (base l).map fun x => (x, [x.2])) (h2 : 2 ≤ (base l).length) (h : ∀ x ∈ l, x ≤ 2 ^ 40) (hl : l.length ≤ 300) : RInv l M (srt0 l) l.length ((base l).length - 1) (List.replicate l.length 0) := by
  have hlen : (srt0 l).length = (base l).length - 1 + 1 := by rw [(srt0_perm l).length_eq]; omega
  have hmm : M.map (·.1) = base l := by rw [hM, List.map_map]; simp [Function.comp_def]
  refine ⟨by rw [hmm]; exact (srt0_perm l).symm, srt0_wi h hl, hlen, by simp, fun x hx => by rw [(List.mem_replicate.1 hx).2]; omega, ?_, ?_, ?_⟩
  · intro m hm v hv
    rw [hM] at hm
    obtain ⟨x, hx, rfl⟩ := List.mem_map.1 hm
    have hv : v = x.2 := by simpa using hv
    subst hv
    have hx2 := base_mem.1 hx
    refine ⟨hx2.1, ?_⟩
    have e : (List.replicate l.length (0 : Int)).getD x.2 0 = 0 := by
      rw [List.getD_eq_getElem?_getD, List.getElem?_replicate]; split <;> rfl
    rw [e]
    unfold depOf
    rw [hlen, Nat.add_sub_cancel]
    simp
  · intro v hv hno
    have e : (List.replicate l.length (0 : Int)).getD v 0 = 0 := by
      rw [List.getD_eq_getElem?_getD, List.getElem?_replicate]; split <;> rfl
    rw [e, depOf_zero hv]
    · rfl
    · intro hpos
      have hx : (l.getD v 0, v) ∈ base l := base_mem.2 ⟨hv, hpos, rfl⟩
      exact hno ((l.getD v 0, v), [v]) (by rw [hM]; exact List.mem_map.2 ⟨_, hx, rfl⟩) (by simp)
  · rw [hM, List.flatMap_map]
    have : ((base l).flatMap fun x => [x.2]) = (base l).map (·.2) := by
      induction base l with
      | nil => rfl
      | cons x L ih => simp [ih]
    rw [this]
    exact base_nums l
theorem RInv.bound {l : List Int} {M : List (Nd × List Nat)} {W : List Nd} {nx k : Nat} {D : List Int} (h : RInv l M W nx k D) : ∀ x ∈ D, 0 ≤ x ∧ x ≤ l.length := by
  intro x hx
  refine ⟨h.pos x hx, ?_⟩
  obtain ⟨v, hv, rfl⟩ := List.getElem_of_mem hx
  have hv2 : v < l.length := by rw [← h.dlen]; exact hv
  have e : D[v] = D.getD v 0 := by rw [List.getD_eq_getElem?_getD, List.getElem?_eq_getElem hv]; rfl
  have hd : depOf l v ≤ l.length := by
    have h1 := dep_le ((srt0 l).length - 1) (srt0 l) l.length v
    have h2 := (srt0_perm l).length_eq
    have h3 := base_le l
    unfold depOf
    omega
  rw [e]
  by_cases hm : ∃ m ∈ M, v ∈ m.2
  · obtain ⟨m, hm, hvm⟩ := hm
    have := (h.syms m hm v hvm).2
    omega
  · have := h.rest v hv2 (fun m h1 hvm => hm ⟨m, h1, hvm⟩)
    omega
theorem incr_bound {D : List Int} {vs : List Nat} (hn : vs.Nodup) (hl : ∀ v ∈ vs, v < D.length) {c : Int} (h : ∀ x ∈ D, 0 ≤ x ∧ x ≤ c) (k : Nat) : ∀ x ∈ incr D (vs.take k), 0 ≤ x ∧ x ≤ c + 1 := by
  intro x hx
  refine ⟨incr_pos (fun y hy => (h y hy).1) x hx, ?_⟩
  obtain ⟨v, hv, rfl⟩ := List.getElem_of_mem hx
  rw [incr_len] at hv
  have e : (incr D (vs.take k))[v]'(by rw [incr_len]; exact hv) = (incr D (vs.take k)).getD v 0 := by rw [List.getD_eq_getElem?_getD, List.getElem?_eq_getElem (by rw [incr_len]; exact hv)]; rfl
  rw [e, incr_get (hn.sublist (List.take_sublist _ _)) (fun u hu => hl u (List.mem_of_mem_take hu))]
  have h2 := h D[v] (List.getElem_mem hv)
  have e2 : D.getD v 0 = D[v] := by rw [List.getD_eq_getElem?_getD, List.getElem?_eq_getElem hv]; rfl
  rw [e2]
  split <;> omega
theorem nodup_lt : ∀ (n : Nat) (vs : List Nat), vs.Nodup → (∀ v ∈ vs, v < n) → vs.length ≤ n := by
  intro n
  induction n with
  | zero =>
    intro vs _ h
    cases vs with
    | nil => simp
    | cons v vs => have := h v (by simp); omega
  | succ n ih =>
    intro vs hn h
    by_cases hm : n ∈ vs
    · have h1 := ih (vs.erase n) (hn.erase n) (fun v hv => by
        have h2 := (List.Nodup.mem_erase_iff hn).1 hv
        have := h v h2.2
        omega)
      rw [List.length_erase_of_mem hm] at h1
      omega
    · have h1 := ih vs hn (fun v hv => by
        have := h v hv
        have : v ≠ n := fun e => hm (e ▸ hv)
        omega)
      omega
theorem RInv.pair {l : List Int} {M M2 : List (Nd × List Nat)} {W : List Nd} {nx k : Nat} {D : List Int} (h : RInv l M W nx k D) {a b : Nd × List Nat} (pM : M.Perm (a :: b :: M2)) : (a.2 ++ b.2).Nodup ∧ (∀ v ∈ a.2 ++ b.2, v < l.length) ∧ (a.2 ++ b.2).length ≤ l.length := by
  have hnd : (a.2 ++ (b.2 ++ M2.flatMap (·.2))).Nodup := by
    have := (pM.flatMap_right (·.2)).nodup_iff.1 h.nodup
    simpa using this
  have hab : (a.2 ++ b.2).Nodup := by
    rw [← List.append_assoc] at hnd
    exact (List.nodup_append.1 hnd).1
  have hlt : ∀ v ∈ a.2 ++ b.2, v < l.length := fun v hv => by
    rcases List.mem_append.1 hv with hv | hv
    · exact (h.syms a (pM.mem_iff.2 (by simp)) v hv).1
    · exact (h.syms b (pM.mem_iff.2 (by simp)) v hv).1
  refine ⟨hab, hlt, ?_⟩
  exact nodup_lt l.length _ hab hlt
theorem mx_le {D : List Int} {m q : Int} (h : Mx D m) (hq : 0 ≤ q) : m ≤ q ↔ ∀ x ∈ D, x ≤ q := by
  constructor
  · intro h1 x hx; have := h.1 x hx; omega
  · intro h1
    rcases h.2.2 with h2 | h2
    · omega
    · exact h1 m h2
end Go.Huf
