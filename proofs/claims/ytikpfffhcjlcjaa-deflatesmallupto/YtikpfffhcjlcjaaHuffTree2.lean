/- The lengths of counts, and what they keep. -/
import Derived.Test.YtikpfffhcjlcjaaHuffTree
set_option linter.unusedSimpArgs false
namespace Go.Huf
set_option linter.unusedVariables false
def base (l : List Int) : List Nd := (List.range l.length).filterMap fun i => if 0 < l.getD i 0 then some (l.getD i 0, i) else none
def srt0 (l : List Int) : List Nd := (base l).foldr ins []
def depOf (l : List Int) (i : Nat) : Nat := dep ((srt0 l).length - 1) (srt0 l) l.length i
def lens (l : List Int) : List Int := if (base l).length = 1 then (List.range l.length).map (fun i => if 0 < l.getD i 0 then 1 else 0) else (List.range l.length).map fun i => ((depOf l i : Nat) : Int)
def half (l : List Int) : List Int := l.map fun x => (x + 1) / 2
def lenF : Nat → List Int → Int → List Int
  | 0, l, _ => lens l
  | k + 1, l, m => if ∀ x ∈ lens l, x ≤ m then lens l else lenF k (half l) m
theorem lens_len (l : List Int) : (lens l).length = l.length := by unfold lens; split <;> simp
theorem half_len (l : List Int) : (half l).length = l.length := by unfold half; simp

theorem base_mem {l : List Int} {x : Nd} : x ∈ base l ↔ x.2 < l.length ∧ 0 < l.getD x.2 0 ∧ x.1 = l.getD x.2 0 := by
  unfold base
  simp only [List.mem_filterMap, List.mem_range]
  constructor
  · rintro ⟨i, hi, h⟩
    split at h
    · rename_i h0
      cases h; exact ⟨hi, h0, rfl⟩
    · cases h
  · rintro ⟨h1, h2, h3⟩
    refine ⟨x.2, h1, ?_⟩
    rw [if_pos h2, ← h3]
theorem foldr_perm (L : List Nd) : (L.foldr ins []).Perm L := by
  induction L with
  | nil => exact .refl _
  | cons x r ih => exact (ins_perm x _).trans (List.Perm.cons x ih)
theorem srt0_perm (l : List Int) : (srt0 l).Perm (base l) := foldr_perm _
theorem base_nums (l : List Int) : Nums (base l) := by
  unfold Nums base
  rw [List.map_filterMap]
  have : (fun i => Option.map (fun x : Nd => x.2) (if 0 < l.getD i 0 then some (l.getD i 0, i) else none)) = fun i => if 0 < l.getD i 0 then some i else none := by
    funext i; split <;> rfl
  rw [this]
  have hn := List.nodup_range (n := l.length)
  generalize List.range l.length = R at *
  induction R with
  | nil => simp
  | cons i R ih =>
    rw [List.nodup_cons] at hn
    rw [List.filterMap_cons]
    split
    · exact ih hn.2
    · rename_i b hb
      split at hb
      · cases hb
        refine List.nodup_cons.2 ⟨fun hm => ?_, ih hn.2⟩
        obtain ⟨j, hj, hjb⟩ := List.mem_filterMap.1 hm
        split at hjb
        · cases hjb; exact hn.1 hj
        · cases hjb
      · cases hb
theorem srt0_nums (l : List Int) : Nums (srt0 l) := by
  unfold Nums
  rw [((srt0_perm l).map (·.2)).nodup_iff]; exact base_nums l
theorem foldr_srt {L : List Nd} (h : Nums L) : Srt (L.foldr ins []) := by
  induction L with
  | nil => exact List.Pairwise.nil
  | cons x r ih =>
    unfold Nums at h
    rw [List.map_cons, List.nodup_cons] at h
    refine ins_srt (ih h.2) (fun y hy => ?_)
    intro e
    have hm : y ∈ r := (foldr_perm r).mem_iff.1 hy
    exact h.1 (List.mem_map.2 ⟨y, hm, e⟩)
theorem srt0_ok (l : List Int) : Ok (srt0 l) l.length := by
  refine ⟨foldr_srt (base_nums l), fun x hx => ?_, fun x hx => ?_⟩
  · exact (base_mem.1 ((srt0_perm l).mem_iff.1 hx)).1
  · have := base_mem.1 ((srt0_perm l).mem_iff.1 hx)
    rw [this.2.2]; exact this.2.1
theorem srt0_mem {l : List Int} {i : Nat} (hi : i < l.length) (h : 0 < l.getD i 0) : (l.getD i 0, i) ∈ srt0 l := (srt0_perm l).mem_iff.2 (base_mem.2 ⟨hi, h, rfl⟩)
theorem dep_out : ∀ (k : Nat) (W : List Nd) (nx v : Nat), (∀ x ∈ W, x.2 ≠ v) → v < nx → dep k W nx v = 0 := by
  intro k
  induction k with
  | zero => intro W nx v _ _; rfl
  | succ k ih =>
    intro W nx v hW hv
    match W with
    | [] => rfl
    | [_] => rfl
    | a :: b :: r =>
      rw [dep_step, if_neg]
      · refine ih _ _ _ (fun x hx => ?_) (by omega)
        rcases ins_mem.1 hx with rfl | hx
        · show nx ≠ v; omega
        · exact hW x (by simp [hx])
      · rintro (h | h)
        · exact hW a (by simp) h.symm
        · exact hW b (by simp) h.symm
theorem dep_pos : ∀ (k : Nat) (W : List Nd) (nx : Nat), W.length = k + 2 → Nums W → (∀ x ∈ W, x.2 < nx) → ∀ x ∈ W, 1 ≤ dep (k + 1) W nx x.2 := by
  intro k
  induction k with
  | zero =>
    intro W nx hl hn hlt x hx
    match W, hl with
    | [a, b], _ =>
      rw [dep_step, if_pos]
      · omega
      · simp at hx; rcases hx with rfl | rfl <;> simp
  | succ k ih =>
    intro W nx hl hn hlt x hx
    match W, hl with
    | a :: b :: r, hl =>
      by_cases hab : x.2 = a.2 ∨ x.2 = b.2
      · rw [dep_step, if_pos hab]; omega
      · rw [dep_step, if_neg hab]
        have hxr : x ∈ r := by
          rcases List.mem_cons.1 hx with rfl | hx
          · exact absurd (.inl rfl) hab
          · rcases List.mem_cons.1 hx with rfl | hx
            · exact absurd (.inr rfl) hab
            · exact hx
        refine ih _ (nx + 1) (by rw [ins_len]; simp at hl ⊢; omega) (hn.step hlt) (fun y hy => ?_) x (ins_mem.2 (.inr hxr))
        rcases ins_mem.1 hy with rfl | hy
        · simp
        · have := hlt y (by simp [hy]); omega
theorem depOf_zero {l : List Int} {i : Nat} (hi : i < l.length) (h : ¬ 0 < l.getD i 0) : depOf l i = 0 := by
  refine dep_out _ _ _ _ (fun x hx e => ?_) hi
  have := base_mem.1 ((srt0_perm l).mem_iff.1 hx)
  rw [e] at this; exact h this.2.1
theorem depOf_pos {l : List Int} {i : Nat} (hi : i < l.length) (h : 0 < l.getD i 0) (h2 : 2 ≤ (base l).length) : 1 ≤ depOf l i := by
  have hl := (srt0_perm l).length_eq
  obtain ⟨k, hk⟩ : ∃ k, (srt0 l).length = k + 2 := ⟨(srt0 l).length - 2, by omega⟩
  have := dep_pos k (srt0 l) l.length hk (srt0_nums l) (srt0_ok l).lt _ (srt0_mem hi h)
  unfold depOf
  rw [hk]; exact this
theorem base_pos {l : List Int} {i : Nat} (hi : i < l.length) (h : 0 < l.getD i 0) : 1 ≤ (base l).length := List.length_pos_of_mem (base_mem.2 ⟨hi, h, rfl⟩ : (l.getD i 0, i) ∈ base l)
theorem lens_get {l : List Int} {i : Nat} (hi : i < l.length) : (lens l)[i]? = some (if (base l).length = 1 then (if 0 < l.getD i 0 then 1 else 0) else ((depOf l i : Nat) : Int)) := by
  unfold lens; split <;> simp [hi]
theorem lens_getD {l : List Int} {i : Nat} (hi : i < l.length) : (lens l).getD i 0 = if (base l).length = 1 then (if 0 < l.getD i 0 then 1 else 0) else ((depOf l i : Nat) : Int) := by
  rw [List.getD_eq_getElem?_getD, lens_get hi]; rfl
theorem lens_iff {l : List Int} {i : Nat} (hi : i < l.length) : 0 < (lens l).getD i 0 ↔ 0 < l.getD i 0 := by
  rw [lens_getD hi]
  split
  · split <;> simp_all
  · rename_i h1
    by_cases h : 0 < l.getD i 0
    · have h2 := base_pos hi h
      have := depOf_pos hi h (by omega)
      simp only [h, iff_true]; omega
    · rw [depOf_zero hi h]; exact ⟨fun hh => by simp at hh, fun hh => absurd hh h⟩
theorem lens_nonneg {l : List Int} : ∀ x ∈ lens l, 0 ≤ x := by
  intro x hx
  unfold lens at hx
  split at hx
  · obtain ⟨i, _, rfl⟩ := List.mem_map.1 hx; split <;> omega
  · obtain ⟨i, _, rfl⟩ := List.mem_map.1 hx; omega
theorem lens_le_many {l : List Int} : ∀ x ∈ lens l, x ≤ (base l).length := by
  intro x hx
  unfold lens at hx
  have hl := (srt0_perm l).length_eq
  split at hx
  · obtain ⟨i, _, rfl⟩ := List.mem_map.1 hx; split <;> omega
  · obtain ⟨i, _, rfl⟩ := List.mem_map.1 hx
    have := dep_le ((srt0 l).length - 1) (srt0 l) l.length i
    show ((depOf l i : Nat) : Int) ≤ _
    unfold depOf; omega
theorem lens_lt_many {l : List Int} (h : 2 ≤ (base l).length) : ∀ x ∈ lens l, x < (base l).length := by
  intro x hx
  unfold lens at hx
  have hl := (srt0_perm l).length_eq
  rw [if_neg (by omega)] at hx
  obtain ⟨i, _, rfl⟩ := List.mem_map.1 hx
  have := dep_le ((srt0 l).length - 1) (srt0 l) l.length i
  show ((depOf l i : Nat) : Int) < _
  unfold depOf; omega
theorem base_le (l : List Int) : (base l).length ≤ l.length := by
  unfold base
  have := List.length_filterMap_le (fun i => if 0 < l.getD i 0 then some (l.getD i 0, i) else none) (List.range l.length)
  simpa using this

/-! ### level counts -/
theorem exists_pow {m : Nat} (h : 1 ≤ m) : ∃ e, 2 ^ e ≤ m ∧ m < 2 ^ (e + 1) := ⟨Nat.log2 m, Nat.log2_self_le (by omega), Nat.lt_log2_self⟩
theorem bal_all {W : List Nd} {nx e m : Nat} (hl : W.length = m + 1) (hok : Ok W nx) (hn : Nums W) (hb : Bal W) (h1 : 2 ^ e ≤ m + 1) (h2 : m + 1 < 2 ^ (e + 1)) {x : Nd} (hx : x ∈ W) :
    (dep m W nx x.2 = e ∨ dep m W nx x.2 = e + 1) ∧ (m + 1 = 2 ^ e → dep m W nx x.2 = e) := by
  obtain ⟨i, hi, rfl⟩ := List.mem_iff_getElem.1 hx
  have := bal_dep m W nx e hl hok hn hb h1 h2 i _ (List.getElem?_eq_getElem hi)
  rw [this]
  refine ⟨by split <;> simp, fun h => ?_⟩
  rw [if_neg (by omega)]
theorem bal_low {W : List Nd} {lo : Int} (h : ∀ x ∈ W, lo ≤ x.1 ∧ x.1 ≤ lo + lo) : Bal W := fun x hx => two_of_low (fun y hy => (h y hy).1) (h x hx).2
theorem lens_level {l : List Int} {c : Int} (h1 : ∀ i, i < l.length → 0 < l.getD i 0 → c ≤ l.getD i 0 ∧ l.getD i 0 ≤ c + c) {e : Nat} (h2 : 2 ≤ (base l).length) (he : 2 ^ e ≤ (base l).length) (he2 : (base l).length < 2 ^ (e + 1)) {i : Nat} (hi : i < l.length) (h0 : 0 < l.getD i 0) :
    (depOf l i = e ∨ depOf l i = e + 1) ∧ ((base l).length = 2 ^ e → depOf l i = e) := by
  have hl := (srt0_perm l).length_eq
  obtain ⟨m, hm⟩ : ∃ m, (srt0 l).length = m + 1 := ⟨(srt0 l).length - 1, by omega⟩
  have hb : Bal (srt0 l) := bal_low (lo := c) (fun x hx => by
    have := base_mem.1 ((srt0_perm l).mem_iff.1 hx)
    rw [this.2.2]; exact h1 x.2 this.1 this.2.1)
  have := bal_all hm (srt0_ok l) (srt0_nums l) hb (e := e) (by omega) (by omega) (srt0_mem hi h0)
  unfold depOf
  rw [hm, Nat.add_sub_cancel]
  exact ⟨this.1, fun h => this.2 (by omega)⟩
theorem lens_ones {l : List Int} (h1 : ∀ x ∈ l, x ≤ 1) {e : Nat} (hl : l.length ≤ 2 ^ e) (he : 1 ≤ e) : ∀ x ∈ lens l, x ≤ e := by
  intro x hx
  by_cases hb : 2 ≤ (base l).length
  · obtain ⟨i, hi, rfl⟩ := List.mem_iff_getElem.1 hx
    have hil : i < l.length := by rw [← lens_len l]; exact hi
    have hg := lens_get hil
    rw [List.getElem?_eq_getElem hi, if_neg (by omega)] at hg
    have hg := Option.some.inj hg
    rw [hg]
    by_cases h0 : 0 < l.getD i 0
    · obtain ⟨e', h3, h4⟩ := exists_pow (m := (base l).length) (by omega)
      have hle := base_le l
      have hlev := lens_level (c := 1) (fun j hj hj0 => ⟨by omega, by
        have : l.getD j 0 ∈ l := by rw [List.getD_eq_getElem?_getD, List.getElem?_eq_getElem hj]; exact List.getElem_mem hj
        have := h1 _ this; omega⟩) hb h3 h4 hil h0
      have hee : e' ≤ e := by
        apply Classical.byContradiction
        intro hc
        have := Nat.pow_le_pow_right (n := 2) (by omega) (show e + 1 ≤ e' by omega)
        have hp : 2 ^ (e + 1) = 2 * 2 ^ e := by rw [Nat.pow_succ]; omega
        have : 1 ≤ 2 ^ e := Nat.pow_pos (by omega)
        omega
      by_cases heq : e' = e
      · subst heq
        have := hlev.2 (by omega)
        omega
      · have := hlev.1; omega
    · rw [depOf_zero hil h0]; omega
  · have := lens_le_many (l := l) x hx
    omega
theorem half_mem {l : List Int} {x : Int} (h : x ∈ half l) : ∃ y ∈ l, x = (y + 1) / 2 := by
  unfold half at h
  obtain ⟨y, hy, rfl⟩ := List.mem_map.1 h
  exact ⟨y, hy, rfl⟩
theorem half_getD (l : List Int) (i : Nat) : (half l).getD i 0 = (l.getD i 0 + 1) / 2 := by
  unfold half
  rw [List.getD_eq_getElem?_getD, List.getD_eq_getElem?_getD, List.getElem?_map]
  cases l[i]? <;> rfl
/-- How it ends: none is longer than it may be. -/
theorem lenF_le : ∀ (k : Nat) (l : List Int) (m : Int) (e : Nat), 1 ≤ e → l.length ≤ 2 ^ e → (e : Int) ≤ m → (∀ x ∈ l, 0 ≤ x ∧ x ≤ 2 ^ k) → ∀ x ∈ lenF k l m, x ≤ m := by
  intro k
  induction k with
  | zero =>
    intro l m e he hl hm h x hx
    have := lens_ones (l := l) (fun y hy => by have := h y hy; simpa using this.2) hl he x hx
    omega
  | succ k ih =>
    intro l m e he hl hm h x hx
    unfold lenF at hx
    split at hx
    · rename_i hall; exact hall x hx
    · refine ih (half l) m e he (by rw [half_len]; exact hl) hm (fun y hy => ?_) x hx
      obtain ⟨z, hz, rfl⟩ := half_mem hy
      have := h z hz
      have hp : (2 : Int) ^ (k + 1) = 2 * 2 ^ k := by rw [Int.pow_succ]; omega
      omega
/-- What it is: the lengths of counts that are there just where the first ones are. -/
theorem lenF_is : ∀ (k : Nat) (l : List Int) (m : Int), (∀ x ∈ l, 0 ≤ x) → ∃ l', lenF k l m = lens l' ∧ l'.length = l.length ∧ (∀ x ∈ l', 0 ≤ x) ∧ ∀ i, 0 < l'.getD i 0 ↔ 0 < l.getD i 0 := by
  intro k
  induction k with
  | zero => intro l m h; exact ⟨l, rfl, rfl, h, fun i => Iff.rfl⟩
  | succ k ih =>
    intro l m h
    unfold lenF
    split
    · exact ⟨l, rfl, rfl, h, fun i => Iff.rfl⟩
    · obtain ⟨l', h1, h2, h3, h4⟩ := ih (half l) m (fun x hx => by obtain ⟨y, hy, rfl⟩ := half_mem hx; have := h y hy; omega)
      refine ⟨l', h1, by rw [h2, half_len], h3, fun i => ?_⟩
      rw [h4, half_getD]; omega
theorem lenF_len (k : Nat) (l : List Int) (m : Int) : (lenF k l m).length = l.length := by
  induction k generalizing l with
  | zero => exact lens_len l
  | succ k ih => unfold lenF; split; exact lens_len l; rw [ih, half_len]
theorem lenF_first {k : Nat} {l : List Int} {m : Int} (h : ∀ x ∈ lens l, x ≤ m) : lenF k l m = lens l := by
  cases k with
  | zero => rfl
  | succ k => unfold lenF; rw [if_pos h]

/-! ### Kraft's sum of the lengths -/
theorem wsum_range_map (l : List Int) : wsum l = ((List.range l.length).map fun i => w (l.getD i 0)).sum := by
  unfold wsum
  congr 1
  apply List.ext_getElem
  · simp
  · intro i h1 h2
    have hi : i < l.length := by simpa using h1
    simp [List.getD_eq_getElem?_getD, hi]
theorem kraft_base (l : List Int) (f : Nat → Nat) (h : ∀ i, i < l.length → 0 < l.getD i 0 → 1 ≤ f i ∧ f i ≤ 15) (h0 : ∀ i, i < l.length → ¬ 0 < l.getD i 0 → f i = 0) : ((List.range l.length).map fun i => w ((f i : Nat) : Int)).sum = ((kraft 15 f (base l) : Nat) : Int) := by
  unfold kraft base
  have hm : ∀ i ∈ List.range l.length, i < l.length := fun i hi => List.mem_range.1 hi
  generalize List.range l.length = R at *
  induction R with
  | nil => rfl
  | cons i R ih =>
    have ih' := ih (fun j hj => hm j (by simp [hj]))
    rw [List.map_cons, List.sum_cons, List.filterMap_cons, ih']
    have hi := hm i (by simp)
    by_cases hp : 0 < l.getD i 0
    · rw [if_pos hp]
      have hf := h i hi hp
      simp only [List.map_cons, List.sum_cons]
      have hw : w ((f i : Nat) : Int) = ((2 ^ (15 - f i) : Nat) : Int) := by
        unfold w
        rw [if_pos (by omega), show (15 - ((f i : Nat) : Int)).toNat = 15 - f i by omega]
        simp
      rw [hw]; omega
    · rw [if_neg hp, h0 i hi hp]
      have : w ((0 : Nat) : Int) = 0 := rfl
      rw [this]
      dsimp only
      omega
theorem wsum_lens {l : List Int} (h2 : 2 ≤ (base l).length) (hd : ∀ x ∈ lens l, x ≤ 15) : wsum (lens l) = 32768 := by
  rw [wsum_range_map, lens_len]
  have e1 : (List.range l.length).map (fun i => w ((lens l).getD i 0)) = (List.range l.length).map fun i => w ((depOf l i : Nat) : Int) := by
    refine List.map_congr_left (fun i hi => ?_)
    rw [lens_getD (List.mem_range.1 hi), if_neg (by omega)]
  have hle : ∀ i, i < l.length → depOf l i ≤ 15 := by
    intro i hi
    have := hd _ (List.mem_of_getElem? (lens_get hi))
    rw [if_neg (by omega)] at this; omega
  rw [e1, kraft_base l (depOf l) (fun i hi h0 => ⟨depOf_pos hi h0 h2, hle i hi⟩) (fun i hi h0 => depOf_zero hi h0)]
  have hl := (srt0_perm l).length_eq
  obtain ⟨k, hk⟩ : ∃ k, (srt0 l).length = k + 1 := ⟨(srt0 l).length - 1, by omega⟩
  rw [← kraft_perm (srt0_perm l)]
  have hfun : depOf l = dep k (srt0 l) l.length := by funext i; unfold depOf; rw [hk, Nat.add_sub_cancel]
  rw [hfun, kraft_dep k (srt0 l) l.length 15 hk (srt0_nums l) (srt0_ok l).lt (fun x hx => ?_)]
  · rfl
  · rw [← hfun]
    exact hle _ ((srt0_ok l).lt x hx)
end Go.Huf
