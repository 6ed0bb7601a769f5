/- What Lengths make is a code; canonical codes are free of prefixes and fit. -/
import Derived.Test.YtikpfffhcjlcjaaHuffTree4
set_option linter.unusedSimpArgs false
namespace Go.Huf
set_option linter.unusedVariables false

theorem lenF_iff {l : List Int} (h : ∀ x ∈ l, 0 ≤ x) (k : Nat) (m : Int) {i : Nat} (hi : i < l.length) : 0 < (lenF k l m).getD i 0 ↔ 0 < l.getD i 0 := by
  obtain ⟨l', e, hl, hp, hg⟩ := lenF_is k l m h
  rw [e, lens_iff (by omega)]
  exact hg i
theorem lenF_nonneg {l : List Int} (h : ∀ x ∈ l, 0 ≤ x) (k : Nat) (m : Int) : ∀ x ∈ lenF k l m, 0 ≤ x := by
  obtain ⟨l', e, hl, hp, hg⟩ := lenF_is k l m h
  rw [e]
  exact lens_nonneg
theorem sum_zeros (n : Nat) : (List.replicate n (0 : Int)).sum = 0 := by induction n with | zero => rfl | succ n ih => rw [List.replicate_succ, List.sum_cons, ih]; rfl
theorem wsum_zeros (n : Nat) : wsum (List.replicate n (0 : Int)) = 0 := by
  induction n with
  | zero => rfl
  | succ n ih =>
    have : wsum (List.replicate (n + 1) (0 : Int)) = w 0 + wsum (List.replicate n 0) := rfl
    rw [this, ih]; rfl
theorem sum_one : ∀ (n i : Nat), i < n → ((List.replicate n (0 : Int)).set i 1).sum = 1
  | n + 1, 0, _ => by rw [List.replicate_succ, List.set_cons_zero, List.sum_cons, sum_zeros]; rfl
  | n + 1, i + 1, h => by rw [List.replicate_succ, List.set_cons_succ, List.sum_cons, sum_one n i (by omega)]; rfl
theorem wsum_one : ∀ (n i : Nat), i < n → wsum ((List.replicate n (0 : Int)).set i 1) = 16384
  | n + 1, 0, _ => by
    have : wsum ((List.replicate (n + 1) (0 : Int)).set 0 1) = w 1 + wsum (List.replicate n 0) := rfl
    rw [this, wsum_zeros]; rfl
  | n + 1, i + 1, h => by
    have : wsum ((List.replicate (n + 1) (0 : Int)).set (i + 1) 1) = w 0 + wsum ((List.replicate n 0).set i 1) := rfl
    rw [this, wsum_one n i (by omega)]; rfl
theorem errN_lenF {l : List Int} {m : Int} (h : ∀ x ∈ l, 0 ≤ x) (hl : l.length ≤ 300) (hm : m ≤ 15) (hle : ∀ x ∈ lenF 40 l m, x ≤ m) : errN (lenF 40 l m) = 0 ∧ err (lenF 40 l m) = 0 := by
  have hlen := lenF_len 40 l m
  have hn := lenF_nonneg h 40 m
  obtain ⟨l', e, hl', hp, hg⟩ := lenF_is 40 l m h
  rw [e] at hlen hn hle ⊢
  have hgood : (lens l').all good = true := by
    rw [List.all_eq_true]
    intro x hx
    have := hn x hx
    have := hle x hx
    exact good_iff.2 ⟨by omega, by omega⟩
  have key : wsum (lens l') ≤ 32768 ∧ (wsum (lens l') = 0 ∨ wsum (lens l') = 32768 ∨ (lens l').sum = 1) := by
    rcases Nat.lt_or_ge (base l').length 2 with hb | hb
    · rcases Nat.lt_or_ge (base l').length 1 with hb1 | hb1
      · rw [lens_none (List.length_eq_zero_iff.1 (by omega)), wsum_zeros]
        exact ⟨by decide, .inl rfl⟩
      · obtain ⟨x, hx⟩ := List.length_eq_one_iff.1 (show (base l').length = 1 by omega)
        have hx2 := base_mem.1 (show x ∈ base l' by rw [hx]; simp)
        rw [lens_one hx, wsum_one _ _ hx2.1, sum_one _ _ hx2.1]
        exact ⟨by decide, .inr (.inr rfl)⟩
    · rw [wsum_lens hb (fun x hx => by have := hle x hx; omega)]
      exact ⟨by decide, .inr (.inl rfl)⟩
  have herr : err (lens l') = 0 := by
    unfold err
    rw [if_neg (by omega), if_neg (by rw [hgood]; decide), if_neg (by omega)]
  refine ⟨?_, herr⟩
  unfold errN
  rw [if_neg (by rw [herr]; decide), if_neg (by rcases key.2 with e | e | e <;> simp [e])]

/-! ### codes -/
theorem cnt_lt {l : List Int} {i : Nat} (hi : i < l.length) {s : Nat} (hs : l.getD i 0 = (s : Int)) : cnt (l.take i) s + 1 ≤ cnt l s := by
  have h1 : l[i]? = some (s : Int) := by
    rw [List.getD_eq_getElem?_getD, List.getElem?_eq_getElem hi] at hs
    rw [List.getElem?_eq_getElem hi, ← hs]; rfl
  have h2 := cnt_take h1 s
  rw [if_pos rfl] at h2
  have h3 : cnt (l.take (i + 1)) s ≤ cnt l s := by
    unfold cnt
    have := (List.take_sublist (i + 1) l).countP_le (p := fun k : Int => decide (k = (s : Int)))
    omega
  omega
theorem cnt_lt2 {l : List Int} {i k : Nat} (hik : i < k) (hk : k ≤ l.length) {s : Nat} (hs : l.getD i 0 = (s : Int)) : cnt (l.take i) s < cnt (l.take k) s := by
  have hi : i < (l.take k).length := by rw [List.length_take]; omega
  have h1 := cnt_lt (l := l.take k) hi (s := s) (by rw [← hs, List.getD_eq_getElem?_getD, List.getD_eq_getElem?_getD, List.getElem?_take, if_pos hik])
  rw [List.take_take, Nat.min_eq_left (by omega)] at h1
  omega
theorem code_eq {l : List Int} {i : Nat} {s : Nat} (hs : l.getD i 0 = (s : Int)) (h0 : 0 < s) : codeAt l i = nx l s + cnt (l.take i) s := by
  unfold codeAt
  simp only [hs]
  rw [if_pos (by omega), Int.toNat_natCast]
theorem nx_step (l : List Int) {s : Nat} (h : 1 ≤ s) : nx l (s + 1) = (nx l s + cnt l s) * 2 := by
  obtain ⟨r, rfl⟩ : ∃ r, s = r + 1 := ⟨s - 1, by omega⟩
  rfl
theorem nx_far (l : List Int) {s : Nat} (h : 1 ≤ s) : ∀ d : Nat, (nx l s + cnt l s) * 2 ^ (d + 1) ≤ nx l (s + 1 + d)
  | 0 => by rw [Nat.add_zero, nx_step l h]; omega
  | d + 1 => by
    have h1 := nx_far l h d
    rw [show s + 1 + (d + 1) = (s + 1 + d) + 1 from by omega, nx_step l (by omega)]
    have h2 := (cnt_range l (s + 1 + d)).1
    have h3 : (nx l s + cnt l s) * 2 ^ (d + 1 + 1) = (nx l s + cnt l s) * 2 ^ (d + 1) * 2 := by rw [Int.pow_succ 2 (d + 1), Int.mul_assoc]
    omega
theorem prefix_free {l : List Int} {i k : Nat} (hi : i < l.length) (hk : k < l.length) (hne : i ≠ k) {s d : Nat} (hs : l.getD i 0 = (s : Int)) (hd : l.getD k 0 = ((s + d : Nat) : Int)) (h0 : 0 < s) : codeAt l k / 2 ^ d ≠ codeAt l i := by
  rw [code_eq hs h0, code_eq hd (by omega)]
  cases d with
  | zero =>
    simp only [Nat.add_zero] at hd ⊢
    rw [Int.pow_zero, Int.ediv_one]
    rcases Nat.lt_or_gt_of_ne hne with h | h
    · have := cnt_lt2 h (Nat.le_of_lt hk) hs; omega
    · have := cnt_lt2 h (Nat.le_of_lt hi) hd; omega
  | succ d =>
    have h1 := nx_far l h0 d
    have h2 := (cnt_range (l.take k) (s + (d + 1))).1
    have h3 := cnt_lt hi hs
    rw [show s + 1 + d = s + (d + 1) from by omega] at h1
    have h4 : nx l s + cnt l s ≤ (nx l (s + (d + 1)) + cnt (l.take k) (s + (d + 1))) / 2 ^ (d + 1) := by
      rw [Int.le_ediv_iff_mul_le (Int.pow_pos (by decide))]
      omega
    omega
def wTo (s : Nat) (l : List Int) : Int := (l.map fun k => if k ≤ (s : Int) then w k else 0).sum
theorem wTo_succ (s : Nat) (l : List Int) : wTo (s + 1) l = wTo s l + cnt l (s + 1) * w ((s + 1 : Nat) : Int) := by
  induction l with
  | nil => simp [wTo, cnt]
  | cons x l ih =>
    have e1 : ∀ s, wTo s (x :: l) = (if x ≤ (s : Int) then w x else 0) + wTo s l := fun s => rfl
    have e2 : cnt (x :: l) (s + 1) = cnt l (s + 1) + if x = ((s + 1 : Nat) : Int) then 1 else 0 := by
      unfold cnt
      rw [List.countP_cons]
      by_cases h : x = ((s + 1 : Nat) : Int)
      · subst h; simp
      · have h2 : decide (x = ((s + 1 : Nat) : Int)) = false := decide_eq_false h
        rw [if_neg h]
        simp only [h2]
        simp
    rw [e1, e1, e2, ih]
    by_cases h : x = ((s + 1 : Nat) : Int)
    · subst h
      rw [if_pos (by omega), if_neg (by omega), if_pos rfl, Int.add_mul]
      omega
    · rw [if_neg h, Int.add_zero]
      by_cases h2 : x ≤ (s : Int)
      · rw [if_pos h2, if_pos (by omega)]; omega
      · rw [if_neg h2, if_neg (by omega)]; omega
theorem wTo_le {l : List Int} (h : l.all good = true) (s : Nat) : wTo s l ≤ wsum l := by
  induction l with
  | nil => simp [wTo, wsum]
  | cons x l ih =>
    simp only [List.all_cons, Bool.and_eq_true] at h
    have e1 : wTo s (x :: l) = (if x ≤ (s : Int) then w x else 0) + wTo s l := rfl
    have e2 : wsum (x :: l) = w x + wsum l := rfl
    have := ih h.2
    have := (w_range h.1).1
    rw [e1, e2]
    split <;> omega
theorem nx_fits {l : List Int} (h : l.all good = true) : ∀ (s : Nat), 1 ≤ s → s ≤ 15 → (nx l s + cnt l s) * 2 ^ (15 - s) ≤ wTo s l
  | 0, h0, _ => by omega
  | 1, _, _ => by
    have e0 : 0 ≤ wTo 0 l := by
      have : ∀ l : List Int, l.all good = true → 0 ≤ wTo 0 l := by
        intro l
        induction l with
        | nil => intro _; simp [wTo]
        | cons x l ih =>
          intro h
          simp only [List.all_cons, Bool.and_eq_true] at h
          have e1 : wTo 0 (x :: l) = (if x ≤ ((0 : Nat) : Int) then w x else 0) + wTo 0 l := rfl
          have := ih h.2
          have := (w_range h.1).1
          rw [e1]; split <;> omega
      exact this l h
    have e1 := wTo_succ 0 l
    have e2 : w ((0 + 1 : Nat) : Int) = 2 ^ 14 := rfl
    rw [e2] at e1
    have e3 : nx l 1 = 0 := rfl
    rw [e3, e1]
    simp only [Nat.zero_add]
    omega
  | s + 2, _, h15 => by
    have ih := nx_fits h (s + 1) (by omega) (by omega)
    have e1 := wTo_succ (s + 1) l
    have e2 : w ((s + 1 + 1 : Nat) : Int) = 2 ^ (15 - (s + 2)) := by
      unfold w
      rw [if_pos (by omega)]
      congr 1
      omega
    have e3 : nx l (s + 2) = (nx l (s + 1) + cnt l (s + 1)) * 2 := rfl
    have e4 : (2 : Int) ^ (15 - (s + 1)) = 2 * 2 ^ (15 - (s + 2)) := by
      rw [show 15 - (s + 1) = (15 - (s + 2)) + 1 from by omega, Int.pow_succ, Int.mul_comm]
    rw [e4, ← Int.mul_assoc] at ih
    rw [e3, Int.add_mul, e1, e2]
    exact Int.add_le_add ih (Int.le_refl _)
theorem code_fits {l : List Int} (h : l.all good = true) (hw : wsum l ≤ 32768) {i : Nat} (hi : i < l.length) {s : Nat} (hs : l.getD i 0 = (s : Int)) (h0 : 0 < s) : 0 ≤ codeAt l i ∧ codeAt l i < 2 ^ s := by
  have hg : good (s : Int) = true := by
    rw [← hs, List.getD_eq_getElem?_getD, List.getElem?_eq_getElem hi]
    exact List.all_eq_true.1 h _ (List.getElem_mem hi)
  have h15 := (good_iff.1 hg).2
  have h1 := nx_fits h s h0 (by omega)
  have h2 := wTo_le h s
  have h3 := cnt_lt hi hs
  have h4 := (nx_range l s).1
  have h5 := (cnt_range (l.take i) s).1
  rw [code_eq hs h0]
  refine ⟨by omega, ?_⟩
  have h6 : (nx l s + cnt l s) * 2 ^ (15 - s) ≤ 2 ^ s * 2 ^ (15 - s) := by
    rw [← Int.pow_add, show s + (15 - s) = 15 from by omega]
    show _ ≤ (32768 : Int)
    omega
  have h7 : nx l s + cnt l s ≤ 2 ^ s := Int.le_of_mul_le_mul_right h6 (Int.pow_pos (by decide))
  omega
def manyN (C : List Int) : Nat := C.countP fun x => decide (0 < x)
theorem base_many (C : List Int) : (base C).length = manyN C := by
  have : ∀ i, i ≤ C.length → (baseK C i).length = (C.take i).countP fun x => decide (0 < x) := by
    intro i
    induction i with
    | zero => intro _; simp [baseK]
    | succ i ih =>
      intro hi
      have h1 : C[i]? = some C[i] := List.getElem?_eq_getElem (by omega)
      have h2 : C.getD i 0 = C[i] := by rw [List.getD_eq_getElem?_getD, h1]; rfl
      rw [baseK_succ, List.take_add_one, h1, List.length_append, List.countP_append, ih (by omega), h2]
      by_cases h : 0 < C[i]
      · rw [if_pos h]; simp [h]
      · rw [if_neg h]; simp [h]
  have h1 := this C.length (Nat.le_refl _)
  rw [baseK_all, List.take_length] at h1
  exact h1
theorem even_law {N : Nat} {c : Int} (h2 : 2 ≤ N) (hN : N ≤ 256) (hc : 1 ≤ c) {e : Nat} (he : 2 ^ e ≤ N) (he2 : N < 2 ^ (e + 1)) {i : Nat} (hi : i < N) :
    ((lenF 40 (List.replicate N c) 15).getD i 0 = (e : Int) ∨ (lenF 40 (List.replicate N c) 15).getD i 0 = (e : Int) + 1) ∧ (N = 2 ^ e → (lenF 40 (List.replicate N c) 15).getD i 0 = (e : Int)) := by
  have hg : ∀ j, j < N → (List.replicate N c).getD j 0 = c := fun j hj => by rw [List.getD_eq_getElem?_getD, List.getElem?_replicate, if_pos hj]; rfl
  have hl : (List.replicate N c).length = N := List.length_replicate
  have hb : (base (List.replicate N c)).length = N := by
    rw [base_many]
    unfold manyN
    rw [List.countP_replicate, if_pos (by simp; omega)]
  have key : ∀ j, j < N → (depOf (List.replicate N c) j = e ∨ depOf (List.replicate N c) j = e + 1) ∧ ((base (List.replicate N c)).length = 2 ^ e → depOf (List.replicate N c) j = e) := fun j hj =>
    lens_level (c := c) (fun k hk _ => by rw [hl] at hk; rw [hg k hk]; omega) (by omega) (by omega) (by omega) (by omega) (by rw [hg j hj]; omega)
  have hlg : ∀ j, j < N → (lens (List.replicate N c)).getD j 0 = ((depOf (List.replicate N c) j : Nat) : Int) := fun j hj => by
    rw [lens_getD (by omega), if_neg (by omega)]
  have he9 : e ≤ 8 := by
    rcases Nat.lt_or_ge e 9 with h | h
    · omega
    · have : 2 ^ 9 ≤ 2 ^ e := Nat.pow_le_pow_right (by decide) h
      omega
  have hle : ∀ x ∈ lens (List.replicate N c), x ≤ 15 := fun x hx => by
    obtain ⟨j, hj, rfl⟩ := List.getElem_of_mem hx
    have hj2 : j < N := by rw [lens_len] at hj; omega
    have e1 : (lens (List.replicate N c))[j] = (lens (List.replicate N c)).getD j 0 := by rw [List.getD_eq_getElem?_getD, List.getElem?_eq_getElem hj]; rfl
    rw [e1, hlg j hj2]
    have := (key j hj2).1
    omega
  rw [lenF_first hle, hlg i hi]
  have := key i hi
  refine ⟨by omega, fun h => ?_⟩
  rw [this.2 (by omega)]
theorem err_zero {l : List Int} (h : err l = 0) : l.length ≤ 300 ∧ l.all good = true ∧ wsum l ≤ 32768 := by
  unfold err at h
  by_cases h1 : l.length > 300
  · rw [if_pos h1] at h; cases h
  · rw [if_neg h1] at h
    by_cases h2 : l.all good = false
    · rw [if_pos h2] at h; cases h
    · rw [if_neg h2] at h
      by_cases h3 : wsum l > 32768
      · rw [if_pos h3] at h; cases h
      · exact ⟨by omega, by simpa using h2, by omega⟩
theorem code_range {l : List Int} (h : err l = 0) {i : Nat} (hi : i < l.length) : 0 ≤ codeAt l i ∧ codeAt l i ≤ 32768 := by
  obtain ⟨_, hg, hw⟩ := err_zero h
  by_cases h0 : 0 < l.getD i 0
  · have h1 := code_fits hg hw hi (s := (l.getD i 0).toNat) (by omega) (by omega)
    have h2 : good (l.getD i 0) = true := by
      rw [List.getD_eq_getElem?_getD, List.getElem?_eq_getElem hi]
      exact List.all_eq_true.1 hg _ (List.getElem_mem hi)
    have h3 := good_iff.1 h2
    have h4 : (2 : Int) ^ (l.getD i 0).toNat ≤ 2 ^ 15 := by
      have : (2 : Nat) ^ (l.getD i 0).toNat ≤ 2 ^ 15 := Nat.pow_le_pow_right (by decide) (by omega)
      exact_mod_cast this
    omega
  · unfold codeAt
    simp only
    rw [if_neg h0]
    decide
end Go.Huf
