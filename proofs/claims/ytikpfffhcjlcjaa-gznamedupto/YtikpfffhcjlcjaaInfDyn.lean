import Derived.Test.YtikpfffhcjlcjaaInf4
import Derived.Test.YtikpfffhcjlcjaaDefB
set_option linter.unusedSimpArgs false
namespace Go.Proofs.Ytikpfffhcjlcjaa
open Go Go.Vc Go.Huf Go.Dfl
set_option maxRecDepth 20000
set_option linter.unusedVariables false
theorem cutN_zero {l : List Int} {least : Nat} : ∀ {n k : Nat}, cutN l least n ≤ k → k < n → l.getD k 0 = 0
  | 0, k, _, h => by omega
  | n + 1, k, h, hk => by
    rw [cutN] at h
    split at h
    · rename_i hc
      rcases Nat.lt_or_ge k n with h2 | h2
      · exact cutN_zero h h2
      · rw [show k = n by omega]; exact hc.2
    · omega
theorem cutF_zero {l : List Int} {least k : Nat} (h : (cutF l least).length ≤ k) : l.getD k 0 = 0 := by
  rw [cutF_len] at h
  rcases Nat.lt_or_ge k l.length with h2 | h2
  · exact cutN_zero h h2
  · rw [List.getD_eq_getElem?_getD, List.getElem?_eq_none h2]; rfl
theorem cutF_getD {l : List Int} {least k : Nat} : (cutF l least).getD k 0 = l.getD k 0 := by
  rcases Nat.lt_or_ge k (cutF l least).length with h | h
  · rw [List.getD_eq_getElem?_getD, List.getD_eq_getElem?_getD, cutF_get h]
  · rw [cutF_zero h, List.getD_eq_getElem?_getD, List.getElem?_eq_none h]; rfl
theorem sums_zero : ∀ {l : List Int}, (∀ x ∈ l, x = 0) → wsum l = 0 ∧ l.sum = 0
  | [], _ => ⟨rfl, rfl⟩
  | x :: r, h => by
    obtain ⟨h1, h2⟩ := sums_zero (l := r) fun y hy => h y (List.mem_cons_of_mem _ hy)
    have h0 := h x (List.mem_cons_self ..)
    subst h0
    unfold wsum at *
    rw [List.map_cons, List.sum_cons, h1, List.sum_cons, h2]
    decide
theorem cut_errN {l : List Int} {least : Nat} (he : errN l = 0 ∧ err l = 0) : errN (cutF l least) = 0 ∧ err (cutF l least) = 0 := by
  have h1 : err (cutF l least) = 0 := err_take he.2 _
  obtain ⟨c, hc⟩ : ∃ c, cutN l least l.length = c := ⟨_, rfl⟩
  have hz := sums_zero (l := l.drop c) fun x hx => by
    obtain ⟨i, hi, rfl⟩ := List.mem_iff_getElem.1 hx
    rw [List.length_drop] at hi
    rw [List.getElem_drop]
    have := cutF_zero (l := l) (least := least) (k := c + i) (by rw [cutF_len, hc]; omega)
    rw [List.getD_eq_getElem?_getD, List.getElem?_eq_getElem (by omega)] at this
    exact this
  have hs : wsum (cutF l least) = wsum l ∧ (cutF l least).sum = l.sum := by
    unfold cutF
    rw [hc]
    have e := List.take_append_drop c l
    constructor
    · conv => rhs; rw [← e]
      unfold wsum at *
      rw [List.map_append, List.sum_append, hz.1]
      omega
    · conv => rhs; rw [← e]
      rw [List.sum_append, hz.2]
      omega
  refine ⟨?_, h1⟩
  have h2 := he.1
  unfold errN at h2 ⊢
  rw [if_neg (by rw [h1]; simp), hs.1, hs.2]
  rw [if_neg (by rw [he.2]; simp)] at h2
  exact h2
theorem lens_errN {n : Nat} {l : List Nat} {m : Int} (hn : n ≤ 300) (hl : l.length ≤ 1000000) (hm : (m = 15) ∨ (m = 7 ∧ n ≤ 19)) : errN (lenF 40 (cntF n l) m) = 0 ∧ err (lenF 40 (cntF n l) m) = 0 := by
  have hr := cntF_range (n := n) (l := l)
  have h0 : ∀ x ∈ cntF n l, 0 ≤ x := fun x hx => (hr x hx).1
  obtain ⟨_, _, h3, _⟩ := lens_ok hn hl hm
  exact errN_lenF h0 (by rw [cntF_len]; omega) (by rcases hm with rfl | ⟨rfl, _⟩ <;> omega) fun x hx => (h3 x hx).2
theorem lenA_errN {ps : List Prt} (hp : ps.length ≤ 100000) : errN (lenA ps) = 0 ∧ err (lenA ps) = 0 :=
  cut_errN (lens_errN (by omega) (by simp [manyL]; omega) (.inl rfl))
theorem lenB_errN {ps : List Prt} (hp : ps.length ≤ 100000) : errN (lenB ps) = 0 ∧ err (lenB ps) = 0 :=
  cut_errN (lens_errN (by omega) (by have := List.length_filter_le (fun p : Prt => !p.plain) ps; simp [farL]; omega) (.inl rfl))
theorem parts_cov {ps : List Prt} (hp : ps.length ≤ 100000) (hok : ∀ p ∈ ps, SymOk p) : ∀ p ∈ ps, PrtC (lenA ps) (lenB ps) p := fun p hpm => by
  obtain ⟨_, _, _, h4⟩ := lenA_ok hp
  obtain ⟨_, _, _, k4⟩ := lenB_ok hp
  obtain ⟨_, _, _, g4⟩ := lens_ok (n := 286) (l := manyL ps) (m := 15) (by omega) (by simp [manyL]; omega) (.inl rfl)
  obtain ⟨_, _, _, f4⟩ := lens_ok (n := 30) (l := farL ps) (m := 15) (by omega) (by have := List.length_filter_le (fun p : Prt => !p.plain) ps; simp [farL]; omega) (.inl rfl)
  have o := hok p hpm
  refine ⟨h4 p hpm o.s1, ?_, fun hpl => ⟨k4 p hpm hpl (o.s2 hpl), ?_⟩⟩
  · have := g4 p.sym (by unfold manyL; exact List.mem_cons_of_mem _ (List.mem_map_of_mem hpm)) o.s1
    unfold lenA
    rw [cutF_getD]
    omega
  · have := f4 p.sym2 (by unfold farL; exact List.mem_map_of_mem (List.mem_filter.2 ⟨hpm, by rw [hpl]; rfl⟩)) (o.s2 hpl)
    unfold lenB
    rw [cutF_getD]
    omega
theorem lenA_end {ps : List Prt} (hp : ps.length ≤ 100000) : 256 < (lenA ps).length ∧ 1 ≤ ((lenA ps).getD 256 0).toNat := by
  obtain ⟨_, h2, _, _⟩ := lenA_ok hp
  obtain ⟨_, _, _, g4⟩ := lens_ok (n := 286) (l := manyL ps) (m := 15) (by omega) (by simp [manyL]; omega) (.inl rfl)
  have := g4 256 (by unfold manyL; exact List.mem_cons_self ..) (by omega)
  refine ⟨by omega, ?_⟩
  unfold lenA
  rw [cutF_getD]
  omega
theorem lens_small {ps : List Prt} (hp : ps.length ≤ 100000) : ∀ x ∈ lenA ps ++ lenB ps, 0 ≤ x ∧ x ≤ 15 := fun x hx => by
  obtain ⟨_, g1, _⟩ := err_zero (lenA_errN hp).2
  obtain ⟨_, g2, _⟩ := err_zero (lenB_errN hp).2
  rcases List.mem_append.1 hx with h | h
  · exact good_iff.1 (List.all_eq_true.1 g1 x h)
  · exact good_iff.1 (List.all_eq_true.1 g2 x h)
theorem shortC_len {ps : List Prt} (hp : ps.length ≤ 100000) : (shortC ps).length ≤ 1000 := by
  unfold shortC runsAB
  rw [List.length_map]
  have h1 := runs_len _ (lenA ps ++ lenB ps) (Nat.le_refl _)
  obtain ⟨_, _, h2, _⟩ := lenA_ok hp
  obtain ⟨_, _, h3, _⟩ := lenB_ok hp
  rw [List.length_append] at h1
  omega
theorem shortS_ok {ps : List Prt} (hp : ps.length ≤ 100000) : (errN (shortS ps) = 0 ∧ err (shortS ps) = 0) ∧ (shortS ps).length = 19 ∧ (∀ x ∈ shortS ps, 0 ≤ x ∧ x ≤ 7) ∧ ∀ p ∈ runsAB ps, p.1.toNat < 19 ∧ 1 ≤ ((shortS ps).getD p.1.toNat 0).toNat := by
  have hl := shortC_len hp
  obtain ⟨_, h2, h3, h4⟩ := lens_ok (n := 19) (l := shortC ps) (m := 7) (by omega) (by omega) (.inr ⟨rfl, by omega⟩)
  refine ⟨lens_errN (by omega) (by omega) (.inr ⟨rfl, by omega⟩), h2, h3, fun p hpm => ?_⟩
  have hg : (lenA ps ++ lenB ps).all good = true := by
    rw [List.all_eq_true]
    intro x hx
    exact good_iff.2 (lens_small hp x hx)
  have hs := runs_ok _ _ (Nat.le_refl _) hg p hpm
  obtain ⟨s1, s2, _, _⟩ := hs
  have := h4 p.1.toNat (by unfold shortC; exact List.mem_map_of_mem hpm) (by omega)
  exact ⟨by omega, by unfold shortS; omega⟩
def fillF (S : List Int) (i : Nat) : List Int := (List.range 19).map fun k => if k ∈ orderL.take i then S.getD k 0 else 0
theorem fill_zero (S : List Int) : fillF S 0 = List.replicate 19 0 := by
  unfold fillF
  simp only [List.take_zero, List.not_mem_nil, if_false]
  decide
theorem fill_len (S : List Int) (i : Nat) : (fillF S i).length = 19 := by simp [fillF]
theorem fill_step {S : List Int} {i k : Nat} (h : orderL[i]? = some k) : (fillF S i).set k (S.getD k 0) = fillF S (i + 1) := by
  have hk := order_lt k (List.mem_of_getElem? h)
  apply List.ext_getElem?
  intro j
  have e : ∀ n, (fillF S n)[j]? = if j < 19 then some (if j ∈ orderL.take n then S.getD j 0 else 0) else none := fun n => by
    unfold fillF
    rw [List.getElem?_map]
    by_cases hj : j < 19
    · rw [List.getElem?_range hj, if_pos hj]; rfl
    · rw [if_neg hj, List.getElem?_eq_none (by simp; omega)]; rfl
  rw [e (i + 1), List.take_add_one, h]
  by_cases hjk : k = j
  · subst hjk
    rw [List.getElem?_set_self (by rw [fill_len]; exact hk), if_pos hk, if_pos (by simp)]
  · rw [List.getElem?_set_ne hjk, e i]
    congr 1
    simp [show j ≠ k from fun h => hjk h.symm]
theorem order_all : ∀ k : Fin 19, k.val ∈ orderL := by decide
theorem fill_end {ps : List Prt} (hl : (shortS ps).length = 19) : fillF (shortS ps) (toldF ps).length = shortS ps := by
  apply List.ext_getElem?
  intro j
  unfold fillF
  rw [List.getElem?_map]
  by_cases hj : j < 19
  · rw [List.getElem?_range hj]
    have hg : (shortS ps)[j]? = some ((shortS ps).getD j 0) := by
      rw [List.getD_eq_getElem?_getD, List.getElem?_eq_getElem (by omega)]; rfl
    rw [hg]
    show some (if j ∈ orderL.take (toldF ps).length then (shortS ps).getD j 0 else 0) = _
    split
    · rfl
    · rename_i hn
      congr 1
      obtain ⟨q, hq, hqe⟩ := List.mem_iff_getElem.1 (order_all ⟨j, hj⟩)
      have hqt : (toldF ps).length ≤ q := by
        rcases Nat.lt_or_ge q (toldF ps).length with h | h
        · exact absurd (List.mem_iff_getElem.2 ⟨q, by rw [List.length_take]; omega, by rw [List.getElem_take]; exact hqe⟩) hn
        · exact h
      have hz := cutF_zero (l := orderL.map fun k => (shortS ps).getD k 0) (least := 4) (k := q) hqt
      rw [List.getD_eq_getElem?_getD, List.getElem?_map, List.getElem?_eq_getElem hq, hqe] at hz
      exact hz.symm
  · rw [List.getElem?_eq_none (by simp; omega), List.getElem?_eq_none (by omega)]; rfl
theorem told_get {ps : List Prt} {i : Nat} (h : i < (toldF ps).length) : ∃ k, orderL[i]? = some k ∧ (toldF ps)[i]? = some ((shortS ps).getD k 0) := by
  have h1 : (toldF ps)[i]? = (orderL.map fun k => (shortS ps).getD k 0)[i]? := cutF_get h
  have h2 : i < orderL.length := by
    have := cutN_le (orderL.map fun k => (shortS ps).getD k 0) 4 (orderL.map fun k => (shortS ps).getD k 0).length
    unfold toldF at h
    rw [cutF_len] at h
    rw [List.length_map] at this
    rw [List.length_map] at h
    omega
  refine ⟨orderL[i], List.getElem?_eq_getElem h2, ?_⟩
  rw [h1, List.getElem?_map, List.getElem?_eq_getElem h2]; rfl
theorem told_len (ps : List Prt) : 4 ≤ (toldF ps).length ∧ (toldF ps).length ≤ 19 := by
  unfold toldF
  rw [cutF_len]
  have h1 := cutN_ge (orderL.map fun k => (shortS ps).getD k 0) 4 19 (by omega)
  have h2 := cutN_le (orderL.map fun k => (shortS ps).getD k 0) 4 19
  exact ⟨h1, h2⟩
theorem blk_pos {O : List Int} {p : Int × Int} (h : symT O p) : 1 ≤ (blk O p).length := by
  unfold blk
  split
  · rename_i e
    rw [List.length_replicate]
    rcases h with h | h | h | h <;> omega
  · split
    · rw [List.length_replicate]
      rcases h with h | h | h | h <;> omega
    · split
      · rw [List.length_replicate]
        rcases h with h | h | h | h <;> omega
      · simp
end Go.Proofs.Ytikpfffhcjlcjaa
