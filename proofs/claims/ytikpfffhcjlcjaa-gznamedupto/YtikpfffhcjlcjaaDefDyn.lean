import Derived.Test.YtikpfffhcjlcjaaDefA
import Derived.Test.YtikpfffhcjlcjaaHuffPlain
set_option linter.unusedVariables false
set_option linter.unusedSimpArgs false
namespace Go.Dfl
open Go
def cntF (n : Nat) (l : List Nat) : List Int := (List.range n).map fun i => ((l.count i : Nat) : Int)
theorem cntF_len (n : Nat) (l : List Nat) : (cntF n l).length = n := by simp [cntF]
theorem cntF_get {n i : Nat} (l : List Nat) (h : i < n) : (cntF n l)[i]? = some ((l.count i : Nat) : Int) := by simp [cntF, h]
theorem cntF_nil (n : Nat) : cntF n [] = List.replicate n 0 := by
  apply List.ext_getElem?
  intro i
  by_cases h : i < n
  · rw [cntF_get _ h, List.getElem?_replicate, if_pos h]; rfl
  · rw [List.getElem?_eq_none (by rw [cntF_len]; omega), List.getElem?_eq_none (by simp; omega)]
theorem cntF_set {n k : Nat} (l : List Nat) (h : k < n) : (cntF n l).set k (((l.count k : Nat) : Int) + 1) = cntF n (l ++ [k]) := by
  apply List.ext_getElem?
  intro i
  by_cases hi : i < n
  · rw [cntF_get _ hi]
    by_cases e : k = i
    · subst e
      rw [List.getElem?_set_self (by rw [cntF_len]; exact hi), List.count_append, List.count_singleton_self]
      push_cast
      rfl
    · rw [List.getElem?_set_ne e, cntF_get _ hi, List.count_append, List.count_singleton, if_neg (by simpa using e)]
      simp
  · rw [List.getElem?_eq_none (by rw [List.length_set, cntF_len]; omega), List.getElem?_eq_none (by rw [cntF_len]; omega)]
theorem cntF_range {n : Nat} {l : List Nat} : ∀ x ∈ cntF n l, 0 ≤ x ∧ x ≤ l.length := by
  intro x hx
  obtain ⟨i, _, rfl⟩ := List.mem_map.1 hx
  have := List.count_le_length (a := i) (l := l)
  omega
theorem lens_ok {n : Nat} {l : List Nat} {m : Int} (hn : n ≤ 300) (hl : l.length ≤ 1000000) (hm : (m = 15) ∨ (m = 7 ∧ n ≤ 19)) :
    Huf.err (Huf.lenF 40 (cntF n l) m) = 0 ∧ (Huf.lenF 40 (cntF n l) m).length = n ∧ (∀ x ∈ Huf.lenF 40 (cntF n l) m, 0 ≤ x ∧ x ≤ m) ∧ ∀ k, k ∈ l → k < n → 0 < (Huf.lenF 40 (cntF n l) m).getD k 0 := by
  have hr := cntF_range (n := n) (l := l)
  have h0 : ∀ x ∈ cntF n l, 0 ≤ x := fun x hx => (hr x hx).1
  have h40 : ∀ x ∈ cntF n l, 0 ≤ x ∧ x ≤ 2 ^ 40 := fun x hx => ⟨(hr x hx).1, by have := (hr x hx).2; omega⟩
  have hlen := Huf.lenF_len 40 (cntF n l) m
  rw [cntF_len] at hlen
  have hle : ∀ x ∈ Huf.lenF 40 (cntF n l) m, x ≤ m := by
    rcases hm with rfl | ⟨rfl, h19⟩
    · exact Huf.lenF_le 40 _ 15 9 (by omega) (by rw [cntF_len]; omega) (by omega) h40
    · exact Huf.lenF_le 40 _ 7 5 (by omega) (by rw [cntF_len]; omega) (by omega) h40
  have hng := Huf.lenF_nonneg h0 40 m
  refine ⟨(Huf.errN_lenF h0 (by rw [cntF_len]; omega) (by rcases hm with rfl | ⟨rfl, _⟩ <;> omega) hle).2, hlen, fun x hx => ⟨hng x hx, hle x hx⟩, fun k hk hkn => ?_⟩
  rw [Huf.lenF_iff h0 40 m (by rw [cntF_len]; exact hkn), List.getD_eq_getElem?_getD, cntF_get _ hkn]
  show 0 < ((l.count k : Nat) : Int)
  have := List.count_pos_iff.2 hk
  omega
theorem wsum_take_le {l : List Int} (h : l.all Huf.good = true) (i : Nat) : Huf.wsum (l.take i) ≤ Huf.wsum l := by
  have e : Huf.wsum (l.take i ++ l.drop i) = Huf.wsum (l.take i) + Huf.wsum (l.drop i) := by
    unfold Huf.wsum
    rw [List.map_append, List.sum_append]
  rw [List.take_append_drop] at e
  have h2 : (l.drop i).all Huf.good = true := by
    rw [List.all_eq_true] at h ⊢
    exact fun x hx => h x (List.mem_of_mem_drop hx)
  have := (Huf.wsum_range _ h2).1
  omega
theorem err_take {l : List Int} (h : Huf.err l = 0) (i : Nat) : Huf.err (l.take i) = 0 := by
  obtain ⟨h1, h2, h3⟩ := Huf.err_zero h
  have h4 := wsum_take_le h2 i
  have h5 : (l.take i).all Huf.good = true := by
    rw [List.all_eq_true] at h2 ⊢
    exact fun x hx => h2 x (List.mem_of_mem_take hx)
  unfold Huf.err
  rw [if_neg (by rw [List.length_take]; omega), if_neg (by rw [h5]; simp), if_neg (by omega)]
def symOk (p : Int × Int) : Prop := 0 ≤ p.1 ∧ p.1 ≤ 18 ∧ 0 ≤ p.2 ∧ p.2 ≤ 127
theorem symOk_mk {a b : Int} (h1 : 0 ≤ a) (h2 : a ≤ 18) (h3 : 0 ≤ b) (h4 : b ≤ 127) : symOk (a, b) := ⟨h1, h2, h3, h4⟩
theorem zs_ok : ∀ (n : Nat), ∀ p ∈ zs n, symOk p := fun n => by
  induction n using Nat.strongRecOn with
  | _ n ih =>
    intro p hp
    rw [zs] at hp
    split at hp
    · cases hp
    · split at hp
      · rcases List.mem_cons.1 hp with rfl | h
        · exact symOk_mk (by omega) (by omega) (by omega) (by omega)
        · exact ih _ (by omega) p h
      · split at hp
        · rw [List.mem_singleton.1 hp]
          exact symOk_mk (by omega) (by omega) (by omega) (by omega)
        · rcases List.mem_cons.1 hp with rfl | h
          · exact symOk_mk (by omega) (by omega) (by omega) (by omega)
          · exact ih _ (by omega) p h
theorem ks_ok {k : Int} (hk : 0 ≤ k ∧ k ≤ 15) : ∀ (n : Nat), ∀ p ∈ ks k n, symOk p := fun n => by
  induction n using Nat.strongRecOn with
  | _ n ih =>
    intro p hp
    rw [ks] at hp
    split at hp
    · cases hp
    · split at hp
      · rcases List.mem_cons.1 hp with rfl | h
        · exact symOk_mk (by omega) (by omega) (by omega) (by omega)
        · exact ih _ (by omega) p h
      · rcases List.mem_cons.1 hp with rfl | h
        · exact symOk_mk (by omega) (by omega) (by omega) (by omega)
        · exact ih _ (by omega) p h
theorem runs_ok : ∀ (n : Nat) (l : List Int), l.length ≤ n → l.all Huf.good = true → ∀ p ∈ runsF l, symOk p
  | _, [], _, _, p, hp => by rw [runsF] at hp; cases hp
  | 0, k :: r, h, _, p, hp => by simp at h
  | n + 1, k :: r, h, hg, p, hp => by
    simp only [List.all_cons, Bool.and_eq_true] at hg
    have hk := Huf.good_iff.1 hg.1
    rw [runsF] at hp
    rcases List.mem_append.1 hp with h1 | h1
    · unfold grp at h1
      split at h1
      · exact zs_ok _ p h1
      · rcases List.mem_cons.1 h1 with rfl | h2
        · exact symOk_mk (by omega) (by omega) (by omega) (by omega)
        · exact ks_ok hk _ p h2
    · refine runs_ok n (r.drop (cnt k r)) (by rw [List.length_drop]; simp at h; omega) ?_ p h1
      rw [List.all_eq_true] at hg ⊢
      exact fun x hx => hg.2 x (List.mem_of_mem_drop hx)
theorem runs_len : ∀ (n : Nat) (l : List Int), l.length ≤ n → (runsF l).length ≤ l.length
  | _, [], _ => by rw [runsF]; simp
  | 0, k :: r, h => by simp at h
  | n + 1, k :: r, h => by
    have hz : ∀ m, (zs m).length ≤ m := fun m => by
      induction m using Nat.strongRecOn with
      | _ m ih =>
        rw [zs]
        split
        · simp
        · split
          · have := ih (m - min m 138) (by omega); rw [List.length_cons]; omega
          · split
            · simp; omega
            · have := ih (m - 1) (by omega); rw [List.length_cons]; omega
    have hk : ∀ m, (ks k m).length ≤ m := fun m => by
      induction m using Nat.strongRecOn with
      | _ m ih =>
        rw [ks]
        split
        · simp
        · split
          · have := ih (m - min m 6) (by omega); rw [List.length_cons]; omega
          · have := ih (m - 1) (by omega); rw [List.length_cons]; omega
    have h1 := cnt_le k r
    have h2 := runs_len n (r.drop (cnt k r)) (by rw [List.length_drop]; simp at h; omega)
    rw [List.length_drop] at h2
    have h3 : (grp k (cnt k r + 1)).length ≤ cnt k r + 1 := by
      unfold grp
      split
      · exact hz _
      · have := hk (cnt k r); rw [List.length_cons]; simp; omega
    rw [runsF, List.length_append, List.length_cons]
    omega
end Go.Dfl
