import Derived.Test.YtlkpgjicpjjlcaaGreatDoorVc6
import Derived.Test.YtlkpgjicpjjlcaaGreatDoorVc13
/- A slice of rows among the arguments, opened. -/
namespace Go.Proofs.YtlkpgjicpjjlcaaGreatDoor.vcrows
open Go Go.Vc Go.ChangeShapes Go.WideShapes
set_option linter.unusedVariables false

theorem pick {α : Type} {R : Nat → α → Prop} : ∀ (n : Nat), (∀ i, i < n → ∃ u, R i u) → ∃ l : List α, l.length = n ∧ ∀ (i : Nat) (u : α), l[i]? = some u → R i u
  | 0, _ => ⟨[], rfl, fun i u h => by simp at h⟩
  | n + 1, h => by
    obtain ⟨l, hl, hr⟩ := pick n fun i hi => h i (by omega)
    obtain ⟨u, hu⟩ := h n (by omega)
    refine ⟨l ++ [u], by simp [hl], fun i v hv => ?_⟩
    by_cases hi : i < n
    · rw [List.getElem?_append_left (by omega)] at hv
      exact hr i v hv
    · rw [List.getElem?_append_right (by omega)] at hv
      have : i - l.length = 0 := by
        have := (List.getElem?_eq_some_iff.1 hv).1
        simp at this
        omega
      rw [this] at hv
      have e : i = n := by omega
      simp at hv
      subst hv
      rw [e]
      exact hu
theorem bulk_sum {α H : Type} {B : α → Nat} : ∀ (l : List α) (m : List (DataW H)), l.length = m.length → (∀ (i : Nat) (u : α) (y : DataW H), l[i]? = some u → m[i]? = some y → B u ≤ Rows.uptoBulk y) → (l.map B).sum ≤ Rows.uptoBulkAll m
  | [], m, _, _ => by simp
  | u :: l, [], h, _ => by simp at h
  | u :: l, y :: m, h, hb => by
    have h0 := hb 0 u y rfl rfl
    have h1 := bulk_sum l m (by simpa using h) fun i v z hv hz => hb (i + 1) v z (by simpa using hv) (by simpa using hz)
    rw [List.map_cons, List.sum_cons, Rows.uptoBulkAll]
    omega

theorem open_rows {H : Type} {enc : TypeId × Value → H} {P : Program} {W : World} {α : Type} {t e : TypeId} {fuel : Nat} {a : Option Addr} {len cap : Nat} {d : DataW H} {ps : List MemPlace} {E : α → List Value} {K : Nat}
    (ht : P.underlying t = some (.slice e)) (hc : P.cellsOf e = K) (hK : 0 < K) (hEl : ∀ u, (E u).length = K) (B : α → Nat) (G : α → Prop)
    (hE : ∀ n cs x, DataW.trod enc P W 0 (fun _ => true) true n e cs = some x → ∃ u, cs = E u ∧ G u ∧ B u ≤ Rows.uptoBulk x.1)
    (h : DataW.trod enc P W 0 (fun _ => true) true fuel t [.slice a len cap] = some (d, ps)) :
    ∃ l : List α, l.length = len ∧ Sl (heapOf W) a (len * K) id (l.flatMap E) ∧ len ≤ cap ∧ (∀ u ∈ l, G u) ∧ (l.map B).sum ≤ Rows.uptoBulk d := by
  rcases DataW.trod_slice ht h with ⟨h0, _⟩ | ⟨x, len', cap', elems, rest, n, _, hcs, hx, hb, hl, hm, hlen, hel, hsp, hns⟩
  · simp at h0
    obtain ⟨rfl, rfl, rfl⟩ := h0
    exact ⟨[], rfl, ⟨by simp, fun h => by omega⟩, Nat.le_refl _, by simp, by simp⟩
  simp at hcs
  obtain ⟨rfl, rfl, rfl⟩ := hcs
  simp only [Prod.mk.injEq] at hx
  have hd := hx.1
  obtain ⟨l, hll, hR⟩ := pick (R := fun i u => ∃ y, elems[i]? = some y ∧ W.cells? 0 (x.add (i * K)) K = some (E u) ∧ G u ∧ B u ≤ Rows.uptoBulk y.1) len (fun i hi => by
    have h1 := hel i hi
    rw [List.getElem?_eq_getElem (by omega), hc] at h1
    rw [Option.bind_eq_some_iff] at h1
    obtain ⟨cs, h2, h3⟩ := h1
    obtain ⟨u, rfl, h4, h5⟩ := hE _ _ _ h3
    exact ⟨u, _, List.getElem?_eq_getElem (by omega), h2, h4, h5⟩)
  refine ⟨l, hll, ?_, hl, fun u hu => ?_, ?_⟩
  · by_cases h0 : len = 0
    · subst h0
      obtain rfl : l = [] := List.length_eq_zero_iff.1 hll
      exact ⟨by simp, fun h => by omega⟩
    have hcell : ∀ i u, l[i]? = some u → ∀ j, j < K → W.cell? ((x.add (i * K)).add j) = (E u)[j]? := fun i u hu j hj => by
      obtain ⟨y, _, h2, _⟩ := hR i u hu
      exact (World.cells?_some h2).2.2 j hj
    obtain ⟨b, off, sp⟩ := x
    obtain rfl : sp = none := by
      have hi : l[0]? = some l[0] := List.getElem?_eq_getElem (by omega)
      have h1 := hcell 0 _ hi 0 hK
      rw [Nat.zero_mul] at h1
      have e0 : ∀ z : Addr, z.add 0 = z := fun z => by simp [Addr.add]
      rw [e0, e0, List.getElem?_eq_getElem (by rw [hEl]; exact hK)] at h1
      unfold World.cell? at h1
      split at h1
      · split at h1
        · cases h1
        · rename_i hsp
          cases sp <;> simp_all
      · cases h1
    have hfl : (l.flatMap E).length = len * K := by rw [flat_len hEl, hll]
    refine sl_of_cells (Value.bool false) hfl fun q hq => ?_
    have hdm := Nat.div_add_mod q K
    have hqm := Nat.mod_lt q hK
    have hql : q / K < len := Nat.div_lt_of_lt_mul (by rw [Nat.mul_comm]; omega)
    have hi : l[q / K]? = some (l[q / K]'(by omega)) := List.getElem?_eq_getElem (by omega)
    have h1 := hcell _ _ hi _ hqm
    rw [addr_add, addr_add, Nat.add_assoc, Nat.mul_comm, hdm] at h1
    have h2 := flat_get hEl hi hqm
    rw [Nat.mul_comm, hdm] at h2
    rw [addr_add, h1, ← h2]
    simp only [List.getD_eq_getElem?_getD]
    rw [List.getElem?_eq_getElem hq]
    rfl
  · obtain ⟨i, hi⟩ := List.getElem?_of_mem hu
    obtain ⟨_, _, _, h4, _⟩ := hR i u hi
    exact h4
  · rw [hd, Rows.uptoBulk]
    have := bulk_sum (B := B) l (elems.map (·.1)) (by simp [hll, hlen]) fun i u y hu hy => by
      obtain ⟨y', h1, _, _, h5⟩ := hR i u hu
      rw [List.getElem?_map, h1] at hy
      simp at hy
      rw [← hy]
      exact h5
    omega
end Go.Proofs.YtlkpgjicpjjlcaaGreatDoor.vcrows
