/- Small laws for the statements: appends to a fresh slice, sizes. -/
import Derived.Test.YtmlcdkckedjdjaaMerkle12
namespace Go.Proofs.Ytmlcdkckedjdjaa
open Go Go.Vc Go.Sha Go.Mk
set_option maxRecDepth 10000
set_option linter.unusedVariables false

theorem app_more {h0 h : Heap} {t0 t : Nat} {a xa : Option Addr} {n c m xc : Nat} {l l2 : List ByteArray} {ty : TypeId} (hd0 : Dom h0 t0) (ht : t0 ≤ t) (hs : Sub h0 h) (hw : ∀ b, owner a = some b → t0 ≤ b) (hd : Dom h t)
    (ho : Own h 9 a n c Value.string l) (hx : Sl h xa m Value.string l2) (hb : n + m ≤ 1000000000) {K : Value → Heap → Nat → Prop}
    (hK : ∀ a' c' h' t', Own h' 9 a' (n + m) c' Value.string (l ++ l2) → t ≤ t' → Dom h' t' → Sub h0 h' → (∀ b, owner a' = some b → t0 ≤ b) → (∀ k, k < t → owner a ≠ some k → h' k = h k) → K (.slice a' (n + m) c') h' t') :
    AppVC Try.prog #[24, 24] ty (.slice a n c) (.slice xa m xc) K h t := by
  refine app_strs (m := m) (l2 := l2) ho hx hb hd ?_
  intro a7 c7 h7 t7 ho7 ht7 hd7 hk7 how7
  refine hK a7 c7 h7 t7 ho7 ht7 hd7 ?_ ?_ hk7
  · intro b o hb
    have hbt := hd0 b o hb
    rw [hk7 b (by omega) (fun e => by have := hw b e; omega)]
    exact hs b o hb
  · intro b hb
    rcases how7 with e | ⟨b', e, hb'⟩
    · exact hw b (by rw [← e]; exact hb)
    · rw [e] at hb; cases hb; omega
/-- A list that is made anew, beside the old heap. -/
theorem app_new {h : Heap} {t : Nat} {xa : Option Addr} {m xc : Nat} {l2 : List ByteArray} {ty : TypeId} (hd : Dom h t) (hx : Sl h xa m Value.string l2) (hb : m ≤ 1000000000) {K : Value → Heap → Nat → Prop}
    (hK : ∀ a' c' h' t', Own h' 9 a' m c' Value.string l2 → t ≤ t' → Dom h' t' → Sub h h' → (∀ b, owner a' = some b → t ≤ b) → K (.slice a' m c') h' t') :
    AppVC Try.prog #[24, 24] ty (.slice none 0 0) (.slice xa m xc) K h t := by
  refine app_more (n := 0) (l := []) hd (Nat.le_refl _) (Sub.refl _) (fun b hb => by cases hb) hd (Own.nil _ _ _) hx (by omega) ?_
  intro a' c' h' t' ho ht hd' hs hw hk
  rw [Nat.zero_add, List.nil_append] at ho
  rw [Nat.zero_add]
  exact hK a' c' h' t' ho ht hd' hs hw
theorem rt_bd {l : List ByteArray} (h : ∀ x ∈ l, x.size ≤ 274877906944) : (rt ndB emB l).size ≤ 274877906944 := rt_size ndB emB (nd_le _ (by decide)) (by rw [emB_size]; decide) _ l rfl h
theorem listL_bd (s : ByteArray) (n : Nat) : ∀ x ∈ listL s n, x.size ≤ 274877906944 := fun x hx => by rw [listL_size _ _ _ hx]; decide
theorem listL_get {s : ByteArray} {n i : Nat} (h : i < n) : (listL s n)[i]? = some (lel s i) := by unfold listL; simp [h]
theorem listL_take (s : ByteArray) {m n : Nat} (h : m ≤ n) : (listL s n).take m = listL s m := by
  unfold listL
  rw [← List.map_take, List.take_range, Nat.min_eq_left h]
theorem inc_bd : ∀ {l : List ByteArray} {i : Nat}, (∀ x ∈ l, x.size ≤ 274877906944) → ∀ x ∈ inc ndB emB l i, x.size ≤ 274877906944 := by
  have key : ∀ (n : Nat) (l : List ByteArray) (i : Nat), l.length = n → (∀ x ∈ l, x.size ≤ 274877906944) → ∀ x ∈ inc ndB emB l i, x.size ≤ 274877906944 := by
    intro n
    induction n using Nat.strongRecOn with
    | ind n ih =>
      intro l i hl h x hx
      by_cases h2 : l.length < 2
      · rw [inc_one ndB emB h2] at hx; cases hx
      · have h3 := sp_lt (n := l.length) (by omega)
        have h4 := sp_pos l.length
        by_cases hi : i < sp l.length
        · rw [inc_lt ndB emB (by omega) hi] at hx
          rcases List.mem_append.1 hx with hx | hx
          · exact ih (l.take (sp l.length)).length (by rw [List.length_take]; omega) _ _ rfl (fun y hy => h y (List.mem_of_mem_take hy)) x hx
          · rw [List.mem_singleton.1 hx]; exact rt_bd (fun y hy => h y (List.mem_of_mem_drop hy))
        · rw [inc_ge ndB emB (by omega) hi] at hx
          rcases List.mem_append.1 hx with hx | hx
          · exact ih (l.drop (sp l.length)).length (by rw [List.length_drop]; omega) _ _ rfl (fun y hy => h y (List.mem_of_mem_drop hy)) x hx
          · rw [List.mem_singleton.1 hx]; exact rt_bd (fun y hy => h y (List.mem_of_mem_take hy))
  intro l i h
  exact key _ l i rfl h
theorem con_bd : ∀ {l : List ByteArray} {m : Nat} {w : Bool}, (∀ x ∈ l, x.size ≤ 274877906944) → ∀ x ∈ con ndB emB l m w, x.size ≤ 274877906944 := by
  have key : ∀ (n : Nat) (l : List ByteArray) (m : Nat) (w : Bool), l.length = n → (∀ x ∈ l, x.size ≤ 274877906944) → ∀ x ∈ con ndB emB l m w, x.size ≤ 274877906944 := by
    intro n
    induction n using Nat.strongRecOn with
    | ind n ih =>
      intro l m w hl h x hx
      by_cases hm : l.length ≤ m
      · rw [con_ge ndB emB hm] at hx
        cases w with
        | true => cases hx
        | false => rw [List.mem_singleton.1 hx]; exact rt_bd h
      · by_cases h2 : l.length < 2
        · rw [con, dif_neg hm, dif_pos h2] at hx; cases hx
        · have h3 := sp_lt (n := l.length) (by omega)
          have h4 := sp_pos l.length
          by_cases hi : m ≤ sp l.length
          · rw [con_lo ndB emB (by omega) (by omega) hi] at hx
            rcases List.mem_append.1 hx with hx | hx
            · exact ih (l.take (sp l.length)).length (by rw [List.length_take]; omega) _ _ _ rfl (fun y hy => h y (List.mem_of_mem_take hy)) x hx
            · rw [List.mem_singleton.1 hx]; exact rt_bd (fun y hy => h y (List.mem_of_mem_drop hy))
          · rw [con_hi ndB emB (by omega) (by omega) hi] at hx
            rcases List.mem_append.1 hx with hx | hx
            · exact ih (l.drop (sp l.length)).length (by rw [List.length_drop]; omega) _ _ _ rfl (fun y hy => h y (List.mem_of_mem_drop hy)) x hx
            · rw [List.mem_singleton.1 hx]; exact rt_bd (fun y hy => h y (List.mem_of_mem_take hy))
  intro l m w h
  exact key _ l m w rfl h
end Go.Proofs.Ytmlcdkckedjdjaa
