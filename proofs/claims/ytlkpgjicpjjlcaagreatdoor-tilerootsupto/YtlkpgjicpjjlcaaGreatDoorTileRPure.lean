import Derived.Test.YtlkpgjicpjjlcaaGreatDoorTileEx
/- A path's parts, in plain words. -/
set_option linter.unusedSimpArgs false
set_option linter.unusedVariables false
namespace Go.Tile
open Go Go.Vc
def splitS : List UInt8 → List (List UInt8)
  | [] => [[]]
  | x :: xs => if x = 47 then [] :: splitS xs else match splitS xs with
    | [] => [[x]]
    | p :: r => (x :: p) :: r
theorem split_ne (l : List UInt8) : splitS l ≠ [] := by
  cases l with
  | nil => simp [splitS]
  | cons x xs =>
    rw [splitS]
    split
    · simp
    · split <;> simp
theorem split_no : ∀ {a : List UInt8}, (∀ x ∈ a, x ≠ 47) → splitS a = [a]
  | [], _ => rfl
  | x :: a, h => by
    rw [splitS, if_neg (h x List.mem_cons_self), split_no (fun y hy => h y (List.mem_cons_of_mem _ hy))]
theorem split_at : ∀ {a b : List UInt8}, (∀ x ∈ a, x ≠ 47) → splitS (a ++ 47 :: b) = a :: splitS b
  | [], b, _ => by
    show splitS (47 :: b) = _
    rw [splitS, if_pos rfl]
  | x :: a, b, h => by
    show splitS (x :: (a ++ 47 :: b)) = _
    rw [splitS, if_neg (h x List.mem_cons_self), split_at (fun y hy => h y (List.mem_cons_of_mem _ hy))]
theorem split_len : ∀ (l : List UInt8), (splitS l).length ≤ l.length + 1
  | [] => Nat.le_refl _
  | x :: xs => by
    have ih := split_len xs
    rw [splitS]
    split
    · simp; omega
    · split
      · simp
      · rename_i h
        rw [h] at ih
        simp at ih ⊢
        omega
theorem split_mem : ∀ {l : List UInt8} {p : List UInt8}, p ∈ splitS l → p.length ≤ l.length
  | [], p, h => by
    rw [splitS, List.mem_singleton] at h
    subst h; exact Nat.le_refl _
  | x :: xs, p, h => by
    rw [splitS] at h
    split at h
    · rcases List.mem_cons.1 h with rfl | h
      · exact Nat.zero_le _
      · have := split_mem h; simp; omega
    · split at h
      · rename_i he
        exact absurd he (split_ne _)
      · rename_i q r he
        rcases List.mem_cons.1 h with rfl | h
        · have : q ∈ splitS xs := by rw [he]; exact List.mem_cons_self
          have := split_mem this
          simp; omega
        · have : p ∈ splitS xs := by rw [he]; exact List.mem_cons_of_mem _ h
          have := split_mem this
          simp; omega
def isD (x : UInt8) : Bool := decide (48 ≤ x.toNat) && decide (x.toNat ≤ 57)
def dgs (q : List (List UInt8)) : List UInt8 := q.flatMap fun p => p.filter isD
theorem isD_digit (m : Nat) : isD (digit m) = true := by
  unfold isD
  rw [digit_toNat]
  simp
  omega
theorem filterD_pad (w n : Nat) : (padL w n).filter isD = padL w n := by
  rw [List.filter_eq_self]
  intro x hx
  obtain ⟨m, rfl⟩ := padL_mem hx
  exact isD_digit m
theorem pad_ne47 {w n : Nat} : ∀ x ∈ padL w n, x ≠ 47 := by
  intro x hx
  obtain ⟨m, rfl⟩ := padL_mem hx
  exact digit_ne (by decide)
/-- The groups of an index. -/
def Grp (acc : List UInt8) (G : List (List UInt8)) (d : Nat) : Prop := (∀ w, splitS (acc ++ w) = G ++ splitS (padL 3 d ++ w)) ∧ (∀ p ∈ G, ∃ m, p = 120 :: padL 3 m) ∧ dgs (G ++ [padL 3 d]) = acc.filter keepB
theorem idxG_grp : ∀ {f m : Nat} {acc : ByteArray} {G : List (List UInt8)} {d : Nat}, Grp acc.data.toList G d → ∃ G' d', Grp (idxG f m acc).data.toList G' d'
  | 0, _, _, G, d, h => ⟨G, d, h⟩
  | f + 1, m, acc, G, d, h => by
    rw [idxG]
    split
    · exact ⟨G, d, h⟩
    · refine idxG_grp (G := (120 :: padL 3 m) :: G) (d := d) ?_
      obtain ⟨h1, h2, h3⟩ := h
      have e : (xB ++ threeS m ++ slB ++ acc).data.toList = (120 :: padL 3 m) ++ 47 :: acc.data.toList := by
        rw [ByteArray.data_append, ByteArray.data_append, ByteArray.data_append, Array.toList_append, Array.toList_append, Array.toList_append, threeL]
        simp [xB, slB]
      refine ⟨fun w => ?_, fun p hp => ?_, ?_⟩
      · rw [e, show ((120 :: padL 3 m) ++ 47 :: acc.data.toList) ++ w = (120 :: padL 3 m) ++ 47 :: (acc.data.toList ++ w) by simp, split_at, h1]
        · rfl
        · intro x hx
          rcases List.mem_cons.1 hx with rfl | hx
          · decide
          · exact pad_ne47 x hx
      · rcases List.mem_cons.1 hp with rfl | hp
        · exact ⟨m, rfl⟩
        · exact h2 p hp
      · rw [e]
        show dgs ((120 :: padL 3 m) :: (G ++ [padL 3 d])) = _
        unfold dgs at h3 ⊢
        rw [List.flatMap_cons, h3, List.filter_append, List.filter_cons, if_neg (by decide), filterD_pad, List.filter_cons, if_neg (by decide), filter_pad, List.filter_cons, if_neg (by decide)]
theorem idx_grp (n : Nat) : ∃ G d, Grp (idxS n).data.toList G d := by
  have h0 : Grp (threeS n).data.toList [] n := by
    unfold Grp
    refine ⟨fun w => by rw [threeL]; rfl, fun p hp => absurd hp List.not_mem_nil, ?_⟩
    unfold dgs
    simp only [List.nil_append, List.flatMap_cons, List.flatMap_nil, List.append_nil]
    rw [threeL, filterD_pad, filter_pad]
  obtain ⟨G, d, h⟩ := idxG_grp (f := 3) (m := n / 1000) h0
  rw [idxS_eq] at h
  exact ⟨G, d, h⟩
/-- A path's parts. -/
theorem path_split {lv ix wd : Int} (hR : RightC lv ix wd) : ∃ (G : List (List UInt8)) (d : Nat), splitS (pathS lv ix wd).data.toList = [116, 105, 108, 101] :: (levelS lv).data.toList :: (G ++ (if wd < 256 then [padL 3 d ++ [46, 112], numL wd.toNat] else [padL 3 d])) ∧ (∀ p ∈ G, ∃ m, p = 120 :: padL 3 m) ∧ dgs (G ++ [padL 3 d]) = (idxS ix.toNat).data.toList.filter keepB := by
  obtain ⟨G, d, h1, h2, h3⟩ := idx_grp ix.toNat
  refine ⟨G, d, ?_, h2, h3⟩
  rw [path_data, show tileB.data.toList = [116, 105, 108, 101] ++ [47] from rfl]
  rw [List.append_assoc, show ∀ (a b : List UInt8), a ++ ([47] ++ b) = a ++ 47 :: b from fun _ _ => rfl, split_at (by decide)]
  rw [List.append_assoc, show ∀ (a b : List UInt8), a ++ ([47] ++ b) = a ++ 47 :: b from fun _ _ => rfl, split_at level_no, h1]
  congr 3
  unfold widthS
  split
  · rw [ByteArray.data_append, Array.toList_append, show ppB.data.toList = [46, 112] ++ [47] from rfl, ← List.append_assoc, ← List.append_assoc, List.append_assoc _ [47], show ∀ (a b : List UInt8), a ++ ([47] ++ b) = a ++ 47 :: b from fun _ _ => rfl, split_at, split_no]
    · rfl
    · intro x hx
      obtain ⟨k, rfl⟩ := numR_mem hx
      exact digit_ne (by decide)
    · intro x hx
      rcases List.mem_append.1 hx with hx | hx
      · exact pad_ne47 x hx
      · have : x = 46 ∨ x = 112 := by simpa using hx
        rcases this with rfl | rfl <;> decide
  · rw [show ByteArray.empty.data.toList = [] from rfl, List.append_nil, split_no pad_ne47]
theorem trim_cons {x : UInt8} {l : List UInt8} (h : x ≠ 48) : Lib.trimLeftB (x :: l) 48 = x :: l := by
  unfold Lib.trimLeftB
  rw [List.dropWhile_cons, if_neg (by simpa using h)]
theorem trim_zero {l : List UInt8} : Lib.trimLeftB (48 :: l) 48 = Lib.trimLeftB l 48 := by
  unfold Lib.trimLeftB
  rw [List.dropWhile_cons, if_pos (by rfl)]
/-- What is left when the zeros are cut off. -/
theorem trim_end {cur : List UInt8} {ix : Int} (h0 : 0 ≤ ix) (hne : cur ≠ []) (ht : Lib.trimLeftB cur 48 = (if ix = 0 then [] else numL ix.toNat)) (hend : cur.length ≤ 1 ∨ ∀ x, cur.head? = some x → x ≠ 48) : cur = numL ix.toNat := by
  match cur, hne with
  | x :: r, _ =>
    by_cases hx : x = 48
    · subst hx
      rcases hend with h | h
      · have hr : r = [] := by
          cases r with
          | nil => rfl
          | cons => simp at h
        subst hr
        by_cases hi : ix = 0
        · subst hi; rfl
        · rw [if_neg hi] at ht
          have : Lib.trimLeftB [48] 48 = [] := rfl
          rw [this] at ht
          have := numR_pos (f := 19) (n := ix.toNat)
          unfold numL at ht
          rw [← ht] at this
          simp at this
      · exact absurd rfl (h 48 rfl)
    · rw [trim_cons hx] at ht
      by_cases hi : ix = 0
      · rw [if_pos hi] at ht; cases ht
      · rw [if_neg hi] at ht; exact ht
end Go.Tile
