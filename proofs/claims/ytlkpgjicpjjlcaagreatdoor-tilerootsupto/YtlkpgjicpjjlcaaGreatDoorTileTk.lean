import Derived.Test.YtlkpgjicpjjlcaaGreatDoorTileReplace
/- A tile out of its path. -/
set_option linter.unusedVariables false
set_option linter.unusedSimpArgs false
namespace Go.Tile
open Go Go.Vc
def TkL (l1 : List UInt8) (b1 : Bool) (lvv : Int) (ok : Bool) : Prop := ∀ lv : Int, -1 ≤ lv → lv < 4 → l1 = (levelS lv).data.toList → b1 = true → lvv = lv ∧ ok = true
def TkW (w1 : List UInt8) (b2 ok1 : Bool) (wdv : Int) (ok2 : Bool) : Prop := ∀ wd : Int, 1 ≤ wd → wd ≤ 256 → b2 = decide (wd < 256) → w1 = (if wd < 256 then numL wd.toNat else []) → ok1 = true → wdv = wd ∧ ok2 = true
def TkI (i1 : List UInt8) (n : Int) (is : Bool) : Prop := ∀ ix : Int, 0 ≤ ix → ix ≤ 4194304 → Lib.trimLeftB (keptL i1) 48 = (if ix = 0 then [] else numL ix.toNat) → n = ix ∧ is = true
theorem take_good {s : ByteArray} {l1 l2 i1 w1 : List UInt8} {b1 b2 ok1 ok2 is : Bool} {lvv wdv n : Int} (h1 : Lib.cut (Lib.trimPrefix s.data.toList tileB.data.toList) [47] = (l1, l2, b1)) (h2 : Lib.cut l2 ppB.data.toList = (i1, w1, b2))
    (hL : TkL l1 b1 lvv ok1) (hW : TkW w1 b2 ok1 wdv ok2) (hI : TkI i1 n is) {lv ix wd : Int} (hR : RightC lv ix wd) (he : pathS lv ix wd = s) : lvv = lv ∧ n = ix ∧ wdv = wd ∧ ok2 = true ∧ is = true := by
  obtain ⟨p1, p2, p3, p4⟩ := path_parts hR (s := s.data.toList) (by rw [he])
  rw [h1] at p2
  obtain ⟨e1, e2, e3⟩ := Prod.mk.inj p2 |>.imp id Prod.mk.inj
  rw [e2, p3] at h2
  obtain ⟨e4, e5, e6⟩ := Prod.mk.inj h2 |>.imp id Prod.mk.inj
  obtain ⟨r1, r2, r3, r4, r5, r6⟩ := hR
  obtain ⟨a1, a2⟩ := hL lv r1 r2 e1 e3
  obtain ⟨a3, a4⟩ := hW wd r5 r6 e6.symm e5.symm a2
  obtain ⟨a5, a6⟩ := hI ix r3 r4 (by rw [← e4]; exact p4)
  exact ⟨a1, a5, a3, a4, a6⟩
theorem take_nopre {s : ByteArray} (h : Lib.hasPrefix s.data.toList tileB.data.toList = false) {lv ix wd : Int} (hR : RightC lv ix wd) : pathS lv ix wd ≠ s := by
  intro he
  have := (path_parts hR (s := s.data.toList) (by rw [he])).1
  rw [h] at this
  cases this
theorem level_data {lv : Int} (h : (levelS lv).data.toList = dataB.data.toList) : lv < 0 := by
  apply Classical.byContradiction
  intro hc
  have h1 := level_inj' (lv := lv) (by omega) h
  exact h1
theorem tkL_data {b1 : Bool} {l1 : List UInt8} (h : l1 = dataB.data.toList) : TkL l1 b1 (-1) b1 := by
  intro lv h0 h1 e hb
  have := level_data (lv := lv) (by rw [← e, h])
  exact ⟨by omega, hb⟩
theorem ba_eq {a b : ByteArray} (h : a.data.toList = b.data.toList) : a = b := by
  apply ByteArray.ext
  exact Array.toList_inj.1 h
theorem tkL_num {l1 : List UInt8} {n : Int} {is : Bool} (hne : ¬ (⟨l1.toArray⟩ : ByteArray) = dataB) (h : ∀ k : Nat, k ≤ 2 ^ 62 → (⟨l1.toArray⟩ : ByteArray) = numS k → n = k ∧ is = true) : TkL l1 true n is := by
  intro lv h0 h1 e _
  by_cases hl : 0 ≤ lv
  · have e2 : (⟨l1.toArray⟩ : ByteArray) = numS lv.toNat := by
      apply ba_eq
      rw [show (⟨l1.toArray⟩ : ByteArray).data.toList = l1 from rfl, e]
      unfold levelS
      rw [if_pos hl]
    obtain ⟨a, b⟩ := h lv.toNat (by omega) e2
    exact ⟨by omega, b⟩
  · exfalso
    apply hne
    apply ba_eq
    rw [show (⟨l1.toArray⟩ : ByteArray).data.toList = l1 from rfl, e]
    unfold levelS
    rw [if_neg hl]
theorem tkL_no {l1 : List UInt8} {n : Int} {ok : Bool} : TkL l1 false n ok := fun _ _ _ _ h => by cases h
theorem tkW_none {w1 : List UInt8} {ok : Bool} : TkW w1 false ok 256 ok := by
  intro wd h0 h1 hb _ ho
  have := of_decide_eq_false hb.symm
  exact ⟨by omega, ho⟩
theorem tkW_num {w1 : List UInt8} {n : Int} {is : Bool} (h : ∀ k : Nat, k ≤ 2 ^ 62 → (⟨w1.toArray⟩ : ByteArray) = numS k → n = k ∧ is = true) : TkW w1 true true n is := by
  intro wd h0 h1 hb hw _
  have hlt := of_decide_eq_true hb.symm
  rw [if_pos hlt] at hw
  obtain ⟨a, b⟩ := h wd.toNat (by omega) (by rw [hw]; rfl)
  exact ⟨by omega, b⟩
theorem tkW_no {w1 : List UInt8} {b : Bool} {n : Int} {ok : Bool} : TkW w1 b false n ok := fun _ _ _ _ _ h => by cases h
theorem numL_ne (n : Nat) : numL n ≠ [] := fun hn => by
  have := numR_pos (f := 19) (n := n)
  unfold numL at hn
  rw [hn] at this
  simp at this
theorem tkI_zero {i1 : List UInt8} {n : Int} {is : Bool} (hz : Lib.trimLeftB (keptL i1) 48 = []) (h : ∀ k : Nat, k ≤ 2 ^ 62 → (⟨#[48]⟩ : ByteArray) = numS k → n = k ∧ is = true) : TkI i1 n is := by
  intro ix h0 h1 hd
  rw [hz] at hd
  have hx : ix = 0 := by
    apply Classical.byContradiction
    intro hc
    rw [if_neg hc] at hd
    exact numL_ne _ hd.symm
  subst hx
  exact h 0 (by omega) rfl
theorem tkI_num {i1 : List UInt8} {n : Int} {is : Bool} (hz : ¬ Lib.trimLeftB (keptL i1) 48 = []) (h : ∀ k : Nat, k ≤ 2 ^ 62 → (⟨(Lib.trimLeftB (keptL i1) 48).toArray⟩ : ByteArray) = numS k → n = k ∧ is = true) : TkI i1 n is := by
  intro ix h0 h1 hd
  have hx : ¬ ix = 0 := by
    intro hc
    rw [if_pos hc] at hd
    exact hz hd
  rw [if_neg hx] at hd
  obtain ⟨a, b⟩ := h ix.toNat (by omega) (by rw [hd]; rfl)
  exact ⟨by omega, b⟩
theorem cut_len {s p : List UInt8} : (Lib.cut s p).1.length ≤ s.length ∧ (Lib.cut s p).2.1.length ≤ s.length := by
  unfold Lib.cut
  split
  · exact ⟨by rw [List.length_take]; omega, by rw [List.length_drop]; omega⟩
  · exact ⟨Nat.le_refl _, Nat.zero_le _⟩
theorem trimPrefix_len {s p : List UInt8} : (Lib.trimPrefix s p).length ≤ s.length := by
  unfold Lib.trimPrefix
  split
  · rw [List.length_drop]; omega
  · exact Nat.le_refl _
theorem trimLeft_len {s : List UInt8} {c : UInt8} : (Lib.trimLeftB s c).length ≤ s.length := by
  unfold Lib.trimLeftB
  exact (List.dropWhile_sublist _).length_le
theorem mk_size (l : List UInt8) : (⟨l.toArray⟩ : ByteArray).size = l.length := by simp [ByteArray.size]
theorem take_no {s : ByteArray} {lvv n wdv : Int} {ok is : Bool} (hg : ∀ lv ix wd, RightC lv ix wd → pathS lv ix wd = s → lvv = lv ∧ n = ix ∧ wdv = wd ∧ ok = true ∧ is = true) (h : ok = false ∨ is = false ∨ ¬ RightC lvv n wdv ∨ pathS lvv n wdv ≠ s) : ∀ lv ix wd, RightC lv ix wd → pathS lv ix wd ≠ s := by
  intro lv ix wd hR he
  obtain ⟨rfl, rfl, rfl, rfl, rfl⟩ := hg lv ix wd hR he
  rcases h with h | h | h | h
  · cases h
  · cases h
  · exact h hR
  · exact h he
end Go.Tile
