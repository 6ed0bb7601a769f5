/- What the document takes of a path, in plain words. -/
import Derived.Test.YtlkpgjicpjjlcaaGreatDoorTileRParts
set_option linter.unusedSimpArgs false
set_option linter.unusedVariables false
namespace Go.Tile
open Go Go.Vc
def isP (p : List UInt8) : Prop := 2 < p.length ∧ p.drop (p.length - 2) = [46, 112]
theorem rt_parts {s : ByteArray} {lv ix wd : Int} (hR : RightC lv ix wd) (he : pathS lv ix wd = s) : ∃ (G : List (List UInt8)) (d : Nat), splitS s.data.toList = [116, 105, 108, 101] :: (levelS lv).data.toList :: (G ++ (if wd < 256 then [padL 3 d ++ [46, 112], numL wd.toNat] else [padL 3 d])) ∧ (∀ p ∈ G, ∃ m, p = 120 :: padL 3 m) ∧ dgs (G ++ [padL 3 d]) = (idxS ix.toNat).data.toList.filter keepB := by
  subst he
  exact path_split hR
def GoodT (s : ByteArray) (i : Nat) (D : List UInt8) (w : Int) : Prop := ∀ lv ix wd, RightC lv ix wd → pathS lv ix wd = s →
  (i < (splitS s.data.toList).length ∧ (wd < 256 → i + 2 ≤ (splitS s.data.toList).length) ∧ D = dgs (((splitS s.data.toList).take i).drop 2) ∧ w = 256) ∨ (i = (splitS s.data.toList).length ∧ D = (idxS ix.toNat).data.toList.filter keepB ∧ w = wd)
theorem rt_few {s : ByteArray} (h : (splitS s.data.toList).length < 3) {lv ix wd : Int} (hR : RightC lv ix wd) : pathS lv ix wd ≠ s := by
  intro he
  obtain ⟨G, d, hK, _, _⟩ := rt_parts hR he
  rw [hK] at h
  split at h <;> (simp at h; omega)
theorem good_start {s : ByteArray} : GoodT s 2 [] 256 := by
  intro lv ix wd hR he
  obtain ⟨G, d, hK, _, _⟩ := rt_parts hR he
  left
  rw [hK]
  refine ⟨?_, ?_, rfl, rfl⟩
  · split <;> (simp; try omega)
  · intro hw
    rw [if_pos hw]
    simp
theorem dgs_app (a b : List (List UInt8)) : dgs (a ++ b) = dgs a ++ dgs b := by
  unfold dgs
  rw [List.flatMap_append]
theorem dgs_one (p : List UInt8) : dgs [p] = p.filter isD := by
  unfold dgs
  simp
theorem dgs_take {K : List (List UInt8)} {i : Nat} {p : List UInt8} (h2 : 2 ≤ i) (hp : K[i]? = some p) : dgs ((K.take (i + 1)).drop 2) = dgs ((K.take i).drop 2) ++ p.filter isD := by
  obtain ⟨hi, rfl⟩ := List.getElem?_eq_some_iff.1 hp
  rw [List.take_succ_eq_append_getElem hi, List.drop_append_of_le_length (by rw [List.length_take]; omega), dgs_app, dgs_one]
theorem good_step {s : ByteArray} {i : Nat} {D p : List UInt8} {w : Int} (h2 : 2 ≤ i) (hp : (splitS s.data.toList)[i]? = some p) (hno : ¬ (isP p ∧ i + 2 = (splitS s.data.toList).length)) (hg : GoodT s i D w) : GoodT s (i + 1) (D ++ p.filter isD) w := by
  intro lv ix wd hR he
  obtain ⟨G, d, hK, hG, hD⟩ := rt_parts hR he
  have hi := (List.getElem?_eq_some_iff.1 hp).1
  have hg := hg lv ix wd hR he
  have hd := dgs_take h2 hp
  generalize hKK : splitS s.data.toList = K at *
  rcases hg with ⟨_, c2, c3, c4⟩ | ⟨c1, _⟩
  · rw [c3, ← hd]
    by_cases hw : wd < 256
    · have c2 := c2 hw
      rw [if_pos hw] at hK
      have hne : i + 2 ≠ K.length := by
        intro e
        apply hno
        refine ⟨?_, e⟩
        obtain ⟨j, rfl⟩ : ∃ j, i = j + 2 := ⟨i - 2, by omega⟩
        have hj : j = G.length := by rw [hK] at e; simp at e; omega
        have hq : K[j + 2]? = some (padL 3 d ++ [46, 112]) := by
          rw [hK, hj]
          show (G ++ _)[G.length]? = _
          simp
        obtain rfl := Option.some.inj (hp.symm.trans hq)
        exact ⟨by simp [padL], rfl⟩
      exact .inl ⟨by omega, fun _ => by omega, rfl, c4⟩
    · rw [if_neg hw] at hK
      by_cases hl : i + 1 < K.length
      · exact .inl ⟨hl, fun h => absurd h hw, rfl, c4⟩
      · refine .inr ⟨by omega, ?_, ?_⟩
        · rw [List.take_of_length_le (by omega), hK, ← hD]
          rfl
        · unfold RightC at hR
          omega
  · omega
theorem digit46 {m : Nat} : digit m ≠ 46 := digit_ne (by decide)
theorem good_p {s : ByteArray} {i : Nat} {D p q : List UInt8} {w n : Int} {ok : Bool} (h2 : 2 ≤ i) (hp : (splitS s.data.toList)[i]? = some p) (hq : (splitS s.data.toList)[i + 1]? = some q) (hP : isP p) (hl : i + 2 = (splitS s.data.toList).length) (hg : GoodT s i D w)
    (hk : ∀ k : Nat, k ≤ 2 ^ 62 → mkB q = numS k → n = k ∧ ok = true) {lv ix wd : Int} (hR : RightC lv ix wd) (he : pathS lv ix wd = s) : D ++ (p.take (p.length - 2)).filter isD = (idxS ix.toNat).data.toList.filter keepB ∧ n = wd ∧ ok = true := by
  obtain ⟨G, d, hK, hG, hD⟩ := rt_parts hR he
  have hg := hg lv ix wd hR he
  generalize hKK : splitS s.data.toList = K at *
  obtain ⟨j, rfl⟩ : ∃ j, i = j + 2 := ⟨i - 2, by omega⟩
  rcases hg with ⟨_, c2, c3, c4⟩ | ⟨c1, _⟩
  · by_cases hw : wd < 256
    · rw [if_pos hw] at hK
      have hj : j = G.length := by rw [hK] at hl; simp at hl; omega
      subst hj
      have hp2 : K[G.length + 2]? = some (padL 3 d ++ [46, 112]) := by
        rw [hK]
        show (G ++ _)[G.length]? = _
        simp
      have hq2 : K[G.length + 2 + 1]? = some (numL wd.toNat) := by
        rw [hK]
        show (G ++ _)[G.length + 1]? = _
        simp
      obtain rfl := Option.some.inj (hp.symm.trans hp2)
      obtain rfl := Option.some.inj (hq.symm.trans hq2)
      have hw' := hR
      unfold RightC at hw'
      obtain ⟨e1, e2⟩ := hk wd.toNat (by omega) rfl
      refine ⟨?_, by omega, e2⟩
      rw [← hD, dgs_app, dgs_one, c3, hK]
      congr 2
      · show List.take G.length (G ++ _) = _
        rw [List.take_left' rfl]
    · exfalso
      rw [if_neg hw] at hK
      have hj : j + 1 = G.length := by rw [hK] at hl; simp at hl; omega
      have hjl : j < G.length := by omega
      have hp2 : K[j + 2]? = some G[j] := by
        rw [hK]
        show (G ++ _)[j]? = _
        rw [List.getElem?_append_left hjl, List.getElem?_eq_getElem hjl]
      obtain rfl := Option.some.inj (hp.symm.trans hp2)
      obtain ⟨m, hm⟩ := hG _ (List.getElem_mem hjl)
      rw [hm] at hP
      have h3 : [digit (m / 10), digit m] = [46, 112] := hP.2
      exact digit46 (List.cons.inj h3).1
  · omega
theorem good_end {s : ByteArray} {D cur : List UInt8} {w n : Int} {ok : Bool} (hg : GoodT s (splitS s.data.toList).length D w) (hne : D ≠ [] → cur ≠ []) (ht : Lib.trimLeftB cur 48 = Lib.trimLeftB D 48) (hend : cur.length ≤ 1 ∨ ∀ x, cur.head? = some x → x ≠ 48)
    (hk : ∀ k : Nat, k ≤ 2 ^ 62 → mkB cur = numS k → n = k ∧ ok = true) {lv ix wd : Int} (hR : RightC lv ix wd) (he : pathS lv ix wd = s) : n = ix ∧ w = wd ∧ ok = true := by
  obtain ⟨G, d, hK, hG, hD⟩ := rt_parts hR he
  rcases hg lv ix wd hR he with ⟨c1, _⟩ | ⟨_, c2, c3⟩
  · omega
  · have p4 := (path_parts hR (s := s.data.toList) (by rw [he])).2.2.2
    have hn : D ≠ [] := by
      rw [c2, ← hD, dgs_app, dgs_one, filterD_pad]
      simp [padL]
    have hR' := hR
    unfold RightC at hR'
    rw [c2, p4] at ht
    have := trim_end hR'.2.2.1 (hne hn) ht hend
    obtain ⟨e1, e2⟩ := hk ix.toNat (by omega) (by rw [this]; rfl)
    exact ⟨by omega, c3, e2⟩
theorem rt_level {s : ByteArray} {q : List UInt8} {lvv : Int} {ok : Bool} (hq : (splitS s.data.toList)[1]? = some q) (hT : TkL q true lvv ok) {lv ix wd : Int} (hR : RightC lv ix wd) (he : pathS lv ix wd = s) : lvv = lv ∧ ok = true := by
  obtain ⟨G, d, hK, hG, hD⟩ := rt_parts hR he
  rw [hK] at hq
  obtain rfl := Option.some.inj hq
  unfold RightC at hR
  exact hT lv (by omega) (by omega) rfl rfl
theorem take_dig {pp : List UInt8} {k : Nat} (hk : k < pp.length) : (pp.take (k + 1)).filter isD = (pp.take k).filter isD ++ (if isD pp[k] then [pp[k]] else []) := by
  rw [List.take_succ_eq_append_getElem hk, List.filter_append, List.filter_cons]
  rfl
theorem take_dig_t {D pp : List UInt8} {k : Nat} (hk : k < pp.length) (h1 : 48 ≤ (pp[k]).toNat) (h2 : (pp[k]).toNat ≤ 57) : mkB (D ++ (pp.take k).filter isD) ++ (mkB pp).extract k (k + 1) = mkB (D ++ (pp.take (k + 1)).filter isD) := by
  rw [take_dig hk, if_pos (by unfold isD; simp [h1, h2])]
  apply ba_eq
  show _ = D ++ ((pp.take k).filter isD ++ [pp[k]])
  rw [ByteArray.data_append, Array.toList_append, ext_mk (by omega) (by show k + 1 ≤ pp.length; omega)]
  show (D ++ (pp.take k).filter isD) ++ (pp.drop k).take (k + 1 - k) = _
  rw [Nat.add_sub_cancel_left, List.drop_eq_getElem_cons hk, List.append_assoc]
  rfl
theorem take_dig_f {D pp : List UInt8} {k : Nat} (hk : k < pp.length) (h : (pp[k]).toNat < 48 ∨ 57 < (pp[k]).toNat) : mkB (D ++ (pp.take k).filter isD) = mkB (D ++ (pp.take (k + 1)).filter isD) := by
  rw [take_dig hk, if_neg (by unfold isD; simp; omega), List.append_nil]
theorem isP_mk {p : List UInt8} (h : 2 < p.length) : (mkB p).extract (p.length - 2) p.length = ⟨#[46, 112]⟩ ↔ isP p := by
  rw [ext_mk (s := mkB p) (by omega) (show p.length ≤ (mkB p).size from Nat.le_refl _)]
  show mkB ((p.drop (p.length - 2)).take _) = _ ↔ _
  rw [List.take_of_length_le (by rw [List.length_drop]; omega)]
  unfold isP
  constructor
  · intro e
    exact ⟨h, congrArg (fun x : ByteArray => x.data.toList) e⟩
  · rintro ⟨_, e⟩
    rw [e]
    rfl
theorem mk_front {p : List UInt8} : (mkB p).extract 0 (p.length - 2) = mkB (p.take (p.length - 2)) := by
  rw [ext_mk (Nat.zero_le _) (by show _ ≤ p.length; omega)]
  rfl
theorem mk_tail {x : UInt8} {r : List UInt8} : (mkB (x :: r)).extract 1 (mkB (x :: r)).size = mkB r := by
  rw [ext_mk (by show 1 ≤ (x :: r).length; simp) (Nat.le_refl _)]
  show mkB ((r.drop 0).take r.length) = _
  rw [List.drop_zero, List.take_length]
end Go.Tile
