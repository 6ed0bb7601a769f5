import Derived.Test.YtlkpgjicpjjlcaaGreatDoorTilePath
import Derived.Lib.CutLaws
import Derived.Lib.TrimByte
import Derived.Lib.Strings
/- What stands in a path, by its parts. -/
set_option linter.unusedVariables false
set_option linter.unusedSimpArgs false
namespace Go.Tile
open Go
theorem digit_eq {a b : Nat} (h : a % 10 = b % 10) : digit a = digit b := by unfold digit; rw [h]
theorem digit_toNat (m : Nat) : (digit m).toNat = 48 + m % 10 := by
  unfold digit
  rw [UInt8.toNat_ofNat']
  omega
theorem digit_ne {m : Nat} {c : UInt8} (hc : c.toNat < 48 ∨ 57 < c.toNat) : digit m ≠ c := by
  intro h
  have := congrArg UInt8.toNat h
  rw [digit_toNat] at this
  omega
def padL : Nat → Nat → List UInt8
  | 0, _ => []
  | w + 1, n => padL w (n / 10) ++ [digit n]
theorem padL_add (a : Nat) : ∀ (b n : Nat), padL a (n / 10 ^ b) ++ padL b n = padL (a + b) n
  | 0, n => by rw [Nat.pow_zero, Nat.div_one, padL, List.append_nil]; rfl
  | b + 1, n => by
    rw [padL, ← List.append_assoc, Nat.pow_succ, Nat.mul_comm, ← Nat.div_div_eq_div_mul, padL_add a b (n / 10)]
    rfl
theorem padL_mem {w n : Nat} {x : UInt8} (h : x ∈ padL w n) : ∃ m, x = digit m := by
  induction w generalizing n with
  | zero => cases h
  | succ w ih =>
    rw [padL, List.mem_append] at h
    rcases h with h | h
    · exact ih h
    · exact ⟨n, by simpa using h⟩
theorem numR_mem {f n : Nat} {x : UInt8} (h : x ∈ numR f n) : ∃ m, x = digit m := by
  induction f generalizing n with
  | zero => cases h
  | succ f ih =>
    rw [numR] at h
    split at h
    · exact ⟨n, by simpa using h⟩
    · rw [List.mem_append] at h
      rcases h with h | h
      · exact ih h
      · exact ⟨n, by simpa using h⟩
theorem padL_drop : ∀ (w f n : Nat), n < 10 ^ w → n < 10 ^ f → Lib.trimLeftB (padL w n) 48 = if n = 0 then [] else numR f n
  | 0, f, n, hw, _ => by
    rw [Nat.pow_zero] at hw
    obtain rfl : n = 0 := by omega
    rfl
  | w + 1, f, n, hw, hf => by
    have ih := padL_drop w (f - 1) (n / 10) (by rw [Nat.pow_succ] at hw; omega)
    unfold Lib.trimLeftB at ih ⊢
    rw [padL, List.dropWhile_append]
    cases f with
    | zero =>
      rw [Nat.pow_zero] at hf
      obtain rfl : n = 0 := by omega
      rw [ih (by simp)]
      rfl
    | succ f =>
      rw [ih (by rw [Nat.pow_succ] at hf; simp; omega)]
      by_cases h0 : n / 10 = 0
      · rw [if_pos h0]
        show (if true = true then _ else _) = _
        rw [if_pos rfl]
        by_cases hn : n = 0
        · subst hn; rfl
        · rw [if_neg hn, numR, if_pos (by omega), List.dropWhile_cons, if_neg]
          rw [beq_iff_eq]
          intro h
          have := congrArg UInt8.toNat h
          rw [digit_toNat] at this
          simp at this
          omega
      · rw [if_neg h0]
        have hne : (numR (f + 1 - 1) (n / 10)).isEmpty = false := by
          cases f with
          | zero => rw [Nat.pow_succ, Nat.pow_zero] at hf; omega
          | succ f =>
            show (numR (f + 1) _).isEmpty = false
            rw [numR]
            split <;> simp
        rw [hne, if_neg (by simp), if_neg (by omega), numR, if_neg (by omega)]
        rfl
def digV (l : List UInt8) : Nat := l.foldl (fun a x => a * 10 + (x.toNat - 48)) 0
theorem digV_app (l : List UInt8) (x : UInt8) : digV (l ++ [x]) = digV l * 10 + (x.toNat - 48) := by
  unfold digV
  rw [List.foldl_append]
  rfl
theorem digV_numR : ∀ {f n : Nat}, n < 10 ^ f → digV (numR f n) = n
  | 0, n, h => by rw [Nat.pow_zero] at h; obtain rfl : n = 0 := by omega
                  rfl
  | f + 1, n, h => by
    rw [numR]
    split
    · rw [show [digit n] = [] ++ [digit n] from rfl, digV_app, digit_toNat]
      show 0 * 10 + _ = _
      omega
    · rw [digV_app, digV_numR (by rw [Nat.pow_succ] at h; omega), digit_toNat]
      omega
theorem numL_inj {m n : Nat} (hm : m ≤ 2 ^ 62) (hn : n ≤ 2 ^ 62) (h : numL m = numL n) : m = n := by
  have a := digV_numR (f := 20) (n := m) (Nat.lt_of_le_of_lt hm (by decide))
  have b := digV_numR (f := 20) (n := n) (Nat.lt_of_le_of_lt hn (by decide))
  unfold numL at h
  rw [h] at a
  omega
theorem index_hit {c : UInt8} {sep : List UInt8} {b : List UInt8} : ∀ {a : List UInt8}, c ∉ a → Lib.index (a ++ (c :: sep) ++ b) (c :: sep) = a.length
  | [], _ => by
    show Lib.index (c :: (sep ++ b)) _ = _
    unfold Lib.index
    rw [if_pos]
    · rfl
    · rw [List.isPrefixOf_iff_prefix]
      exact ⟨b, rfl⟩
  | x :: a, h => by
    have hx : ¬ c = x := fun e => h (by rw [e]; exact List.mem_cons_self)
    have ih := index_hit (sep := sep) (b := b) (a := a) (fun e => h (List.mem_cons_of_mem _ e))
    show Lib.index (x :: (a ++ (c :: sep) ++ b)) _ = _
    unfold Lib.index
    rw [if_neg, ih, if_neg]
    · rfl
    · rw [beq_iff_eq]; omega
    · rw [List.isPrefixOf_iff_prefix]
      rintro ⟨t, ht⟩
      exact hx (by simpa using congrArg List.head? ht)
theorem index_miss {c : UInt8} {sep : List UInt8} : ∀ {a : List UInt8}, c ∉ a → Lib.index a (c :: sep) = -1
  | [], _ => rfl
  | x :: a, h => by
    have hx : ¬ c = x := fun e => h (by rw [e]; exact List.mem_cons_self)
    unfold Lib.index
    rw [if_neg, index_miss (fun e => h (List.mem_cons_of_mem _ e))]
    · rfl
    · rw [List.isPrefixOf_iff_prefix]
      rintro ⟨t, ht⟩
      exact hx (by simpa using congrArg List.head? ht)
theorem cut_hit {c : UInt8} {sep a b : List UInt8} (h : c ∉ a) : Lib.cut (a ++ (c :: sep) ++ b) (c :: sep) = (a, b, true) := by
  unfold Lib.cut
  rw [index_hit h, if_pos (by omega)]
  simp only [Int.toNat_natCast]
  rw [List.append_assoc, List.take_left', ← List.append_assoc, List.drop_left' (by simp)]
  rfl
theorem cut_miss {c : UInt8} {sep a : List UInt8} (h : c ∉ a) : Lib.cut a (c :: sep) = (a, [], false) := by
  unfold Lib.cut
  rw [index_miss h, if_neg (by omega)]
theorem threeL (n : Nat) : (threeS n).data.toList = padL 3 n := by
  obtain ⟨k, hk⟩ : ∃ k, k = 1000 + n % 1000 := ⟨_, rfl⟩
  have e : numL k = [digit (k / 10 / 10 / 10), digit (k / 10 / 10), digit (k / 10), digit k] := by
    unfold numL
    rw [numR, if_neg (by omega), numR, if_neg (by omega), numR, if_neg (by omega), numR, if_pos (by omega)]
    rfl
  have e2 : numS k = ⟨#[digit (k / 10 / 10 / 10), digit (k / 10 / 10), digit (k / 10), digit k]⟩ := by
    unfold numS
    rw [e]
  unfold threeS
  rw [← hk, e2]
  show [digit (k / 10 / 10), digit (k / 10), digit k] = [digit (n / 10 / 10), digit (n / 10), digit n]
  rw [digit_eq (a := k / 10 / 10) (b := n / 10 / 10) (by omega), digit_eq (a := k / 10) (b := n / 10) (by omega), digit_eq (a := k) (b := n) (by omega)]
/-- Which bytes of an index stay. -/
def keepB (x : UInt8) : Bool := !(x == 120 || x == 47)
theorem keep_digit (m : Nat) : keepB (digit m) = true := by
  have h1 : digit m ≠ 120 := digit_ne (by decide)
  have h2 : digit m ≠ 47 := digit_ne (by decide)
  unfold keepB
  simp [h1, h2]
theorem filter_pad (w n : Nat) : (padL w n).filter keepB = padL w n := by
  rw [List.filter_eq_self]
  intro x hx
  obtain ⟨m, rfl⟩ := padL_mem hx
  exact keep_digit m
theorem idxG_filter : ∀ {f m : Nat} {acc : ByteArray} {w n : Nat}, m = n / 10 ^ w → acc.data.toList.filter keepB = padL w n → m < 1000 ^ f → (∀ x ∈ acc.data.toList, x ≠ 46) →
    (∃ w', (idxG f m acc).data.toList.filter keepB = padL w' n ∧ n < 10 ^ w') ∧ ∀ x ∈ (idxG f m acc).data.toList, x ≠ 46
  | 0, m, acc, w, n, hm, hacc, hf, hx => by
    rw [Nat.pow_zero] at hf
    exact ⟨⟨w, hacc, by rcases Nat.lt_or_ge n (10 ^ w) with h | h
                        · exact h
                        · have := Nat.div_pos h (Nat.pow_pos (n := w) (show 0 < 10 by decide)); omega⟩, hx⟩
  | f + 1, m, acc, w, n, hm, hacc, hf, hx => by
    rw [idxG]
    split
    · rename_i h0
      exact ⟨⟨w, hacc, by rcases Nat.lt_or_ge n (10 ^ w) with h | h
                          · exact h
                          · have := Nat.div_pos h (Nat.pow_pos (n := w) (show 0 < 10 by decide)); omega⟩, hx⟩
    · refine idxG_filter (w := 3 + w) (n := n) ?_ ?_ (by rw [Nat.pow_succ] at hf; omega) ?_
      · rw [Nat.add_comm 3 w, Nat.pow_add, ← Nat.div_div_eq_div_mul, ← hm]
      · rw [ByteArray.data_append, ByteArray.data_append, ByteArray.data_append, Array.toList_append, Array.toList_append, Array.toList_append, threeL, List.filter_append, List.filter_append, List.filter_append, hacc, filter_pad, hm, ← padL_add]
        rfl
      · intro x hx'
        rw [ByteArray.data_append, ByteArray.data_append, ByteArray.data_append, Array.toList_append, Array.toList_append, Array.toList_append, threeL] at hx'
        simp only [List.mem_append] at hx'
        rcases hx' with ((h | h) | h) | h
        · have : x = 120 := by simpa [xB] using h
          subst this; decide
        · obtain ⟨k, rfl⟩ := padL_mem h
          exact digit_ne (by decide)
        · have : x = 47 := by simpa [slB] using h
          subst this; decide
        · exact hx _ h
theorem idx_digits {n : Nat} (hn : n ≤ 4194304) : Lib.trimLeftB ((idxS n).data.toList.filter keepB) 48 = (if n = 0 then [] else numL n) ∧ ∀ x ∈ (idxS n).data.toList, x ≠ 46 := by
  obtain ⟨⟨w, h1, h2⟩, h3⟩ := idxG_filter (f := 3) (m := n / 1000) (acc := threeS n) (w := 3) (n := n) (by simp) (by rw [threeL, filter_pad]) (by omega) (by
    intro x hx
    rw [threeL] at hx
    obtain ⟨k, rfl⟩ := padL_mem hx
    exact digit_ne (by decide))
  rw [idxS_eq] at h1 h3
  refine ⟨?_, h3⟩
  rw [h1, padL_drop w 20 n h2 (by omega)]
  rfl
theorem numS_data (n : Nat) : (numS n).data.toList = numL n := rfl
theorem mkL (s : ByteArray) : (⟨s.data.toList.toArray⟩ : ByteArray) = s := rfl
theorem level_no {lv : Int} : ∀ x ∈ (levelS lv).data.toList, x ≠ 47 := by
  intro x hx
  unfold levelS at hx
  split at hx
  · obtain ⟨k, rfl⟩ := numR_mem hx
    exact digit_ne (by decide)
  · have : x = 100 ∨ x = 97 ∨ x = 116 ∨ x = 97 := by simpa [dataB] using hx
    rcases this with rfl | rfl | rfl | rfl <;> decide
theorem path_data (lv ix wd : Int) : (pathS lv ix wd).data.toList = tileB.data.toList ++ ((levelS lv).data.toList ++ [47] ++ ((idxS ix.toNat).data.toList ++ (widthS wd).data.toList)) := by
  unfold pathS
  simp only [ByteArray.data_append, Array.toList_append, List.append_assoc]
  rfl
/-- What parsing a path finds, stage by stage. -/
theorem path_parts {lv ix wd : Int} (hR : RightC lv ix wd) {s : List UInt8} (hs : (pathS lv ix wd).data.toList = s) :
    Lib.hasPrefix s tileB.data.toList = true ∧ Lib.cut (Lib.trimPrefix s tileB.data.toList) [47] = ((levelS lv).data.toList, (idxS ix.toNat).data.toList ++ (widthS wd).data.toList, true)
    ∧ Lib.cut ((idxS ix.toNat).data.toList ++ (widthS wd).data.toList) ppB.data.toList = ((idxS ix.toNat).data.toList, (if wd < 256 then numL wd.toNat else []), decide (wd < 256))
    ∧ Lib.trimLeftB ((idxS ix.toNat).data.toList.filter keepB) 48 = (if ix = 0 then [] else numL ix.toNat) := by
  obtain ⟨h1, h2, h3, h4, h5, h6⟩ := hR
  obtain ⟨d1, d2⟩ := idx_digits (n := ix.toNat) (by omega)
  have hp : Lib.hasPrefix s tileB.data.toList = true := by
    rw [← hs, path_data]
    unfold Lib.hasPrefix
    rw [List.isPrefixOf_iff_prefix]
    exact ⟨_, rfl⟩
  refine ⟨hp, ?_, ?_, ?_⟩
  · unfold Lib.trimPrefix
    rw [if_pos hp, ← hs, path_data, List.drop_left' rfl]
    exact cut_hit (c := 47) (sep := []) (fun h => level_no _ h rfl)
  · unfold widthS
    by_cases hw : wd < 256
    · rw [if_pos hw, if_pos hw, decide_eq_true hw, ByteArray.data_append, Array.toList_append, ← List.append_assoc]
      exact cut_hit (c := 46) (sep := [112, 47]) (fun h => d2 _ h rfl)
    · rw [if_neg hw, if_neg hw, decide_eq_false hw, show ByteArray.empty.data.toList = [] from rfl, List.append_nil]
      exact cut_miss (c := 46) (sep := [112, 47]) (fun h => d2 _ h rfl)
  · rw [d1]
    by_cases h0 : ix = 0
    · subst h0; rfl
    · rw [if_neg h0, if_neg (by omega)]
theorem level_inj {a b : Int} (ha : -1 ≤ a ∧ a < 4) (hb : -1 ≤ b ∧ b < 4) (h : (levelS a).data.toList = (levelS b).data.toList) : a = b := by
  have key : ∀ n : Nat, numL n = dataB.data.toList → False := by
    intro n hn
    have : (100 : UInt8) ∈ numL n := by rw [hn]; decide
    obtain ⟨m, hm⟩ := numR_mem this
    exact digit_ne (m := m) (c := 100) (by decide) hm.symm
  unfold levelS at h
  split at h <;> split at h
  · have := numL_inj (by omega) (by omega) h
    omega
  · exact (key _ h).elim
  · exact (key _ h.symm).elim
  · omega
theorem level_inj' {lv : Int} (h0 : 0 ≤ lv) (h : (levelS lv).data.toList = dataB.data.toList) : False := by
  unfold levelS at h
  rw [if_pos h0] at h
  have : (100 : UInt8) ∈ numL lv.toNat := by rw [show numL lv.toNat = dataB.data.toList from h]; decide
  obtain ⟨m, hm⟩ := numR_mem this
  exact digit_ne (m := m) (c := 100) (by decide) hm.symm
theorem pathS_inj {a b c a' b' c' : Int} (h1 : RightC a b c) (h2 : RightC a' b' c') (h : pathS a b c = pathS a' b' c') : a = a' ∧ b = b' ∧ c = c' := by
  obtain ⟨p1, p2, p3, p4⟩ := path_parts h1 (s := (pathS a' b' c').data.toList) (by rw [h])
  obtain ⟨q1, q2, q3, q4⟩ := path_parts h2 rfl
  rw [p2] at q2
  obtain ⟨e1, e2, -⟩ := Prod.mk.inj q2 |>.imp id Prod.mk.inj
  rw [e2] at p3
  rw [p3] at q3
  obtain ⟨e3, e4, e5⟩ := Prod.mk.inj q3 |>.imp id Prod.mk.inj
  rw [e3] at p4
  rw [p4] at q4
  obtain ⟨r1, r2, r3, r4, r5, r6⟩ := h1
  obtain ⟨s1, s2, s3, s4, s5, s6⟩ := h2
  refine ⟨level_inj ⟨r1, r2⟩ ⟨s1, s2⟩ e1, ?_, ?_⟩
  · have nz : ∀ n : Nat, numL n ≠ [] := fun n hn => by
      have := numR_pos (f := 19) (n := n)
      unfold numL at hn
      rw [hn] at this
      simp at this
    split at q4 <;> split at q4
    · omega
    · exact (nz _ q4.symm).elim
    · exact (nz _ q4).elim
    · have := numL_inj (by omega) (by omega) q4
      omega
  · have hd : (c < 256) = (c' < 256) := by simpa using e5
    split at e4 <;> split at e4
    · have := numL_inj (by omega) (by omega) e4
      omega
    · exact absurd (hd ▸ (by assumption : c < 256)) (by assumption)
    · exact absurd (hd ▸ (by assumption : c' < 256)) (by assumption)
    · omega
end Go.Tile
