/- A text of one byte, many times: its tokens, its pack's size. -/
import Derived.Test.YtikpfffhcjlcjaaDefPack
set_option linter.unusedSimpArgs false
namespace Go.Proofs.Ytikpfffhcjlcjaa
open Go Go.Vc Go.Dfl
set_option maxRecDepth 20000
set_option linter.unusedVariables false

def repS (n : Nat) (c : UInt8) : ByteArray := ⟨(List.replicate n c).toArray⟩
theorem rep_size (n : Nat) (c : UInt8) : (repS n c).size = n := by
  show (List.replicate n c).toArray.size = n
  simp
theorem rep_byte {n i : Nat} (c : UInt8) (h : i < n) : byteAt (repS n c) i = ((c.toNat : Nat) : Int) := by
  unfold byteAt repS
  simp [Array.getD_eq_getD_getElem?, h]
theorem rep_gram {n i : Nat} (c : UInt8) (h : i + 3 ≤ n) : gram (repS n c) i = ⟨#[c, c, c]⟩ := by
  unfold gram repS
  rw [ByteArray.ext_iff, ByteArray.data_extract]
  show (List.replicate n c).toArray.extract i (i + 3) = #[c, c, c]
  rw [List.extract_toArray, List.extract_eq_take_drop, List.drop_replicate, List.take_replicate, show min (i + 3 - i) (n - i) = 3 by omega]
  rfl
theorem pick_stay {s : ByteArray} {i to m : Nat} : ∀ (ks : List Nat) (met : Nat), (∀ k, same s k i to ≤ m) → pickT s i to met (m, 1) ks = (m, 1)
  | [], met, _ => by rw [pickT]
  | k :: ks, met, h => by
    rw [pickT]
    split
    · rfl
    · rw [if_neg (by have := h k; show ¬ m < same s k i to; omega)]
      exact pick_stay ks _ h
theorem rep_same {n i : Nat} (c : UInt8) (h1 : 1 ≤ i) (h : i ≤ n) : same (repS n c) (i - 1) i n = min 258 (n - i) := by
  refine upTo_eq (fun j hj => decide_eq_true ⟨by omega, ?_⟩) (by omega) ?_
  · rw [rep_byte c (by omega), rep_byte c (by omega)]
  · rcases Nat.lt_or_ge (n - i) 258 with h2 | h2
    · refine .inr ?_
      unfold sameP
      rw [decide_eq_false]
      omega
    · exact .inl (by omega)
theorem rep_best {n i : Nat} (c : UInt8) (h1 : 1 ≤ i) (h : i + 3 ≤ n) : bestT (repS n c) i n = (min 258 (n - i), 1) := by
  unfold bestT
  rw [if_pos h]
  obtain ⟨j, rfl⟩ : ∃ j, i = j + 1 := ⟨i - 1, by omega⟩
  rw [grams_succ, if_pos ⟨by rw [rep_size]; omega, by rw [rep_gram c h, rep_gram c (by omega)]⟩, List.reverse_append]
  show pickT (repS n c) (j + 1) n 0 (1, 0) (j :: _) = _
  have hs := rep_same c h1 (show j + 1 ≤ n by omega)
  rw [Nat.add_sub_cancel] at hs
  rw [pickT, if_neg (by omega), hs, if_pos (by show 1 < min 258 (n - (j + 1)); omega), show j + 1 - j = 1 by omega]
  refine pick_stay _ _ fun k => ?_
  have h2 := same_le (repS n c) (k := k) (i := j + 1) (to := n) (by omega)
  have h3 := same_le258 (repS n c) k (j + 1) n
  omega
theorem best_short {s : ByteArray} {i n : Nat} (h : ¬ i + 3 ≤ n) : bestT s i n = (1, 0) := by unfold bestT; rw [if_neg h]
def RepTok (b : Nat × Nat) : Prop := b = (1, 0) ∨ (b.2 = 1 ∧ 3 ≤ b.1 ∧ b.1 ≤ 258)
theorem rep_toks {n : Nat} (c : UInt8) : ∀ (m i : Nat), n - i ≤ m → 1 ≤ i → i ≤ n → (toks (repS n c) i n).length ≤ (n - i) / 258 + 2 ∧ ∀ b ∈ toks (repS n c) i n, RepTok b := fun m => by
  induction m using Nat.strongRecOn with
  | _ m ih =>
    intro i hm h1 hn
    rcases Nat.lt_or_ge i n with hi | hi
    · rcases Nat.lt_or_ge n (i + 3) with h3 | h3
      · -- one or two bytes
        rw [toks_step hi, best_short (by omega)]
        rcases Nat.lt_or_ge (i + 1) n with h4 | h4
        · rw [toks_step (show i + (1, 0).1 < n by exact h4), best_short (by show ¬ i + 1 + 3 ≤ n; omega), toks_end (by show ¬ i + 1 + 1 < n; omega)]
          exact ⟨by simp, fun b hb => .inl (by simpa using hb)⟩
        · rw [toks_end (by show ¬ i + 1 < n; omega)]
          exact ⟨by simp, fun b hb => .inl (by simpa using hb)⟩
      · rw [toks_step hi, rep_best c h1 h3]
        have hr : RepTok (min 258 (n - i), 1) := .inr ⟨rfl, by show 3 ≤ min 258 (n - i); omega, by show min 258 (n - i) ≤ 258; omega⟩
        rcases Nat.lt_or_ge (n - i) 259 with h4 | h4
        · rw [toks_end (by show ¬ i + min 258 (n - i) < n; omega)]
          exact ⟨by simp, fun b hb => by rw [List.mem_singleton.1 hb]; exact hr⟩
        · obtain ⟨h5, h6⟩ := ih (n - (i + 258)) (by omega) (i + 258) (Nat.le_refl _) (by omega) (by omega)
          rw [show i + (min 258 (n - i), 1).1 = i + 258 by show i + min 258 (n - i) = _; omega]
          refine ⟨?_, fun b hb => ?_⟩
          · rw [List.length_cons]; omega
          · rcases List.mem_cons.1 hb with rfl | hb
            · exact hr
            · exact h6 b hb
    · rw [toks_end (by omega)]
      exact ⟨by simp, fun b hb => by cases hb⟩
theorem rep_toks0 {n : Nat} (c : UInt8) (hn : n ≤ 2000) : (toks (repS n c) 0 n).length ≤ 10 ∧ ∀ b ∈ toks (repS n c) 0 n, RepTok b := by
  rcases Nat.lt_or_ge 0 n with h | h
  · have hb : bestT (repS n c) 0 n = (1, 0) := by
      unfold bestT
      split
      · rw [grams_zero]; rfl
      · rfl
    obtain ⟨h1, h2⟩ := rep_toks c (n - 1) 1 (Nat.le_refl _) (Nat.le_refl _) h
    rw [toks_step h, hb]
    show (_ :: toks (repS n c) (0 + 1) n).length ≤ 10 ∧ _
    rw [Nat.zero_add]
    refine ⟨by rw [List.length_cons]; omega, fun b hb => ?_⟩
    rcases List.mem_cons.1 hb with rfl | hb
    · exact .inl rfl
    · exact h2 b hb
  · rw [toks_end (by omega)]
    exact ⟨by simp, fun b hb => by cases hb⟩
theorem fixedL_le (k : Nat) : (fixedL.getD k 0).toNat ≤ 9 := by
  have h : ∀ x ∈ fixedL, x ≤ 9 := by decide +kernel
  rw [List.getD_eq_getElem?_getD]
  cases hx : fixedL[k]? with
  | none => decide
  | some x => have := h x (List.mem_of_getElem? hx); show x.toNat ≤ 9; omega
theorem fixedB_le (k : Nat) : (fixedB.getD k 0).toNat ≤ 5 := by
  have h : ∀ x ∈ fixedB, x ≤ 5 := by decide +kernel
  rw [List.getD_eq_getElem?_getD]
  cases hx : fixedB[k]? with
  | none => decide
  | some x => have := h x (List.mem_of_getElem? hx); show x.toNat ≤ 5; omega
theorem len_bits : ∀ n : Fin 259, (lengthF (symL n.val)).2.1.toNat ≤ 5 := by decide +kernel
theorem dist_one : (distF (symD 1)).2.1.toNat = 0 := by decide +kernel
theorem rep_tell {s : ByteArray} {i : Nat} {b : Nat × Nat} (h : RepTok b) : (tellP fixedL fixedB (prtOf s i b)).length ≤ 20 := by
  unfold tellP
  simp only [List.length_append, bitsH_len, bitsL_len]
  have h1 := fixedL_le (prtOf s i b).sym
  have h2 := fixedB_le (prtOf s i b).sym2
  rcases h with rfl | ⟨e, h3, h4⟩
  · have e : prtOf s i (1, 0) = ⟨(byteAt s i).toNat, 0, 0, 0, 0, 0, true⟩ := rfl
    rw [e] at h1 ⊢
    show (fixedL.getD (byteAt s i).toNat 0).toNat + 0 + ([] : List Bool).length ≤ 20
    replace h1 : (fixedL.getD (byteAt s i).toNat 0).toNat ≤ 9 := h1
    rw [List.length_nil]
    omega
  · have hp : (prtOf s i b).n ≤ 5 ∧ (prtOf s i b).n2 = 0 ∧ (prtOf s i b).plain = false := by
      unfold prtOf
      rw [if_neg (by omega)]
      exact ⟨len_bits ⟨b.1, by omega⟩, by rw [e]; exact dist_one, rfl⟩
    obtain ⟨p1, p2, p3⟩ := hp
    rw [p3]
    simp only [Bool.false_eq_true, if_false, List.length_append, bitsH_len, bitsL_len, p2]
    omega
theorem rep_tells {s : ByteArray} : ∀ (l : List (Nat × Nat)) (i : Nat), (∀ b ∈ l, RepTok b) → ((partsF s i l).flatMap (tellP fixedL fixedB)).length ≤ 20 * l.length
  | [], _, _ => by rw [partsF]; simp
  | b :: r, i, h => by
    have h1 := rep_tell (s := s) (i := i) (h b (by simp))
    have h2 := rep_tells (s := s) r (i + b.1) fun x hx => h x (by simp [hx])
    rw [partsF, List.flatMap_cons, List.length_append, List.length_cons]
    omega
theorem block_one {n : Nat} {s : ByteArray} {ps : List Prt} {last : Nat} : (blockF n s ps last).length ≤ 3 + oneL ps := by
  unfold blockF
  rw [List.length_append, bitsL_len]
  split
  · simp only [List.length_append, bitsL_len, sBits_len]
    omega
  · split
    · rw [List.length_append, bitsL_len]
      show 1 + (2 + oneL ps) ≤ _
      omega
    · rw [List.length_append, bitsL_len]
      show 1 + (2 + twoL ps) ≤ _
      omega
theorem packS_size (s : ByteArray) : (packS s).size = ((packBits s).length + 7) / 8 := by
  show (packL s).toArray.size = _
  unfold packL
  rw [List.size_toArray, List.length_map, packB_len]
theorem rep_small {n : Nat} (c : UInt8) (hn : n ≤ 2000) : (packS (repS n c)).size ≤ 30 := by
  rw [packS_size]
  obtain ⟨h1, h2⟩ := rep_toks0 c hn
  have h3 := rep_tells (s := repS n c) _ 0 h2
  have h4 : (packBits (repS n c)).length ≤ 3 + oneL (partsF (repS n c) 0 (toks (repS n c) 0 n)) := by
    unfold packBits
    rw [if_neg (by rw [rep_size]; omega), rep_size]
    unfold pieceF
    exact block_one
  have h5 : oneL (partsF (repS n c) 0 (toks (repS n c) 0 n)) ≤ 20 * 10 + 9 := by
    unfold oneL tellF
    rw [List.length_append, bitsH_len]
    have := fixedL_le 256
    omega
  omega
end Go.Proofs.Ytikpfffhcjlcjaa
