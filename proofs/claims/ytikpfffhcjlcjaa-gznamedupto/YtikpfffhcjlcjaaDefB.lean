import Derived.Test.YtikpfffhcjlcjaaDefDyn
import Derived.Test.YtikpfffhcjlcjaaDefTok
set_option linter.unusedVariables false
set_option linter.unusedSimpArgs false
namespace Go.Dfl
def blk (O : List Int) (p : Int × Int) : List Int :=
  if p.1 = 16 then List.replicate (3 + p.2).toNat (O.getLast?.getD 0) else if p.1 = 17 then List.replicate (3 + p.2).toNat 0 else if p.1 = 18 then List.replicate (11 + p.2).toNat 0 else [p.1]
def symT (O : List Int) (p : Int × Int) : Prop :=
  (p.1 = 16 ∧ O ≠ [] ∧ 0 ≤ p.2 ∧ p.2 ≤ 3) ∨ (p.1 = 17 ∧ 0 ≤ p.2 ∧ p.2 ≤ 7) ∨ (p.1 = 18 ∧ 0 ≤ p.2 ∧ p.2 ≤ 127) ∨ (p.2 = 0 ∧ 0 ≤ p.1 ∧ p.1 ≤ 15)
def Dec (O : List Int) : List (Int × Int) → List Int → Prop
  | [], I => O = I
  | p :: r, I => symT O p ∧ Dec (O ++ blk O p) r I
theorem Dec.len : ∀ {R : List (Int × Int)} {O I : List Int}, Dec O R I → O.length ≤ I.length
  | [], O, I, h => by have h : O = I := h; rw [h]; exact Nat.le_refl _
  | p :: r, O, I, h => by
    have := Dec.len h.2
    rw [List.length_append] at this
    omega
theorem rep_add (a b : Nat) (k : Int) : List.replicate a k ++ List.replicate b k = List.replicate (a + b) k := by rw [List.replicate_append_replicate]
theorem dec_zs {R : List (Int × Int)} {I : List Int} : ∀ (n : Nat) (O : List Int), Dec (O ++ List.replicate n 0) R I → Dec O (zs n ++ R) I := fun n => by
  induction n using Nat.strongRecOn with
  | _ n ih =>
    intro O h
    rw [zs]
    split
    · rename_i h0; subst h0; simpa using h
    · split
      · rename_i h1 h2
        refine ⟨.inr (.inr (.inl ⟨rfl, by show (0 : Int) ≤ _ - 11; omega, by show ((_ : Nat) : Int) - 11 ≤ 127; omega⟩)), ih _ (by omega) _ ?_⟩
        rw [show blk O (18, ((min n 138 : Nat) : Int) - 11) = List.replicate (min n 138) 0 by
          unfold blk
          rw [if_neg (by show (18 : Int) ≠ 16; decide), if_neg (by show (18 : Int) ≠ 17; decide), if_pos rfl]
          show List.replicate (11 + (((min n 138 : Nat) : Int) - 11)).toNat 0 = _
          rw [show (11 + (((min n 138 : Nat) : Int) - 11)).toNat = min n 138 by omega], List.append_assoc, rep_add, show min n 138 + (n - min n 138) = n by omega]
        exact h
      · split
        · rename_i h1 h2 h3
          refine ⟨.inr (.inl ⟨rfl, by show (0 : Int) ≤ _ - 3; omega, by show (n : Int) - 3 ≤ 7; omega⟩), ?_⟩
          show Dec (O ++ blk O (17, (n : Int) - 3)) R I
          rw [show blk O (17, (n : Int) - 3) = List.replicate n 0 by
            unfold blk
            rw [if_neg (by show (17 : Int) ≠ 16; decide), if_pos rfl]
            show List.replicate (3 + ((n : Int) - 3)).toNat 0 = _
            rw [show (3 + ((n : Int) - 3)).toNat = n by omega]]
          exact h
        · rename_i h1 h2 h3
          refine ⟨.inr (.inr (.inr ⟨rfl, by show (0 : Int) ≤ 0; omega, by show (0 : Int) ≤ 15; omega⟩)), ih _ (by omega) _ ?_⟩
          rw [show blk O (0, 0) = List.replicate 1 0 from rfl, List.append_assoc, rep_add, show 1 + (n - 1) = n by omega]
          exact h
theorem dec_ks {R : List (Int × Int)} {I : List Int} {k : Int} (hk : 0 ≤ k ∧ k ≤ 15) : ∀ (n : Nat) (O : List Int), O.getLast? = some k → Dec (O ++ List.replicate n k) R I → Dec O (ks k n ++ R) I := fun n => by
  induction n using Nat.strongRecOn with
  | _ n ih =>
    intro O hO h
    have hne : O ≠ [] := fun e => by rw [e] at hO; cases hO
    have hl : ∀ m, 0 < m → (O ++ List.replicate m k).getLast? = some k := fun m hm => by
      rw [List.getLast?_append, List.getLast?_replicate, if_neg (by omega)]; rfl
    rw [ks]
    split
    · rename_i h0; subst h0; simpa using h
    · split
      · rename_i h1 h2
        have e : blk O (16, ((min n 6 : Nat) : Int) - 3) = List.replicate (min n 6) k := by
          unfold blk
          rw [if_pos rfl, hO]
          show List.replicate (3 + (((min n 6 : Nat) : Int) - 3)).toNat k = _
          rw [show (3 + (((min n 6 : Nat) : Int) - 3)).toNat = min n 6 by omega]
        refine ⟨.inl ⟨rfl, hne, by show (0 : Int) ≤ _ - 3; omega, by show ((_ : Nat) : Int) - 3 ≤ 3; omega⟩, ih _ (by omega) _ ?_ ?_⟩
        · rw [e]; exact hl _ (by omega)
        · rw [e, List.append_assoc, rep_add, show min n 6 + (n - min n 6) = n by omega]
          exact h
      · rename_i h1 h2
        have e : blk O (k, 0) = List.replicate 1 k := by
          unfold blk
          rw [if_neg (by show k ≠ 16; omega), if_neg (by show k ≠ 17; omega), if_neg (by show k ≠ 18; omega)]; rfl
        refine ⟨.inr (.inr (.inr ⟨rfl, hk.1, hk.2⟩)), ih _ (by omega) _ ?_ ?_⟩
        · rw [e]; exact hl _ (by omega)
        · rw [e, List.append_assoc, rep_add, show 1 + (n - 1) = n by omega]
          exact h
theorem cnt_split (k : Int) : ∀ (r : List Int), r = List.replicate (cnt k r) k ++ r.drop (cnt k r)
  | [] => by simp [cnt]
  | x :: r => by
    rw [cnt]
    split
    · rename_i h; rw [List.replicate_succ, List.drop_succ_cons, List.cons_append, ← cnt_split k r, h]
    · rfl
theorem dec_runs : ∀ (n : Nat) (l O : List Int), l.length ≤ n → (∀ x ∈ l, 0 ≤ x ∧ x ≤ 15) → Dec O (runsF l) (O ++ l)
  | _, [], O, _, _ => by rw [runsF, List.append_nil]; rfl
  | 0, k :: r, O, h, _ => by simp at h
  | n + 1, k :: r, O, h, hl => by
    have hk := hl k (List.mem_cons_self ..)
    have ih := dec_runs n (r.drop (cnt k r)) (O ++ List.replicate (cnt k r + 1) k) (by rw [List.length_drop]; simp at h; omega) (fun x hx => hl x (List.mem_cons_of_mem _ (List.mem_of_mem_drop hx)))
    have hs : O ++ List.replicate (cnt k r + 1) k ++ r.drop (cnt k r) = O ++ k :: r := by
      rw [List.append_assoc, List.replicate_succ, List.cons_append, ← cnt_split]
    rw [hs] at ih
    rw [runsF, grp]
    split
    · rename_i h0
      subst h0
      exact dec_zs _ _ ih
    · rename_i h0
      have e : blk O (k, 0) = [k] := by
        unfold blk
        rw [if_neg (by show k ≠ 16; omega), if_neg (by show k ≠ 17; omega), if_neg (by show k ≠ 18; omega)]
      refine ⟨.inr (.inr (.inr ⟨rfl, hk.1, hk.2⟩)), ?_⟩
      rw [Nat.add_sub_cancel]
      refine dec_ks hk _ _ (by rw [e]; simp) ?_
      rw [e, List.append_assoc]
      exact ih
end Go.Dfl
set_option linter.unusedVariables false
set_option linter.unusedSimpArgs false
namespace Go.Dfl
open Go Go.Vc
structure TokOk (s : ByteArray) (i to : Nat) (b : Nat × Nat) : Prop where
  le : i + b.1 ≤ to
  cs : b = (1, 0) ∨ (3 ≤ b.1 ∧ b.1 ≤ 258 ∧ 1 ≤ b.2 ∧ b.2 ≤ i ∧ b.2 ≤ 32768 ∧ ∀ m, m < b.1 → byteAt s (i + m - b.2) = byteAt s (i + m))
theorem gram_byte {s : ByteArray} {k i m : Nat} (h : gram s k = gram s i) (hk : k + 3 ≤ s.size) (hi : i + 3 ≤ s.size) (hm : m < 3) : byteAt s (k + m) = byteAt s (i + m) := by
  have hg : ∀ j, j + 3 ≤ s.size → byteAt (gram s j) m = byteAt s (j + m) := fun j hj => by
    unfold gram byteAt
    rw [ByteArray.data_extract, Array.getD_eq_getD_getElem?, Array.getD_eq_getD_getElem?, Array.getElem?_extract, if_pos (by have : s.data.size = s.size := rfl; omega)]
  rw [← hg k hk, ← hg i hi, h]
theorem upTo_ge : ∀ {n m : Nat} {p : Nat → Bool}, (∀ j, j < n → p j = true) → n ≤ m → n ≤ upTo p m
  | 0, _, _, _, _ => Nat.zero_le _
  | n + 1, 0, _, _, h => by omega
  | n + 1, m + 1, p, h1, h2 => by
    rw [upTo, if_pos (h1 0 (by omega))]
    have := upTo_ge (n := n) (m := m) (p := fun k => p (k + 1)) (fun j hj => h1 (j + 1) (by omega)) (by omega)
    omega
theorem same_ge {s : ByteArray} {k i to : Nat} (h : gram s k = gram s i) (hk : k + 3 ≤ s.size) (hi : i + 3 ≤ to) (ht : to ≤ s.size) : 3 ≤ same s k i to := by
  have hp : ∀ m, m < 3 → sameP s k i to m = true := fun m hm => decide_eq_true ⟨by omega, gram_byte h hk (by omega) hm⟩
  exact upTo_ge hp (by decide)
theorem same_le258 (s : ByteArray) (k i to : Nat) : same s k i to ≤ 258 := upTo_le _ _
theorem same_get {s : ByteArray} {k i to m : Nat} (h : m < same s k i to) : byteAt s (k + m) = byteAt s (i + m) := (of_decide_eq_true (upTo_get (p := sameP s k i to) (m := 258) h)).2
theorem pick_ok {s : ByteArray} {i to : Nat} (hi : i + 3 ≤ to) (ht : to ≤ s.size) : ∀ (ks : List Nat) (met : Nat) (best : Nat × Nat), (∀ k ∈ ks, k < i ∧ k + 3 ≤ s.size ∧ gram s k = gram s i) → TokOk s i to best → TokOk s i to (pickT s i to met best ks)
  | [], met, best, _, h => by rw [pickT]; exact h
  | k :: ks, met, best, hk, h => by
    rw [pickT]
    obtain ⟨h1, h2, h3⟩ := hk k (List.mem_cons_self ..)
    split
    · exact h
    · rename_i hn
      refine pick_ok hi ht ks _ _ (fun x hx => hk x (List.mem_cons_of_mem _ hx)) ?_
      split
      · refine ⟨same_le s (by omega), .inr ⟨same_ge h3 h2 hi ht, same_le258 _ _ _ _, ?_, ?_, ?_, fun m hm => ?_⟩⟩
        · show 1 ≤ i - k; omega
        · show i - k ≤ i; omega
        · show i - k ≤ 32768; omega
        · show byteAt s (i + m - (i - k)) = _
          rw [show i + m - (i - k) = k + m by omega]
          exact same_get hm
      · exact h
theorem best_ok {s : ByteArray} {i to : Nat} (hi : i < to) (ht : to ≤ s.size) : TokOk s i to (bestT s i to) := by
  have h1 : TokOk s i to (1, 0) := ⟨by show i + 1 ≤ to; omega, .inl rfl⟩
  unfold bestT
  split
  · rename_i h3
    refine pick_ok h3 ht _ 0 (1, 0) (fun k hk => ?_) h1
    rw [List.mem_reverse] at hk
    have h2 := List.mem_filter.1 hk
    have h4 := of_decide_eq_true h2.2
    exact ⟨List.mem_range.1 h2.1, h4.1, h4.2⟩
  · exact h1
end Go.Dfl
