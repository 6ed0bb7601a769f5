/- Symbols of lengths, gone through, are the lengths. -/
import Derived.Test.YtikpfffhcjlcjaaDefDyn
set_option linter.unusedVariables false
set_option linter.unusedSimpArgs false
namespace Go.Dfl

/-- What a symbol stands for, behind what was said. -/
def blk (O : List Int) (p : Int × Int) : List Int :=
  if p.1 = 16 then List.replicate (3 + p.2).toNat (O.getLast?.getD 0) else if p.1 = 17 then List.replicate (3 + p.2).toNat 0 else if p.1 = 18 then List.replicate (11 + p.2).toNat 0 else [p.1]
def symT (O : List Int) (p : Int × Int) : Prop :=
  (p.1 = 16 ∧ O ≠ [] ∧ 0 ≤ p.2 ∧ p.2 ≤ 3) ∨ (p.1 = 17 ∧ 0 ≤ p.2 ∧ p.2 ≤ 7) ∨ (p.1 = 18 ∧ 0 ≤ p.2 ∧ p.2 ≤ 127) ∨ (p.2 = 0 ∧ 0 ≤ p.1 ∧ p.1 ≤ 15)
def Dec (O : List Int) : List (Int × Int) → List Int → Prop
  | [], I => O = I
  | p :: r, I => symT O p ∧ Dec (O ++ blk O p) r I
theorem Dec.len : ∀ {R : List (Int × Int)} {O I : List Int}, Dec O R I → O.length ≤ I.length
  | [], O, I, h => by have h : O = I := h; rw [h]; exact Nat.le_refl _
  | p :: r, O, I, h => by
    have := Dec.len h.2
    rw [List.length_append] at this
    omega
theorem rep_add (a b : Nat) (k : Int) : List.replicate a k ++ List.replicate b k = List.replicate (a + b) k := by rw [List.replicate_append_replicate]
theorem dec_zs {R : List (Int × Int)} {I : List Int} : ∀ (n : Nat) (O : List Int), Dec (O ++ List.replicate n 0) R I → Dec O (zs n ++ R) I := fun n => by
  induction n using Nat.strongRecOn with
  | _ n ih =>
    intro O h
    rw [zs]
    split
    · rename_i h0; subst h0; simpa using h
    · split
      · rename_i h1 h2
        refine ⟨.inr (.inr (.inl ⟨rfl, by show (0 : Int) ≤ _ - 11; omega, by show ((_ : Nat) : Int) - 11 ≤ 127; omega⟩)), ih _ (by omega) _ ?_⟩
        rw [show blk O (18, ((min n 138 : Nat) : Int) - 11) = List.replicate (min n 138) 0 by
          unfold blk
          rw [if_neg (by show (18 : Int) ≠ 16; decide), if_neg (by show (18 : Int) ≠ 17; decide), if_pos rfl]
          show List.replicate (11 + (((min n 138 : Nat) : Int) - 11)).toNat 0 = _
          rw [show (11 + (((min n 138 : Nat) : Int) - 11)).toNat = min n 138 by omega], List.append_assoc, rep_add, show min n 138 + (n - min n 138) = n by omega]
        exact h
      · split
        · rename_i h1 h2 h3
          refine ⟨.inr (.inl ⟨rfl, by show (0 : Int) ≤ _ - 3; omega, by show (n : Int) - 3 ≤ 7; omega⟩), ?_⟩
          show Dec (O ++ blk O (17, (n : Int) - 3)) R I
          rw [show blk O (17, (n : Int) - 3) = List.replicate n 0 by
            unfold blk
            rw [if_neg (by show (17 : Int) ≠ 16; decide), if_pos rfl]
            show List.replicate (3 + ((n : Int) - 3)).toNat 0 = _
            rw [show (3 + ((n : Int) - 3)).toNat = n by omega]]
          exact h
        · rename_i h1 h2 h3
          refine ⟨.inr (.inr (.inr ⟨rfl, by show (0 : Int) ≤ 0; omega, by show (0 : Int) ≤ 15; omega⟩)), ih _ (by omega) _ ?_⟩
          rw [show blk O (0, 0) = List.replicate 1 0 from rfl, List.append_assoc, rep_add, show 1 + (n - 1) = n by omega]
          exact h
theorem dec_ks {R : List (Int × Int)} {I : List Int} {k : Int} (hk : 0 ≤ k ∧ k ≤ 15) : ∀ (n : Nat) (O : List Int), O.getLast? = some k → Dec (O ++ List.replicate n k) R I → Dec O (ks k n ++ R) I := fun n => by
  induction n using Nat.strongRecOn with
  | _ n ih =>
    intro O hO h
    have hne : O ≠ [] := fun e => by rw [e] at hO; cases hO
    have hl : ∀ m, 0 < m → (O ++ List.replicate m k).getLast? = some k := fun m hm => by
      rw [List.getLast?_append, List.getLast?_replicate, if_neg (by omega)]; rfl
    rw [ks]
    split
    · rename_i h0; subst h0; simpa using h
    · split
      · rename_i h1 h2
        have e : blk O (16, ((min n 6 : Nat) : Int) - 3) = List.replicate (min n 6) k := by
          unfold blk
          rw [if_pos rfl, hO]
          show List.replicate (3 + (((min n 6 : Nat) : Int) - 3)).toNat k = _
          rw [show (3 + (((min n 6 : Nat) : Int) - 3)).toNat = min n 6 by omega]
        refine ⟨.inl ⟨rfl, hne, by show (0 : Int) ≤ _ - 3; omega, by show ((_ : Nat) : Int) - 3 ≤ 3; omega⟩, ih _ (by omega) _ ?_ ?_⟩
        · rw [e]; exact hl _ (by omega)
        · rw [e, List.append_assoc, rep_add, show min n 6 + (n - min n 6) = n by omega]
          exact h
      · rename_i h1 h2
        have e : blk O (k, 0) = List.replicate 1 k := by
          unfold blk
          rw [if_neg (by show k ≠ 16; omega), if_neg (by show k ≠ 17; omega), if_neg (by show k ≠ 18; omega)]; rfl
        refine ⟨.inr (.inr (.inr ⟨rfl, hk.1, hk.2⟩)), ih _ (by omega) _ ?_ ?_⟩
        · rw [e]; exact hl _ (by omega)
        · rw [e, List.append_assoc, rep_add, show 1 + (n - 1) = n by omega]
          exact h
theorem cnt_split (k : Int) : ∀ (r : List Int), r = List.replicate (cnt k r) k ++ r.drop (cnt k r)
  | [] => by simp [cnt]
  | x :: r => by
    rw [cnt]
    split
    · rename_i h; rw [List.replicate_succ, List.drop_succ_cons, List.cons_append, ← cnt_split k r, h]
    · rfl
theorem dec_runs : ∀ (n : Nat) (l O : List Int), l.length ≤ n → (∀ x ∈ l, 0 ≤ x ∧ x ≤ 15) → Dec O (runsF l) (O ++ l)
  | _, [], O, _, _ => by rw [runsF, List.append_nil]; rfl
  | 0, k :: r, O, h, _ => by simp at h
  | n + 1, k :: r, O, h, hl => by
    have hk := hl k (List.mem_cons_self ..)
    have ih := dec_runs n (r.drop (cnt k r)) (O ++ List.replicate (cnt k r + 1) k) (by rw [List.length_drop]; simp at h; omega) (fun x hx => hl x (List.mem_cons_of_mem _ (List.mem_of_mem_drop hx)))
    have hs : O ++ List.replicate (cnt k r + 1) k ++ r.drop (cnt k r) = O ++ k :: r := by
      rw [List.append_assoc, List.replicate_succ, List.cons_append, ← cnt_split]
    rw [hs] at ih
    rw [runsF, grp]
    split
    · rename_i h0
      subst h0
      exact dec_zs _ _ ih
    · rename_i h0
      have e : blk O (k, 0) = [k] := by
        unfold blk
        rw [if_neg (by show k ≠ 16; omega), if_neg (by show k ≠ 17; omega), if_neg (by show k ≠ 18; omega)]
      refine ⟨.inr (.inr (.inr ⟨rfl, hk.1, hk.2⟩)), ?_⟩
      rw [Nat.add_sub_cancel]
      refine dec_ks hk _ _ (by rw [e]; simp) ?_
      rw [e, List.append_assoc]
      exact ih
end Go.Dfl
