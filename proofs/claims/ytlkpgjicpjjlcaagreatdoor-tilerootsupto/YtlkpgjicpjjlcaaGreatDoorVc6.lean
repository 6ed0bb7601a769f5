import Derived.Test.YtlkpgjicpjjlcaaGreatDoorVc5
import Derived.Test.YtlkpgjicpjjlcaaGreatDoorRows
import Derived.WalkKit
import Derived.ProofKit
import Derived.OpenShut
import Derived.ShutString
import Derived.ChangeOld
import Derived.Below
import Derived.JoinedCond
import Derived.SliceStrings
/- From a contract to a law's row. -/
namespace Go.Vc
open Go Go.RowKit
/-! ### from a contract to a law's row -/
variable {P : Program}

def heapOf (w : World) : Heap := fun b => w.heap[b]?

theorem rel_self (w : World) : Rel w (heapOf w) w.heap.size w :=
  ⟨rfl, rfl, rfl, fun _ _ h => h, fun b o h => by
    obtain ⟨hlt, _⟩ := Array.getElem?_eq_some_iff.1 h
    exact hlt, Nat.le_refl _⟩

theorem law_calls {f : FuncId} {args : Array Value} {w : World} (s : CallSpec P f args (heapOf w) w.heap.size (fun v h' _ => v = .bool true ∧ Sub (heapOf w) h')) :
    Calls P f args w fun e w' => e = .returned (.bool true) ∧ Below w.heap.size w w' := by
  refine (s.runs w w (rel_self w)).mono ?_
  rintro _ w' ⟨v, h', t', rfl, r, ht, rfl, hs⟩
  refine ⟨rfl, r.os, r.tape, r.output, Nat.le_trans ht r.top, fun k hk => ?_⟩
  have : heapOf w k = some w.heap[k] := by simp [heapOf, hk]
  rw [r.blk k _ (hs k _ this)]
  exact this.symm

theorem sl_of_cells {α : Type} {w : World} {x : Addr} {n : Nat} {f : α → Value} {l : List α} (d : α) (hn : l.length = n) (hcell : ∀ i, i < l.length → w.cell? (x.add i) = some (f (l.getD i d))) :
    Sl (heapOf w) (some x) n f l := by
  refine ⟨hn, fun h0 => ?_⟩
  have hc0 := hcell 0 (by omega)
  have hx0 : x.add 0 = x := by simp [Addr.add]
  rw [hx0] at hc0
  unfold World.cell? at hc0
  split at hc0
  · rename_i cs T fr hb
    split at hc0
    · cases hc0
    · rename_i hsp
      obtain ⟨b, off, sp⟩ := x
      have hsp : sp = none := by cases sp <;> simp_all
      subst hsp
      refine ⟨b, off, cs, T, fr, rfl, hb, fun i hi => ?_⟩
      have := hcell i hi
      rw [addr_add] at this
      unfold World.cell? at this
      simp only at hb this
      rw [hb] at this
      simp only [Option.isSome_none, Bool.false_eq_true, if_false] at this
      rw [this]
      simp [List.getD_eq_getElem?_getD, hi]
  · cases hc0

theorem wf_bounds {k : IntKind} {n : Int} (h : (Lit.int k n).wf = true) : k.min ≤ n ∧ n ≤ k.max := by
  simpa [Lit.wf] using h
end Go.Vc

namespace Go.Proofs.YtlkpgjicpjjlcaaGreatDoor.vcbulk
open Go Go.Vc Go.ChangeShapes
theorem lits {H : Type} (k : IntKind) (l : List Int) : Rows.uptoBulkAll (ChangeShapes.lits (H := H) k l) = l.length := by
  induction l with
  | nil => rfl
  | cons x l ih => simp only [ChangeShapes.lits, List.map_cons, Rows.uptoBulkAll, Rows.uptoBulk, List.length_cons] at *; omega
theorem strs_mem {H : Type} (l : List ByteArray) : ∀ s ∈ l, s.size + 1 ≤ Rows.uptoBulkAll (ChangeShapes.strs (H := H) l) := by
  induction l with
  | nil => intro s hs; cases hs
  | cons x l ih =>
    intro s hs
    have e : ∀ y : ByteArray, y.data.toList.length = y.size := fun y => by rw [Array.length_toList]; rfl
    simp only [ChangeShapes.strs, List.map_cons, Rows.uptoBulkAll, Rows.uptoBulk, e] at *
    rcases List.mem_cons.1 hs with rfl | hs
    · omega
    · have := ih s hs; omega
theorem strs_len {H : Type} (l : List ByteArray) : l.length ≤ Rows.uptoBulkAll (ChangeShapes.strs (H := H) l) := by
  induction l with
  | nil => simp
  | cons x l ih => simp only [ChangeShapes.strs, List.map_cons, Rows.uptoBulkAll, Rows.uptoBulk, List.length_cons] at *; omega
end Go.Proofs.YtlkpgjicpjjlcaaGreatDoor.vcbulk
