import Derived.Test.YtikpfffhcjlcjaaVc5
import Derived.Test.YtikpfffhcjlcjaaRows
import Derived.WalkKit
import Derived.ProofKit
import Derived.OpenShut
import Derived.ShutString
import Derived.ChangeOld
import Derived.Below
import Derived.JoinedCond
import Derived.SliceStrings
namespace Go.Vc
open Go Go.RowKit
variable {P : Program}
def heapOf (w : World) : Heap := fun b => w.heap[b]?
theorem rel_self (w : World) : Rel w (heapOf w) w.heap.size w :=
  ⟨rfl, rfl, rfl, fun _ _ h => h, fun b o h => by
    obtain ⟨hlt, _⟩ := Array.getElem?_eq_some_iff.1 h
    exact hlt, Nat.le_refl _⟩
theorem law_calls {f : FuncId} {args : Array Value} {w : World} (s : CallSpec P f args (heapOf w) w.heap.size (fun v h' _ => v = .bool true ∧ Sub (heapOf w) h')) :
    Calls P f args w fun e w' => e = .returned (.bool true) ∧ Below w.heap.size w w' := by
  refine (s.runs w w (rel_self w)).mono ?_
  rintro _ w' ⟨v, h', t', rfl, r, ht, rfl, hs⟩
  refine ⟨rfl, r.os, r.tape, r.output, Nat.le_trans ht r.top, fun k hk => ?_⟩
  have : heapOf w k = some w.heap[k] := by simp [heapOf, hk]
  rw [r.blk k _ (hs k _ this)]
  exact this.symm
theorem wf_bounds {k : IntKind} {n : Int} (h : (Lit.int k n).wf = true) : k.min ≤ n ∧ n ≤ k.max := by
  simpa [Lit.wf] using h
end Go.Vc
namespace Go.Proofs.Ytikpfffhcjlcjaa.vcbulk
open Go Go.Vc Go.ChangeShapes
end Go.Proofs.Ytikpfffhcjlcjaa.vcbulk
