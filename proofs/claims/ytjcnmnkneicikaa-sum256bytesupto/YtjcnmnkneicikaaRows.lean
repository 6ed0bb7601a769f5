/-
  No cell of these rows narrows 'for every input' (looked for: loops, veiled, ifaces, maps, wideKeys, modest, calm, conditions, laid).
  DERIVED. THE GIVEN ROWS OF THIS SEAT. 5 by the template 'for every input the law returns true; each argument reads behind the call as it read before'; 0 by the template 'total and deterministic' (their statements: YtjcnmnkneicikaaTotals.lean).
  GIVEN WITH THE SEED: the statements are not yours to turn. If you find one false, say at which input.
  Laid BY PROGRAM, IN A SANDBOX (cutbox-rows.mjs): the forced cells as the released guide's own fill.sh prints them over the translation 687e3df7940052f3… (all of the seat's roots in one cut). By AI agents, Wed Nov 11 2026. No macro, syntax, notation, axiom, sorry.
-/
import Derived.Test.YtjcnmnkneicikaaChecked
import GoSem.Claim
import GoSem.ClaimJoined
import GoSem.ClaimMapViews
import Derived.JoinedTies
import Derived.KernelRfl
namespace Go.Proofs.Ytjcnmnkneicikaa
/- THE CELL 'sum', in the pinned program and in every row, IS THE sha256 OF THE DUMP (.gsa) THAT YtjcnmnkneicikaaProg.lean LOADS. Nothing in Lean hashes anything: it is a label: what it is worth is what the hold of that sum in a sandbox is worth. -/
noncomputable def Try.pinned : Pinned := { name := "ytjcnmnkneicikaa", sum := "687e3df7940052f3d5298cd59d37117db382e0adfb15276dea322df629caaa85", checked := Try.checked }
namespace Rows
def none {H : Type} : Left H := { results := [], args := [] }

/-- 'engrosserlaw01.Sum256Sums': WHATEVER THE INPUT: true; the input reads as it did. -/
def sum256SumsSpec : ChangeSpec := { name := "sum256Sums", fn := fun _ => fun
  | [d] => { results := [.lit (.bool true)], args := [d] }
  | _ => none }
def sum256SumsRow : OpenClaim := { program := "ytjcnmnkneicikaa", sum := "687e3df7940052f3d5298cd59d37117db382e0adfb15276dea322df629caaa85", func := "engrosser/engrosserlaw01.Sum256Sums", spec := "sum256Sums", apart := false }
def Sum256SumsSaid : Prop := sum256SumsRow.holds Try.pinned (OpenSpec.ofChange sum256SumsSpec)

/-- ITS FALSE NEIGHBOUR: 'it returns false'. Refute it at one input. -/
def sum256SumsWrong : ChangeSpec := { name := "sum256Sums", fn := fun _ => fun
  | [d] => { results := [.lit (.bool false)], args := [d] }
  | _ => none }
def Sum256SumsWrongFalsely : Prop := sum256SumsRow.holds Try.pinned (OpenSpec.ofChange sum256SumsWrong)

/-- 'engrosserlaw01.Sum256Goes': WHATEVER THE INPUT: true; the input reads as it did. -/
def sum256GoesSpec : ChangeSpec := { name := "sum256Goes", fn := fun _ => fun
  | [d] => { results := [.lit (.bool true)], args := [d] }
  | _ => none }
def sum256GoesRow : OpenClaim := { program := "ytjcnmnkneicikaa", sum := "687e3df7940052f3d5298cd59d37117db382e0adfb15276dea322df629caaa85", func := "engrosser/engrosserlaw01.Sum256Goes", spec := "sum256Goes", apart := false }
def Sum256GoesSaid : Prop := sum256GoesRow.holds Try.pinned (OpenSpec.ofChange sum256GoesSpec)

/-- ITS FALSE NEIGHBOUR: 'it returns false'. Refute it at one input. -/
def sum256GoesWrong : ChangeSpec := { name := "sum256Goes", fn := fun _ => fun
  | [d] => { results := [.lit (.bool false)], args := [d] }
  | _ => none }
def Sum256GoesWrongFalsely : Prop := sum256GoesRow.holds Try.pinned (OpenSpec.ofChange sum256GoesWrong)

/-- 'engrosserlaw01.Sum256Cuts': WHATEVER THE INPUT: true; the input reads as it did. -/
def sum256CutsSpec : ChangeSpec := { name := "sum256Cuts", fn := fun _ => fun
  | [d1, d2] => { results := [.lit (.bool true)], args := [d1, d2] }
  | _ => none }
def sum256CutsRow : OpenClaim := { program := "ytjcnmnkneicikaa", sum := "687e3df7940052f3d5298cd59d37117db382e0adfb15276dea322df629caaa85", func := "engrosser/engrosserlaw01.Sum256Cuts", spec := "sum256Cuts", apart := false }
def Sum256CutsSaid : Prop := sum256CutsRow.holds Try.pinned (OpenSpec.ofChange sum256CutsSpec)

/-- ITS FALSE NEIGHBOUR: 'it returns false'. Refute it at one input. -/
def sum256CutsWrong : ChangeSpec := { name := "sum256Cuts", fn := fun _ => fun
  | [d1, d2] => { results := [.lit (.bool false)], args := [d1, d2] }
  | _ => none }
def Sum256CutsWrongFalsely : Prop := sum256CutsRow.holds Try.pinned (OpenSpec.ofChange sum256CutsWrong)

/-- 'engrosserlaw01.Sum256Bytes': WHATEVER THE INPUT: true; the input reads as it did. -/
def sum256BytesSpec : ChangeSpec := { name := "sum256Bytes", fn := fun _ => fun
  | [d1, d2, d3] => { results := [.lit (.bool true)], args := [d1, d2, d3] }
  | _ => none }
def sum256BytesRow : OpenClaim := { program := "ytjcnmnkneicikaa", sum := "687e3df7940052f3d5298cd59d37117db382e0adfb15276dea322df629caaa85", func := "engrosser/engrosserlaw01.Sum256Bytes", spec := "sum256Bytes", apart := false }
def Sum256BytesSaid : Prop := sum256BytesRow.holds Try.pinned (OpenSpec.ofChange sum256BytesSpec)

/-- ITS FALSE NEIGHBOUR: 'it returns false'. Refute it at one input. -/
def sum256BytesWrong : ChangeSpec := { name := "sum256Bytes", fn := fun _ => fun
  | [d1, d2, d3] => { results := [.lit (.bool false)], args := [d1, d2, d3] }
  | _ => none }
def Sum256BytesWrongFalsely : Prop := sum256BytesRow.holds Try.pinned (OpenSpec.ofChange sum256BytesWrong)

/-- 'engrosserlaw01.Sum256Resets': WHATEVER THE INPUT: true; the input reads as it did. -/
def sum256ResetsSpec : ChangeSpec := { name := "sum256Resets", fn := fun _ => fun
  | [d1, d2] => { results := [.lit (.bool true)], args := [d1, d2] }
  | _ => none }
def sum256ResetsRow : OpenClaim := { program := "ytjcnmnkneicikaa", sum := "687e3df7940052f3d5298cd59d37117db382e0adfb15276dea322df629caaa85", func := "engrosser/engrosserlaw01.Sum256Resets", spec := "sum256Resets", apart := false }
def Sum256ResetsSaid : Prop := sum256ResetsRow.holds Try.pinned (OpenSpec.ofChange sum256ResetsSpec)

/-- ITS FALSE NEIGHBOUR: 'it returns false'. Refute it at one input. -/
def sum256ResetsWrong : ChangeSpec := { name := "sum256Resets", fn := fun _ => fun
  | [d1, d2] => { results := [.lit (.bool false)], args := [d1, d2] }
  | _ => none }
def Sum256ResetsWrongFalsely : Prop := sum256ResetsRow.holds Try.pinned (OpenSpec.ofChange sum256ResetsWrong)

/- THE SECOND FORM. 'bulk': how many values and letters a reading holds, each counted each time it is reached (what is shared counts as often as it is met; a slice's spare places count too). A statement '..UptoSaid' is the law's where the arguments, and the package variables that the reading takes, are together of bulk at most 1048576: NARROWER than '..Said'. Prove '..Said' where nothing that the law and all that it calls make is longer than what came in: it says more and counts as full. Else prove '..UptoSaid'. A law counts once. -/
mutual
def uptoBulk {H : Type} : DataW H → Nat
  | .lit (.string bytes) => bytes.length + 1
  | .lit _ => 1
  | .nil => 1
  | .ptr d => uptoBulk d + 1
  | .slice elems spare => uptoBulkAll elems + uptoBulkAll spare + 1
  | .agg parts => uptoBulkAll parts + 1
  | .iface _ d => uptoBulk d + 1
  | .map entries => uptoBulkEntries entries + 1
  | .held _ => 1
def uptoBulkAll {H : Type} : List (DataW H) → Nat
  | [] => 0
  | d :: r => uptoBulk d + uptoBulkAll r
def uptoBulkEntries {H : Type} : List (Lit × DataW H) → Nat
  | [] => 0
  | x :: r => uptoBulkEntry x + uptoBulkEntries r
def uptoBulkEntry {H : Type} : Lit × DataW H → Nat
  | (.string bytes, d) => bytes.length + uptoBulk d + 1
  | (_, d) => uptoBulk d + 1
 end
def uptoSmall : (H : Type) → List (DataW H) → Bool := fun _ ds => decide (uptoBulkAll ds ≤ 1048576)
def OpenSpec.upto (s : _root_.Go.ChangeSpec) : _root_.Go.OpenSpec := { _root_.Go.OpenSpec.ofChange s with cond := some uptoSmall }

/-- 'engrosserlaw01.Sum256Sums', WHERE WHAT IT READS IS OF BULK AT MOST 1048576: true; the input reads as it did. -/
def sum256SumsUptoRow : OpenClaim := { program := "ytjcnmnkneicikaa", sum := "687e3df7940052f3d5298cd59d37117db382e0adfb15276dea322df629caaa85", func := "engrosser/engrosserlaw01.Sum256Sums", spec := "sum256Sums", apart := false, narrowed := true }
def Sum256SumsUptoSaid : Prop := sum256SumsUptoRow.holds Try.pinned (OpenSpec.upto sum256SumsSpec)

/-- 'engrosserlaw01.Sum256Goes', WHERE WHAT IT READS IS OF BULK AT MOST 1048576: true; the input reads as it did. -/
def sum256GoesUptoRow : OpenClaim := { program := "ytjcnmnkneicikaa", sum := "687e3df7940052f3d5298cd59d37117db382e0adfb15276dea322df629caaa85", func := "engrosser/engrosserlaw01.Sum256Goes", spec := "sum256Goes", apart := false, narrowed := true }
def Sum256GoesUptoSaid : Prop := sum256GoesUptoRow.holds Try.pinned (OpenSpec.upto sum256GoesSpec)

/-- 'engrosserlaw01.Sum256Cuts', WHERE WHAT IT READS IS OF BULK AT MOST 1048576: true; the input reads as it did. -/
def sum256CutsUptoRow : OpenClaim := { program := "ytjcnmnkneicikaa", sum := "687e3df7940052f3d5298cd59d37117db382e0adfb15276dea322df629caaa85", func := "engrosser/engrosserlaw01.Sum256Cuts", spec := "sum256Cuts", apart := false, narrowed := true }
def Sum256CutsUptoSaid : Prop := sum256CutsUptoRow.holds Try.pinned (OpenSpec.upto sum256CutsSpec)

/-- 'engrosserlaw01.Sum256Bytes', WHERE WHAT IT READS IS OF BULK AT MOST 1048576: true; the input reads as it did. -/
def sum256BytesUptoRow : OpenClaim := { program := "ytjcnmnkneicikaa", sum := "687e3df7940052f3d5298cd59d37117db382e0adfb15276dea322df629caaa85", func := "engrosser/engrosserlaw01.Sum256Bytes", spec := "sum256Bytes", apart := false, narrowed := true }
def Sum256BytesUptoSaid : Prop := sum256BytesUptoRow.holds Try.pinned (OpenSpec.upto sum256BytesSpec)

/-- 'engrosserlaw01.Sum256Resets', WHERE WHAT IT READS IS OF BULK AT MOST 1048576: true; the input reads as it did. -/
def sum256ResetsUptoRow : OpenClaim := { program := "ytjcnmnkneicikaa", sum := "687e3df7940052f3d5298cd59d37117db382e0adfb15276dea322df629caaa85", func := "engrosser/engrosserlaw01.Sum256Resets", spec := "sum256Resets", apart := false, narrowed := true }
def Sum256ResetsUptoSaid : Prop := sum256ResetsUptoRow.holds Try.pinned (OpenSpec.upto sum256ResetsSpec)

end Rows
end Go.Proofs.Ytjcnmnkneicikaa
