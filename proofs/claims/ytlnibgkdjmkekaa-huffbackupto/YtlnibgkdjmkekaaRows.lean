/-
  No cell of these rows narrows 'for every input' (looked for: loops, veiled, ifaces, maps, wideKeys, modest, calm, conditions, laid).
  DERIVED. THE GIVEN ROWS OF THIS SEAT. 7 by the template 'for every input the law returns true; each argument reads behind the call as it read before'; 0 by the template 'total and deterministic' (their statements: YtlnibgkdjmkekaaTotals.lean).
  GIVEN WITH THE SEED: the statements are not yours to turn. If you find one false, say at which input.
  Laid BY PROGRAM, IN A SANDBOX (cutbox-rows.mjs): the forced cells as the released guide's own fill.sh prints them over the translation 6658f514075f33fa… (all of the seat's roots in one cut). By AI agents, Wed Nov 11 2026. No macro, syntax, notation, axiom, sorry.
-/
import Derived.Test.YtlnibgkdjmkekaaChecked
import GoSem.Claim
import GoSem.ClaimJoined
import GoSem.ClaimMapViews
import Derived.JoinedTies
import Derived.KernelRfl
namespace Go.Proofs.Ytlnibgkdjmkekaa
/- THE CELL 'sum', in the pinned program and in every row, IS THE sha256 OF THE DUMP (.gsa) THAT YtlnibgkdjmkekaaProg.lean LOADS. Nothing in Lean hashes anything: it is a label: what it is worth is what the hold of that sum in a sandbox is worth. -/
noncomputable def Try.pinned : Pinned := { name := "ytlnibgkdjmkekaa", sum := "6658f514075f33fa99e3468b3558422d0795bd6922cc0146e7880012fb876c3a", checked := Try.checked }
namespace Rows
def none {H : Type} : Left H := { results := [], args := [] }

/-- 'engrosserlaw09.HuffCodes': WHATEVER THE INPUT: true; the input reads as it did. -/
def huffCodesSpec : ChangeSpec := { name := "huffCodes", fn := fun _ => fun
  | [d] => { results := [.lit (.bool true)], args := [d] }
  | _ => none }
def huffCodesRow : OpenClaim := { program := "ytlnibgkdjmkekaa", sum := "6658f514075f33fa99e3468b3558422d0795bd6922cc0146e7880012fb876c3a", func := "engrosser/engrosserlaw09.HuffCodes", spec := "huffCodes", plainKeys := false, apart := false }
def HuffCodesSaid : Prop := huffCodesRow.holds Try.pinned (OpenSpec.ofChange huffCodesSpec)

/-- ITS FALSE NEIGHBOUR: 'it returns false'. Refute it at one input. -/
def huffCodesWrong : ChangeSpec := { name := "huffCodes", fn := fun _ => fun
  | [d] => { results := [.lit (.bool false)], args := [d] }
  | _ => none }
def HuffCodesWrongFalsely : Prop := huffCodesRow.holds Try.pinned (OpenSpec.ofChange huffCodesWrong)

/-- 'engrosserlaw09.HuffReads': WHATEVER THE INPUT: true; the input reads as it did. -/
def huffReadsSpec : ChangeSpec := { name := "huffReads", fn := fun _ => fun
  | [d1, d2, d3] => { results := [.lit (.bool true)], args := [d1, d2, d3] }
  | _ => none }
def huffReadsRow : OpenClaim := { program := "ytlnibgkdjmkekaa", sum := "6658f514075f33fa99e3468b3558422d0795bd6922cc0146e7880012fb876c3a", func := "engrosser/engrosserlaw09.HuffReads", spec := "huffReads", plainKeys := false, apart := false }
def HuffReadsSaid : Prop := huffReadsRow.holds Try.pinned (OpenSpec.ofChange huffReadsSpec)

/-- ITS FALSE NEIGHBOUR: 'it returns false'. Refute it at one input. -/
def huffReadsWrong : ChangeSpec := { name := "huffReads", fn := fun _ => fun
  | [d1, d2, d3] => { results := [.lit (.bool false)], args := [d1, d2, d3] }
  | _ => none }
def HuffReadsWrongFalsely : Prop := huffReadsRow.holds Try.pinned (OpenSpec.ofChange huffReadsWrong)

/-- 'engrosserlaw09.HuffLengths': WHATEVER THE INPUT: true; the input reads as it did. -/
def huffLengthsSpec : ChangeSpec := { name := "huffLengths", fn := fun _ => fun
  | [d1, d2] => { results := [.lit (.bool true)], args := [d1, d2] }
  | _ => none }
def huffLengthsRow : OpenClaim := { program := "ytlnibgkdjmkekaa", sum := "6658f514075f33fa99e3468b3558422d0795bd6922cc0146e7880012fb876c3a", func := "engrosser/engrosserlaw09.HuffLengths", spec := "huffLengths", inPlace := ["slices.overlaps[engrosser/huff.node]"], unfollowed := true, recurses := true, plainKeys := false, apart := false }
def HuffLengthsSaid : Prop := huffLengthsRow.holds Try.pinned (OpenSpec.ofChange huffLengthsSpec)

/-- ITS FALSE NEIGHBOUR: 'it returns false'. Refute it at one input. -/
def huffLengthsWrong : ChangeSpec := { name := "huffLengths", fn := fun _ => fun
  | [d1, d2] => { results := [.lit (.bool false)], args := [d1, d2] }
  | _ => none }
def HuffLengthsWrongFalsely : Prop := huffLengthsRow.holds Try.pinned (OpenSpec.ofChange huffLengthsWrong)

/-- 'engrosserlaw09.HuffMakes': WHATEVER THE INPUT: true; the input reads as it did. -/
def huffMakesSpec : ChangeSpec := { name := "huffMakes", fn := fun _ => fun
  | [d1, d2] => { results := [.lit (.bool true)], args := [d1, d2] }
  | _ => none }
def huffMakesRow : OpenClaim := { program := "ytlnibgkdjmkekaa", sum := "6658f514075f33fa99e3468b3558422d0795bd6922cc0146e7880012fb876c3a", func := "engrosser/engrosserlaw09.HuffMakes", spec := "huffMakes", inPlace := ["slices.overlaps[engrosser/huff.node]"], unfollowed := true, recurses := true, plainKeys := false, apart := false }
def HuffMakesSaid : Prop := huffMakesRow.holds Try.pinned (OpenSpec.ofChange huffMakesSpec)

/-- ITS FALSE NEIGHBOUR: 'it returns false'. Refute it at one input. -/
def huffMakesWrong : ChangeSpec := { name := "huffMakes", fn := fun _ => fun
  | [d1, d2] => { results := [.lit (.bool false)], args := [d1, d2] }
  | _ => none }
def HuffMakesWrongFalsely : Prop := huffMakesRow.holds Try.pinned (OpenSpec.ofChange huffMakesWrong)

/-- 'engrosserlaw09.HuffBack': WHATEVER THE INPUT: true; the input reads as it did. -/
def huffBackSpec : ChangeSpec := { name := "huffBack", fn := fun _ => fun
  | [d1, d2, d3, d4] => { results := [.lit (.bool true)], args := [d1, d2, d3, d4] }
  | _ => none }
def huffBackRow : OpenClaim := { program := "ytlnibgkdjmkekaa", sum := "6658f514075f33fa99e3468b3558422d0795bd6922cc0146e7880012fb876c3a", func := "engrosser/engrosserlaw09.HuffBack", spec := "huffBack", inPlace := ["slices.overlaps[engrosser/huff.node]"], unfollowed := true, recurses := true, plainKeys := false, apart := false }
def HuffBackSaid : Prop := huffBackRow.holds Try.pinned (OpenSpec.ofChange huffBackSpec)

/-- ITS FALSE NEIGHBOUR: 'it returns false'. Refute it at one input. -/
def huffBackWrong : ChangeSpec := { name := "huffBack", fn := fun _ => fun
  | [d1, d2, d3, d4] => { results := [.lit (.bool false)], args := [d1, d2, d3, d4] }
  | _ => none }
def HuffBackWrongFalsely : Prop := huffBackRow.holds Try.pinned (OpenSpec.ofChange huffBackWrong)

/-- 'engrosserlaw09.HuffPrefix': WHATEVER THE INPUT: true; the input reads as it did. -/
def huffPrefixSpec : ChangeSpec := { name := "huffPrefix", fn := fun _ => fun
  | [d] => { results := [.lit (.bool true)], args := [d] }
  | _ => none }
def huffPrefixRow : OpenClaim := { program := "ytlnibgkdjmkekaa", sum := "6658f514075f33fa99e3468b3558422d0795bd6922cc0146e7880012fb876c3a", func := "engrosser/engrosserlaw09.HuffPrefix", spec := "huffPrefix", inPlace := ["slices.overlaps[engrosser/huff.node]"], unfollowed := true, recurses := true, plainKeys := false, apart := false }
def HuffPrefixSaid : Prop := huffPrefixRow.holds Try.pinned (OpenSpec.ofChange huffPrefixSpec)

/-- ITS FALSE NEIGHBOUR: 'it returns false'. Refute it at one input. -/
def huffPrefixWrong : ChangeSpec := { name := "huffPrefix", fn := fun _ => fun
  | [d] => { results := [.lit (.bool false)], args := [d] }
  | _ => none }
def HuffPrefixWrongFalsely : Prop := huffPrefixRow.holds Try.pinned (OpenSpec.ofChange huffPrefixWrong)

/-- 'engrosserlaw09.HuffEven': WHATEVER THE INPUT: true; the input reads as it did. -/
def huffEvenSpec : ChangeSpec := { name := "huffEven", fn := fun _ => fun
  | [d1, d2] => { results := [.lit (.bool true)], args := [d1, d2] }
  | _ => none }
def huffEvenRow : OpenClaim := { program := "ytlnibgkdjmkekaa", sum := "6658f514075f33fa99e3468b3558422d0795bd6922cc0146e7880012fb876c3a", func := "engrosser/engrosserlaw09.HuffEven", spec := "huffEven", inPlace := ["slices.overlaps[engrosser/huff.node]"], unfollowed := true, recurses := true, plainKeys := false, apart := false }
def HuffEvenSaid : Prop := huffEvenRow.holds Try.pinned (OpenSpec.ofChange huffEvenSpec)

/-- ITS FALSE NEIGHBOUR: 'it returns false'. Refute it at one input. -/
def huffEvenWrong : ChangeSpec := { name := "huffEven", fn := fun _ => fun
  | [d1, d2] => { results := [.lit (.bool false)], args := [d1, d2] }
  | _ => none }
def HuffEvenWrongFalsely : Prop := huffEvenRow.holds Try.pinned (OpenSpec.ofChange huffEvenWrong)

/- THE SECOND FORM. 'bulk': how many values and letters a reading holds, each counted each time it is reached (what is shared counts as often as it is met; a slice's spare places count too). A statement '..UptoSaid' is the law's where the arguments, and the package variables that the reading takes, are together of bulk at most 1048576: NARROWER than '..Said'. Prove '..Said' where nothing that the law and all that it calls make is longer than what came in: it says more and counts as full. Else prove '..UptoSaid'. A law counts once. -/
mutual
def uptoBulk {H : Type} : DataW H → Nat
  | .lit (.string bytes) => bytes.length + 1
  | .lit _ => 1
  | .nil => 1
  | .ptr d => uptoBulk d + 1
  | .slice elems spare => uptoBulkAll elems + uptoBulkAll spare + 1
  | .agg parts => uptoBulkAll parts + 1
  | .iface _ d => uptoBulk d + 1
  | .map entries => uptoBulkEntries entries + 1
  | .held _ => 1
def uptoBulkAll {H : Type} : List (DataW H) → Nat
  | [] => 0
  | d :: r => uptoBulk d + uptoBulkAll r
def uptoBulkEntries {H : Type} : List (Lit × DataW H) → Nat
  | [] => 0
  | x :: r => uptoBulkEntry x + uptoBulkEntries r
def uptoBulkEntry {H : Type} : Lit × DataW H → Nat
  | (.string bytes, d) => bytes.length + uptoBulk d + 1
  | (_, d) => uptoBulk d + 1
 end
def uptoSmall : (H : Type) → List (DataW H) → Bool := fun _ ds => decide (uptoBulkAll ds ≤ 1048576)
def OpenSpec.upto (s : _root_.Go.ChangeSpec) : _root_.Go.OpenSpec := { _root_.Go.OpenSpec.ofChange s with cond := some uptoSmall }

/-- 'engrosserlaw09.HuffCodes', WHERE WHAT IT READS IS OF BULK AT MOST 1048576: true; the input reads as it did. -/
def huffCodesUptoRow : OpenClaim := { program := "ytlnibgkdjmkekaa", sum := "6658f514075f33fa99e3468b3558422d0795bd6922cc0146e7880012fb876c3a", func := "engrosser/engrosserlaw09.HuffCodes", spec := "huffCodes", plainKeys := false, apart := false, narrowed := true }
def HuffCodesUptoSaid : Prop := huffCodesUptoRow.holds Try.pinned (OpenSpec.upto huffCodesSpec)

/-- 'engrosserlaw09.HuffReads', WHERE WHAT IT READS IS OF BULK AT MOST 1048576: true; the input reads as it did. -/
def huffReadsUptoRow : OpenClaim := { program := "ytlnibgkdjmkekaa", sum := "6658f514075f33fa99e3468b3558422d0795bd6922cc0146e7880012fb876c3a", func := "engrosser/engrosserlaw09.HuffReads", spec := "huffReads", plainKeys := false, apart := false, narrowed := true }
def HuffReadsUptoSaid : Prop := huffReadsUptoRow.holds Try.pinned (OpenSpec.upto huffReadsSpec)

/-- 'engrosserlaw09.HuffLengths', WHERE WHAT IT READS IS OF BULK AT MOST 1048576: true; the input reads as it did. -/
def huffLengthsUptoRow : OpenClaim := { program := "ytlnibgkdjmkekaa", sum := "6658f514075f33fa99e3468b3558422d0795bd6922cc0146e7880012fb876c3a", func := "engrosser/engrosserlaw09.HuffLengths", spec := "huffLengths", inPlace := ["slices.overlaps[engrosser/huff.node]"], unfollowed := true, recurses := true, plainKeys := false, apart := false, narrowed := true }
def HuffLengthsUptoSaid : Prop := huffLengthsUptoRow.holds Try.pinned (OpenSpec.upto huffLengthsSpec)

/-- 'engrosserlaw09.HuffMakes', WHERE WHAT IT READS IS OF BULK AT MOST 1048576: true; the input reads as it did. -/
def huffMakesUptoRow : OpenClaim := { program := "ytlnibgkdjmkekaa", sum := "6658f514075f33fa99e3468b3558422d0795bd6922cc0146e7880012fb876c3a", func := "engrosser/engrosserlaw09.HuffMakes", spec := "huffMakes", inPlace := ["slices.overlaps[engrosser/huff.node]"], unfollowed := true, recurses := true, plainKeys := false, apart := false, narrowed := true }
def HuffMakesUptoSaid : Prop := huffMakesUptoRow.holds Try.pinned (OpenSpec.upto huffMakesSpec)

/-- 'engrosserlaw09.HuffBack', WHERE WHAT IT READS IS OF BULK AT MOST 1048576: true; the input reads as it did. -/
def huffBackUptoRow : OpenClaim := { program := "ytlnibgkdjmkekaa", sum := "6658f514075f33fa99e3468b3558422d0795bd6922cc0146e7880012fb876c3a", func := "engrosser/engrosserlaw09.HuffBack", spec := "huffBack", inPlace := ["slices.overlaps[engrosser/huff.node]"], unfollowed := true, recurses := true, plainKeys := false, apart := false, narrowed := true }
def HuffBackUptoSaid : Prop := huffBackUptoRow.holds Try.pinned (OpenSpec.upto huffBackSpec)

/-- 'engrosserlaw09.HuffPrefix', WHERE WHAT IT READS IS OF BULK AT MOST 1048576: true; the input reads as it did. -/
def huffPrefixUptoRow : OpenClaim := { program := "ytlnibgkdjmkekaa", sum := "6658f514075f33fa99e3468b3558422d0795bd6922cc0146e7880012fb876c3a", func := "engrosser/engrosserlaw09.HuffPrefix", spec := "huffPrefix", inPlace := ["slices.overlaps[engrosser/huff.node]"], unfollowed := true, recurses := true, plainKeys := false, apart := false, narrowed := true }
def HuffPrefixUptoSaid : Prop := huffPrefixUptoRow.holds Try.pinned (OpenSpec.upto huffPrefixSpec)

/-- 'engrosserlaw09.HuffEven', WHERE WHAT IT READS IS OF BULK AT MOST 1048576: true; the input reads as it did. -/
def huffEvenUptoRow : OpenClaim := { program := "ytlnibgkdjmkekaa", sum := "6658f514075f33fa99e3468b3558422d0795bd6922cc0146e7880012fb876c3a", func := "engrosser/engrosserlaw09.HuffEven", spec := "huffEven", inPlace := ["slices.overlaps[engrosser/huff.node]"], unfollowed := true, recurses := true, plainKeys := false, apart := false, narrowed := true }
def HuffEvenUptoSaid : Prop := huffEvenUptoRow.holds Try.pinned (OpenSpec.upto huffEvenSpec)

end Rows
end Go.Proofs.Ytlnibgkdjmkekaa
