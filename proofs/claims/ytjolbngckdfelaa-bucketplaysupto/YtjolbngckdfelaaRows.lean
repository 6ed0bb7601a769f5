/-
  No cell of these rows narrows 'for every input' (looked for: loops, veiled, ifaces, maps, wideKeys, modest, calm, conditions, laid).
  DERIVED. THE GIVEN ROWS OF THIS SEAT. 5 by the template 'for every input the law returns true; each argument reads behind the call as it read before'; 0 by the template 'total and deterministic' (their statements: YtjolbngckdfelaaTotals.lean).
  GIVEN WITH THE SEED: the statements are not yours to turn. If you find one false, say at which input.
  Laid BY PROGRAM, IN A SANDBOX (cutbox-rows.mjs): the forced cells as the released guide's own fill.sh prints them over the translation fd632f0cb910d35a… (all of the seat's roots in one cut). By AI agents, Wed Nov 11 2026. No macro, syntax, notation, axiom, sorry.
-/
import Derived.Test.YtjolbngckdfelaaChecked
import GoSem.Claim
import GoSem.ClaimJoined
import GoSem.ClaimMapViews
import Derived.JoinedTies
import Derived.KernelRfl
namespace Go.Proofs.Ytjolbngckdfelaa
/- THE CELL 'sum', in the pinned program and in every row, IS THE sha256 OF THE DUMP (.gsa) THAT YtjolbngckdfelaaProg.lean LOADS. Nothing in Lean hashes anything: it is a label: what it is worth is what the hold of that sum in a sandbox is worth. -/
noncomputable def Try.pinned : Pinned := { name := "ytjolbngckdfelaa", sum := "fd632f0cb910d35ab6208c37e23744d66596ad8007ce172a7c0ffce707f2e4f1", checked := Try.checked }
namespace Rows
def none {H : Type} : Left H := { results := [], args := [] }

/-- 'engrosserlaw20.BucketSwaps': WHATEVER THE INPUT: true; the input reads as it did. -/
def bucketSwapsSpec : ChangeSpec := { name := "bucketSwaps", fn := fun _ => fun
  | [d1, d2, d3] => { results := [.lit (.bool true)], args := [d1, d2, d3] }
  | _ => none }
def bucketSwapsRow : OpenClaim := { program := "ytjolbngckdfelaa", sum := "fd632f0cb910d35ab6208c37e23744d66596ad8007ce172a7c0ffce707f2e4f1", func := "engrosser/engrosserlaw20.BucketSwaps", spec := "bucketSwaps", unfollowed := true, recurses := true, apart := false }
def BucketSwapsSaid : Prop := bucketSwapsRow.holds Try.pinned (OpenSpec.ofChange bucketSwapsSpec)

/-- ITS FALSE NEIGHBOUR: 'it returns false'. Refute it at one input. -/
def bucketSwapsWrong : ChangeSpec := { name := "bucketSwaps", fn := fun _ => fun
  | [d1, d2, d3] => { results := [.lit (.bool false)], args := [d1, d2, d3] }
  | _ => none }
def BucketSwapsWrongFalsely : Prop := bucketSwapsRow.holds Try.pinned (OpenSpec.ofChange bucketSwapsWrong)

/-- 'engrosserlaw20.BucketFates': WHATEVER THE INPUT: true; the input reads as it did. -/
def bucketFatesSpec : ChangeSpec := { name := "bucketFates", fn := fun _ => fun
  | [d1, d2] => { results := [.lit (.bool true)], args := [d1, d2] }
  | _ => none }
def bucketFatesRow : OpenClaim := { program := "ytjolbngckdfelaa", sum := "fd632f0cb910d35ab6208c37e23744d66596ad8007ce172a7c0ffce707f2e4f1", func := "engrosser/engrosserlaw20.BucketFates", spec := "bucketFates", unfollowed := true, recurses := true, apart := false }
def BucketFatesSaid : Prop := bucketFatesRow.holds Try.pinned (OpenSpec.ofChange bucketFatesSpec)

/-- ITS FALSE NEIGHBOUR: 'it returns false'. Refute it at one input. -/
def bucketFatesWrong : ChangeSpec := { name := "bucketFates", fn := fun _ => fun
  | [d1, d2] => { results := [.lit (.bool false)], args := [d1, d2] }
  | _ => none }
def BucketFatesWrongFalsely : Prop := bucketFatesRow.holds Try.pinned (OpenSpec.ofChange bucketFatesWrong)

/-- 'engrosserlaw20.BucketNews': WHATEVER THE INPUT: true; the input reads as it did. -/
def bucketNewsSpec : ChangeSpec := { name := "bucketNews", fn := fun _ => fun
  | [d1, d2, d3] => { results := [.lit (.bool true)], args := [d1, d2, d3] }
  | _ => none }
def bucketNewsRow : OpenClaim := { program := "ytjolbngckdfelaa", sum := "fd632f0cb910d35ab6208c37e23744d66596ad8007ce172a7c0ffce707f2e4f1", func := "engrosser/engrosserlaw20.BucketNews", spec := "bucketNews", unfollowed := true, recurses := true, apart := false }
def BucketNewsSaid : Prop := bucketNewsRow.holds Try.pinned (OpenSpec.ofChange bucketNewsSpec)

/-- ITS FALSE NEIGHBOUR: 'it returns false'. Refute it at one input. -/
def bucketNewsWrong : ChangeSpec := { name := "bucketNews", fn := fun _ => fun
  | [d1, d2, d3] => { results := [.lit (.bool false)], args := [d1, d2, d3] }
  | _ => none }
def BucketNewsWrongFalsely : Prop := bucketNewsRow.holds Try.pinned (OpenSpec.ofChange bucketNewsWrong)

/-- 'engrosserlaw20.BucketLooks': WHATEVER THE INPUT: true; the input reads as it did. -/
def bucketLooksSpec : ChangeSpec := { name := "bucketLooks", fn := fun _ => fun
  | [d1, d2] => { results := [.lit (.bool true)], args := [d1, d2] }
  | _ => none }
def bucketLooksRow : OpenClaim := { program := "ytjolbngckdfelaa", sum := "fd632f0cb910d35ab6208c37e23744d66596ad8007ce172a7c0ffce707f2e4f1", func := "engrosser/engrosserlaw20.BucketLooks", spec := "bucketLooks", unfollowed := true, recurses := true, apart := false }
def BucketLooksSaid : Prop := bucketLooksRow.holds Try.pinned (OpenSpec.ofChange bucketLooksSpec)

/-- ITS FALSE NEIGHBOUR: 'it returns false'. Refute it at one input. -/
def bucketLooksWrong : ChangeSpec := { name := "bucketLooks", fn := fun _ => fun
  | [d1, d2] => { results := [.lit (.bool false)], args := [d1, d2] }
  | _ => none }
def BucketLooksWrongFalsely : Prop := bucketLooksRow.holds Try.pinned (OpenSpec.ofChange bucketLooksWrong)

/-- 'engrosserlaw20.BucketPlays': WHATEVER THE INPUT: true; the input reads as it did. -/
def bucketPlaysSpec : ChangeSpec := { name := "bucketPlays", fn := fun _ => fun
  | [d] => { results := [.lit (.bool true)], args := [d] }
  | _ => none }
def bucketPlaysRow : OpenClaim := { program := "ytjolbngckdfelaa", sum := "fd632f0cb910d35ab6208c37e23744d66596ad8007ce172a7c0ffce707f2e4f1", func := "engrosser/engrosserlaw20.BucketPlays", spec := "bucketPlays", unfollowed := true, recurses := true, apart := false }
def BucketPlaysSaid : Prop := bucketPlaysRow.holds Try.pinned (OpenSpec.ofChange bucketPlaysSpec)

/-- ITS FALSE NEIGHBOUR: 'it returns false'. Refute it at one input. -/
def bucketPlaysWrong : ChangeSpec := { name := "bucketPlays", fn := fun _ => fun
  | [d] => { results := [.lit (.bool false)], args := [d] }
  | _ => none }
def BucketPlaysWrongFalsely : Prop := bucketPlaysRow.holds Try.pinned (OpenSpec.ofChange bucketPlaysWrong)

/- THE SECOND FORM. 'bulk': how many values and letters a reading holds, each counted each time it is reached (what is shared counts as often as it is met; a slice's spare places count too). A statement '..UptoSaid' is the law's where the arguments, and the package variables that the reading takes, are together of bulk at most 1048576: NARROWER than '..Said'. Prove '..Said' where nothing that the law and all that it calls make is longer than what came in: it says more and counts as full. Else prove '..UptoSaid'. A law counts once. -/
mutual
def uptoBulk {H : Type} : DataW H → Nat
  | .lit (.string bytes) => bytes.length + 1
  | .lit _ => 1
  | .nil => 1
  | .ptr d => uptoBulk d + 1
  | .slice elems spare => uptoBulkAll elems + uptoBulkAll spare + 1
  | .agg parts => uptoBulkAll parts + 1
  | .iface _ d => uptoBulk d + 1
  | .map entries => uptoBulkEntries entries + 1
  | .held _ => 1
def uptoBulkAll {H : Type} : List (DataW H) → Nat
  | [] => 0
  | d :: r => uptoBulk d + uptoBulkAll r
def uptoBulkEntries {H : Type} : List (Lit × DataW H) → Nat
  | [] => 0
  | x :: r => uptoBulkEntry x + uptoBulkEntries r
def uptoBulkEntry {H : Type} : Lit × DataW H → Nat
  | (.string bytes, d) => bytes.length + uptoBulk d + 1
  | (_, d) => uptoBulk d + 1
 end
def uptoSmall : (H : Type) → List (DataW H) → Bool := fun _ ds => decide (uptoBulkAll ds ≤ 1048576)
def OpenSpec.upto (s : _root_.Go.ChangeSpec) : _root_.Go.OpenSpec := { _root_.Go.OpenSpec.ofChange s with cond := some uptoSmall }

/-- 'engrosserlaw20.BucketSwaps', WHERE WHAT IT READS IS OF BULK AT MOST 1048576: true; the input reads as it did. -/
def bucketSwapsUptoRow : OpenClaim := { program := "ytjolbngckdfelaa", sum := "fd632f0cb910d35ab6208c37e23744d66596ad8007ce172a7c0ffce707f2e4f1", func := "engrosser/engrosserlaw20.BucketSwaps", spec := "bucketSwaps", unfollowed := true, recurses := true, apart := false, narrowed := true }
def BucketSwapsUptoSaid : Prop := bucketSwapsUptoRow.holds Try.pinned (OpenSpec.upto bucketSwapsSpec)

/-- 'engrosserlaw20.BucketFates', WHERE WHAT IT READS IS OF BULK AT MOST 1048576: true; the input reads as it did. -/
def bucketFatesUptoRow : OpenClaim := { program := "ytjolbngckdfelaa", sum := "fd632f0cb910d35ab6208c37e23744d66596ad8007ce172a7c0ffce707f2e4f1", func := "engrosser/engrosserlaw20.BucketFates", spec := "bucketFates", unfollowed := true, recurses := true, apart := false, narrowed := true }
def BucketFatesUptoSaid : Prop := bucketFatesUptoRow.holds Try.pinned (OpenSpec.upto bucketFatesSpec)

/-- 'engrosserlaw20.BucketNews', WHERE WHAT IT READS IS OF BULK AT MOST 1048576: true; the input reads as it did. -/
def bucketNewsUptoRow : OpenClaim := { program := "ytjolbngckdfelaa", sum := "fd632f0cb910d35ab6208c37e23744d66596ad8007ce172a7c0ffce707f2e4f1", func := "engrosser/engrosserlaw20.BucketNews", spec := "bucketNews", unfollowed := true, recurses := true, apart := false, narrowed := true }
def BucketNewsUptoSaid : Prop := bucketNewsUptoRow.holds Try.pinned (OpenSpec.upto bucketNewsSpec)

/-- 'engrosserlaw20.BucketLooks', WHERE WHAT IT READS IS OF BULK AT MOST 1048576: true; the input reads as it did. -/
def bucketLooksUptoRow : OpenClaim := { program := "ytjolbngckdfelaa", sum := "fd632f0cb910d35ab6208c37e23744d66596ad8007ce172a7c0ffce707f2e4f1", func := "engrosser/engrosserlaw20.BucketLooks", spec := "bucketLooks", unfollowed := true, recurses := true, apart := false, narrowed := true }
def BucketLooksUptoSaid : Prop := bucketLooksUptoRow.holds Try.pinned (OpenSpec.upto bucketLooksSpec)

/-- 'engrosserlaw20.BucketPlays', WHERE WHAT IT READS IS OF BULK AT MOST 1048576: true; the input reads as it did. -/
def bucketPlaysUptoRow : OpenClaim := { program := "ytjolbngckdfelaa", sum := "fd632f0cb910d35ab6208c37e23744d66596ad8007ce172a7c0ffce707f2e4f1", func := "engrosser/engrosserlaw20.BucketPlays", spec := "bucketPlays", unfollowed := true, recurses := true, apart := false, narrowed := true }
def BucketPlaysUptoSaid : Prop := bucketPlaysUptoRow.holds Try.pinned (OpenSpec.upto bucketPlaysSpec)

end Rows
end Go.Proofs.Ytjolbngckdfelaa
