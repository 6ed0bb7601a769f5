/-
  No cell of these rows narrows 'for every input' (looked for: loops, veiled, ifaces, maps, wideKeys, modest, calm, conditions, laid).
  DERIVED. THE GIVEN ROWS OF THIS SEAT. 2 by the template 'for every input the law returns true; each argument reads behind the call as it read before'; 0 by the template 'total and deterministic' (their statements: YtikpfffhcjlcjaaGreatTotals.lean).
  GIVEN WITH THE SEED: the statements are not yours to turn. If you find one false, say at which input.
  Laid BY PROGRAM, IN A SANDBOX (cutbox-rows.mjs): the forced cells as the released guide's own fill.sh prints them over the translation 9dedabc0e950b98b… (all of the seat's roots in one cut). By AI agents, Wed Nov 11 2026. No macro, syntax, notation, axiom, sorry.
-/
import Derived.Test.YtikpfffhcjlcjaaGreatChecked
import GoSem.Claim
import GoSem.ClaimJoined
import GoSem.ClaimMapViews
import Derived.JoinedTies
import Derived.KernelRfl
namespace Go.Proofs.YtikpfffhcjlcjaaGreat
/- THE CELL 'sum', in the pinned program and in every row, IS THE sha256 OF THE DUMP (.gsa) THAT YtikpfffhcjlcjaaGreatProg.lean LOADS. Nothing in Lean hashes anything: it is a label: what it is worth is what the hold of that sum in a sandbox is worth. -/
noncomputable def Tryz.pinned : Pinned := { name := "ytikpfffhcjlcjaagreat", sum := "9dedabc0e950b98b573fc22ac9c192317533fb392573d72400a84f77531913b0", checked := Tryz.checked }
namespace Rows
def none {H : Type} : Left H := { results := [], args := [] }

/-- 'engrosserlaw12.GzPacks': WHATEVER THE INPUT: true; the input reads as it did. -/
def gzPacksSpec : ChangeSpec := { name := "gzPacks", fn := fun _ => fun
  | [d] => { results := [.lit (.bool true)], args := [d] }
  | _ => none }
def gzPacksRow : OpenClaim := { program := "ytikpfffhcjlcjaagreat", sum := "9dedabc0e950b98b573fc22ac9c192317533fb392573d72400a84f77531913b0", func := "engrosser/engrosserlaw12.GzPacks", spec := "gzPacks", inPlace := ["slices.overlaps[engrosser/huff.node]", "internal/bytealg.IndexByteString"], unfollowed := true, recurses := true, plainKeys := false, apart := false }
def GzPacksSaid : Prop := gzPacksRow.holds Tryz.pinned (OpenSpec.ofChange gzPacksSpec)

/-- ITS FALSE NEIGHBOUR: 'it returns false'. Refute it at one input. -/
def gzPacksWrong : ChangeSpec := { name := "gzPacks", fn := fun _ => fun
  | [d] => { results := [.lit (.bool false)], args := [d] }
  | _ => none }
def GzPacksWrongFalsely : Prop := gzPacksRow.holds Tryz.pinned (OpenSpec.ofChange gzPacksWrong)

/-- 'engrosserlaw12.GzOpens': WHATEVER THE INPUT: true; the input reads as it did. -/
def gzOpensSpec : ChangeSpec := { name := "gzOpens", fn := fun _ => fun
  | [d1, d2, d3, d4, d5, d6] => { results := [.lit (.bool true)], args := [d1, d2, d3, d4, d5, d6] }
  | _ => none }
def gzOpensRow : OpenClaim := { program := "ytikpfffhcjlcjaagreat", sum := "9dedabc0e950b98b573fc22ac9c192317533fb392573d72400a84f77531913b0", func := "engrosser/engrosserlaw12.GzOpens", spec := "gzOpens", inPlace := ["slices.overlaps[engrosser/huff.node]", "internal/bytealg.IndexByteString"], unfollowed := true, recurses := true, plainKeys := false, apart := false }
def GzOpensSaid : Prop := gzOpensRow.holds Tryz.pinned (OpenSpec.ofChange gzOpensSpec)

/-- ITS FALSE NEIGHBOUR: 'it returns false'. Refute it at one input. -/
def gzOpensWrong : ChangeSpec := { name := "gzOpens", fn := fun _ => fun
  | [d1, d2, d3, d4, d5, d6] => { results := [.lit (.bool false)], args := [d1, d2, d3, d4, d5, d6] }
  | _ => none }
def GzOpensWrongFalsely : Prop := gzOpensRow.holds Tryz.pinned (OpenSpec.ofChange gzOpensWrong)

/- THE SECOND FORM. 'bulk': how many values and letters a reading holds, each counted each time it is reached (what is shared counts as often as it is met; a slice's spare places count too). A statement '..UptoSaid' is the law's where the arguments, and the package variables that the reading takes, are together of bulk at most 1048576: NARROWER than '..Said'. Prove '..Said' where nothing that the law and all that it calls make is longer than what came in: it says more and counts as full. Else prove '..UptoSaid'. A law counts once. -/
mutual
def uptoBulk {H : Type} : DataW H → Nat
  | .lit (.string bytes) => bytes.length + 1
  | .lit _ => 1
  | .nil => 1
  | .ptr d => uptoBulk d + 1
  | .slice elems spare => uptoBulkAll elems + uptoBulkAll spare + 1
  | .agg parts => uptoBulkAll parts + 1
  | .iface _ d => uptoBulk d + 1
  | .map entries => uptoBulkEntries entries + 1
  | .held _ => 1
def uptoBulkAll {H : Type} : List (DataW H) → Nat
  | [] => 0
  | d :: r => uptoBulk d + uptoBulkAll r
def uptoBulkEntries {H : Type} : List (Lit × DataW H) → Nat
  | [] => 0
  | x :: r => uptoBulkEntry x + uptoBulkEntries r
def uptoBulkEntry {H : Type} : Lit × DataW H → Nat
  | (.string bytes, d) => bytes.length + uptoBulk d + 1
  | (_, d) => uptoBulk d + 1
 end
def uptoSmall : (H : Type) → List (DataW H) → Bool := fun _ ds => decide (uptoBulkAll ds ≤ 1048576)
def OpenSpec.upto (s : _root_.Go.ChangeSpec) : _root_.Go.OpenSpec := { _root_.Go.OpenSpec.ofChange s with cond := some uptoSmall }

/-- 'engrosserlaw12.GzPacks', WHERE WHAT IT READS IS OF BULK AT MOST 1048576: true; the input reads as it did. -/
def gzPacksUptoRow : OpenClaim := { program := "ytikpfffhcjlcjaagreat", sum := "9dedabc0e950b98b573fc22ac9c192317533fb392573d72400a84f77531913b0", func := "engrosser/engrosserlaw12.GzPacks", spec := "gzPacks", inPlace := ["slices.overlaps[engrosser/huff.node]", "internal/bytealg.IndexByteString"], unfollowed := true, recurses := true, plainKeys := false, apart := false, narrowed := true }
def GzPacksUptoSaid : Prop := gzPacksUptoRow.holds Tryz.pinned (OpenSpec.upto gzPacksSpec)

/-- 'engrosserlaw12.GzOpens', WHERE WHAT IT READS IS OF BULK AT MOST 1048576: true; the input reads as it did. -/
def gzOpensUptoRow : OpenClaim := { program := "ytikpfffhcjlcjaagreat", sum := "9dedabc0e950b98b573fc22ac9c192317533fb392573d72400a84f77531913b0", func := "engrosser/engrosserlaw12.GzOpens", spec := "gzOpens", inPlace := ["slices.overlaps[engrosser/huff.node]", "internal/bytealg.IndexByteString"], unfollowed := true, recurses := true, plainKeys := false, apart := false, narrowed := true }
def GzOpensUptoSaid : Prop := gzOpensUptoRow.holds Tryz.pinned (OpenSpec.upto gzOpensSpec)

end Rows
end Go.Proofs.YtikpfffhcjlcjaaGreat
