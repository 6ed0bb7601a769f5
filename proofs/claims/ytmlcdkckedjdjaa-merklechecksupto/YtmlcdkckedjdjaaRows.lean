/-
  No cell of these rows narrows 'for every input' (looked for: loops, veiled, ifaces, maps, wideKeys, modest, calm, conditions, laid).
  DERIVED. THE GIVEN ROWS OF THIS SEAT. 7 by the template 'for every input the law returns true; each argument reads behind the call as it read before'; 0 by the template 'total and deterministic' (their statements: YtmlcdkckedjdjaaTotals.lean).
  GIVEN WITH THE SEED: the statements are not yours to turn. If you find one false, say at which input.
  Laid BY PROGRAM, IN A SANDBOX (cutbox-rows.mjs): the forced cells as the released guide's own fill.sh prints them over the translation 50c9a9d6eea042cb… (all of the seat's roots in one cut). By AI agents, Wed Nov 11 2026. No macro, syntax, notation, axiom, sorry.
-/
import Derived.Test.YtmlcdkckedjdjaaChecked
import GoSem.Claim
import GoSem.ClaimJoined
import GoSem.ClaimMapViews
import Derived.JoinedTies
import Derived.KernelRfl
namespace Go.Proofs.Ytmlcdkckedjdjaa
/- THE CELL 'sum', in the pinned program and in every row, IS THE sha256 OF THE DUMP (.gsa) THAT YtmlcdkckedjdjaaProg.lean LOADS. Nothing in Lean hashes anything: it is a label: what it is worth is what the hold of that sum in a sandbox is worth. -/
noncomputable def Try.pinned : Pinned := { name := "ytmlcdkckedjdjaa", sum := "50c9a9d6eea042cb5f6f1fd8eb934cbf884a529cbfafeaa824557917c7338acb", checked := Try.checked }
namespace Rows
def none {H : Type} : Left H := { results := [], args := [] }

/-- 'engrosserlaw17.MerkleIncludes': WHATEVER THE INPUT: true; the input reads as it did. -/
def merkleIncludesSpec : ChangeSpec := { name := "merkleIncludes", fn := fun _ => fun
  | [d1, d2, d3] => { results := [.lit (.bool true)], args := [d1, d2, d3] }
  | _ => none }
def merkleIncludesRow : OpenClaim := { program := "ytmlcdkckedjdjaa", sum := "50c9a9d6eea042cb5f6f1fd8eb934cbf884a529cbfafeaa824557917c7338acb", func := "engrosser/engrosserlaw17.MerkleIncludes", spec := "merkleIncludes", unfollowed := true, recurses := true, apart := false }
def MerkleIncludesSaid : Prop := merkleIncludesRow.holds Try.pinned (OpenSpec.ofChange merkleIncludesSpec)

/-- ITS FALSE NEIGHBOUR: 'it returns false'. Refute it at one input. -/
def merkleIncludesWrong : ChangeSpec := { name := "merkleIncludes", fn := fun _ => fun
  | [d1, d2, d3] => { results := [.lit (.bool false)], args := [d1, d2, d3] }
  | _ => none }
def MerkleIncludesWrongFalsely : Prop := merkleIncludesRow.holds Try.pinned (OpenSpec.ofChange merkleIncludesWrong)

/-- 'engrosserlaw17.MerkleHalves': WHATEVER THE INPUT: true; the input reads as it did. -/
def merkleHalvesSpec : ChangeSpec := { name := "merkleHalves", fn := fun _ => fun
  | [d1, d2, d3] => { results := [.lit (.bool true)], args := [d1, d2, d3] }
  | _ => none }
def merkleHalvesRow : OpenClaim := { program := "ytmlcdkckedjdjaa", sum := "50c9a9d6eea042cb5f6f1fd8eb934cbf884a529cbfafeaa824557917c7338acb", func := "engrosser/engrosserlaw17.MerkleHalves", spec := "merkleHalves", unfollowed := true, recurses := true, apart := false }
def MerkleHalvesSaid : Prop := merkleHalvesRow.holds Try.pinned (OpenSpec.ofChange merkleHalvesSpec)

/-- ITS FALSE NEIGHBOUR: 'it returns false'. Refute it at one input. -/
def merkleHalvesWrong : ChangeSpec := { name := "merkleHalves", fn := fun _ => fun
  | [d1, d2, d3] => { results := [.lit (.bool false)], args := [d1, d2, d3] }
  | _ => none }
def MerkleHalvesWrongFalsely : Prop := merkleHalvesRow.holds Try.pinned (OpenSpec.ofChange merkleHalvesWrong)

/-- 'engrosserlaw17.MerkleAppends': WHATEVER THE INPUT: true; the input reads as it did. -/
def merkleAppendsSpec : ChangeSpec := { name := "merkleAppends", fn := fun _ => fun
  | [d1, d2] => { results := [.lit (.bool true)], args := [d1, d2] }
  | _ => none }
def merkleAppendsRow : OpenClaim := { program := "ytmlcdkckedjdjaa", sum := "50c9a9d6eea042cb5f6f1fd8eb934cbf884a529cbfafeaa824557917c7338acb", func := "engrosser/engrosserlaw17.MerkleAppends", spec := "merkleAppends", unfollowed := true, recurses := true, apart := false }
def MerkleAppendsSaid : Prop := merkleAppendsRow.holds Try.pinned (OpenSpec.ofChange merkleAppendsSpec)

/-- ITS FALSE NEIGHBOUR: 'it returns false'. Refute it at one input. -/
def merkleAppendsWrong : ChangeSpec := { name := "merkleAppends", fn := fun _ => fun
  | [d1, d2] => { results := [.lit (.bool false)], args := [d1, d2] }
  | _ => none }
def MerkleAppendsWrongFalsely : Prop := merkleAppendsRow.holds Try.pinned (OpenSpec.ofChange merkleAppendsWrong)

/-- 'engrosserlaw17.MerkleRoots': WHATEVER THE INPUT: true; the input reads as it did. -/
def merkleRootsSpec : ChangeSpec := { name := "merkleRoots", fn := fun _ => fun
  | [d1, d2, d3, d4, d5] => { results := [.lit (.bool true)], args := [d1, d2, d3, d4, d5] }
  | _ => none }
def merkleRootsRow : OpenClaim := { program := "ytmlcdkckedjdjaa", sum := "50c9a9d6eea042cb5f6f1fd8eb934cbf884a529cbfafeaa824557917c7338acb", func := "engrosser/engrosserlaw17.MerkleRoots", spec := "merkleRoots", unfollowed := true, recurses := true, apart := false }
def MerkleRootsSaid : Prop := merkleRootsRow.holds Try.pinned (OpenSpec.ofChange merkleRootsSpec)

/-- ITS FALSE NEIGHBOUR: 'it returns false'. Refute it at one input. -/
def merkleRootsWrong : ChangeSpec := { name := "merkleRoots", fn := fun _ => fun
  | [d1, d2, d3, d4, d5] => { results := [.lit (.bool false)], args := [d1, d2, d3, d4, d5] }
  | _ => none }
def MerkleRootsWrongFalsely : Prop := merkleRootsRow.holds Try.pinned (OpenSpec.ofChange merkleRootsWrong)

/-- 'engrosserlaw17.MerkleChecks': WHATEVER THE INPUT: true; the input reads as it did. -/
def merkleChecksSpec : ChangeSpec := { name := "merkleChecks", fn := fun _ => fun
  | [d1, d2, d3, d4, d5, d6, d7, d8] => { results := [.lit (.bool true)], args := [d1, d2, d3, d4, d5, d6, d7, d8] }
  | _ => none }
def merkleChecksRow : OpenClaim := { program := "ytmlcdkckedjdjaa", sum := "50c9a9d6eea042cb5f6f1fd8eb934cbf884a529cbfafeaa824557917c7338acb", func := "engrosser/engrosserlaw17.MerkleChecks", spec := "merkleChecks", unfollowed := true, recurses := true, apart := false }
def MerkleChecksSaid : Prop := merkleChecksRow.holds Try.pinned (OpenSpec.ofChange merkleChecksSpec)

/-- ITS FALSE NEIGHBOUR: 'it returns false'. Refute it at one input. -/
def merkleChecksWrong : ChangeSpec := { name := "merkleChecks", fn := fun _ => fun
  | [d1, d2, d3, d4, d5, d6, d7, d8] => { results := [.lit (.bool false)], args := [d1, d2, d3, d4, d5, d6, d7, d8] }
  | _ => none }
def MerkleChecksWrongFalsely : Prop := merkleChecksRow.holds Try.pinned (OpenSpec.ofChange merkleChecksWrong)

/-- 'engrosserlaw17.MerkleGrows': WHATEVER THE INPUT: true; the input reads as it did. -/
def merkleGrowsSpec : ChangeSpec := { name := "merkleGrows", fn := fun _ => fun
  | [d1, d2, d3] => { results := [.lit (.bool true)], args := [d1, d2, d3] }
  | _ => none }
def merkleGrowsRow : OpenClaim := { program := "ytmlcdkckedjdjaa", sum := "50c9a9d6eea042cb5f6f1fd8eb934cbf884a529cbfafeaa824557917c7338acb", func := "engrosser/engrosserlaw17.MerkleGrows", spec := "merkleGrows", unfollowed := true, recurses := true, apart := false }
def MerkleGrowsSaid : Prop := merkleGrowsRow.holds Try.pinned (OpenSpec.ofChange merkleGrowsSpec)

/-- ITS FALSE NEIGHBOUR: 'it returns false'. Refute it at one input. -/
def merkleGrowsWrong : ChangeSpec := { name := "merkleGrows", fn := fun _ => fun
  | [d1, d2, d3] => { results := [.lit (.bool false)], args := [d1, d2, d3] }
  | _ => none }
def MerkleGrowsWrongFalsely : Prop := merkleGrowsRow.holds Try.pinned (OpenSpec.ofChange merkleGrowsWrong)

/-- 'engrosserlaw17.MerkleSingle': WHATEVER THE INPUT: true; the input reads as it did. -/
def merkleSingleSpec : ChangeSpec := { name := "merkleSingle", fn := fun _ => fun
  | [d1, d2] => { results := [.lit (.bool true)], args := [d1, d2] }
  | _ => none }
def merkleSingleRow : OpenClaim := { program := "ytmlcdkckedjdjaa", sum := "50c9a9d6eea042cb5f6f1fd8eb934cbf884a529cbfafeaa824557917c7338acb", func := "engrosser/engrosserlaw17.MerkleSingle", spec := "merkleSingle", unfollowed := true, recurses := true, apart := false }
def MerkleSingleSaid : Prop := merkleSingleRow.holds Try.pinned (OpenSpec.ofChange merkleSingleSpec)

/-- ITS FALSE NEIGHBOUR: 'it returns false'. Refute it at one input. -/
def merkleSingleWrong : ChangeSpec := { name := "merkleSingle", fn := fun _ => fun
  | [d1, d2] => { results := [.lit (.bool false)], args := [d1, d2] }
  | _ => none }
def MerkleSingleWrongFalsely : Prop := merkleSingleRow.holds Try.pinned (OpenSpec.ofChange merkleSingleWrong)

/- THE SECOND FORM. 'bulk': how many values and letters a reading holds, each counted each time it is reached (what is shared counts as often as it is met; a slice's spare places count too). A statement '..UptoSaid' is the law's where the arguments, and the package variables that the reading takes, are together of bulk at most 1048576: NARROWER than '..Said'. Prove '..Said' where nothing that the law and all that it calls make is longer than what came in: it says more and counts as full. Else prove '..UptoSaid'. A law counts once. -/
mutual
def uptoBulk {H : Type} : DataW H → Nat
  | .lit (.string bytes) => bytes.length + 1
  | .lit _ => 1
  | .nil => 1
  | .ptr d => uptoBulk d + 1
  | .slice elems spare => uptoBulkAll elems + uptoBulkAll spare + 1
  | .agg parts => uptoBulkAll parts + 1
  | .iface _ d => uptoBulk d + 1
  | .map entries => uptoBulkEntries entries + 1
  | .held _ => 1
def uptoBulkAll {H : Type} : List (DataW H) → Nat
  | [] => 0
  | d :: r => uptoBulk d + uptoBulkAll r
def uptoBulkEntries {H : Type} : List (Lit × DataW H) → Nat
  | [] => 0
  | x :: r => uptoBulkEntry x + uptoBulkEntries r
def uptoBulkEntry {H : Type} : Lit × DataW H → Nat
  | (.string bytes, d) => bytes.length + uptoBulk d + 1
  | (_, d) => uptoBulk d + 1
 end
def uptoSmall : (H : Type) → List (DataW H) → Bool := fun _ ds => decide (uptoBulkAll ds ≤ 1048576)
def OpenSpec.upto (s : _root_.Go.ChangeSpec) : _root_.Go.OpenSpec := { _root_.Go.OpenSpec.ofChange s with cond := some uptoSmall }

/-- 'engrosserlaw17.MerkleIncludes', WHERE WHAT IT READS IS OF BULK AT MOST 1048576: true; the input reads as it did. -/
def merkleIncludesUptoRow : OpenClaim := { program := "ytmlcdkckedjdjaa", sum := "50c9a9d6eea042cb5f6f1fd8eb934cbf884a529cbfafeaa824557917c7338acb", func := "engrosser/engrosserlaw17.MerkleIncludes", spec := "merkleIncludes", unfollowed := true, recurses := true, apart := false, narrowed := true }
def MerkleIncludesUptoSaid : Prop := merkleIncludesUptoRow.holds Try.pinned (OpenSpec.upto merkleIncludesSpec)

/-- 'engrosserlaw17.MerkleHalves', WHERE WHAT IT READS IS OF BULK AT MOST 1048576: true; the input reads as it did. -/
def merkleHalvesUptoRow : OpenClaim := { program := "ytmlcdkckedjdjaa", sum := "50c9a9d6eea042cb5f6f1fd8eb934cbf884a529cbfafeaa824557917c7338acb", func := "engrosser/engrosserlaw17.MerkleHalves", spec := "merkleHalves", unfollowed := true, recurses := true, apart := false, narrowed := true }
def MerkleHalvesUptoSaid : Prop := merkleHalvesUptoRow.holds Try.pinned (OpenSpec.upto merkleHalvesSpec)

/-- 'engrosserlaw17.MerkleAppends', WHERE WHAT IT READS IS OF BULK AT MOST 1048576: true; the input reads as it did. -/
def merkleAppendsUptoRow : OpenClaim := { program := "ytmlcdkckedjdjaa", sum := "50c9a9d6eea042cb5f6f1fd8eb934cbf884a529cbfafeaa824557917c7338acb", func := "engrosser/engrosserlaw17.MerkleAppends", spec := "merkleAppends", unfollowed := true, recurses := true, apart := false, narrowed := true }
def MerkleAppendsUptoSaid : Prop := merkleAppendsUptoRow.holds Try.pinned (OpenSpec.upto merkleAppendsSpec)

/-- 'engrosserlaw17.MerkleRoots', WHERE WHAT IT READS IS OF BULK AT MOST 1048576: true; the input reads as it did. -/
def merkleRootsUptoRow : OpenClaim := { program := "ytmlcdkckedjdjaa", sum := "50c9a9d6eea042cb5f6f1fd8eb934cbf884a529cbfafeaa824557917c7338acb", func := "engrosser/engrosserlaw17.MerkleRoots", spec := "merkleRoots", unfollowed := true, recurses := true, apart := false, narrowed := true }
def MerkleRootsUptoSaid : Prop := merkleRootsUptoRow.holds Try.pinned (OpenSpec.upto merkleRootsSpec)

/-- 'engrosserlaw17.MerkleChecks', WHERE WHAT IT READS IS OF BULK AT MOST 1048576: true; the input reads as it did. -/
def merkleChecksUptoRow : OpenClaim := { program := "ytmlcdkckedjdjaa", sum := "50c9a9d6eea042cb5f6f1fd8eb934cbf884a529cbfafeaa824557917c7338acb", func := "engrosser/engrosserlaw17.MerkleChecks", spec := "merkleChecks", unfollowed := true, recurses := true, apart := false, narrowed := true }
def MerkleChecksUptoSaid : Prop := merkleChecksUptoRow.holds Try.pinned (OpenSpec.upto merkleChecksSpec)

/-- 'engrosserlaw17.MerkleGrows', WHERE WHAT IT READS IS OF BULK AT MOST 1048576: true; the input reads as it did. -/
def merkleGrowsUptoRow : OpenClaim := { program := "ytmlcdkckedjdjaa", sum := "50c9a9d6eea042cb5f6f1fd8eb934cbf884a529cbfafeaa824557917c7338acb", func := "engrosser/engrosserlaw17.MerkleGrows", spec := "merkleGrows", unfollowed := true, recurses := true, apart := false, narrowed := true }
def MerkleGrowsUptoSaid : Prop := merkleGrowsUptoRow.holds Try.pinned (OpenSpec.upto merkleGrowsSpec)

/-- 'engrosserlaw17.MerkleSingle', WHERE WHAT IT READS IS OF BULK AT MOST 1048576: true; the input reads as it did. -/
def merkleSingleUptoRow : OpenClaim := { program := "ytmlcdkckedjdjaa", sum := "50c9a9d6eea042cb5f6f1fd8eb934cbf884a529cbfafeaa824557917c7338acb", func := "engrosser/engrosserlaw17.MerkleSingle", spec := "merkleSingle", unfollowed := true, recurses := true, apart := false, narrowed := true }
def MerkleSingleUptoSaid : Prop := merkleSingleUptoRow.holds Try.pinned (OpenSpec.upto merkleSingleSpec)

end Rows
end Go.Proofs.Ytmlcdkckedjdjaa
