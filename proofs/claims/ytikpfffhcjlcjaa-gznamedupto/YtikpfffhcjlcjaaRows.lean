/-
  No cell of these rows narrows 'for every input' (looked for: loops, veiled, ifaces, maps, wideKeys, modest, calm, conditions, laid).
  DERIVED. THE GIVEN ROWS OF THIS SEAT. 11 by the template 'for every input the law returns true; each argument reads behind the call as it read before'; 0 by the template 'total and deterministic' (their statements: YtikpfffhcjlcjaaTotals.lean).
  GIVEN WITH THE SEED: the statements are not yours to turn. If you find one false, say at which input.
  Laid BY PROGRAM, IN A SANDBOX (cutbox-rows.mjs): the forced cells as the released guide's own fill.sh prints them over the translation 62212b1ffbcdc49c… (all of the seat's roots in one cut). By AI agents, Wed Nov 11 2026. No macro, syntax, notation, axiom, sorry.
-/
import Derived.Test.YtikpfffhcjlcjaaChecked
import GoSem.Claim
import GoSem.ClaimJoined
import GoSem.ClaimMapViews
import Derived.JoinedTies
import Derived.KernelRfl
namespace Go.Proofs.Ytikpfffhcjlcjaa
/- THE CELL 'sum', in the pinned program and in every row, IS THE sha256 OF THE DUMP (.gsa) THAT YtikpfffhcjlcjaaProg.lean LOADS. Nothing in Lean hashes anything: it is a label: what it is worth is what the hold of that sum in a sandbox is worth. -/
noncomputable def Try.pinned : Pinned := { name := "ytikpfffhcjlcjaa", sum := "62212b1ffbcdc49c365daff5371cd3cb4be89dafa382358654cf272833cde50c", checked := Try.checked }
namespace Rows
def none {H : Type} : Left H := { results := [], args := [] }

/-- 'engrosserlaw11.DeflateTokens': WHATEVER THE INPUT: true; the input reads as it did. -/
def deflateTokensSpec : ChangeSpec := { name := "deflateTokens", fn := fun _ => fun
  | [d1, d2, d3] => { results := [.lit (.bool true)], args := [d1, d2, d3] }
  | _ => none }
def deflateTokensRow : OpenClaim := { program := "ytikpfffhcjlcjaa", sum := "62212b1ffbcdc49c365daff5371cd3cb4be89dafa382358654cf272833cde50c", func := "engrosser/engrosserlaw11.DeflateTokens", spec := "deflateTokens", inPlace := ["slices.overlaps[engrosser/huff.node]"], unfollowed := true, recurses := true, plainKeys := false, apart := false }
def DeflateTokensSaid : Prop := deflateTokensRow.holds Try.pinned (OpenSpec.ofChange deflateTokensSpec)

/-- ITS FALSE NEIGHBOUR: 'it returns false'. Refute it at one input. -/
def deflateTokensWrong : ChangeSpec := { name := "deflateTokens", fn := fun _ => fun
  | [d1, d2, d3] => { results := [.lit (.bool false)], args := [d1, d2, d3] }
  | _ => none }
def DeflateTokensWrongFalsely : Prop := deflateTokensRow.holds Try.pinned (OpenSpec.ofChange deflateTokensWrong)

/-- 'engrosserlaw11.DeflateRuns': WHATEVER THE INPUT: true; the input reads as it did. -/
def deflateRunsSpec : ChangeSpec := { name := "deflateRuns", fn := fun _ => fun
  | [d] => { results := [.lit (.bool true)], args := [d] }
  | _ => none }
def deflateRunsRow : OpenClaim := { program := "ytikpfffhcjlcjaa", sum := "62212b1ffbcdc49c365daff5371cd3cb4be89dafa382358654cf272833cde50c", func := "engrosser/engrosserlaw11.DeflateRuns", spec := "deflateRuns", inPlace := ["slices.overlaps[engrosser/huff.node]"], unfollowed := true, recurses := true, plainKeys := false, apart := false }
def DeflateRunsSaid : Prop := deflateRunsRow.holds Try.pinned (OpenSpec.ofChange deflateRunsSpec)

/-- ITS FALSE NEIGHBOUR: 'it returns false'. Refute it at one input. -/
def deflateRunsWrong : ChangeSpec := { name := "deflateRuns", fn := fun _ => fun
  | [d] => { results := [.lit (.bool false)], args := [d] }
  | _ => none }
def DeflateRunsWrongFalsely : Prop := deflateRunsRow.holds Try.pinned (OpenSpec.ofChange deflateRunsWrong)

/-- 'engrosserlaw11.DeflatePacks': WHATEVER THE INPUT: true; the input reads as it did. -/
def deflatePacksSpec : ChangeSpec := { name := "deflatePacks", fn := fun _ => fun
  | [d1, d2] => { results := [.lit (.bool true)], args := [d1, d2] }
  | _ => none }
def deflatePacksRow : OpenClaim := { program := "ytikpfffhcjlcjaa", sum := "62212b1ffbcdc49c365daff5371cd3cb4be89dafa382358654cf272833cde50c", func := "engrosser/engrosserlaw11.DeflatePacks", spec := "deflatePacks", inPlace := ["slices.overlaps[engrosser/huff.node]"], unfollowed := true, recurses := true, plainKeys := false, apart := false }
def DeflatePacksSaid : Prop := deflatePacksRow.holds Try.pinned (OpenSpec.ofChange deflatePacksSpec)

/-- ITS FALSE NEIGHBOUR: 'it returns false'. Refute it at one input. -/
def deflatePacksWrong : ChangeSpec := { name := "deflatePacks", fn := fun _ => fun
  | [d1, d2] => { results := [.lit (.bool false)], args := [d1, d2] }
  | _ => none }
def DeflatePacksWrongFalsely : Prop := deflatePacksRow.holds Try.pinned (OpenSpec.ofChange deflatePacksWrong)

/-- 'engrosserlaw11.DeflateTold': WHATEVER THE INPUT: true; the input reads as it did. -/
def deflateToldSpec : ChangeSpec := { name := "deflateTold", fn := fun _ => fun
  | [d1, d2] => { results := [.lit (.bool true)], args := [d1, d2] }
  | _ => none }
def deflateToldRow : OpenClaim := { program := "ytikpfffhcjlcjaa", sum := "62212b1ffbcdc49c365daff5371cd3cb4be89dafa382358654cf272833cde50c", func := "engrosser/engrosserlaw11.DeflateTold", spec := "deflateTold", inPlace := ["slices.overlaps[engrosser/huff.node]"], unfollowed := true, recurses := true, plainKeys := false, apart := false }
def DeflateToldSaid : Prop := deflateToldRow.holds Try.pinned (OpenSpec.ofChange deflateToldSpec)

/-- ITS FALSE NEIGHBOUR: 'it returns false'. Refute it at one input. -/
def deflateToldWrong : ChangeSpec := { name := "deflateTold", fn := fun _ => fun
  | [d1, d2] => { results := [.lit (.bool false)], args := [d1, d2] }
  | _ => none }
def DeflateToldWrongFalsely : Prop := deflateToldRow.holds Try.pinned (OpenSpec.ofChange deflateToldWrong)

/-- 'engrosserlaw11.DeflateTells': WHATEVER THE INPUT: true; the input reads as it did. -/
def deflateTellsSpec : ChangeSpec := { name := "deflateTells", fn := fun _ => fun
  | [d] => { results := [.lit (.bool true)], args := [d] }
  | _ => none }
def deflateTellsRow : OpenClaim := { program := "ytikpfffhcjlcjaa", sum := "62212b1ffbcdc49c365daff5371cd3cb4be89dafa382358654cf272833cde50c", func := "engrosser/engrosserlaw11.DeflateTells", spec := "deflateTells", inPlace := ["slices.overlaps[engrosser/huff.node]"], unfollowed := true, recurses := true, plainKeys := false, apart := false }
def DeflateTellsSaid : Prop := deflateTellsRow.holds Try.pinned (OpenSpec.ofChange deflateTellsSpec)

/-- ITS FALSE NEIGHBOUR: 'it returns false'. Refute it at one input. -/
def deflateTellsWrong : ChangeSpec := { name := "deflateTells", fn := fun _ => fun
  | [d] => { results := [.lit (.bool false)], args := [d] }
  | _ => none }
def DeflateTellsWrongFalsely : Prop := deflateTellsRow.holds Try.pinned (OpenSpec.ofChange deflateTellsWrong)

/-- 'engrosserlaw11.DeflateSmall': WHATEVER THE INPUT: true; the input reads as it did. -/
def deflateSmallSpec : ChangeSpec := { name := "deflateSmall", fn := fun _ => fun
  | [d1, d2] => { results := [.lit (.bool true)], args := [d1, d2] }
  | _ => none }
def deflateSmallRow : OpenClaim := { program := "ytikpfffhcjlcjaa", sum := "62212b1ffbcdc49c365daff5371cd3cb4be89dafa382358654cf272833cde50c", func := "engrosser/engrosserlaw11.DeflateSmall", spec := "deflateSmall", inPlace := ["slices.overlaps[engrosser/huff.node]"], unfollowed := true, recurses := true, plainKeys := false, apart := false }
def DeflateSmallSaid : Prop := deflateSmallRow.holds Try.pinned (OpenSpec.ofChange deflateSmallSpec)

/-- ITS FALSE NEIGHBOUR: 'it returns false'. Refute it at one input. -/
def deflateSmallWrong : ChangeSpec := { name := "deflateSmall", fn := fun _ => fun
  | [d1, d2] => { results := [.lit (.bool false)], args := [d1, d2] }
  | _ => none }
def DeflateSmallWrongFalsely : Prop := deflateSmallRow.holds Try.pinned (OpenSpec.ofChange deflateSmallWrong)

/-- 'engrosserlaw11.DeflateBack': WHATEVER THE INPUT: true; the input reads as it did. -/
def deflateBackSpec : ChangeSpec := { name := "deflateBack", fn := fun _ => fun
  | [d1, d2, d3] => { results := [.lit (.bool true)], args := [d1, d2, d3] }
  | _ => none }
def deflateBackRow : OpenClaim := { program := "ytikpfffhcjlcjaa", sum := "62212b1ffbcdc49c365daff5371cd3cb4be89dafa382358654cf272833cde50c", func := "engrosser/engrosserlaw11.DeflateBack", spec := "deflateBack", inPlace := ["slices.overlaps[engrosser/huff.node]"], unfollowed := true, recurses := true, plainKeys := false, apart := false }
def DeflateBackSaid : Prop := deflateBackRow.holds Try.pinned (OpenSpec.ofChange deflateBackSpec)

/-- ITS FALSE NEIGHBOUR: 'it returns false'. Refute it at one input. -/
def deflateBackWrong : ChangeSpec := { name := "deflateBack", fn := fun _ => fun
  | [d1, d2, d3] => { results := [.lit (.bool false)], args := [d1, d2, d3] }
  | _ => none }
def DeflateBackWrongFalsely : Prop := deflateBackRow.holds Try.pinned (OpenSpec.ofChange deflateBackWrong)

/-- 'engrosserlaw12.GzBack': WHATEVER THE INPUT: true; the input reads as it did. -/
def gzBackSpec : ChangeSpec := { name := "gzBack", fn := fun _ => fun
  | [d1, d2] => { results := [.lit (.bool true)], args := [d1, d2] }
  | _ => none }
def gzBackRow : OpenClaim := { program := "ytikpfffhcjlcjaa", sum := "62212b1ffbcdc49c365daff5371cd3cb4be89dafa382358654cf272833cde50c", func := "engrosser/engrosserlaw12.GzBack", spec := "gzBack", inPlace := ["slices.overlaps[engrosser/huff.node]", "internal/bytealg.IndexByteString"], unfollowed := true, recurses := true, plainKeys := false, apart := false }
def GzBackSaid : Prop := gzBackRow.holds Try.pinned (OpenSpec.ofChange gzBackSpec)

/-- ITS FALSE NEIGHBOUR: 'it returns false'. Refute it at one input. -/
def gzBackWrong : ChangeSpec := { name := "gzBack", fn := fun _ => fun
  | [d1, d2] => { results := [.lit (.bool false)], args := [d1, d2] }
  | _ => none }
def GzBackWrongFalsely : Prop := gzBackRow.holds Try.pinned (OpenSpec.ofChange gzBackWrong)

/-- 'engrosserlaw12.GzBit': WHATEVER THE INPUT: true; the input reads as it did. -/
def gzBitSpec : ChangeSpec := { name := "gzBit", fn := fun _ => fun
  | [d1, d2] => { results := [.lit (.bool true)], args := [d1, d2] }
  | _ => none }
def gzBitRow : OpenClaim := { program := "ytikpfffhcjlcjaa", sum := "62212b1ffbcdc49c365daff5371cd3cb4be89dafa382358654cf272833cde50c", func := "engrosser/engrosserlaw12.GzBit", spec := "gzBit", inPlace := ["slices.overlaps[engrosser/huff.node]", "internal/bytealg.IndexByteString"], unfollowed := true, recurses := true, plainKeys := false, apart := false }
def GzBitSaid : Prop := gzBitRow.holds Try.pinned (OpenSpec.ofChange gzBitSpec)

/-- ITS FALSE NEIGHBOUR: 'it returns false'. Refute it at one input. -/
def gzBitWrong : ChangeSpec := { name := "gzBit", fn := fun _ => fun
  | [d1, d2] => { results := [.lit (.bool false)], args := [d1, d2] }
  | _ => none }
def GzBitWrongFalsely : Prop := gzBitRow.holds Try.pinned (OpenSpec.ofChange gzBitWrong)

/-- 'engrosserlaw12.GzNamed': WHATEVER THE INPUT: true; the input reads as it did. -/
def gzNamedSpec : ChangeSpec := { name := "gzNamed", fn := fun _ => fun
  | [d1, d2, d3, d4, d5] => { results := [.lit (.bool true)], args := [d1, d2, d3, d4, d5] }
  | _ => none }
def gzNamedRow : OpenClaim := { program := "ytikpfffhcjlcjaa", sum := "62212b1ffbcdc49c365daff5371cd3cb4be89dafa382358654cf272833cde50c", func := "engrosser/engrosserlaw12.GzNamed", spec := "gzNamed", inPlace := ["slices.overlaps[engrosser/huff.node]", "internal/bytealg.IndexByteString"], unfollowed := true, recurses := true, plainKeys := false, apart := false }
def GzNamedSaid : Prop := gzNamedRow.holds Try.pinned (OpenSpec.ofChange gzNamedSpec)

/-- ITS FALSE NEIGHBOUR: 'it returns false'. Refute it at one input. -/
def gzNamedWrong : ChangeSpec := { name := "gzNamed", fn := fun _ => fun
  | [d1, d2, d3, d4, d5] => { results := [.lit (.bool false)], args := [d1, d2, d3, d4, d5] }
  | _ => none }
def GzNamedWrongFalsely : Prop := gzNamedRow.holds Try.pinned (OpenSpec.ofChange gzNamedWrong)

/-- 'engrosserlaw12.GzStrange': WHATEVER THE INPUT: true; the input reads as it did. -/
def gzStrangeSpec : ChangeSpec := { name := "gzStrange", fn := fun _ => fun
  | [d1, d2, d3, d4] => { results := [.lit (.bool true)], args := [d1, d2, d3, d4] }
  | _ => none }
def gzStrangeRow : OpenClaim := { program := "ytikpfffhcjlcjaa", sum := "62212b1ffbcdc49c365daff5371cd3cb4be89dafa382358654cf272833cde50c", func := "engrosser/engrosserlaw12.GzStrange", spec := "gzStrange", inPlace := ["slices.overlaps[engrosser/huff.node]", "internal/bytealg.IndexByteString"], unfollowed := true, recurses := true, plainKeys := false, apart := false }
def GzStrangeSaid : Prop := gzStrangeRow.holds Try.pinned (OpenSpec.ofChange gzStrangeSpec)

/-- ITS FALSE NEIGHBOUR: 'it returns false'. Refute it at one input. -/
def gzStrangeWrong : ChangeSpec := { name := "gzStrange", fn := fun _ => fun
  | [d1, d2, d3, d4] => { results := [.lit (.bool false)], args := [d1, d2, d3, d4] }
  | _ => none }
def GzStrangeWrongFalsely : Prop := gzStrangeRow.holds Try.pinned (OpenSpec.ofChange gzStrangeWrong)

/- THE SECOND FORM. 'bulk': how many values and letters a reading holds, each counted each time it is reached (what is shared counts as often as it is met; a slice's spare places count too). A statement '..UptoSaid' is the law's where the arguments, and the package variables that the reading takes, are together of bulk at most 1048576: NARROWER than '..Said'. Prove '..Said' where nothing that the law and all that it calls make is longer than what came in: it says more and counts as full. Else prove '..UptoSaid'. A law counts once. -/
mutual
def uptoBulk {H : Type} : DataW H → Nat
  | .lit (.string bytes) => bytes.length + 1
  | .lit _ => 1
  | .nil => 1
  | .ptr d => uptoBulk d + 1
  | .slice elems spare => uptoBulkAll elems + uptoBulkAll spare + 1
  | .agg parts => uptoBulkAll parts + 1
  | .iface _ d => uptoBulk d + 1
  | .map entries => uptoBulkEntries entries + 1
  | .held _ => 1
def uptoBulkAll {H : Type} : List (DataW H) → Nat
  | [] => 0
  | d :: r => uptoBulk d + uptoBulkAll r
def uptoBulkEntries {H : Type} : List (Lit × DataW H) → Nat
  | [] => 0
  | x :: r => uptoBulkEntry x + uptoBulkEntries r
def uptoBulkEntry {H : Type} : Lit × DataW H → Nat
  | (.string bytes, d) => bytes.length + uptoBulk d + 1
  | (_, d) => uptoBulk d + 1
 end
def uptoSmall : (H : Type) → List (DataW H) → Bool := fun _ ds => decide (uptoBulkAll ds ≤ 1048576)
def OpenSpec.upto (s : _root_.Go.ChangeSpec) : _root_.Go.OpenSpec := { _root_.Go.OpenSpec.ofChange s with cond := some uptoSmall }

/-- 'engrosserlaw11.DeflateTokens', WHERE WHAT IT READS IS OF BULK AT MOST 1048576: true; the input reads as it did. -/
def deflateTokensUptoRow : OpenClaim := { program := "ytikpfffhcjlcjaa", sum := "62212b1ffbcdc49c365daff5371cd3cb4be89dafa382358654cf272833cde50c", func := "engrosser/engrosserlaw11.DeflateTokens", spec := "deflateTokens", inPlace := ["slices.overlaps[engrosser/huff.node]"], unfollowed := true, recurses := true, plainKeys := false, apart := false, narrowed := true }
def DeflateTokensUptoSaid : Prop := deflateTokensUptoRow.holds Try.pinned (OpenSpec.upto deflateTokensSpec)

/-- 'engrosserlaw11.DeflateRuns', WHERE WHAT IT READS IS OF BULK AT MOST 1048576: true; the input reads as it did. -/
def deflateRunsUptoRow : OpenClaim := { program := "ytikpfffhcjlcjaa", sum := "62212b1ffbcdc49c365daff5371cd3cb4be89dafa382358654cf272833cde50c", func := "engrosser/engrosserlaw11.DeflateRuns", spec := "deflateRuns", inPlace := ["slices.overlaps[engrosser/huff.node]"], unfollowed := true, recurses := true, plainKeys := false, apart := false, narrowed := true }
def DeflateRunsUptoSaid : Prop := deflateRunsUptoRow.holds Try.pinned (OpenSpec.upto deflateRunsSpec)

/-- 'engrosserlaw11.DeflatePacks', WHERE WHAT IT READS IS OF BULK AT MOST 1048576: true; the input reads as it did. -/
def deflatePacksUptoRow : OpenClaim := { program := "ytikpfffhcjlcjaa", sum := "62212b1ffbcdc49c365daff5371cd3cb4be89dafa382358654cf272833cde50c", func := "engrosser/engrosserlaw11.DeflatePacks", spec := "deflatePacks", inPlace := ["slices.overlaps[engrosser/huff.node]"], unfollowed := true, recurses := true, plainKeys := false, apart := false, narrowed := true }
def DeflatePacksUptoSaid : Prop := deflatePacksUptoRow.holds Try.pinned (OpenSpec.upto deflatePacksSpec)

/-- 'engrosserlaw11.DeflateTold', WHERE WHAT IT READS IS OF BULK AT MOST 1048576: true; the input reads as it did. -/
def deflateToldUptoRow : OpenClaim := { program := "ytikpfffhcjlcjaa", sum := "62212b1ffbcdc49c365daff5371cd3cb4be89dafa382358654cf272833cde50c", func := "engrosser/engrosserlaw11.DeflateTold", spec := "deflateTold", inPlace := ["slices.overlaps[engrosser/huff.node]"], unfollowed := true, recurses := true, plainKeys := false, apart := false, narrowed := true }
def DeflateToldUptoSaid : Prop := deflateToldUptoRow.holds Try.pinned (OpenSpec.upto deflateToldSpec)

/-- 'engrosserlaw11.DeflateTells', WHERE WHAT IT READS IS OF BULK AT MOST 1048576: true; the input reads as it did. -/
def deflateTellsUptoRow : OpenClaim := { program := "ytikpfffhcjlcjaa", sum := "62212b1ffbcdc49c365daff5371cd3cb4be89dafa382358654cf272833cde50c", func := "engrosser/engrosserlaw11.DeflateTells", spec := "deflateTells", inPlace := ["slices.overlaps[engrosser/huff.node]"], unfollowed := true, recurses := true, plainKeys := false, apart := false, narrowed := true }
def DeflateTellsUptoSaid : Prop := deflateTellsUptoRow.holds Try.pinned (OpenSpec.upto deflateTellsSpec)

/-- 'engrosserlaw11.DeflateSmall', WHERE WHAT IT READS IS OF BULK AT MOST 1048576: true; the input reads as it did. -/
def deflateSmallUptoRow : OpenClaim := { program := "ytikpfffhcjlcjaa", sum := "62212b1ffbcdc49c365daff5371cd3cb4be89dafa382358654cf272833cde50c", func := "engrosser/engrosserlaw11.DeflateSmall", spec := "deflateSmall", inPlace := ["slices.overlaps[engrosser/huff.node]"], unfollowed := true, recurses := true, plainKeys := false, apart := false, narrowed := true }
def DeflateSmallUptoSaid : Prop := deflateSmallUptoRow.holds Try.pinned (OpenSpec.upto deflateSmallSpec)

/-- 'engrosserlaw11.DeflateBack', WHERE WHAT IT READS IS OF BULK AT MOST 1048576: true; the input reads as it did. -/
def deflateBackUptoRow : OpenClaim := { program := "ytikpfffhcjlcjaa", sum := "62212b1ffbcdc49c365daff5371cd3cb4be89dafa382358654cf272833cde50c", func := "engrosser/engrosserlaw11.DeflateBack", spec := "deflateBack", inPlace := ["slices.overlaps[engrosser/huff.node]"], unfollowed := true, recurses := true, plainKeys := false, apart := false, narrowed := true }
def DeflateBackUptoSaid : Prop := deflateBackUptoRow.holds Try.pinned (OpenSpec.upto deflateBackSpec)

/-- 'engrosserlaw12.GzBack', WHERE WHAT IT READS IS OF BULK AT MOST 1048576: true; the input reads as it did. -/
def gzBackUptoRow : OpenClaim := { program := "ytikpfffhcjlcjaa", sum := "62212b1ffbcdc49c365daff5371cd3cb4be89dafa382358654cf272833cde50c", func := "engrosser/engrosserlaw12.GzBack", spec := "gzBack", inPlace := ["slices.overlaps[engrosser/huff.node]", "internal/bytealg.IndexByteString"], unfollowed := true, recurses := true, plainKeys := false, apart := false, narrowed := true }
def GzBackUptoSaid : Prop := gzBackUptoRow.holds Try.pinned (OpenSpec.upto gzBackSpec)

/-- 'engrosserlaw12.GzBit', WHERE WHAT IT READS IS OF BULK AT MOST 1048576: true; the input reads as it did. -/
def gzBitUptoRow : OpenClaim := { program := "ytikpfffhcjlcjaa", sum := "62212b1ffbcdc49c365daff5371cd3cb4be89dafa382358654cf272833cde50c", func := "engrosser/engrosserlaw12.GzBit", spec := "gzBit", inPlace := ["slices.overlaps[engrosser/huff.node]", "internal/bytealg.IndexByteString"], unfollowed := true, recurses := true, plainKeys := false, apart := false, narrowed := true }
def GzBitUptoSaid : Prop := gzBitUptoRow.holds Try.pinned (OpenSpec.upto gzBitSpec)

/-- 'engrosserlaw12.GzNamed', WHERE WHAT IT READS IS OF BULK AT MOST 1048576: true; the input reads as it did. -/
def gzNamedUptoRow : OpenClaim := { program := "ytikpfffhcjlcjaa", sum := "62212b1ffbcdc49c365daff5371cd3cb4be89dafa382358654cf272833cde50c", func := "engrosser/engrosserlaw12.GzNamed", spec := "gzNamed", inPlace := ["slices.overlaps[engrosser/huff.node]", "internal/bytealg.IndexByteString"], unfollowed := true, recurses := true, plainKeys := false, apart := false, narrowed := true }
def GzNamedUptoSaid : Prop := gzNamedUptoRow.holds Try.pinned (OpenSpec.upto gzNamedSpec)

/-- 'engrosserlaw12.GzStrange', WHERE WHAT IT READS IS OF BULK AT MOST 1048576: true; the input reads as it did. -/
def gzStrangeUptoRow : OpenClaim := { program := "ytikpfffhcjlcjaa", sum := "62212b1ffbcdc49c365daff5371cd3cb4be89dafa382358654cf272833cde50c", func := "engrosser/engrosserlaw12.GzStrange", spec := "gzStrange", inPlace := ["slices.overlaps[engrosser/huff.node]", "internal/bytealg.IndexByteString"], unfollowed := true, recurses := true, plainKeys := false, apart := false, narrowed := true }
def GzStrangeUptoSaid : Prop := gzStrangeUptoRow.holds Try.pinned (OpenSpec.upto gzStrangeSpec)

end Rows
end Go.Proofs.Ytikpfffhcjlcjaa
