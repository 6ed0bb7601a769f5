import Derived.Test.YtikpfffhcjlcjaaHuff2
set_option linter.unusedSimpArgs false
namespace Go.Proofs.Ytikpfffhcjlcjaa
open Go Go.Vc Go.Huf
set_option maxRecDepth 10000
set_option linter.unusedVariables false
theorem lit_sl {h : Heap} {r : Nat} {l : List Int} {T : TypeId} {c : Array Value} (hr : h r = some (.cells c T (0, 0))) (hc : c = (l.map (Value.int .i64)).toArray) {n : Nat} (hn : l.length = n) : Sl h (some ⟨r, 0, none⟩) n (Value.int .i64) l := by
  subst hc; exact ar_sl hr hn
end Go.Proofs.Ytikpfffhcjlcjaa
