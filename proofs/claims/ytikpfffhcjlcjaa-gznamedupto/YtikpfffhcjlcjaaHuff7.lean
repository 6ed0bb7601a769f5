import Derived.Test.YtikpfffhcjlcjaaHuff6
set_option linter.unusedSimpArgs false
namespace Go.Proofs.Ytikpfffhcjlcjaa
open Go Go.Vc Go.Huf
set_option maxRecDepth 10000
set_option linter.unusedVariables false
structure NR where
  x : Nd
  a : Option Addr
  n : Nat
  c : Nat
  l : List Nat
end Go.Proofs.Ytikpfffhcjlcjaa
