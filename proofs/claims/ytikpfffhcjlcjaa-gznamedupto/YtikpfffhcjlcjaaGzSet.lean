import Derived.Test.YtikpfffhcjlcjaaGzEx
set_option linter.unusedSimpArgs false
namespace Go.Proofs.Ytikpfffhcjlcjaa
open Go Go.Vc Go.Huf Go.Dfl Go.Gz
set_option maxRecDepth 20000
set_option linter.unusedVariables false
end Go.Proofs.Ytikpfffhcjlcjaa
