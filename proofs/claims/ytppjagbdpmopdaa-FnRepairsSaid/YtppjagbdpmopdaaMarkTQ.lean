/- The marks on texts. -/
import Derived.Test.YtppjagbdpmopdaaStrSQ
namespace Go.Proofs.Ytppjagbdpmopdaa
set_option maxRecDepth 20000
set_option linter.unusedSimpArgs false
set_option linter.unusedVariables false
open Go Go.Ab
end Go.Proofs.Ytppjagbdpmopdaa
