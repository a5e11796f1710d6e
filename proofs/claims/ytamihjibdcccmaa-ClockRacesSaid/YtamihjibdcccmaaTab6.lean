/- Walks of tables: the names. -/
import Derived.Test.YtamihjibdcccmaaTab2
import Derived.Test.YtamihjibdcccmaaCA
set_option linter.unusedVariables false
set_option linter.unusedSimpArgs false
set_option linter.all false
namespace Go.Proofs.Ytamihjibdcccmaa
open Go.RowKit Go.Cb
end Go.Proofs.Ytamihjibdcccmaa
