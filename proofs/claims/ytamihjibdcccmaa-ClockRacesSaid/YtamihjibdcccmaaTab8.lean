/- Walks of tables: Delete, Drop. -/
import Derived.Test.YtamihjibdcccmaaTab7
import Derived.Deep.RegionLaw
set_option linter.unusedVariables false
set_option linter.unusedSimpArgs false
set_option linter.all false
namespace Go.Proofs.Ytamihjibdcccmaa
open Go.RowKit Go.Cb
end Go.Proofs.Ytamihjibdcccmaa
