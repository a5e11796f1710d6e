/- Walks of tables: the names. -/
import Derived.Test.YtjhnenineachaaaTab2
import Derived.Test.YtjhnenineachaaaTabLib2
set_option linter.unusedVariables false
set_option linter.unusedSimpArgs false
set_option linter.all false
namespace Go.Proofs.Ytjhnenineachaaa
open Go.RowKit Go.Cb
end Go.Proofs.Ytjhnenineachaaa
