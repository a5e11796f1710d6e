/- Walks of tables: Delete, Drop, At. -/
import Derived.Test.YtjhnenineachaaaTab5
import Derived.Test.YtjhnenineachaaaTab6
import Derived.Lib.SliceRun
set_option linter.unusedVariables false
set_option linter.unusedSimpArgs false
set_option linter.all false
namespace Go.Proofs.Ytjhnenineachaaa
open Go.RowKit Go.Cb
end Go.Proofs.Ytjhnenineachaaa
