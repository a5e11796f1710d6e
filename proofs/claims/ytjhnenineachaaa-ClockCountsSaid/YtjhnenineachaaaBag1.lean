/- Walks: numbers and words. -/
import Derived.Test.YtjhnenineachaaaRows
import Derived.Test.YtjhnenineachaaaLib
import Derived.Test.YtjhnenineachaaaPure
set_option linter.unusedVariables false
set_option linter.unusedSimpArgs false
set_option linter.all false
namespace Go.Proofs.Ytjhnenineachaaa
open Go.RowKit Go.Cb


end Go.Proofs.Ytjhnenineachaaa
