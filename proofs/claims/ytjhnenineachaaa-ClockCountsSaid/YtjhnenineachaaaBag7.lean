/- Walks: the words that the statements make; the document's sums, differences, order. -/
import Derived.Test.YtjhnenineachaaaBag6
import Derived.Test.YtjhnenineachaaaLib2
set_option linter.unusedVariables false
set_option linter.unusedSimpArgs false
set_option linter.all false
namespace Go.Proofs.Ytjhnenineachaaa
open Go.RowKit Go.Cb



end Go.Proofs.Ytjhnenineachaaa
