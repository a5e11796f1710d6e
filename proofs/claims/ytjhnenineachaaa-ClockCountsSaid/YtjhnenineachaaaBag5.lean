/- Walks: totals and differences; the document's words. -/
import Derived.Test.YtjhnenineachaaaBag4
set_option linter.unusedVariables false
set_option linter.unusedSimpArgs false
set_option linter.all false
namespace Go.Proofs.Ytjhnenineachaaa
open Go.RowKit Go.Cb


end Go.Proofs.Ytjhnenineachaaa
