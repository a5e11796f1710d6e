/- Walks: one letter more, the document's. -/
import Derived.Test.YtmdcgekiiopohaaGreatAut10
set_option linter.unusedVariables false
set_option linter.unusedSimpArgs false
set_option linter.all false
namespace Go.Proofs.YtmdcgekiiopohaaGreat
open Go.RowKit Go.Cb Go.Sort
end Go.Proofs.YtmdcgekiiopohaaGreat
