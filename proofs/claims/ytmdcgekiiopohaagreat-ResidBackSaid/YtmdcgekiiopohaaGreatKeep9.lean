/- Walks: copies and cuts of rows, those of chapter 9. -/
import Derived.Test.YtmdcgekiiopohaaGreatMC
import Derived.Test.YtmdcgekiiopohaaGreatAuto2
set_option linter.unusedVariables false
set_option linter.unusedSimpArgs false
set_option linter.all false
namespace Go.Proofs.YtmdcgekiiopohaaGreat
open Go.RowKit Go.Cb
end Go.Proofs.YtmdcgekiiopohaaGreat
