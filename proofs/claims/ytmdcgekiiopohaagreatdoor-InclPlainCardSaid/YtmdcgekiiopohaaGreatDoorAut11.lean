/- Walks: one letter more, the document's. -/
import Derived.Test.YtmdcgekiiopohaaGreatDoorAut10
set_option linter.unusedVariables false
set_option linter.unusedSimpArgs false
set_option linter.all false
namespace Go.Proofs.YtmdcgekiiopohaaGreatDoor
open Go.RowKit Go.Cb Go.Sort
end Go.Proofs.YtmdcgekiiopohaaGreatDoor
