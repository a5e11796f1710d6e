/- Walks: what is left of a set when one of a tag has come, the document's. -/
import Derived.Test.YtmdcgekiiopohaaGreatResid2
set_option linter.unusedVariables false
set_option linter.unusedSimpArgs false
set_option linter.all false
namespace Go.Cb
theorem byF_next2 {tag : Int} {x : Lin} {r : SemS} {st st' : MSt} {acc o : List Lin} (h : leftS x tag st acc = (st', o, 0)) : byF tag (x :: r) st acc = byF tag r st' o := by rw [byF, h, if_pos rfl]
end Go.Cb
namespace Go.Proofs.YtmdcgekiiopohaaGreat
open Go.RowKit Go.Cb Go.Sort
end Go.Proofs.YtmdcgekiiopohaaGreat
