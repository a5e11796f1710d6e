/- Walks: are items alike; is one of them final, the document's. -/
import Derived.Test.YtmdcgekiiopohaaGreatAut3
set_option linter.unusedVariables false
set_option linter.unusedSimpArgs false
set_option linter.all false
namespace Go.Cb
def finTo (l : List Itm) (k : Nat) : Bool := (l.take k).any fun x => x.2.length == 0
theorem finTo_succ {l : List Itm} {k : Nat} {x : Itm} (h : l[k]? = some x) : finTo l (k + 1) = (finTo l k || (x.2.length == 0)) := by
  unfold finTo
  rw [List.take_add_one, h, List.any_append]; simp
end Go.Cb
namespace Go.Proofs.YtmdcgekiiopohaaGreat
open Go.RowKit Go.Cb Go.Sort
end Go.Proofs.YtmdcgekiiopohaaGreat
