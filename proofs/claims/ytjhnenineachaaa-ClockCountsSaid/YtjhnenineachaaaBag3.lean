/- Walks: sums of words. -/
import Derived.Test.YtjhnenineachaaaBag2
import Derived.Test.YtjhnenineachaaaNum
import Derived.Test.YtjhnenineachaaaPure2
set_option linter.unusedVariables false
set_option linter.unusedSimpArgs false
set_option linter.all false
namespace Go.Proofs.Ytjhnenineachaaa
open Go.RowKit Go.Cb

theorem addN_sum {x y : Int} (hx : 0 ≤ x ∧ x ≤ far) (hy : 0 ≤ y ∧ y ≤ far) (h : x + y ≤ 1152921504606846976) : addN x y = (x + y, true) := by
  unfold addN
  rw [if_pos ⟨(okN_iff x).2 hx, (okN_iff y).2 hy, h⟩]
theorem addN_over {x y : Int} (h : ¬ x + y ≤ 1152921504606846976) : addN x y = (0, false) := by
  unfold addN
  rw [if_neg (fun h2 => h h2.2.2)]

end Go.Proofs.Ytjhnenineachaaa
