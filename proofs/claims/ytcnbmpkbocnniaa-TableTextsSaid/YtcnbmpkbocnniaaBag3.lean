/- Walks: sums of words. -/
import Derived.Test.YtcnbmpkbocnniaaBag2
import Derived.Test.YtcnbmpkbocnniaaNum
import Derived.Test.YtcnbmpkbocnniaaPure2
namespace Go.Proofs.Ytcnbmpkbocnniaa
open Go.RowKit Go.Cb

theorem addN_sum {x y : Int} (hx : 0 ≤ x ∧ x ≤ far) (hy : 0 ≤ y ∧ y ≤ far) (h : x + y ≤ 1152921504606846976) : addN x y = (x + y, true) := by
  unfold addN
  rw [if_pos ⟨(okN_iff x).2 hx, (okN_iff y).2 hy, h⟩]
theorem addN_over {x y : Int} (h : ¬ x + y ≤ 1152921504606846976) : addN x y = (0, false) := by
  unfold addN
  rw [if_neg (fun h2 => h h2.2.2)]

end Go.Proofs.Ytcnbmpkbocnniaa
