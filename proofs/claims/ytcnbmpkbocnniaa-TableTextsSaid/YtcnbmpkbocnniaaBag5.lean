/- Walks: totals and differences; the document's words. -/
import Derived.Test.YtcnbmpkbocnniaaBag4
namespace Go.Proofs.Ytcnbmpkbocnniaa
open Go.RowKit Go.Cb


end Go.Proofs.Ytcnbmpkbocnniaa
