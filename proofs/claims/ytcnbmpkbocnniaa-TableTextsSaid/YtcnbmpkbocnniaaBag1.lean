/- Walks: numbers and words. -/
import Derived.Test.YtcnbmpkbocnniaaRows
import Derived.Test.YtcnbmpkbocnniaaLib
import Derived.Test.YtcnbmpkbocnniaaPure
namespace Go.Proofs.Ytcnbmpkbocnniaa
open Go.RowKit Go.Cb


end Go.Proofs.Ytcnbmpkbocnniaa
