/- Walks: what the statements of chapter 3 use. -/
import Derived.Test.YtghdleofbkalbaaBag8
import Derived.Test.YtghdleofbkalbaaLib2
import Derived.Test.YtghdleofbkalbaaPure4
namespace Go.Proofs.Ytghdleofbkalbaa
open Go.RowKit Go.Cb

end Go.Proofs.Ytghdleofbkalbaa
