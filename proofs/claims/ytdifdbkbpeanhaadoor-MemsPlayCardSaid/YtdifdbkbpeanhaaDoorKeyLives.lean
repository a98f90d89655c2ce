/- Walks of the statements' helpers of layer 03: lives, no, order. -/
import Derived.Test.YtdifdbkbpeanhaaDoorKeyPut2
import Derived.Test.YtdifdbkbpeanhaaDoorKeyGet
import Derived.Test.YtdifdbkbpeanhaaDoorMg3
set_option linter.unusedSimpArgs false
set_option linter.unusedVariables false
namespace Herb
def ordL (a b : List UInt8) : Int := if less a b = true then -1 else if less b a = true then 1 else 0
end Herb
namespace Go.Proofs.YtdifdbkbpeanhaaDoor
open Go Go.RowKit Herb
end Go.Proofs.YtdifdbkbpeanhaaDoor
