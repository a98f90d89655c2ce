/- Walks of the statements' helpers of layer 03: lives, no, order. -/
import Derived.Test.YtdifdbkbpeanhaaKeyPut2
import Derived.Test.YtdifdbkbpeanhaaKeyGet
import Derived.Test.YtdifdbkbpeanhaaFact
set_option linter.unusedSimpArgs false
set_option linter.unusedVariables false
namespace Herb
def ordL (a b : List UInt8) : Int := if less a b = true then -1 else if less b a = true then 1 else 0
end Herb
namespace Go.Proofs.Ytdifdbkbpeanhaa
open Go Go.RowKit Herb
end Go.Proofs.Ytdifdbkbpeanhaa
