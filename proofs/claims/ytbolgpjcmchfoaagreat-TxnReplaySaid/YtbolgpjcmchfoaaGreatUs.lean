/- What pruning leaves: reads at times not below it, the last versions, counts; reading twice. -/
import Derived.Test.YtbolgpjcmchfoaaGreatUq
namespace Go.Proofs.YtbolgpjcmchfoaaGreat
open Go Go.Vc Go.Sl Go.Mo
/-! ### Reading twice -/
def rdT (X : XMap) (e : Ext) (T : Trn) : Trn := if T.state = 1 then { T with view := (T.view.read X T.buf e).1 } else T
end Go.Proofs.YtbolgpjcmchfoaaGreat
