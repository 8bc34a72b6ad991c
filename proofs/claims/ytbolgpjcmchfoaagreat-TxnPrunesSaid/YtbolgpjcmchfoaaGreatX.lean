/- Contracts: a transaction's history. -/
import Derived.Test.YtbolgpjcmchfoaaGreatD
import Derived.Test.YtbolgpjcmchfoaaGreatP
namespace Go.Proofs.YtbolgpjcmchfoaaGreat
open Go Go.Vc Go.Sl Go.Mo
end Go.Proofs.YtbolgpjcmchfoaaGreat
