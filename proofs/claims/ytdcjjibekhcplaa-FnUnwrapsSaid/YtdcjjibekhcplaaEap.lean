/- ComplementOf, of both sides. -/
import Derived.Test.YtdcjjibekhcplaaEao
namespace Go.Ax
open Go Go.Proofs

/-! ### ComplementOf -/
end Go.Ax
