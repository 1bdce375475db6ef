/- FnUnwraps comes back with true from every text of bytes, the bytes left as they were, as the given statement says. -/
import Derived.Test.YtdcjjibekhcplaaEbu
import Derived.Test.YtdcjjibekhcplaaEbv
namespace Go.Proofs.Ytdcjjibekhcplaa
theorem unwraps_proved : Rows.FnUnwrapsSaid := unwraps_said Go.Ax.lu_law
end Go.Proofs.Ytdcjjibekhcplaa
