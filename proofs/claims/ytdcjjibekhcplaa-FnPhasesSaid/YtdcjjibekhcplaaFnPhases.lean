/- FnPhases comes back with true from every text of bytes, the bytes left as they were, as the given statement says. -/
import Derived.Test.YtdcjjibekhcplaaAah
namespace Go.Proofs.Ytdcjjibekhcplaa
theorem phases_proved : Rows.FnPhasesSaid := phases_said Go.Ax.law3_ok
end Go.Proofs.Ytdcjjibekhcplaa
