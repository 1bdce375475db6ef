/- FnGratings comes back with true from every text of bytes, the bytes left as they were, as the given statement says. -/
import Derived.Test.YtdcjjibekhcplaaGreatAba
namespace Go.Proofs.YtdcjjibekhcplaaGreat
theorem gratings_proved : Rows.FnGratingsSaid := gratings_said Go.Ax.law3_ok
end Go.Proofs.YtdcjjibekhcplaaGreat
