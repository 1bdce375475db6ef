/- FnApertures comes back with true from every text of bytes, the bytes left as they were, as the given statement says. -/
import Derived.Test.YtdcjjibekhcplaaCaz
namespace Go.Proofs.Ytdcjjibekhcplaa
theorem apertures_proved : Rows.FnAperturesSaid := apertures_said Go.Ax.law5_ok
end Go.Proofs.Ytdcjjibekhcplaa
