/- FnMasks comes back with true from every text of bytes, the bytes left as they were, as the given statement says. -/
import Derived.Test.YtdcjjibekhcplaaBaj
namespace Go.Proofs.Ytdcjjibekhcplaa
theorem masks_proved : Rows.FnMasksSaid := masks_said Go.Ax.law4_ok
end Go.Proofs.Ytdcjjibekhcplaa
