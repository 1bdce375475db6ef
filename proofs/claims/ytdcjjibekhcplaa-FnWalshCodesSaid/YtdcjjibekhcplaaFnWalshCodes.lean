/- FnWalshCodes comes back with true from every text of bytes, the bytes left as they were, as the given statement says. -/
import Derived.Test.YtdcjjibekhcplaaDbh
namespace Go.Proofs.Ytdcjjibekhcplaa
theorem walsh_proved : Rows.FnWalshCodesSaid := walsh_said Go.Ax.law6_ok
end Go.Proofs.Ytdcjjibekhcplaa
