/- FnPictures comes back with true from every text of bytes, the bytes left as they were, as the given statement says. -/
import Derived.Test.YtdcjjibekhcplaaGreatBbl
namespace Go.Proofs.YtdcjjibekhcplaaGreat
theorem pictures_proved : Rows.FnPicturesSaid := pictures_said Go.Ax.law4_ok
end Go.Proofs.YtdcjjibekhcplaaGreat
