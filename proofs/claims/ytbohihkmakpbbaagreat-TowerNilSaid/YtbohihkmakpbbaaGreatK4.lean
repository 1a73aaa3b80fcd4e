/- A step of it. -/
import Derived.Test.YtbohihkmakpbbaaGreatK1
namespace Go.Proofs.YtbohihkmakpbbaaGreat
open Go.Eng

theorem memo3_fits : memo3.fits plainEnv 3000 = true := by kernel_rfl

end Go.Proofs.YtbohihkmakpbbaaGreat
