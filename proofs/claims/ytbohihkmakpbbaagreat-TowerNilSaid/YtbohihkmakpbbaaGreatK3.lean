/- A step of it. -/
import Derived.Test.YtbohihkmakpbbaaGreatK1
namespace Go.Proofs.YtbohihkmakpbbaaGreat
open Go.Eng

theorem memo2_fits : memo2.fits plainEnv 3000 = true := by kernel_rfl

end Go.Proofs.YtbohihkmakpbbaaGreat
