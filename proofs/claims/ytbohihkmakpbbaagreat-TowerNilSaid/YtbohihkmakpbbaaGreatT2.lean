/- TowerNil, part 2: the short run. -/
import Derived.Test.YtbohihkmakpbbaaGreatT1
namespace Go.Proofs.YtbohihkmakpbbaaGreat
open Go.Eng

theorem towerShort : yes ((ev (towerEnv false) 3000).call 3 [towerArg] hp0) = true := by kernel_rfl

end Go.Proofs.YtbohihkmakpbbaaGreat
