/- TowerNil, part 4: closed facts of the row. -/
import Derived.Test.YtbohihkmakpbbaaGreatT4
import Derived.JoinedOf
import Derived.KernelRfl
namespace Go.Proofs.YtbohihkmakpbbaaGreat

theorem towerClosed : joinedFacts Tryz.prog 3 Tryz.f3 Rows.towerNilSpec Rows.towerNilRow = true := by
  unfold joinedFacts
  rw [towerInPlace, towerUnfollowed, towerRecurses, towerVars]
  kernel_rfl

end Go.Proofs.YtbohihkmakpbbaaGreat
