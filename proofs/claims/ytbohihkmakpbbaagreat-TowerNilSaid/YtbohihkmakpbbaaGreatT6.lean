/- TowerNil: the statement. -/
import Derived.Test.YtbohihkmakpbbaaGreatT3
import Derived.Test.YtbohihkmakpbbaaGreatT5
import Derived.Test.YtbohihkmakpbbaaGreatT4
namespace Go.Proofs.YtbohihkmakpbbaaGreat

theorem towerNil_holds : Rows.TowerNilSaid :=
  OpenClaim.holds_of_wide 3 Tryz.f3 rfl rfl rfl rfl rfl rfl rfl ⟨rfl, rfl, rfl, rfl, rfl⟩ rfl rfl rfl rfl rfl towerNamed Tryz.func3 towerClosed towerInstance towerWrapper (fun os started H enc _ => towerLifted os started H enc)
#print axioms towerNil_holds

end Go.Proofs.YtbohihkmakpbbaaGreat
