/- FilmNone: the statement. -/
import Derived.Test.YtbohihkmakpbbaaGreatF2
import Derived.Test.YtbohihkmakpbbaaGreatF4
import Derived.Test.YtbohihkmakpbbaaGreatF3
namespace Go.Proofs.YtbohihkmakpbbaaGreat

theorem filmNone_holds : Rows.FilmNoneSaid :=
  OpenClaim.holds_of_wide 4 Tryz.f4 rfl rfl rfl rfl rfl rfl rfl ⟨rfl, rfl, rfl, rfl, rfl⟩ rfl rfl rfl rfl rfl filmNamed Tryz.func4 filmClosed filmInstance filmWrapper (fun os started H enc _ => filmLifted os started H enc)
#print axioms filmNone_holds

end Go.Proofs.YtbohihkmakpbbaaGreat
