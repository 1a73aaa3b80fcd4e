/- FilmNone, part 1: the run, by the engine. -/
import Derived.Test.YtbohihkmakpbbaaGreatE25
import Derived.Test.YtbohihkmakpbbaaGreatRows
import Derived.KernelRfl
namespace Go.Proofs.YtbohihkmakpbbaaGreat
open Go.Eng

noncomputable def filmEnv : Env := { Env.of Tryz.prog with clone := some 183 }

theorem filmRun : yes ((ev filmEnv 3000).call 4 [.chan (some 0)] hp0) = true := by kernel_rfl

end Go.Proofs.YtbohihkmakpbbaaGreat
