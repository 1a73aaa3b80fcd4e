/- FilmNone, part 4: closed facts of the row. -/
import Derived.Test.YtbohihkmakpbbaaGreatF3
import Derived.JoinedOf
import Derived.KernelRfl
namespace Go.Proofs.YtbohihkmakpbbaaGreat

theorem filmClosed : joinedFacts Tryz.prog 4 Tryz.f4 Rows.filmNoneSpec Rows.filmNoneRow = true := by
  unfold joinedFacts
  rw [filmInPlace, filmUnfollowed, filmRecurses, filmVars]
  kernel_rfl

end Go.Proofs.YtbohihkmakpbbaaGreat
