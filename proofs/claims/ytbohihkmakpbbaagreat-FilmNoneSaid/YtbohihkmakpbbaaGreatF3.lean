/- FilmNone, part 5: closed facts of the function. -/
import Derived.Test.YtbohihkmakpbbaaGreatRows
import Derived.JoinedOf
import Derived.KernelRfl
namespace Go.Proofs.YtbohihkmakpbbaaGreat

theorem filmInPlace : (Rows.filmNoneRow.inPlace == Tryz.prog.inPlace 4) = true := by kernel_rfl
theorem filmUnfollowed : (Rows.filmNoneRow.unfollowed == Tryz.prog.unfollowed 4) = true := by kernel_rfl
theorem filmRecurses : (Rows.filmNoneRow.recurses == Tryz.prog.recurses 4) = true := by kernel_rfl
theorem filmVars : (Rows.filmNoneRow.named == Tryz.prog.varsNamed 4) = true := by kernel_rfl
theorem filmNamed : Tryz.prog.funcNamed Rows.filmNoneRow.func = some 4 := by kernel_rfl
theorem filmInstance : Tryz.f4.isInstance Tryz.prog Rows.filmNoneRow.origin Rows.filmNoneRow.targs := of_decide_eq_true (by kernel_rfl)
theorem filmWrapper : Tryz.f4.isWrapper Tryz.prog Rows.filmNoneRow.wrapper Rows.filmNoneRow.mainSum := by
  unfold Func.isWrapper; first | (rw [if_pos (by decide +kernel)]; kernel_rfl) | (rw [if_neg (by decide +kernel)]; exact ⟨rfl, rfl⟩)

end Go.Proofs.YtbohihkmakpbbaaGreat
