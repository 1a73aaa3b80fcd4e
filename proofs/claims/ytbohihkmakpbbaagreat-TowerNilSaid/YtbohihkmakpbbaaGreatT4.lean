/- TowerNil, part 5: closed facts of the function. -/
import Derived.Test.YtbohihkmakpbbaaGreatRows
import Derived.JoinedOf
import Derived.KernelRfl
namespace Go.Proofs.YtbohihkmakpbbaaGreat

theorem towerInPlace : (Rows.towerNilRow.inPlace == Tryz.prog.inPlace 3) = true := by kernel_rfl
theorem towerUnfollowed : (Rows.towerNilRow.unfollowed == Tryz.prog.unfollowed 3) = true := by kernel_rfl
theorem towerRecurses : (Rows.towerNilRow.recurses == Tryz.prog.recurses 3) = true := by kernel_rfl
theorem towerVars : (Rows.towerNilRow.named == Tryz.prog.varsNamed 3) = true := by kernel_rfl
theorem towerNamed : Tryz.prog.funcNamed Rows.towerNilRow.func = some 3 := by kernel_rfl
theorem towerInstance : Tryz.f3.isInstance Tryz.prog Rows.towerNilRow.origin Rows.towerNilRow.targs := of_decide_eq_true (by kernel_rfl)
theorem towerWrapper : Tryz.f3.isWrapper Tryz.prog Rows.towerNilRow.wrapper Rows.towerNilRow.mainSum := by
  unfold Func.isWrapper; first | (rw [if_pos (by decide +kernel)]; kernel_rfl) | (rw [if_neg (by decide +kernel)]; exact ⟨rfl, rfl⟩)

end Go.Proofs.YtbohihkmakpbbaaGreat
