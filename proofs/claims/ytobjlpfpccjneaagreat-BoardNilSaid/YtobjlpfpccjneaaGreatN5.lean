/- BoardNil, part 5: closed facts of the function. -/
import Derived.Test.YtobjlpfpccjneaaGreatRows
import Derived.JoinedOf
import Derived.KernelRfl
namespace Go.Proofs.YtobjlpfpccjneaaGreat

theorem nilInPlace : (Rows.boardNilRow.inPlace == Tryz.prog.inPlace 5) = true := by kernel_rfl
theorem nilUnfollowed : (Rows.boardNilRow.unfollowed == Tryz.prog.unfollowed 5) = true := by kernel_rfl
theorem nilRecurses : (Rows.boardNilRow.recurses == Tryz.prog.recurses 5) = true := by kernel_rfl
theorem nilVars : (Rows.boardNilRow.named == Tryz.prog.varsNamed 5) = true := by kernel_rfl
theorem nilNamed : Tryz.prog.funcNamed Rows.boardNilRow.func = some 5 := by kernel_rfl
theorem nilInstance : Tryz.f5.isInstance Tryz.prog Rows.boardNilRow.origin Rows.boardNilRow.targs := of_decide_eq_true (by kernel_rfl)
theorem nilWrapper : Tryz.f5.isWrapper Tryz.prog Rows.boardNilRow.wrapper Rows.boardNilRow.mainSum := by
  unfold Func.isWrapper; first | (rw [if_pos (by decide +kernel)]; kernel_rfl) | (rw [if_neg (by decide +kernel)]; exact ⟨rfl, rfl⟩)

end Go.Proofs.YtobjlpfpccjneaaGreat
