/- BoardNil, part 4: closed facts of the row. -/
import Derived.Test.YtobjlpfpccjneaaGreatN5
import Derived.JoinedOf
import Derived.KernelRfl
namespace Go.Proofs.YtobjlpfpccjneaaGreat

theorem nilClosed : joinedFacts Tryz.prog 5 Tryz.f5 Rows.boardNilSpec Rows.boardNilRow = true := by
  unfold joinedFacts
  rw [nilInPlace, nilUnfollowed, nilRecurses, nilVars]
  kernel_rfl

end Go.Proofs.YtobjlpfpccjneaaGreat
