/- BoardNil, part 2: the short run. -/
import Derived.Test.YtobjlpfpccjneaaGreatN1
namespace Go.Proofs.YtobjlpfpccjneaaGreat
open Go.Eng

theorem nilShort : yes ((ev (nilEnv false) 3000).call 5 [nilArg] hp0) = true := by kernel_rfl

end Go.Proofs.YtobjlpfpccjneaaGreat
