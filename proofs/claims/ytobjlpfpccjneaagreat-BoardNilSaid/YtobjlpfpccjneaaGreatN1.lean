/- BoardNil, part 1: the two runs, by the engine. -/
import Derived.Test.YtobjlpfpccjneaaGreatE24
import Derived.Test.YtobjlpfpccjneaaGreatRows
import Derived.KernelRfl
namespace Go.Proofs.YtobjlpfpccjneaaGreat
open Go.Eng

/- What is known of the argument's list: how long it is is the value 4; whether that is above 100. -/
def nilFacts (b : Bool) : Op → TypeId → List Value → Option Value := fun op _ vs =>
  match op, vs with
  | .call ⟨.builtin .len, _, ⟨[30]⟩⟩, [.chan (some 3)] => some (.chan (some 4))
  | .binOp .gtr 3 _ _ 3, [.chan (some 4), .int .i64 100] => some (.bool b)
  | _, _ => none

noncomputable def nilEnv (b : Bool) : Env := { Env.of Tryz.prog with sym := nilFacts b }

def nilArg : Value := .agg ⟨[.chan (some 0), .chan (some 1), .chan (some 2), .chan (some 3)]⟩

theorem nilLong : yes ((ev (nilEnv true) 3000).call 5 [nilArg] hp0) = true := by kernel_rfl

end Go.Proofs.YtobjlpfpccjneaaGreat
