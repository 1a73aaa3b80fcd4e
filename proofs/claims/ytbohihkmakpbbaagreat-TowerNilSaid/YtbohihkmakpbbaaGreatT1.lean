/- TowerNil, part 1: the long run, by the engine. -/
import Derived.Test.YtbohihkmakpbbaaGreatE31
import Derived.Test.YtbohihkmakpbbaaGreatRows
import Derived.KernelRfl
namespace Go.Proofs.YtbohihkmakpbbaaGreat
open Go.Eng

/- What is known of the argument's list: how long it is is the value 5; whether that is above 100. -/
def towerFacts (b : Bool) : Op → TypeId → List Value → Option Value := fun op _ vs =>
  match op, vs with
  | .call ⟨.builtin .len, _, ⟨[22]⟩⟩, [.chan (some 3)] => some (.chan (some 5))
  | .binOp .gtr 3 _ _ 3, [.chan (some 5), .int .i64 100] => some (.bool b)
  | _, _ => none

noncomputable def towerEnv (b : Bool) : Env := { Env.of Tryz.prog with sym := towerFacts b, clone := some 183, con := con0 6 (.bool true) }

def towerArg : Value := .agg ⟨[.chan (some 0), .chan (some 1), .chan (some 2), .chan (some 3), .chan (some 4)]⟩

theorem towerLong : yes ((ev (towerEnv true) 3000).call 3 [towerArg] hp0) = true := by kernel_rfl

end Go.Proofs.YtbohihkmakpbbaaGreat
