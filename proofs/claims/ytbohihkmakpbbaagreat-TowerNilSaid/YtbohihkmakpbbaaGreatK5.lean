/- known answers true, whatever the memory. -/
import Derived.Below
import Derived.Test.YtbohihkmakpbbaaGreatK2
import Derived.Test.YtbohihkmakpbbaaGreatK3
import Derived.Test.YtbohihkmakpbbaaGreatK4
namespace Go.Proofs.YtbohihkmakpbbaaGreat
open Go.Eng Go.RowKit

noncomputable def knownEnv : Env := { plainEnv with con := memoCon [memo1, memo2, memo3] }

theorem knownRun : yes ((ev knownEnv 3000).call 6 [] hp0) = true := by kernel_rfl

theorem plainOk {σ : Interp} : EnvOk plainEnv σ := EnvOk.cloned (f := 183) (EnvOk.of (by kernel_rfl) (by kernel_rfl)) Tryz.func183 (by kernel_rfl) (by kernel_rfl) (by kernel_rfl) (by kernel_rfl)

theorem knownOk {σ : Interp} : EnvOk knownEnv σ :=
  EnvOk.withCon plainOk (memoCon_ok plainOk (n := 3000) (by
    intro m hm
    simp only [List.mem_cons, List.not_mem_nil, or_false] at hm
    rcases hm with rfl | rfl | rfl
    · exact memo1_fits
    · exact memo2_fits
    · exact memo3_fits))

theorem knownCall (w : World) : Calls Tryz.prog 6 #[] w fun e w' => e = .returned (.bool true) ∧ Below w.heap.size w w' :=
  ev_yes (σ := Interp.of fun _ => .nilFunc) knownOk knownRun .nil w

theorem knownCon_ok {σ : Interp} : ConOk σ plainEnv.P plainEnv.fs (con0 6 (.bool true)) := con0_ok (by kernel_rfl) rfl knownCall

end Go.Proofs.YtbohihkmakpbbaaGreat
