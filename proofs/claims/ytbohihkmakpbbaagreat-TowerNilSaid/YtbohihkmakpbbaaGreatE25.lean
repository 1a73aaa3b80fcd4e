/- The engine, part 25: maps.clone told to the engine. -/
import Derived.Test.YtbohihkmakpbbaaGreatE24
import Derived.Laws.Externs
import Derived.MapKept
namespace Go.Eng
variable {σ : Interp}

theorem run_mapsClone {P : Program} {w : World} {r : Nat} {es : Array MapEntry} {clock : Nat} (t : TypeId) (hb : w.heap[r]? = some (.map es clock)) :
    (Extern.MapsClone.clone #[.iface t (.map (some r))]).run P w = .ok (.iface t (.map (some w.heap.size))) { w with heap := w.heap.push (.map es clock) } := by
  have e : Extern.MapsClone.clone #[.iface t (.map (some r))] = (getObj r >>= fun o => match o with
      | .map entries clock => (newObj (.map entries clock) >>= fun n => pure (.iface t (.map (some n))))
      | _ => stuck "maps.clone: a map expected") := rfl
  rw [e]
  simp [MapKept.run_getObj_map hb, Result.andThen, go_sem]

theorem EnvOk.cloned {E : Env} (h : EnvOk E σ) {f : FuncId} {fn : Func} (hf : E.P.funcs[f]? = some fn) (h1 : (fn.name == "runtime.NumGoroutine") = false) (h2 : fn.body.isNone = true)
    (h3 : (Extern.findNext fn).isNone = true) (h4 : Extern.find fn = some Extern.MapsClone.clone) : EnvOk { E with clone := some f } σ :=
  ⟨h.fs, h.ts, h.mixed, h.names, h.sym, fun g hg t c ms k w hw => by
    cases hg
    have h3' : Extern.findNext fn = none := by simpa using h3
    rw [run_callFunc_extern hf h1 h2 h3' h4, run_mapsClone t hw]
    rfl, h.con, h.lp, h.opr, h.opw⟩

end Go.Eng
