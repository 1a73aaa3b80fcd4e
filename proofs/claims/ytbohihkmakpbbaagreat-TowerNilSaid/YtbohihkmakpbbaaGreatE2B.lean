/- The engine, part 2, continued: states, ends, and what they say of the machine's. -/
import Derived.Test.YtbohihkmakpbbaaGreatE2
import Derived.RangeFuncLeaves
import Derived.RangeFuncRecord
import Derived.RangeFuncNested
import Derived.RecoverIn
import Derived.OrdersIn
namespace Go.Eng
variable {σ : Interp}

structure St where
  tm : Tr Value
  df : List Deferred
  hp : Hp

structure Ctx where
  nt : Nat
  rd : Option Nat

inductive End where
  | ret (v : Value)
  | pan (ch : List (Value × Bool))

inductive AEx where
  | normal
  | exit (id : Nat)
  | goto (l : Nat)
  | ret
  | pan (ch : List (Value × Bool))

def fen (rd : Option Nat) : Fence := { fn := fun _ => True, depth := none, alive := false, round := rd }

theorem fen_room (rd : Option Nat) (n : Nat) : (fen rd).room n := fun _ h => by simp [fen] at h

theorem callsIn_fen {rd : Option Nat} {n : Nat} {P : Program} {f : FuncId} {args : Array Value} {w : World} {R : Ending → World → Prop} (h : Calls P f args w R) : CallsIn (fen rd) n P f args w R :=
  ⟨trivial, fun cs _ => (callsIn_wide.2 h : CallsIn Fence.wide n P f args w R).2 cs (room_wide _)⟩

theorem calls_of_fen {rd : Option Nat} {n : Nat} {P : Program} {f : FuncId} {args : Array Value} {w : World} {R : Ending → World → Prop} (h : CallsIn (fen rd) n P f args w R) : Calls P f args w R :=
  callsIn_wide.1 (⟨trivial, fun cs _ => h.2 cs (fen_room rd _)⟩ : CallsIn Fence.wide n P f args w R)

inductive ChRel (r : Ren σ) : List (Value × Bool) → List PanicEntry → Prop
  | nil : ChRel r [] []
  | cons {v v' : Value} {b : Bool} {as : List (Value × Bool)} {cs : List PanicEntry} : VRel r v v' → ChRel r as cs → ChRel r ((v, b) :: as) ({ v := v', recovered := b } :: cs)

theorem ChRel.mono {r s : Ren σ} (h : r.le s) {as : List (Value × Bool)} {cs : List PanicEntry} (hc : ChRel r as cs) : ChRel s as cs := by
  induction hc with
  | nil => exact .nil
  | cons h1 _ ih => exact .cons (h1.mono h) ih

def EndRel (r : Ren σ) : End → Ending → Prop
  | .ret v, .returned v' => VRel r v v'
  | .pan ch, .panicked ch' => ChRel r ch ch'
  | _, _ => False

inductive ExRel (r : Ren σ) : AEx → Exit → Prop
  | normal : ExRel r .normal .normal
  | exit (id : Nat) : ExRel r (.exit id) (.exit id)
  | goto (l : Nat) : ExRel r (.goto l) (.goto l)
  | ret : ExRel r .ret .ret
  | pan {ch : List (Value × Bool)} {ch' : List PanicEntry} : ChRel r ch ch' → ExRel r (.pan ch) (.panic ch')

inductive DfRel (r : Ren σ) : List Deferred → List Deferred → Prop
  | nil : DfRel r [] []
  | call {f : FuncId} {p p' q q' : List Value} {as cs : List Deferred} : VRels r p p' → VRels r q q' → DfRel r as cs →
      DfRel r ({ target := .fn (.func f) ⟨p⟩, args := ⟨q⟩ } :: as) ({ target := .fn (.func f) ⟨p'⟩, args := ⟨q'⟩ } :: cs)
  | mark {i c m : Nat} {as cs : List Deferred} : r i = some (c, m) → DfRel r as cs → DfRel r ({ target := .collected i, args := #[] } :: as) ({ target := .collected c, args := #[] } :: cs)

theorem DfRel.mono {r s : Ren σ} (h : r.le s) {as cs : List Deferred} (hc : DfRel r as cs) : DfRel s as cs := by
  induction hc with
  | nil => exact .nil
  | call h1 h2 _ ih => exact .call (h1.mono h) (h2.mono h) ih
  | mark h1 _ ih => exact .mark (h _ _ h1) ih

inductive RdRel (r : Ren σ) : Option Nat → Option Nat → Prop
  | none : RdRel r none none
  | some {i c m : Nat} : r i = some (c, m) → RdRel r (some i) (some c)

theorem RdRel.mono {r s : Ren σ} (h : r.le s) {a c : Option Nat} (hc : RdRel r a c) : RdRel s a c := by
  cases hc with
  | none => exact .none
  | some h1 => exact .some (h _ _ h1)

/- A frame's state and the small one. -/
structure StRel (r : Ren σ) (c : Ctx) (s : St) (a : Act) (w : World) : Prop where
  tm : TmRel r s.tm a.tmps
  nt : a.tmps.size = c.nt
  df : DfRel r s.df a.defers
  rel : Rel r s.hp w

/- A loop, from within. -/
def LoopIn (F : Fence) (n : Nat) (P : Program) (c : Code) (Q : Exit → Act → World → Prop) (a : Act) (w : World) : Prop :=
  ∀ (b : Frame) (k : List Item) (cs : List Frame), b.roundOf = F.round → F.fn b.fn → F.room (cs.length + 1 + n) →
    ∃ e a' w', Q e a' w' ∧ ArrivesIn (Machine.fenced P F) P (lone (b.atR a (.code c :: .inLoop c :: k)) cs w) b k cs e a' w'

end Go.Eng
