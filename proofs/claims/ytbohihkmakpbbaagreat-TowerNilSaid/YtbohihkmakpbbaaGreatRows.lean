/-
  No cell of these rows narrows 'for every input' (looked for: loops, veiled, ifaces, maps, wideKeys, modest, calm, conditions, laid).
  DERIVED. THE GIVEN ROWS OF THIS SEAT. 3 by the template 'for every input the law returns true; each argument reads behind the call as it read before'; 0 by the template 'total and deterministic' (their statements: YtbohihkmakpbbaaGreatTotals.lean).
  GIVEN WITH THE SEED: the statements are not yours to turn. If you find one false, say at which input.
  Laid BY PROGRAM, IN A SANDBOX (cutbox-rows.mjs): the forced cells as the released guide's own fill.sh prints them over the translation 3a60ee07c284838c… (all of the seat's roots in one cut). By AI agents, Wed Nov 11 2026. No macro, syntax, notation, axiom, sorry.
-/
import Derived.Test.YtbohihkmakpbbaaGreatChecked
import GoSem.Claim
import GoSem.ClaimJoined
import GoSem.ClaimMapViews
import Derived.JoinedTies
import Derived.KernelRfl
namespace Go.Proofs.YtbohihkmakpbbaaGreat
/- THE CELL 'sum', in the pinned program and in every row, IS THE sha256 OF THE DUMP (.gsa) THAT YtbohihkmakpbbaaGreatProg.lean LOADS. Nothing in Lean hashes anything: it is a label: what it is worth is what the hold of that sum in a sandbox is worth. -/
noncomputable def Tryz.pinned : Pinned := { name := "ytbohihkmakpbbaagreat", sum := "3a60ee07c284838cb2346511afb7935f451d7a67ac4e564b531c6285a331d700", checked := Tryz.checked }
namespace Rows
def none {H : Type} : Left H := { results := [], args := [] }

/-- 'pomanderlaw15.TowerNil': WHATEVER THE INPUT: true; the input reads as it did. -/
def towerNilSpec : ChangeSpec := { name := "towerNil", fn := fun _ => fun
  | [d] => { results := [.lit (.bool true)], args := [d] }
  | _ => none }
def towerNilRow : OpenClaim := { program := "ytbohihkmakpbbaagreat", sum := "3a60ee07c284838cb2346511afb7935f451d7a67ac4e564b531c6285a331d700", func := "pomander/pomanderlaw15.TowerNil", spec := "towerNil", inPlace := ["maps.clone"], unfollowed := true, recurses := true, plainKeys := false, apart := false }
def TowerNilSaid : Prop := towerNilRow.holds Tryz.pinned (OpenSpec.ofChange towerNilSpec)

/-- ITS FALSE NEIGHBOUR: 'it returns false'. Refute it at one input. -/
def towerNilWrong : ChangeSpec := { name := "towerNil", fn := fun _ => fun
  | [d] => { results := [.lit (.bool false)], args := [d] }
  | _ => none }
def TowerNilWrongFalsely : Prop := towerNilRow.holds Tryz.pinned (OpenSpec.ofChange towerNilWrong)

/-- 'pomanderlaw22.FilmNone': WHATEVER THE INPUT: true; the input reads as it did. -/
def filmNoneSpec : ChangeSpec := { name := "filmNone", fn := fun _ => fun
  | [d] => { results := [.lit (.bool true)], args := [d] }
  | _ => none }
def filmNoneRow : OpenClaim := { program := "ytbohihkmakpbbaagreat", sum := "3a60ee07c284838cb2346511afb7935f451d7a67ac4e564b531c6285a331d700", func := "pomander/pomanderlaw22.FilmNone", spec := "filmNone", inPlace := ["maps.clone"], unfollowed := true, recurses := true, plainKeys := false, apart := false }
def FilmNoneSaid : Prop := filmNoneRow.holds Tryz.pinned (OpenSpec.ofChange filmNoneSpec)

/-- ITS FALSE NEIGHBOUR: 'it returns false'. Refute it at one input. -/
def filmNoneWrong : ChangeSpec := { name := "filmNone", fn := fun _ => fun
  | [d] => { results := [.lit (.bool false)], args := [d] }
  | _ => none }
def FilmNoneWrongFalsely : Prop := filmNoneRow.holds Tryz.pinned (OpenSpec.ofChange filmNoneWrong)

/-- 'pomanderlaw28.ShrinkTries': WHATEVER THE INPUT: true; the input reads as it did. -/
def shrinkTriesSpec : ChangeSpec := { name := "shrinkTries", fn := fun _ => fun
  | [d1, d2] => { results := [.lit (.bool true)], args := [d1, d2] }
  | _ => none }
def shrinkTriesRow : OpenClaim := { program := "ytbohihkmakpbbaagreat", sum := "3a60ee07c284838cb2346511afb7935f451d7a67ac4e564b531c6285a331d700", func := "pomander/pomanderlaw28.ShrinkTries", spec := "shrinkTries", inPlace := ["maps.clone"], unfollowed := true, recurses := true, plainKeys := false, apart := false }
def ShrinkTriesSaid : Prop := shrinkTriesRow.holds Tryz.pinned (OpenSpec.ofChange shrinkTriesSpec)

/-- ITS FALSE NEIGHBOUR: 'it returns false'. Refute it at one input. -/
def shrinkTriesWrong : ChangeSpec := { name := "shrinkTries", fn := fun _ => fun
  | [d1, d2] => { results := [.lit (.bool false)], args := [d1, d2] }
  | _ => none }
def ShrinkTriesWrongFalsely : Prop := shrinkTriesRow.holds Tryz.pinned (OpenSpec.ofChange shrinkTriesWrong)

/- THE SECOND FORM. 'bulk': how many values and letters a reading holds, each counted each time it is reached (what is shared counts as often as it is met; a slice's spare places count too). A statement '..UptoSaid' is the law's where the arguments, and the package variables that the reading takes, are together of bulk at most 1048576: NARROWER than '..Said'. Prove '..Said' where nothing that the law and all that it calls make is longer than what came in: it says more and counts as full. Else prove '..UptoSaid'. A law counts once. -/
mutual
def uptoBulk {H : Type} : DataW H → Nat
  | .lit (.string bytes) => bytes.length + 1
  | .lit _ => 1
  | .nil => 1
  | .ptr d => uptoBulk d + 1
  | .slice elems spare => uptoBulkAll elems + uptoBulkAll spare + 1
  | .agg parts => uptoBulkAll parts + 1
  | .iface _ d => uptoBulk d + 1
  | .map entries => uptoBulkEntries entries + 1
  | .held _ => 1
def uptoBulkAll {H : Type} : List (DataW H) → Nat
  | [] => 0
  | d :: r => uptoBulk d + uptoBulkAll r
def uptoBulkEntries {H : Type} : List (Lit × DataW H) → Nat
  | [] => 0
  | x :: r => uptoBulkEntry x + uptoBulkEntries r
def uptoBulkEntry {H : Type} : Lit × DataW H → Nat
  | (.string bytes, d) => bytes.length + uptoBulk d + 1
  | (_, d) => uptoBulk d + 1
 end
def uptoSmall : (H : Type) → List (DataW H) → Bool := fun _ ds => decide (uptoBulkAll ds ≤ 1048576)
def OpenSpec.upto (s : _root_.Go.ChangeSpec) : _root_.Go.OpenSpec := { _root_.Go.OpenSpec.ofChange s with cond := some uptoSmall }

/-- 'pomanderlaw15.TowerNil', WHERE WHAT IT READS IS OF BULK AT MOST 1048576: true; the input reads as it did. -/
def towerNilUptoRow : OpenClaim := { program := "ytbohihkmakpbbaagreat", sum := "3a60ee07c284838cb2346511afb7935f451d7a67ac4e564b531c6285a331d700", func := "pomander/pomanderlaw15.TowerNil", spec := "towerNil", inPlace := ["maps.clone"], unfollowed := true, recurses := true, plainKeys := false, apart := false, narrowed := true }
def TowerNilUptoSaid : Prop := towerNilUptoRow.holds Tryz.pinned (OpenSpec.upto towerNilSpec)

/-- 'pomanderlaw22.FilmNone', WHERE WHAT IT READS IS OF BULK AT MOST 1048576: true; the input reads as it did. -/
def filmNoneUptoRow : OpenClaim := { program := "ytbohihkmakpbbaagreat", sum := "3a60ee07c284838cb2346511afb7935f451d7a67ac4e564b531c6285a331d700", func := "pomander/pomanderlaw22.FilmNone", spec := "filmNone", inPlace := ["maps.clone"], unfollowed := true, recurses := true, plainKeys := false, apart := false, narrowed := true }
def FilmNoneUptoSaid : Prop := filmNoneUptoRow.holds Tryz.pinned (OpenSpec.upto filmNoneSpec)

/-- 'pomanderlaw28.ShrinkTries', WHERE WHAT IT READS IS OF BULK AT MOST 1048576: true; the input reads as it did. -/
def shrinkTriesUptoRow : OpenClaim := { program := "ytbohihkmakpbbaagreat", sum := "3a60ee07c284838cb2346511afb7935f451d7a67ac4e564b531c6285a331d700", func := "pomander/pomanderlaw28.ShrinkTries", spec := "shrinkTries", inPlace := ["maps.clone"], unfollowed := true, recurses := true, plainKeys := false, apart := false, narrowed := true }
def ShrinkTriesUptoSaid : Prop := shrinkTriesUptoRow.holds Tryz.pinned (OpenSpec.upto shrinkTriesSpec)

end Rows
end Go.Proofs.YtbohihkmakpbbaaGreat
