/-
  No cell of these rows narrows 'for every input' (looked for: loops, veiled, ifaces, maps, wideKeys, modest, calm, conditions, laid).
  DERIVED. THE GIVEN ROWS OF THIS SEAT. 3 by the template 'for every input the law returns true; each argument reads behind the call as it read before'; 0 by the template 'total and deterministic' (their statements: YtobjlpfpccjneaaGreatTotals.lean).
  GIVEN WITH THE SEED: the statements are not yours to turn. If you find one false, say at which input.
  Laid BY PROGRAM, IN A SANDBOX (cutbox-rows.mjs): the forced cells as the released guide's own fill.sh prints them over the translation 6ccad775d22ba900… (all of the seat's roots in one cut). By AI agents, Wed Nov 11 2026. No macro, syntax, notation, axiom, sorry.
-/
import Derived.Test.YtobjlpfpccjneaaGreatChecked
import GoSem.Claim
import GoSem.ClaimJoined
import GoSem.ClaimMapViews
import Derived.JoinedTies
import Derived.KernelRfl
namespace Go.Proofs.YtobjlpfpccjneaaGreat
/- THE CELL 'sum', in the pinned program and in every row, IS THE sha256 OF THE DUMP (.gsa) THAT YtobjlpfpccjneaaGreatProg.lean LOADS. Nothing in Lean hashes anything: it is a label: what it is worth is what the hold of that sum in a sandbox is worth. -/
noncomputable def Tryz.pinned : Pinned := { name := "ytobjlpfpccjneaagreat", sum := "6ccad775d22ba90043c3fb6a034d13618217db809bf6e7f18a6736886cdad2b1", checked := Tryz.checked }
namespace Rows
def none {H : Type} : Left H := { results := [], args := [] }

/-- 'pomanderlaw21.ImageLoads': WHATEVER THE INPUT: true; the input reads as it did. -/
def imageLoadsSpec : ChangeSpec := { name := "imageLoads", fn := fun _ => fun
  | [d1, d2, d3] => { results := [.lit (.bool true)], args := [d1, d2, d3] }
  | _ => none }
def imageLoadsRow : OpenClaim := { program := "ytobjlpfpccjneaagreat", sum := "6ccad775d22ba90043c3fb6a034d13618217db809bf6e7f18a6736886cdad2b1", func := "pomander/pomanderlaw21.ImageLoads", spec := "imageLoads", inPlace := ["maps.clone"], unfollowed := true, recurses := true, plainKeys := false, apart := false }
def ImageLoadsSaid : Prop := imageLoadsRow.holds Tryz.pinned (OpenSpec.ofChange imageLoadsSpec)

/-- ITS FALSE NEIGHBOUR: 'it returns false'. Refute it at one input. -/
def imageLoadsWrong : ChangeSpec := { name := "imageLoads", fn := fun _ => fun
  | [d1, d2, d3] => { results := [.lit (.bool false)], args := [d1, d2, d3] }
  | _ => none }
def ImageLoadsWrongFalsely : Prop := imageLoadsRow.holds Tryz.pinned (OpenSpec.ofChange imageLoadsWrong)

/-- 'pomanderlaw11.BoardCopies': WHATEVER THE INPUT: true; the input reads as it did. -/
def boardCopiesSpec : ChangeSpec := { name := "boardCopies", fn := fun _ => fun
  | [d1, d2, d3] => { results := [.lit (.bool true)], args := [d1, d2, d3] }
  | _ => none }
def boardCopiesRow : OpenClaim := { program := "ytobjlpfpccjneaagreat", sum := "6ccad775d22ba90043c3fb6a034d13618217db809bf6e7f18a6736886cdad2b1", func := "pomander/pomanderlaw11.BoardCopies", spec := "boardCopies", inPlace := ["maps.clone"], unfollowed := true, recurses := true, plainKeys := false, apart := false }
def BoardCopiesSaid : Prop := boardCopiesRow.holds Tryz.pinned (OpenSpec.ofChange boardCopiesSpec)

/-- ITS FALSE NEIGHBOUR: 'it returns false'. Refute it at one input. -/
def boardCopiesWrong : ChangeSpec := { name := "boardCopies", fn := fun _ => fun
  | [d1, d2, d3] => { results := [.lit (.bool false)], args := [d1, d2, d3] }
  | _ => none }
def BoardCopiesWrongFalsely : Prop := boardCopiesRow.holds Tryz.pinned (OpenSpec.ofChange boardCopiesWrong)

/-- 'pomanderlaw11.BoardNil': WHATEVER THE INPUT: true; the input reads as it did. -/
def boardNilSpec : ChangeSpec := { name := "boardNil", fn := fun _ => fun
  | [d] => { results := [.lit (.bool true)], args := [d] }
  | _ => none }
def boardNilRow : OpenClaim := { program := "ytobjlpfpccjneaagreat", sum := "6ccad775d22ba90043c3fb6a034d13618217db809bf6e7f18a6736886cdad2b1", func := "pomander/pomanderlaw11.BoardNil", spec := "boardNil", inPlace := ["maps.clone"], unfollowed := true, recurses := true, plainKeys := false, apart := false }
def BoardNilSaid : Prop := boardNilRow.holds Tryz.pinned (OpenSpec.ofChange boardNilSpec)

/-- ITS FALSE NEIGHBOUR: 'it returns false'. Refute it at one input. -/
def boardNilWrong : ChangeSpec := { name := "boardNil", fn := fun _ => fun
  | [d] => { results := [.lit (.bool false)], args := [d] }
  | _ => none }
def BoardNilWrongFalsely : Prop := boardNilRow.holds Tryz.pinned (OpenSpec.ofChange boardNilWrong)

/- THE SECOND FORM. 'bulk': how many values and letters a reading holds, each counted each time it is reached (what is shared counts as often as it is met; a slice's spare places count too). A statement '..UptoSaid' is the law's where the arguments, and the package variables that the reading takes, are together of bulk at most 1048576: NARROWER than '..Said'. Prove '..Said' where nothing that the law and all that it calls make is longer than what came in: it says more and counts as full. Else prove '..UptoSaid'. A law counts once. -/
mutual
def uptoBulk {H : Type} : DataW H → Nat
  | .lit (.string bytes) => bytes.length + 1
  | .lit _ => 1
  | .nil => 1
  | .ptr d => uptoBulk d + 1
  | .slice elems spare => uptoBulkAll elems + uptoBulkAll spare + 1
  | .agg parts => uptoBulkAll parts + 1
  | .iface _ d => uptoBulk d + 1
  | .map entries => uptoBulkEntries entries + 1
  | .held _ => 1
def uptoBulkAll {H : Type} : List (DataW H) → Nat
  | [] => 0
  | d :: r => uptoBulk d + uptoBulkAll r
def uptoBulkEntries {H : Type} : List (Lit × DataW H) → Nat
  | [] => 0
  | x :: r => uptoBulkEntry x + uptoBulkEntries r
def uptoBulkEntry {H : Type} : Lit × DataW H → Nat
  | (.string bytes, d) => bytes.length + uptoBulk d + 1
  | (_, d) => uptoBulk d + 1
 end
def uptoSmall : (H : Type) → List (DataW H) → Bool := fun _ ds => decide (uptoBulkAll ds ≤ 1048576)
def OpenSpec.upto (s : _root_.Go.ChangeSpec) : _root_.Go.OpenSpec := { _root_.Go.OpenSpec.ofChange s with cond := some uptoSmall }

/-- 'pomanderlaw21.ImageLoads', WHERE WHAT IT READS IS OF BULK AT MOST 1048576: true; the input reads as it did. -/
def imageLoadsUptoRow : OpenClaim := { program := "ytobjlpfpccjneaagreat", sum := "6ccad775d22ba90043c3fb6a034d13618217db809bf6e7f18a6736886cdad2b1", func := "pomander/pomanderlaw21.ImageLoads", spec := "imageLoads", inPlace := ["maps.clone"], unfollowed := true, recurses := true, plainKeys := false, apart := false, narrowed := true }
def ImageLoadsUptoSaid : Prop := imageLoadsUptoRow.holds Tryz.pinned (OpenSpec.upto imageLoadsSpec)

/-- 'pomanderlaw11.BoardCopies', WHERE WHAT IT READS IS OF BULK AT MOST 1048576: true; the input reads as it did. -/
def boardCopiesUptoRow : OpenClaim := { program := "ytobjlpfpccjneaagreat", sum := "6ccad775d22ba90043c3fb6a034d13618217db809bf6e7f18a6736886cdad2b1", func := "pomander/pomanderlaw11.BoardCopies", spec := "boardCopies", inPlace := ["maps.clone"], unfollowed := true, recurses := true, plainKeys := false, apart := false, narrowed := true }
def BoardCopiesUptoSaid : Prop := boardCopiesUptoRow.holds Tryz.pinned (OpenSpec.upto boardCopiesSpec)

/-- 'pomanderlaw11.BoardNil', WHERE WHAT IT READS IS OF BULK AT MOST 1048576: true; the input reads as it did. -/
def boardNilUptoRow : OpenClaim := { program := "ytobjlpfpccjneaagreat", sum := "6ccad775d22ba90043c3fb6a034d13618217db809bf6e7f18a6736886cdad2b1", func := "pomander/pomanderlaw11.BoardNil", spec := "boardNil", inPlace := ["maps.clone"], unfollowed := true, recurses := true, plainKeys := false, apart := false, narrowed := true }
def BoardNilUptoSaid : Prop := boardNilUptoRow.holds Tryz.pinned (OpenSpec.upto boardNilSpec)

end Rows
end Go.Proofs.YtobjlpfpccjneaaGreat
