/- BoardNil, part 3: the call, whatever it is handed; the statement. -/
import Derived.Test.YtobjlpfpccjneaaGreatN2
import Derived.WalkKit
import Derived.ProofKit
import Derived.OpenShut
import Derived.Lib.SmallJoins
import Derived.Deep.Slices
import Derived.Carry
namespace Go.Proofs.YtobjlpfpccjneaaGreat
open Go.Eng Go.Joins Go.Deep Go.ChangeShapes Go.WideShapes Go.ChangeAt Go.RowKit

theorem own : ownKnob Tryz.prog.godebug = none := by kernel_rfl
theorem laidOut : laidOutB Tryz.prog = true := by kernel_rfl
theorem envOk {σ : Nat → Value} : EnvOk (Env.of Tryz.prog) σ := EnvOk.of (by kernel_rfl) (by kernel_rfl)

def nilVals (v0 v1 v2 v3 : Value) (n : Int) : Nat → Value
  | 0 => v0
  | 1 => v1
  | 2 => v2
  | 3 => v3
  | _ => .int .i64 n

theorem nilFacts_ok (v0 v1 v2 : Value) (a : Option Addr) (n k : Nat) :
    EnvOk (nilEnv (decide ((100 : Int) < n))) (nilVals v0 v1 v2 (.slice a n k) n) := by
  refine EnvOk.more envOk ?_
  intro o vs v h r ρ w hv
  obtain ⟨dst, op, type, pos, after, guard⟩ := o
  simp only [nilFacts] at h
  split at h
  · rename_i x
    cases h
    generalize hl : List.map ρ (Op.operands (.call ⟨.builtin .len, x, ⟨[30]⟩⟩)).toList = l at hv
    cases hv with
    | cons h1 h2 =>
      cases h2
      cases h1
      refine ⟨.int .i64 n, len_fact rfl Tryz.underlying30 (a := a) (n := n) (k := k) ?_ w, .tok 4 rfl⟩
      simpa [Op.operands, Call.operands, nilVals] using hl
  · rename_i x y
    cases h
    simp only [Op.operands, List.map_cons, List.map_nil] at hv
    cases hv with
    | cons h1 h2 =>
      cases h2 with
      | cons h2 h3 =>
        generalize hx : ρ x = p at h1
        generalize hy : ρ y = q at h2
        cases h1
        cases h2
        refine ⟨.bool (decide ((100 : Int) < n)), ?_, .bool _⟩
        have h0 : nilVals v0 v1 v2 (.slice a n k) n 4 = .int .i64 n := rfl
        rw [h0] at hx
        simp [execOp, hx, hy, go_sem]
  · cases h

theorem nilCall (v0 v1 v2 : Value) (h0 : v0.oneCell' = true) (h1 : v1.oneCell' = true) (h2 : v2.oneCell' = true) (a : Option Addr) (n k : Nat) (w : World) :
    Calls Tryz.prog 5 #[.agg #[v0, v1, v2, .slice a n k]] w fun e w' => e = .returned (.bool true) ∧ Below w.heap.size w w' := by
  have hrun : yes ((ev (nilEnv (decide ((100 : Int) < n))) 3000).call 5 [nilArg] hp0) = true := by
    cases decide ((100 : Int) < n)
    · exact nilShort
    · exact nilLong
  exact ev_yes (nilFacts_ok v0 v1 v2 a n k) hrun (.cons (.agg (.cons (.tok 0 h0) (.cons (.tok 1 h1) (.cons (.tok 2 h2) (.cons (.tok 3 rfl) .nil))))) .nil) w

set_option maxRecDepth 100000 in
theorem nilLifted (os : Os) (started : os.Started) (H : Type) (enc : TypeId × Value → H) :
    ReturnsInHanded {} Tryz.checked os 5 .any (Rows.boardNilSpec.pre6 enc Tryz.prog Tryz.f5 Rows.boardNilRow.domain false) (Rows.boardNilSpec.post enc Tryz.prog Tryz.f5 false true false false) := by
  refine returnsInHanded_of_change (C := Tryz.checked) own started (by kernel_rfl) Tryz.func5
    (ChangeSpec.witness6 (enc := enc) (C := Tryz.checked) false ⟨#[], #[.agg #[.int .i64 0, .int .i64 0, .int .i64 0, .slice none 0 0]], []⟩ 8 (by kernel_rfl) (by kernel_rfl) (by kernel_rfl) (by kernel_rfl)) ?_
  intro W base args ds gs before hval0 hW hcnd _
  have hval : ∀ (j : Nat) t v, Tryz.f5.params[j]? = some t → args[j]? = some v → Value.okWide Tryz.prog W .any base t v := hval0
  have hW' := hW
  obtain ⟨p, q, hA0, hV, rfl, hfz, hnd⟩ := hW
  have hA : DataW.TrodAll enc Tryz.prog W 0 (fun _ => true) true Tryz.f5.params.toList args.toList ds p := hA0
  rw [Tryz.params5] at hA hval
  obtain ⟨v0, vs0, d0, ds0, p0, q0, hargs, rfl, rfl, h0, r0⟩ := trodAll_cons hA
  obtain ⟨rfl, rfl, rfl⟩ := trodAll_nil r0
  obtain rfl : args = #[v0] := by cases args; simp_all
  obtain ⟨rfl, rfl⟩ := trodVars_none hV
  have hread := h0
  obtain ⟨w0, w1, w2, w3, y0, y1, y2, y3, m, rfl, rfl, rfl, t0, t1, t2, t3⟩ := open_agg4 Tryz.underlying79 (by kernel_rfl) (by kernel_rfl) (hval 0 79 v0 rfl rfl) h0
  obtain ⟨n0, e0, _, _⟩ := DataW.trod_int Tryz.underlying3 t0
  obtain ⟨n1, e1, _, _⟩ := DataW.trod_int Tryz.underlying3 t1
  obtain ⟨n2, e2, _, _⟩ := DataW.trod_int Tryz.underlying3 t2
  simp only [List.cons.injEq, and_true] at e0 e1 e2
  subst e0 e1 e2
  have hs : ∃ a n k, w3 = .slice a n k := by
    rcases open_slice Tryz.underlying30 t3 with ⟨h, _⟩ | ⟨a, len, cap, _, _, _, _, h, _⟩
    · simp only [List.cons.injEq, and_true] at h; exact ⟨_, _, _, h⟩
    · simp only [List.cons.injEq, and_true] at h; exact ⟨_, _, _, h⟩
  obtain ⟨a, n, k, rfl⟩ := hs
  simp only [List.append_nil] at hW'
  refine (nilCall (.int .i64 n0) (.int .i64 n1) (.int .i64 n2) rfl rfl rfl a n k W).mono fun e W' ⟨he, hb⟩ => ?_
  subst he
  have hlt : ∀ x ∈ y0.2 ++ (y1.2 ++ (y2.2 ++ y3.2)), x.block < W.heap.size := fun x hx => hW'.lt x (by simpa using hx)
  refine ⟨_, rfl, _, [], _, [], _, [], hW', trodAll_mk1 (shut_bool Tryz.underlying4 _), trodAll_cons_mk (Below.trod laidOut (by kernel_rfl) (of_decide_eq_true (by kernel_rfl)) hread hb hlt) trodAll_mk0, rfl, hb.frame _, fun h => (by cases h)⟩

end Go.Proofs.YtobjlpfpccjneaaGreat
