/- TowerNil, part 3: the call, whatever it is handed. -/
import Derived.Test.YtbohihkmakpbbaaGreatT2
import Derived.Test.YtbohihkmakpbbaaGreatK5
import Derived.WalkKit
import Derived.ProofKit
import Derived.OpenShut
import Derived.Lib.SmallJoins
import Derived.Deep.Slices
import Derived.Carry
namespace Go.Proofs.YtbohihkmakpbbaaGreat
open Go.Eng Go.Joins Go.Deep Go.ChangeShapes Go.WideShapes Go.ChangeAt Go.RowKit

theorem own : ownKnob Tryz.prog.godebug = none := by kernel_rfl
theorem laidOut : laidOutB Tryz.prog = true := by kernel_rfl
theorem envOk {σ : Interp} : EnvOk (Env.of Tryz.prog) σ := EnvOk.of (by kernel_rfl) (by kernel_rfl)

def towerVals (v0 v1 v2 v3 v4 : Value) (n : Int) : Nat → Value
  | 0 => v0
  | 1 => v1
  | 2 => v2
  | 3 => v3
  | 4 => v4
  | _ => .int .i64 n

theorem towerFacts_ok (v0 v1 v2 v4 : Value) (a : Option Addr) (n k : Nat) :
    EnvOk (towerEnv (decide ((100 : Int) < n))) (Interp.of (towerVals v0 v1 v2 (.slice a n k) v4 n)) := by
  have h0 : EnvOk { Env.of Tryz.prog with sym := towerFacts (decide ((100 : Int) < n)) } (Interp.of (towerVals v0 v1 v2 (.slice a n k) v4 n)) := by
    refine EnvOk.more envOk ?_
    intro o vs v h r ρ w hv
    obtain ⟨dst, op, type, pos, after, guard⟩ := o
    simp only [towerFacts] at h
    split at h
    · rename_i x
      cases h
      generalize hl : List.map ρ (Op.operands (.call ⟨.builtin .len, x, ⟨[22]⟩⟩)).toList = l at hv
      cases hv with
      | cons h1 h2 =>
        cases h2
        cases h1
        refine ⟨.int .i64 n, len_fact rfl Tryz.underlying22 (a := a) (n := n) (k := k) ?_ w, .tok 5 rfl⟩
        simpa [Op.operands, Call.operands, towerVals, Interp.of] using hl
    · rename_i x y
      cases h
      simp only [Op.operands, List.map_cons, List.map_nil] at hv
      cases hv with
      | cons h1 h2 =>
        cases h2 with
        | cons h2 h3 =>
          generalize hx : ρ x = p at h1
          generalize hy : ρ y = q at h2
          cases h1
          cases h2
          refine ⟨.bool (decide ((100 : Int) < n)), ?_, .bool _⟩
          have h0 : (Interp.of (towerVals v0 v1 v2 (.slice a n k) v4 n)).val 5 = .int .i64 n := rfl
          rw [h0] at hx
          simp [execOp, hx, hy, go_sem]
    · cases h
  exact EnvOk.withCon (EnvOk.cloned (E := { Env.of Tryz.prog with sym := towerFacts (decide ((100 : Int) < n)) }) (f := 183) h0 Tryz.func183 (by kernel_rfl) (by kernel_rfl) (by kernel_rfl) (by kernel_rfl)) knownCon_ok

theorem towerCall (v0 v1 v2 v4 : Value) (h0 : v0.oneCell' = true) (h1 : v1.oneCell' = true) (h2 : v2.oneCell' = true) (h4 : v4.oneCell' = true) (a : Option Addr) (n k : Nat) (w : World) :
    Calls Tryz.prog 3 #[.agg #[v0, v1, v2, .slice a n k, v4]] w fun e w' => e = .returned (.bool true) ∧ Below w.heap.size w w' := by
  have hrun : yes ((ev (towerEnv (decide ((100 : Int) < n))) 3000).call 3 [towerArg] hp0) = true := by
    cases decide ((100 : Int) < n)
    · exact towerShort
    · exact towerLong
  exact ev_yes (towerFacts_ok v0 v1 v2 v4 a n k) hrun (.cons (.agg (.cons (.tok 0 h0) (.cons (.tok 1 h1) (.cons (.tok 2 h2) (.cons (.tok 3 rfl) (.cons (.tok 4 h4) .nil)))))) .nil) w

theorem list5 {α : Type} {l : List α} (h : l.length = 5) : ∃ a b c d e, l = [a, b, c, d, e] := by
  match l, h with
  | [a, b, c, d, e], _ => exact ⟨a, b, c, d, e, rfl⟩

theorem five {H : Type} {enc : TypeId × Value → H} {P : Program} {w : World} {base : Nat} {spare : Nat → Bool} {held : Bool} {r : Reach} {b0 : Nat} {t : TypeId} {f0 f1 f2 f3 f4 : Field} {v : Value} {d : DataW H} {p : List MemPlace}
    (hs : P.underlying t = some (.struct #[f0, f1, f2, f3, f4])) (hone : oneCellFields P #[f0, f1, f2, f3, f4] = true) (hC : P.cellsOf t = 5) (hv : Value.okWide P w r b0 t v) (h : DataW.Trod enc P w base spare held t v d p) :
    ∃ c0 c1 c2 c3 c4 y0 y1 y2 y3 y4 n, v = .agg #[c0, c1, c2, c3, c4] ∧ DataW.trod enc P w base spare held n f0.type [c0] = some y0 ∧ DataW.trod enc P w base spare held n f1.type [c1] = some y1 ∧
      DataW.trod enc P w base spare held n f2.type [c2] = some y2 ∧ DataW.trod enc P w base spare held n f3.type [c3] = some y3 ∧ DataW.trod enc P w base spare held n f4.type [c4] = some y4 := by
  obtain ⟨cs, rfl, hsz⟩ := okWide_struct hs hv
  obtain ⟨l⟩ := cs
  obtain ⟨c0, c1, c2, c3, c4, rfl⟩ := list5 (hsz.trans hC)
  obtain ⟨fuel, hf⟩ := h
  obtain ⟨xs, n, _, _, _, hn, hg⟩ := DataW.trod_struct hs hf
  obtain ⟨y0, y1, y2, y3, y4, rfl⟩ := list5 hn
  obtain ⟨o0, k0⟩ := hone_of hone 0 f0 rfl
  obtain ⟨o1, k1⟩ := hone_of hone 1 f1 rfl
  obtain ⟨o2, k2⟩ := hone_of hone 2 f2 rfl
  obtain ⟨o3, k3⟩ := hone_of hone 3 f3 rfl
  obtain ⟨o4, k4⟩ := hone_of hone 4 f4 rfl
  have t0 := hg 0 f0 rfl
  have t1 := hg 1 f1 rfl
  have t2 := hg 2 f2 rfl
  have t3 := hg 3 f3 rfl
  have t4 := hg 4 f4 rfl
  exact ⟨c0, c1, c2, c3, c4, y0, y1, y2, y3, y4, n, rfl, by simpa [Value.cells, o0, k0] using t0, by simpa [Value.cells, o1, k1] using t1, by simpa [Value.cells, o2, k2] using t2, by simpa [Value.cells, o3, k3] using t3, by simpa [Value.cells, o4, k4] using t4⟩

set_option maxRecDepth 100000 in
theorem towerLifted (os : Os) (started : os.Started) (H : Type) (enc : TypeId × Value → H) :
    ReturnsInHanded {} Tryz.checked os 3 .any (Rows.towerNilSpec.pre6 enc Tryz.prog Tryz.f3 Rows.towerNilRow.domain false) (Rows.towerNilSpec.post enc Tryz.prog Tryz.f3 false true false false) := by
  refine returnsInHanded_of_change (C := Tryz.checked) own started (by kernel_rfl) Tryz.func3
    (ChangeSpec.witness6 (enc := enc) (C := Tryz.checked) false ⟨#[], #[.agg #[.int .i64 0, .int .i64 0, .int .i64 0, .slice none 0 0, .int .u32 0]], []⟩ 8 (by kernel_rfl) (by kernel_rfl) (by kernel_rfl) (by kernel_rfl)) ?_
  intro W base args ds gs before hval0 hW hcnd _
  have hval : ∀ (j : Nat) t v, Tryz.f3.params[j]? = some t → args[j]? = some v → Value.okWide Tryz.prog W .any base t v := hval0
  have hW' := hW
  obtain ⟨p, q, hA0, hV, rfl, hfz, hnd⟩ := hW
  have hA : DataW.TrodAll enc Tryz.prog W 0 (fun _ => true) true Tryz.f3.params.toList args.toList ds p := hA0
  rw [Tryz.params3] at hA hval
  obtain ⟨v0, vs0, d0, ds0, p0, q0, hargs, rfl, rfl, h0, r0⟩ := trodAll_cons hA
  obtain ⟨rfl, rfl, rfl⟩ := trodAll_nil r0
  obtain rfl : args = #[v0] := by cases args; simp_all
  obtain ⟨rfl, rfl⟩ := trodVars_none hV
  have hread := h0
  obtain ⟨c0, c1, c2, c3, c4, y0, y1, y2, y3, y4, m, rfl, t0, t1, t2, t3, t4⟩ := five Tryz.underlying25 (by kernel_rfl) (by kernel_rfl) (hval 0 25 v0 rfl rfl) h0
  obtain ⟨n0, e0, _, _⟩ := DataW.trod_int Tryz.underlying3 t0
  obtain ⟨n1, e1, _, _⟩ := DataW.trod_int Tryz.underlying3 t1
  obtain ⟨n2, e2, _, _⟩ := DataW.trod_int Tryz.underlying3 t2
  obtain ⟨n4, e4, _, _⟩ := DataW.trod_int Tryz.underlying23 t4
  simp only [List.cons.injEq, and_true] at e0 e1 e2 e4
  subst e0 e1 e2 e4
  have hs : ∃ a n k, c3 = .slice a n k := by
    rcases open_slice Tryz.underlying22 t3 with ⟨h, _⟩ | ⟨a, len, cap, _, _, _, _, h, _⟩
    · simp only [List.cons.injEq, and_true] at h; exact ⟨_, _, _, h⟩
    · simp only [List.cons.injEq, and_true] at h; exact ⟨_, _, _, h⟩
  obtain ⟨a, n, k, rfl⟩ := hs
  simp only [List.append_nil] at hW'
  refine (towerCall (.int .i64 n0) (.int .i64 n1) (.int .i64 n2) (.int .u32 n4) rfl rfl rfl rfl a n k W).mono fun e W' ⟨he, hb⟩ => ?_
  subst he
  have hlt : ∀ x ∈ p0, x.block < W.heap.size := fun x hx => hW'.lt x (by simpa using hx)
  refine ⟨_, rfl, _, [], _, [], _, [], hW', trodAll_mk1 (shut_bool Tryz.underlying4 _), trodAll_cons_mk (Below.trod laidOut (by kernel_rfl) (of_decide_eq_true (by kernel_rfl)) hread hb hlt) trodAll_mk0, rfl, hb.frame _, fun h => (by cases h)⟩

end Go.Proofs.YtbohihkmakpbbaaGreat
