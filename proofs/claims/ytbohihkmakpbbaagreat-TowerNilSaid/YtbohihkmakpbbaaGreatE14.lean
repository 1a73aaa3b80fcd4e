/- The engine, part 14: towards regions that draw their order: what makes rows, what only reads, what stands ahead of what. -/
import Derived.Test.YtbohihkmakpbbaaGreatE13
namespace Go.Eng
variable {σ : Interp}

/- A new row, at a name that is kept for it. -/
set_option maxHeartbeats 1000000 in
theorem opA_ok {E : Env} (hE : EnvOk E σ) {tm : Tr Value} {o : Oper} {cs : List Value} {mk : Nat → Value} (he : opA E tm o = some (cs, mk)) {r : Ren σ} {a : Act} (ht : TmRel r tm a.tmps) (w : World) :
    ∃ c' el v', (execOp a.eval o).run E.P w = .ok (.value v') (w.alloc (.cells c' el)) ∧ VRels r cs c'.toList ∧ ∀ (r' : Ren σ) (i : Nat), r' i = some (w.heap.size, 0) → VRel r' (mk i) v' := by
  obtain ⟨dst, op, type, pos, after, guard⟩ := o
  unfold opA at he
  cases op with
  | alloc el =>
    simp only [Option.map_eq_some_iff] at he
    obtain ⟨z, hz, e⟩ := he; cases e
    obtain ⟨i, zz, h1, h2, h3, h4⟩ := Env.zero_ok hE hz
    subst h3
    refine ⟨zz.cells, el, .pointer (some ⟨w.heap.size, 0, none⟩), ?_, h4 r, fun r' i hi => .ptr hi⟩
    exact run_v (s := Instr.alloc el true (.tuple #[])) (by simp [Instr.alloc, run_zeroValue_info h1 h2, newVar, Go.newRow])
  | box el x =>
    simp only [Option.map_eq_some_iff] at he
    obtain ⟨u, hu, e⟩ := he; cases e
    refine ⟨(a.eval x).cells, el, .pointer (some ⟨w.heap.size, 0, none⟩), ?_, (opv_ok ht hu).cells, fun r' i hi => .ptr hi⟩
    exact run_v (s := Instr.box el (a.eval x)) (by simp [Instr.box, newVar, Go.newRow])
  | buildSlice t len parts =>
    simp only [] at he
    split at he
    · rename_i v0 h0 hb
      split at he
      · rename_i c sl hget
        cases he
        unfold opBuildSlice at hb
        split at hb
        · rename_i ps el hps hu
          split at hb
          · rename_i s z hs hz
            obtain ⟨inf, f1, f2⟩ := Env.size_ok hE hs
            obtain ⟨iz, zz, h1, h2, h3, h4⟩ := Env.zero_ok hE hz
            rw [h1] at f1; cases f1
            subst h3
            subst f2
            split at hb
            · rename_i hc
              obtain ⟨c1, c2, c3⟩ := hc
              split at hb
              · rename_i cc hfill
                cases hb
                rw [Hp.get_new] at hget
                simp at hget
                obtain ⟨rfl, rfl⟩ := hget
                obtain ⟨c', g1, g2⟩ := fillA_ok (opvs_ok ht hps) (c' := madeCells zz.cells (len * inf.size)) (by rw [madeCells_toList]; exact reps_ok (h4 r) c2 _) hfill
                refine ⟨c', el, .slice (some ⟨w.heap.size, 0, none⟩) len len, ?_, g2, fun r' i hi => .slice hi (by simp only [slack]; have : len ≤ len * inf.size := Nat.le_mul_of_pos_right _ (Nat.pos_of_ne_zero (by rintro e; rw [e] at c3; simp at c3)); omega)⟩
                have n1 : ¬ (len * inf.size > 2 ^ 24) := by omega
                have n2 : ¬ (len * inf.size = 0) := by omega
                have g1' : Instr.fill (fun i => some (i * inf.size, inf.size)) ((Array.range (len * inf.size)).map (zz.cells[· % zz.cells.size]!)) (List.map (fun p => (p.1, a.eval p.2)) parts.toList) = some c' := by
                  rw [← g1]; rfl
                refine run_v (s := Instr.buildSlice t len (parts.map fun (i, x) => (i, a.eval x))) ?_
                simp only [Instr.buildSlice, Sem.run_bind, run_underlying (Env.und_ok hE hu), Result.andThen_ok, run_sizeOf_info h1, n1, n2, if_false, run_zeroValue_info h1 h2, Sem.run_pure, Array.toList_map, g1', Go.newRow, Go.newObj]
                rfl
              · cases hb
            · split at hb
              · rename_i hc
                obtain ⟨c1, c2⟩ := hc
                subst c1
                cases hb
                rw [Hp.get_new] at hget
                simp at hget
                obtain ⟨rfl, rfl⟩ := hget
                refine ⟨#[], el, .slice (some ⟨w.heap.size, 0, none⟩) 0 0, ?_, .nil, fun r' i hi => .slice hi (by simp only [slack]; omega)⟩
                have hp : parts.toList = [] := by
                  cases hpt : parts.toList with
                  | nil => rfl
                  | cons p l =>
                    rw [hpt] at hps
                    obtain ⟨i, x⟩ := p
                    simp only [opvs] at hps
                    split at hps
                    · cases hps; simp at c2
                    · cases hps
                refine run_v (s := Instr.buildSlice t 0 (parts.map fun (i, x) => (i, a.eval x))) ?_
                simp [Instr.buildSlice, run_underlying (Env.und_ok hE hu), run_sizeOf_info h1, hp, Instr.fill, Go.newRow, Array.range_zero']
              · cases hb
          · cases hb
        · cases hb
      · cases he
    · cases he
  | _ => cases he

end Go.Eng
