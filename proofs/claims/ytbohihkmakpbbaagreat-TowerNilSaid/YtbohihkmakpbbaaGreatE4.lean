/- The engine, part 4: operations on memory, one by one. -/
import Derived.Test.YtbohihkmakpbbaaGreatE3
import Derived.Room.Entries
namespace Go.Eng
variable {σ : Interp}

def Env.size (E : Env) (t : TypeId) : Option Nat := (E.ts.get t).map (·.size)
def Env.zero (E : Env) (t : TypeId) : Option (List Value) :=
  match E.ts.get t with
  | some i => match i.zero with
    | some z => if z.cells.toList.all (gnd 6) then some z.cells.toList else none
    | none => none
  | none => none

theorem Env.size_ok {E : Env} (hE : EnvOk E σ) {t : TypeId} {n : Nat} (h : E.size t = some n) : ∃ i, E.P.info? t = some i ∧ i.size = n := by
  unfold Env.size at h
  rw [Option.map_eq_some_iff] at h
  obtain ⟨i, h1, h2⟩ := h
  exact ⟨i, hE.ts t i h1, h2⟩

theorem gnd_cells (r : Ren σ) {l : List Value} (h : l.all (gnd 6) = true) : VRels r l l := (gnds (fun v hv => gnd_spec r 6 v hv) l h).2

theorem Env.zero_ok {E : Env} (hE : EnvOk E σ) {t : TypeId} {l : List Value} (h : E.zero t = some l) :
    ∃ i z, E.P.info? t = some i ∧ i.zero = some z ∧ z.cells.toList = l ∧ ∀ {σ : Interp} (r : Ren σ), VRels r l l := by
  unfold Env.zero at h
  split at h
  · rename_i i hi
    split at h
    · rename_i z hz
      split at h
      · rename_i hg; cases h
        exact ⟨i, z, hE.ts t i hi, hz, rfl, fun r => gnd_cells r hg⟩
      · cases h
    · cases h
  · cases h

theorem one_cells {v : Value} (h : v.oneCell' = true) : v.cells = #[v] := by
  cases v <;> first
    | rfl
    | cases h

theorem VRel.cells {r : Ren σ} {v v' : Value} (h : VRel r v v') : VRels r v.cells.toList v'.cells.toList := by
  cases h <;> first
    | (rename_i h1; exact h1)
    | exact .cons (by constructor <;> assumption) .nil
    | skip
  rename_i i h1
  rw [one_cells h1]
  exact .cons (.tok i h1) .nil

theorem VRel.one {r : Ren σ} {v v' : Value} (h : VRel r v v') : v'.oneCell' = v.oneCell' := by
  cases h <;> first
    | rfl
    | assumption

theorem VRels.one {r : Ren σ} {as cs : List Value} (h : VRels r as cs) (h1 : as.all (·.oneCell') = true) : ∀ v ∈ cs, v.oneCell' = true := by
  induction as generalizing cs with
  | nil => cases h; intro v hv; cases hv
  | cons a as ih =>
    cases h with
    | cons e1 e2 =>
      simp only [List.all_cons, Bool.and_eq_true] at h1
      intro v hv
      cases hv with
      | head => rw [e1.one]; exact h1.1
      | tail _ hm => exact ih e2 h1.2 v hm

theorem VRels.cellsRel {r : Ren σ} {as : List Value} {c' : Array Value} (h : VRels r as c'.toList) : CellsRel r as c' :=
  fun i v hv => by
    obtain ⟨v', h1, h2⟩ := h.get hv
    exact ⟨v', by simpa using h1, h2⟩

/- A new row whose cells are all known. -/
theorem Adv.newRow {r : Ren σ} {h : Hp} {w : World} (hr : Rel r h w) {l : List Value} {c' : Array Value} (hc : VRels r l c'.toList) (el : TypeId) :
    ∃ r', Adv r h w r' (h.new (.cells l none)) (w.alloc (.cells c' el)) ∧ r' h.nx = some (w.heap.size, 0) := by
  refine ⟨r.add h.nx (w.heap.size, 0), Adv.new hr _ 0 (.cells c' el) ⟨(VRels.mono (Ren.le_add hr.nx_none) hc).cellsRel, .inl rfl, fun es he => by cases he⟩, by simp [Ren.add]⟩

def ptr (i o : Nat) : Value := .pointer (some ⟨i, o, none⟩)

/- alloc, box -/
def opAlloc (E : Env) (h : Hp) (el : TypeId) : Option (Value × Hp) :=
  match E.zero el with
  | some z => some (ptr h.nx 0, h.new (.cells z none))
  | none => none

theorem run_sizeOf_info {P : Program} {t : TypeId} {i : TypeInfo} (h : P.info? t = some i) (w : World) : (sizeOf t).run P w = .ok i.size w := by
  simp [sizeOf, typeInfo, h]

theorem run_zeroValue_info {P : Program} {t : TypeId} {i : TypeInfo} {z : Value} (h : P.info? t = some i) (hz : i.zero = some z) (w : World) : (zeroValue t).run P w = .ok z w := by
  simp [zeroValue, typeInfo, h, hz]

theorem opAlloc_ok {E : Env} (hE : EnvOk E σ) {h h' : Hp} {el : TypeId} {v : Value} (he : opAlloc E h el = some (v, h')) {r : Ren σ} {w : World} (hr : Rel r h w) :
    ∃ r' v' w', (Instr.alloc el true (.tuple #[])).run E.P w = .ok v' w' ∧ Adv r h w r' h' w' ∧ VRel r' v v' := by
  unfold opAlloc at he
  split at he
  · rename_i z hz
    cases he
    obtain ⟨i, zz, h1, h2, h3, h4⟩ := Env.zero_ok hE hz
    subst h3
    obtain ⟨r', ha, hn⟩ := Adv.newRow hr (c' := zz.cells) (h4 r) el
    refine ⟨r', .pointer (some ⟨w.heap.size, 0, none⟩), _, ?_, ha, .ptr hn⟩
    simp [Instr.alloc, run_zeroValue_info h1 h2, newVar, Go.newRow]
  · cases he

def opBox (tm : Tr Value) (h : Hp) (x : Operand) : Option (Value × Hp) :=
  match opv tm x with
  | some v => some (ptr h.nx 0, h.new (.cells v.cells.toList none))
  | none => none

theorem opBox_ok {P : Program} {tm : Tr Value} {h h' : Hp} {x : Operand} {el : TypeId} {v : Value} (he : opBox tm h x = some (v, h')) {r : Ren σ} {w : World} {a : Act}
    (ht : TmRel r tm a.tmps) (hr : Rel r h w) : ∃ r' v' w', (Instr.box el (a.eval x)).run P w = .ok v' w' ∧ Adv r h w r' h' w' ∧ VRel r' v v' := by
  unfold opBox at he
  split at he
  · rename_i u hu
    cases he
    obtain ⟨r', ha, hn⟩ := Adv.newRow hr (c' := (a.eval x).cells) (opv_ok ht hu).cells el
    exact ⟨r', .pointer (some ⟨w.heap.size, 0, none⟩), _, by simp [Instr.box, newVar, Go.newRow], ha, .ptr hn⟩
  · cases he

/- load, store -/
def opLoad (E : Env) (tm : Tr Value) (h : Hp) (t : TypeId) (x : Operand) : Option Value :=
  match opv tm x with
  | some (.pointer (some ⟨i, o, none⟩)) =>
    match h.get i with
    | some (.cells c _) =>
      match E.und t with
      | some d =>
        if d.isRow then
          match E.size t with
          | some n => if o + n ≤ c.length then some (.agg ⟨(c.drop o).take n⟩) else none
          | none => none
        else c[o]?
      | none => none
    | _ => none
  | _ => none

theorem run_isAgg_not {P : Program} {t : TypeId} {d : TypeDesc} (hu : P.underlying t = some d) (hd : d.isRow = false) (w : World) : (isAgg t).run P w = .ok false w := by
  unfold isAgg
  rw [Sem.run_bind, run_underlying hu w]
  cases d <;> simp_all

theorem run_loadVar_cell {P : Program} {t : TypeId} {d : TypeDesc} (hu : P.underlying t = some d) (hd : d.isRow = false) {w : World} {a : Addr} {v : Value} (hc : w.cell? a = some v) :
    (loadVar t a).run P w = .ok v w := by
  simp [loadVar, run_isAgg_not hu hd, hc]

theorem opLoad_ok {E : Env} (hE : EnvOk E σ) {tm : Tr Value} {h : Hp} {t : TypeId} {x : Operand} {v : Value} (he : opLoad E tm h t x = some v) {r : Ren σ} {w : World} {a : Act}
    (ht : TmRel r tm a.tmps) (hr : Rel r h w) : ∃ v', (Instr.loadAt t (a.eval x)).run E.P w = .ok v' w ∧ VRel r v v' := by
  unfold opLoad at he
  split at he
  · rename_i i o hx
    have hv := opv_ok ht hx
    generalize a.eval x = y at hv ⊢
    cases hv with
    | @ptr _ _ b m hri =>
    split at he
    · rename_i c sl hi
      split at he
      · rename_i d hd
        have hu := Env.und_ok hE hd
        split at he
        · rename_i hrow
          split at he
          · rename_i n hn
            split at he
            · rename_i hle
              cases he
              obtain ⟨cs, e1, e2, e3⟩ := hr.range hi hri o n hle
              obtain ⟨inf, f1, f2⟩ := Env.size_ok hE hn
              refine ⟨.agg cs.toArray, ?_, .agg e3⟩
              simp only [Instr.loadAt, Instr.sureAddr, Sem.run_bind, Sem.run_pure, Result.andThen_ok]
              exact run_loadVar_mid w b o t cs d e1 hu hrow (by rw [f1]; simp [f2, e2])
            · cases he
          · cases he
        · rename_i hrow
          obtain ⟨c', el, fz, h1, h2, _, _⟩ := hr.cells hi hri
          obtain ⟨v', f1, f2⟩ := h2 o v he
          refine ⟨v', ?_, f2⟩
          simp only [Instr.loadAt, Instr.sureAddr, Sem.run_bind, Sem.run_pure, Result.andThen_ok]
          exact run_loadVar_cell hu (by simpa using hrow) (by rw [cell_cells h1]; exact f1)
      · cases he
    · cases he
  · cases he

def opStore (E : Env) (tm : Tr Value) (h : Hp) (t : TypeId) (x y : Operand) : Option Hp :=
  match opv tm x, opv tm y with
  | some (.pointer (some ⟨i, o, none⟩)), some v =>
    match h.get i with
    | some (.cells c sl) =>
      match E.size t with
      | some n => if v.cells.size = n ∧ o + n ≤ c.length ∧ v.cells.toList.all (·.oneCell') = true then some (h.put i (.cells (setsAt c o v.cells.toList) sl)) else none
      | none => none
    | _ => none
  | _, _ => none

theorem run_storeVar_cells {P : Program} {t : TypeId} {i : TypeInfo} (hi : P.info? t = some i) {w : World} {b o : Nat} {v : Value} (hs : v.cells.size = i.size)
    (hc : ∀ j, j < v.cells.toList.length → (w.cell? ⟨b, o + j, none⟩).isSome = true ∧ w.frozen? ⟨b, o + j, none⟩ = false) (h1 : ∀ u ∈ v.cells.toList, u.oneCell' = true) :
    (storeVar t ⟨b, o, none⟩ v).run P w = .ok () (w.setCells b o v.cells.toList) := by
  have hst := run_storeCells_cells (P := P) b o v.cells.toList 0 w (by simpa using fun j hj => (hc j hj).1) (by simpa using fun j hj => (hc j hj).2) h1
  simp only [Nat.add_zero] at hst
  simp [storeVar, run_sizeOf_info hi, hs, hst]

theorem opStore_ok {E : Env} (hE : EnvOk E σ) {tm : Tr Value} {h h' : Hp} {t : TypeId} {x y : Operand} (he : opStore E tm h t x y = some h') {r : Ren σ} {w : World} {a : Act}
    (ht : TmRel r tm a.tmps) (hr : Rel r h w) : ∃ w', (Instr.storeAt t (a.eval x) (a.eval y)).run E.P w = .ok () w' ∧ Adv r h w r h' w' := by
  unfold opStore at he
  split at he
  · rename_i i o v hx hy
    have hv := opv_ok ht hx
    have hz := opv_ok ht hy
    generalize a.eval x = p at hv ⊢
    generalize a.eval y = q at hz ⊢
    cases hv with
    | @ptr _ _ b m hri =>
    split at he
    · rename_i c sl hi
      split at he
      · rename_i n hn
        split at he
        · rename_i hc
          cases he
          obtain ⟨hc1, hc2, hc3⟩ := hc
          obtain ⟨inf, f1, f2⟩ := Env.size_ok hE hn
          have hrel := hz.cells
          have hlen := hrel.length
          simp only [Array.length_toList] at hlen
          obtain ⟨s1, s2⟩ := Adv.setCells hri _ _ hrel h w c sl o hr hi (by simp; omega)
          refine ⟨_, ?_, s2⟩
          simp only [Instr.storeAt, Instr.sureAddr, Sem.run_bind, Sem.run_pure, Result.andThen_ok]
          exact run_storeVar_cells f1 (by omega) (fun j hj => s1 j (by simp at hj ⊢; omega)) (hrel.one hc3)
        · cases he
      · cases he
    · cases he
  · cases he

end Go.Eng
