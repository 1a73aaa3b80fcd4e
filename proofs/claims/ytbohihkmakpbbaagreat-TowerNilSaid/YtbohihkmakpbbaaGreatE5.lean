/- The engine, part 5: addresses, parts, slices; what is made of values. -/
import Derived.Test.YtbohihkmakpbbaaGreatE4
namespace Go.Eng
variable {σ : Interp}

def intOf? : Value → Option Int
  | .int _ n => some n
  | _ => none

theorem intOf?_ok {r : Ren σ} {v v' : Value} {n : Int} (hv : VRel r v v') (h : intOf? v = some n) : ∃ k, v = .int k n ∧ v' = .int k n := by
  cases hv <;> simp [intOf?] at h
  subst h; exact ⟨_, rfl, rfl⟩

/- the address of a field -/
def opField (E : Env) (tm : Tr Value) (s : TypeId) (x : Operand) (f : Nat) : Option Value :=
  match opv tm x, E.und s with
  | some (.pointer (some ⟨i, o, none⟩)), some (.struct fields) =>
    match fields.toList[f]? with
    | some fd =>
      match E.size fd.type with
      | some n => if n = 0 then none else some (ptr i (o + fd.offset))
      | none => none
    | none => none
  | _, _ => none

theorem addr_add {b o n : Nat} : (⟨b, o, none⟩ : Addr).add n = ⟨b, o + n, none⟩ := by
  unfold Addr.add; split
  · subst_vars; rfl
  · rfl

theorem opField_ok {E : Env} (hE : EnvOk E σ) {tm : Tr Value} {s : TypeId} {x : Operand} {f : Nat} {v : Value} (he : opField E tm s x f = some v) {r : Ren σ} {w : World} {a : Act}
    (ht : TmRel r tm a.tmps) : ∃ v', (Instr.fieldAt s (a.eval x) f).run E.P w = .ok v' w ∧ VRel r v v' := by
  unfold opField at he
  split at he
  · rename_i i o fields hx hs
    have hv := opv_ok ht hx
    generalize a.eval x = p at hv ⊢
    cases hv with
    | @ptr _ _ b m hri =>
    split at he
    · rename_i fd hf
      split at he
      · rename_i n hn
        split at he
        · cases he
        · rename_i hne
          cases he
          obtain ⟨inf, f1, f2⟩ := Env.size_ok hE hn
          refine ⟨_, ?_, .ptr hri⟩
          have hf' : fields[f]? = some fd := by simpa using hf
          simp [Instr.fieldAt, run_underlying (Env.und_ok hE hs), hf', Instr.sureAddr, fieldPlace, run_sizeOf_info f1, f2, hne, addr_add]
      · cases he
    · cases he
  · cases he

/- the address of an element -/
def opIndexAddr (E : Env) (tm : Tr Value) (t : TypeId) (x y : Operand) : Option Value :=
  match opv tm x, (opv tm y).bind intOf?, E.und t with
  | some (.slice (some ⟨i, o, none⟩) n _), some j, some (.slice el) =>
    match E.size el with
    | some s => if 0 ≤ j ∧ j < n ∧ o ≠ slack then some (ptr i (o + j.toNat * s)) else none
    | none => none
  | some (.pointer (some ⟨i, o, none⟩)), some j, some (.array n el) =>
    match E.size el with
    | some s => if 0 ≤ j ∧ j < n then some (ptr i (o + j.toNat * s)) else none
    | none => none
  | _, _, _ => none

theorem opIndexAddr_ok {E : Env} (hE : EnvOk E σ) {tm : Tr Value} {t : TypeId} {x y : Operand} {v : Value} (he : opIndexAddr E tm t x y = some v) {r : Ren σ} {w : World} {a : Act}
    (ht : TmRel r tm a.tmps) : ∃ v', (Instr.indexAt t (a.eval x) (a.eval y)).run E.P w = .ok v' w ∧ VRel r v v' := by
  unfold opIndexAddr at he
  split at he
  · rename_i i o n k j el hx hy hs
    rw [Option.bind_eq_some_iff] at hy
    obtain ⟨u, hu, hj⟩ := hy
    have hv := opv_ok ht hx
    obtain ⟨kk, rfl, hz⟩ := intOf?_ok (opv_ok ht hu) hj
    split at he
    · rename_i s hsz
      split at he
      · rename_i hc
        cases he
        obtain ⟨hc1, hc2, hc3⟩ := hc
        obtain ⟨inf, f1, f2⟩ := Env.size_ok hE hsz
        rw [hz]
        generalize a.eval x = p at hv ⊢
        cases hv with
        | @slice _ _ b m _ _ hri hk =>
          refine ⟨_, ?_, .ptr hri⟩
          simp [Instr.indexAt, asIntOf, run_underlying (Env.und_ok hE hs), hc1, hc2, run_sizeOf_info f1, f2, addr_add]
        | @sliceSlack _ _ b m _ k' hri hnk ho =>
          refine ⟨_, ?_, .ptr hri⟩
          simp [Instr.indexAt, asIntOf, run_underlying (Env.und_ok hE hs), hc1, hc2, run_sizeOf_info f1, f2, addr_add]
        | sliceAmb b hk => exact absurd rfl hc3
      · cases he
    · cases he
  · rename_i i o j n el hx hy hs
    rw [Option.bind_eq_some_iff] at hy
    obtain ⟨u, hu, hj⟩ := hy
    have hv := opv_ok ht hx
    obtain ⟨kk, rfl, hz⟩ := intOf?_ok (opv_ok ht hu) hj
    split at he
    · rename_i s hsz
      split at he
      · rename_i hc
        cases he
        obtain ⟨hc1, hc2⟩ := hc
        obtain ⟨inf, f1, f2⟩ := Env.size_ok hE hsz
        rw [hz]
        generalize a.eval x = p at hv ⊢
        cases hv with
        | @ptr _ _ b m hri =>
          refine ⟨_, ?_, .ptr hri⟩
          simp [Instr.indexAt, Instr.sureAddr, asIntOf, run_underlying (Env.und_ok hE hs), hc1, hc2, run_sizeOf_info f1, f2, addr_add]
      · cases he
    · cases he
  · cases he

/- a part of a row by value -/
def partAt (E : Env) (t : TypeId) (cs : List Value) (off : Nat) : Option Value :=
  match E.und t with
  | some d =>
    if d.isRow then (E.size t).map fun n => .agg ⟨(cs.drop off).take n⟩
    else cs[off]?
  | none => none

theorem partAt_ok {E : Env} (hE : EnvOk E σ) {t : TypeId} {cs : List Value} {off : Nat} {v : Value} (he : partAt E t cs off = some v) {r : Ren σ} {cs' : List Value} (hr : VRels r cs cs') (w : World) :
    ∃ v', (part t ⟨cs'⟩ off).run E.P w = .ok v' w ∧ VRel r v v' := by
  unfold partAt at he
  split at he
  · rename_i d hd
    have hu := Env.und_ok hE hd
    split at he
    · rename_i hrow
      rw [Option.map_eq_some_iff] at he
      obtain ⟨n, hn, rfl⟩ := he
      obtain ⟨inf, f1, f2⟩ := Env.size_ok hE hn
      have hagg : (isAgg t).run E.P w = .ok true w := by
        unfold isAgg
        rw [Sem.run_bind, run_underlying hu w]
        cases d <;> simp_all
      refine ⟨.agg ⟨(cs'.drop off).take n⟩, ?_, .agg ((hr.drop off).take n)⟩
      simp only [part, Sem.run_bind, hagg, Result.andThen_ok, if_true, run_sizeOf_info f1, Sem.run_pure, f2]
      congr 2
      apply Array.ext'
      simp [List.extract_eq_take_drop]
    · rename_i hrow
      obtain ⟨v', h1, h2⟩ := hr.get he
      refine ⟨v', ?_, h2⟩
      simp [part, run_isAgg_not hu (by simpa using hrow), h1]
  · cases he

def opIndex (E : Env) (tm : Tr Value) (t : TypeId) (x y : Operand) : Option Value :=
  match opv tm x, (opv tm y).bind intOf?, E.und t with
  | some (.agg cs), some j, some (.array n el) =>
    match E.size el with
    | some s => if 0 ≤ j ∧ j < n then partAt E el cs.toList (j.toNat * s) else none
    | none => none
  | _, _, _ => none

theorem opIndex_ok {E : Env} (hE : EnvOk E σ) {tm : Tr Value} {t : TypeId} {x y : Operand} {v : Value} (he : opIndex E tm t x y = some v) {r : Ren σ} {w : World} {a : Act}
    (ht : TmRel r tm a.tmps) : ∃ v', (Instr.index t (a.eval x) (a.eval y)).run E.P w = .ok v' w ∧ VRel r v v' := by
  unfold opIndex at he
  split at he
  · rename_i cs j n el hx hy hs
    rw [Option.bind_eq_some_iff] at hy
    obtain ⟨u, hu, hj⟩ := hy
    have hv := opv_ok ht hx
    obtain ⟨kk, rfl, hz⟩ := intOf?_ok (opv_ok ht hu) hj
    split at he
    · rename_i s hsz
      split at he
      · rename_i hc
        obtain ⟨hc1, hc2⟩ := hc
        obtain ⟨inf, f1, f2⟩ := Env.size_ok hE hsz
        rw [hz]
        generalize a.eval x = p at hv ⊢
        cases hv with
        | agg h1 =>
          obtain ⟨v', g1, g2⟩ := partAt_ok hE he h1 w
          refine ⟨v', ?_, g2⟩
          simp [Instr.index, asIntOf, run_underlying (Env.und_ok hE hs), hc1, hc2, run_sizeOf_info f1, f2, g1]
      · cases he
    · cases he
  · cases he

def opFieldOf (E : Env) (tm : Tr Value) (t : TypeId) (x : Operand) (f : Nat) : Option Value :=
  match opv tm x, E.und t with
  | some (.agg cs), some (.struct fields) =>
    match fields.toList[f]? with
    | some fd => partAt E fd.type cs.toList fd.offset
    | none => none
  | _, _ => none

theorem opFieldOf_ok {E : Env} (hE : EnvOk E σ) {tm : Tr Value} {t : TypeId} {x : Operand} {f : Nat} {v : Value} (he : opFieldOf E tm t x f = some v) {r : Ren σ} {w : World} {a : Act}
    (ht : TmRel r tm a.tmps) : ∃ v', (Instr.field t (a.eval x) f).run E.P w = .ok v' w ∧ VRel r v v' := by
  unfold opFieldOf at he
  split at he
  · rename_i cs fields hx hs
    have hv := opv_ok ht hx
    split at he
    · rename_i fd hf
      have hf' : fields[f]? = some fd := by simpa using hf
      generalize a.eval x = p at hv ⊢
      cases hv with
      | agg h1 =>
        obtain ⟨v', g1, g2⟩ := partAt_ok hE he h1 w
        refine ⟨v', ?_, g2⟩
        simp [Instr.field, run_underlying (Env.und_ok hE hs), hf', asAgg, g1]
    · cases he
  · cases he

/- build -/
def fillL : List Value → Nat → List Value → List Value := setsAt

theorem foldl_set (off : Nat) : ∀ (vs : List Value) (k : Nat) (cs : Array Value),
    ((vs.zipIdx k).foldl (fun cs (x : Value × Nat) => cs.setIfInBounds (off + x.2) x.1) cs).toList = setsAt cs.toList (off + k) vs := by
  intro vs
  induction vs with
  | nil => intro k cs; rfl
  | cons v vs ih =>
    intro k cs
    simp only [List.zipIdx_cons, List.foldl_cons, setsAt]
    rw [ih (k + 1), Array.toList_setIfInBounds, Nat.add_assoc]

theorem VRels.setsAt {r : Ren σ} : ∀ {vs vs' : List Value}, VRels r vs vs' → ∀ {c c' : List Value}, VRels r c c' → ∀ (o : Nat), VRels r (Eng.setsAt c o vs) (Eng.setsAt c' o vs') := by
  intro vs
  induction vs with
  | nil => intro vs' h c c' hc o; cases h; exact hc
  | cons v vs ih =>
    intro vs' h c c' hc o
    cases h with
    | cons h1 h2 => exact ih h2 (hc.set h1 o) (o + 1)

inductive NRels (r : Ren σ) : List (Nat × Value) → List (Nat × Value) → Prop
  | nil : NRels r [] []
  | cons {n : Nat} {v v' : Value} {as cs : List (Nat × Value)} : VRel r v v' → NRels r as cs → NRels r ((n, v) :: as) ((n, v') :: cs)

def fillA (place : Nat → Option (Nat × Nat)) : List Value → List (Nat × Value) → Option (List Value)
  | c, [] => some c
  | c, (i, v) :: rest =>
    match place i with
    | none => none
    | some (off, size) => if v.cells.toList.length ≠ size || off + v.cells.toList.length > c.length then none else fillA place (setsAt c off v.cells.toList) rest

theorem fillA_ok {r : Ren σ} {place : Nat → Option (Nat × Nat)} : ∀ {ps ps' : List (Nat × Value)}, NRels r ps ps' → ∀ {c : List Value} {c' : Array Value}, VRels r c c'.toList → ∀ {out : List Value},
    fillA place c ps = some out → ∃ out', Instr.fill place c' ps' = some out' ∧ VRels r out out'.toList := by
  intro ps
  induction ps with
  | nil => intro ps' h c c' hc out ho; cases h; cases ho; exact ⟨c', rfl, hc⟩
  | cons p ps ih =>
    intro ps' h c c' hc out ho
    cases h with
    | @cons n v v' _ cs h1 h2 =>
      simp only [fillA] at ho
      split at ho
      · cases ho
      · rename_i off size hp
        split at ho
        · cases ho
        · rename_i hb
          have hl := h1.cells.length
          have hcl := hc.length
          simp only [Array.length_toList] at hl hcl
          have hb' : (v'.cells.size ≠ size || off + v'.cells.size > c'.size) = false := by
            simp only [Array.length_toList, hl, hcl] at hb
            simpa using hb
          have hstep : VRels r (setsAt c off v.cells.toList) (v'.cells.zipIdx.foldl (fun cs (x : Value × Nat) => cs.setIfInBounds (off + x.2) x.1) c').toList := by
            rw [← Array.foldl_toList, Array.toList_zipIdx, foldl_set off, Nat.add_zero]
            exact VRels.setsAt h1.cells hc off
          obtain ⟨out', g1, g2⟩ := ih h2 hstep ho
          refine ⟨out', ?_, g2⟩
          simp only [Instr.fill, hp, hb', Bool.false_eq_true, if_false]
          exact g1

def opvs (tm : Tr Value) : List (Nat × Operand) → Option (List (Nat × Value))
  | [] => some []
  | (i, x) :: rest =>
    match opv tm x, opvs tm rest with
    | some v, some l => some ((i, v) :: l)
    | _, _ => none

theorem opvs_ok {r : Ren σ} {tm : Tr Value} {a : Act} (ht : TmRel r tm a.tmps) : ∀ {l : List (Nat × Operand)} {vs : List (Nat × Value)}, opvs tm l = some vs → NRels r vs (l.map fun p => (p.1, a.eval p.2)) := by
  intro l
  induction l with
  | nil => intro vs h; cases h; exact .nil
  | cons p l ih =>
    obtain ⟨i, x⟩ := p
    intro vs h
    simp only [opvs] at h
    split at h
    · rename_i v l' hv hl
      cases h
      exact .cons (opv_ok ht hv) (ih hl)
    · cases h

def Env.places (E : Env) : List Field → Option (List (Nat × Nat))
  | [] => some []
  | f :: fs =>
    match E.size f.type, E.places fs with
    | some n, some l => some ((f.offset, n) :: l)
    | _, _ => none

theorem Env.places_ok {E : Env} (hE : EnvOk E σ) : ∀ {fs : List Field} {l : List (Nat × Nat)}, E.places fs = some l → fs.mapM (fun f => (E.P.info? f.type).map fun i => (f.offset, i.size)) = some l := by
  intro fs
  induction fs with
  | nil => intro l h; cases h; rfl
  | cons f fs ih =>
    intro l h
    simp only [Env.places] at h
    split at h
    · rename_i n l' hn hl
      cases h
      obtain ⟨inf, f1, f2⟩ := Env.size_ok hE hn
      simp [List.mapM_cons, f1, f2, ih hl]
    · cases h

def opBuild (E : Env) (tm : Tr Value) (t : TypeId) (parts : List (Nat × Operand)) : Option Value :=
  match opvs tm parts, E.zero t, E.und t with
  | some ps, some z, some (.struct fields) =>
    match E.places fields.toList with
    | some pl => (fillA (pl[·]?) z ps).map fun c => .agg ⟨c⟩
    | none => none
  | some ps, some z, some (.array _ el) =>
    match E.size el with
    | some s => (fillA (fun i => some (i * s, s)) z ps).map fun c => .agg ⟨c⟩
    | none => none
  | _, _, _ => none

theorem opBuild_ok {E : Env} (hE : EnvOk E σ) {tm : Tr Value} {t : TypeId} {parts : Array (Nat × Operand)} {v : Value} (he : opBuild E tm t parts.toList = some v) {r : Ren σ} {w : World} {a : Act}
    (ht : TmRel r tm a.tmps) : ∃ v', (Instr.build t (parts.map fun (i, x) => (i, a.eval x))).run E.P w = .ok v' w ∧ VRel r v v' := by
  unfold opBuild at he
  split at he
  · rename_i ps z fields hps hz hu
    obtain ⟨iz, zz, h1, h2, h3, h4⟩ := Env.zero_ok hE hz
    subst h3
    split at he
    · rename_i pl hpl
      rw [Option.map_eq_some_iff] at he
      obtain ⟨c, hc, rfl⟩ := he
      obtain ⟨c', g1, g2⟩ := fillA_ok (opvs_ok ht hps) (h4 r) hc
      refine ⟨.agg c', ?_, .agg g2⟩
      refine run_build w t _ c' ?_
      simp only [Program.built, h1, Env.und_ok hE hu, h2, Env.places_ok hE hpl, Array.toList_map]
      simpa using g1
    · cases he
  · rename_i ps z n el hps hz hu
    obtain ⟨iz, zz, h1, h2, h3, h4⟩ := Env.zero_ok hE hz
    subst h3
    split at he
    · rename_i s hs
      obtain ⟨inf, f1, f2⟩ := Env.size_ok hE hs
      rw [Option.map_eq_some_iff] at he
      obtain ⟨c, hc, rfl⟩ := he
      obtain ⟨c', g1, g2⟩ := fillA_ok (opvs_ok ht hps) (h4 r) hc
      refine ⟨.agg c', ?_, .agg g2⟩
      refine run_build w t _ c' ?_
      simp only [Program.built, h1, Env.und_ok hE hu, h2, f1, f2, Array.toList_map]
      exact g1
    · cases he
  · cases he

end Go.Eng
