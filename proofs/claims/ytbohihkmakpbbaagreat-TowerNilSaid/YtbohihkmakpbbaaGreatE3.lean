/- The engine, part 3: the program's tables as tries; operations that make no call. -/
import Derived.Test.YtbohihkmakpbbaaGreatE2B
import Derived.Deep.MidRow
import Derived.Deep.AppendSrc
import Derived.Laws.Tables
import Derived.Laws.BytesString
import Derived.Laws.IdiomStrings
import Derived.Laws.MakeOwn
import Derived.Orders
namespace Go.Eng
variable {σ : Interp}

structure Env where
  P : Program
  fs : Tr Func
  ts : Tr TypeInfo
  sym : Op → TypeId → List Value → Option Value
  clone : Option FuncId := none
  con : FuncId → List Value → Hp → Option (End × Hp) := fun _ _ _ => none
  lp : Ctx → Code → St → Option (AEx × St) := fun _ _ _ => none
  opr : Oper → List Value → Hp → Option Value := fun _ _ _ => none
  opw : Oper → List Value → Hp → Option (Value × Hp) := fun _ _ _ => none

/- 'sym': facts on operations over values that are not known. -/
structure EnvOk (E : Env) (σ : Interp) : Prop where
  fs : ∀ f fn, E.fs.get f = some fn → E.P.funcs[f]? = some fn
  ts : ∀ t i, E.ts.get t = some i → E.P.info? t = some i
  mixed : E.P.follows .mixedOrders = true
  names : ∀ (f : FuncId) (fn : Func), E.P.funcs[f]? = some fn → fn.name ≠ "runtime.NumGoroutine"
  sym : ∀ (o : Oper) (vs : List Value) (v : Value), E.sym o.op o.type vs = some v → ∀ (r : Ren σ) (ρ : Operand → Value) (w : World), VRels r vs (o.op.operands.toList.map ρ) →
    ∃ v', (execOp ρ o).run E.P w = .ok (.value v') w ∧ VRel r v v'
  clone : ∀ f, E.clone = some f → ∀ t c ms k (w : World), w.heap[c]? = some (.map ms k) → (callFunc f #[.iface t (.map (some c))]).run E.P w = .ok (.value (.iface t (.map (some w.heap.size)))) { w with heap := w.heap.push (.map ms k) }
  con : ∀ g args h e h', E.con g args h = some (e, h') → (∃ fn body, E.fs.get g = some fn ∧ fn.body = some body) ∧ ∀ (r : Ren σ) (w : World) (args' : List Value), VRels r args args' → Rel r h w →
    Calls E.P g ⟨args'⟩ w (fun e' w' => ∃ r', Adv r h w r' h' w' ∧ EndRel r' e e')
  lp : ∀ c b s e s', E.lp c b s = some (e, s') → ∀ (r : Ren σ) (w : World) (a : Act) (rd : Option Nat) (n : Nat) (Q : Exit → Act → World → Prop), StRel r c s a w → RdRel r c.rd rd →
    (∀ r' a' w' e', Adv r s.hp w r' s'.hp w' → StRel r' c s' a' w' → ExRel r' e e' → Q e' a' w') → LoopIn (fen rd) n E.P b Q a w
  opr : ∀ (o : Oper) (vs : List Value) (h : Hp) (v : Value), E.opr o vs h = some v → ∀ (r : Ren σ) (ρ : Operand → Value) (w : World), VRels r vs (o.op.operands.toList.map ρ) → Rel r h w →
    ∃ v', (execOp ρ o).run E.P w = .ok (.value v') w ∧ VRel r v v'
  opw : ∀ (o : Oper) (vs : List Value) (h : Hp) (v : Value) (h' : Hp), E.opw o vs h = some (v, h') → ∀ (r : Ren σ) (ρ : Operand → Value) (w : World), VRels r vs (o.op.operands.toList.map ρ) → Rel r h w →
    ∃ r' v' w', ((execOp ρ o).run E.P w = .ok (.value v') w' ∨ ((execOp ρ o).run E.P w = .ok .skip w' ∧ v' = undef)) ∧ Adv r h w r' h' w' ∧ VRel r' v v'

def Env.of (P : Program) : Env := { P, fs := Tr.ofList P.funcs.toList, ts := Tr.ofList P.types.toList, sym := fun _ _ _ => none }

theorem EnvOk.of {P : Program} (h : P.follows .mixedOrders = true) (hn : (P.funcs.toList.all fun f => decide (f.name ≠ "runtime.NumGoroutine")) = true) : EnvOk (Env.of P) σ where
  fs := fun f fn hf => by
    have h1 := Tr.get_ofList hf
    have h2 : P.funcs[f]? = some fn := by simpa using h1
    exact h2
  ts := fun t i ht => by
    have h1 := Tr.get_ofList ht
    have h2 : P.types[t]? = some i := by simpa using h1
    have hlt : t < P.types.size := (Array.getElem?_eq_some_iff.1 h2).1
    show P.toTables.info? t = some i
    unfold Tables.info?
    rw [if_pos hlt]; exact h2
  mixed := h
  names := fun f fn hf => by
    rw [List.all_eq_true] at hn
    have := hn fn (Array.mem_toList_iff.2 (Array.mem_of_getElem? (show P.funcs[f]? = some fn from hf)))
    exact of_decide_eq_true this
  sym := fun o vs v h => by cases h
  clone := fun f h => by cases h
  con := fun _ _ _ _ _ h => by cases h
  lp := fun _ _ _ _ _ h => by cases h
  opr := fun _ _ _ _ h => by cases h
  opw := fun _ _ _ _ _ h => by cases h

theorem EnvOk.more {E : Env} (h : EnvOk E σ) {f : Op → TypeId → List Value → Option Value} (hf : ∀ (o : Oper) (vs : List Value) (v : Value), f o.op o.type vs = some v → ∀ (r : Ren σ) (ρ : Operand → Value) (w : World), VRels r vs (o.op.operands.toList.map ρ) →
    ∃ v', (execOp ρ o).run E.P w = .ok (.value v') w ∧ VRel r v v') : EnvOk { E with sym := f } σ :=
  ⟨h.fs, h.ts, h.mixed, h.names, hf, h.clone, h.con, h.lp, h.opr, h.opw⟩

def Env.und (E : Env) (t : TypeId) : Option TypeDesc :=
  match E.ts.get t with
  | some i =>
    match i.desc with
    | .named _ u => (E.ts.get u).map (·.desc)
    | d => some d
  | none => none

theorem Env.und_ok {E : Env} (hE : EnvOk E σ) {t : TypeId} {d : TypeDesc} (h : E.und t = some d) : E.P.underlying t = some d := by
  unfold Env.und at h
  unfold Program.underlying
  cases hi : E.ts.get t with
  | none => simp [hi] at h
  | some i =>
    rw [hE.ts t i hi]
    simp only [hi] at h
    obtain ⟨desc, _, _, _, _, _, _, _, _, _⟩ := i
    cases desc with
    | named n u =>
      simp only [Option.map_eq_some_iff] at h ⊢
      obtain ⟨j, hj, hd⟩ := h
      exact ⟨j, hE.ts u j hj, hd⟩
    | _ => exact h

/- Operands. -/
def opv (tm : Tr Value) : Operand → Option Value
  | .tmp t => tm.get t
  | .const v => if gnd 8 v then some v else none
  | .global _ => none
  | .func f => some (.func (.func f) #[] #[])

theorem opv_ok {r : Ren σ} {tm : Tr Value} {a : Act} (ht : TmRel r tm a.tmps) {x : Operand} {v : Value} (h : opv tm x = some v) : VRel r v (a.eval x) := by
  cases x with
  | tmp t =>
    obtain ⟨v', h1, h2⟩ := ht t v h
    simp only [Act.eval]
    rw [show a.tmps.getD t undef = v' from by simp [h1]]
    exact h2
  | const u =>
    simp only [opv] at h
    split at h
    · rename_i hg; cases h; exact (gnd_spec r 8 _ hg).2
    · cases h
  | global g => cases h
  | func f => cases h; exact .func f .nil .nil

/- What is computed without any memory. -/
def pureRun {α : Type} (P : Program) : Sem α → Option α
  | .pure a => some a
  | .program k => pureRun P (k P)
  | .mark _ k => pureRun P k
  | _ => none

theorem pureRun_ok {α : Type} {P : Program} {s : Sem α} {a : α} (h : pureRun P s = some a) (w : World) : s.run P w = .ok a w := by
  induction s generalizing w with
  | pure b => simp only [pureRun, Option.some.injEq] at h; subst h; rfl
  | program k ih => exact ih _ h w
  | mark m k ih => exact ih h w
  | _ => simp [pureRun] at h

def allGnd (tm : Tr Value) (xs : List Operand) : Bool := xs.all fun x => match opv tm x with | some v => gnd 6 v | none => false

def opPure (E : Env) (tm : Tr Value) (o : Oper) : Option Value :=
  if allGnd tm o.op.operands.toList then
    match pureRun E.P (execOp (fun x => (opv tm x).getD undef) o) with
    | some (.value v) => if gnd 6 v then some v else none
    | _ => none
  else none

/- What an operation without a call comes to. -/
structure OpRuns (E : Env) (o : Oper) (r : Ren σ) (h : Hp) (w : World) (a : Act) (v : Value) (h' : Hp) (r' : Ren σ) (v' : Value) (w' : World) : Prop where
  run : (execOp a.eval o).run E.P w = .ok (.value v') w' ∨ ((execOp a.eval o).run E.P w = .ok .skip w' ∧ v' = undef)
  adv : Adv r h w r' h' w'
  val : VRel r' v v'

theorem opPure_ok {E : Env} {tm : Tr Value} {o : Oper} {v : Value} (hsel : ∀ cs b, o.op ≠ .select cs b) (h : opPure E tm o = some v) {r : Ren σ} {hp : Hp} {w : World} {a : Act}
    (ht : TmRel r tm a.tmps) (hr : Rel r hp w) : OpRuns E o r hp w a v hp r v w := by
  unfold opPure at h
  split at h
  · rename_i hall
    split at h
    · rename_i u hu
      split at h
      · rename_i hg
        cases h
        refine ⟨.inl ?_, .refl hr, (gnd_spec r 6 _ hg).2⟩
        have hc : execOp a.eval o = execOp (fun x => (opv tm x).getD undef) o := by
          refine execOp_congr o hsel (fun x hx => ?_)
          unfold allGnd at hall
          rw [List.all_eq_true] at hall
          have h1 := hall x (by simpa using hx)
          split at h1
          · rename_i y hy
            rw [hy]
            exact (gnd_spec r 6 _ h1).1 _ (opv_ok ht hy)
          · cases h1
        rw [hc]
        exact pureRun_ok hu w
      · cases h
    · cases h
  · cases h

/- Reading cells. -/
theorem Rel.cells {r : Ren σ} {h : Hp} {w : World} (hr : Rel r h w) {i : Nat} {c : List Value} {sl : Option Nat} (hi : h.get i = some (.cells c sl)) {b m : Nat} (hri : r i = some (b, m)) :
    ∃ c' el fz, w.heap[b]? = some (.cells c' el fz) ∧ CellsRel r c c' ∧ (fz.1 = fz.2 ∨ c'.size ≤ fz.1) ∧ (∀ es, sl = some es → c'.size = m * es) := by
  obtain ⟨b', m', obj, h1, h2, h3⟩ := hr.live i _ hi
  rw [hri] at h1; cases h1
  cases obj with
  | cells c' el fz => exact ⟨c', el, fz, h2, h3.1, h3.2.1, h3.2.2⟩
  | _ => exact absurd h3 (by simp [ObjRel])

theorem cell_cells {w : World} {b : Nat} {c' : Array Value} {el : TypeId} {fz : Nat × Nat} (h : w.heap[b]? = some (.cells c' el fz)) (o : Nat) : w.cell? ⟨b, o, none⟩ = c'[o]? := by
  simp [World.cell?, h]

theorem Rel.range {r : Ren σ} {h : Hp} {w : World} (hr : Rel r h w) {i : Nat} {c : List Value} {sl : Option Nat} (hi : h.get i = some (.cells c sl)) {b m : Nat} (hri : r i = some (b, m))
    (o n : Nat) (hn : o + n ≤ c.length) : ∃ cs, w.rangeAt b o cs ∧ cs.length = n ∧ VRels r ((c.drop o).take n) cs := by
  obtain ⟨c', el, fz, h1, h2, _, _⟩ := hr.cells hi hri
  have key : ∀ n o, o + n ≤ c.length → ∃ cs, w.rangeAt b o cs ∧ cs.length = n ∧ VRels r ((c.drop o).take n) cs := by
    intro n
    induction n with
    | zero => intro o _; exact ⟨[], fun j v hv => by simp at hv, rfl, by simp; exact .nil⟩
    | succ n ih =>
      intro o ho
      obtain ⟨cs, e1, e2, e3⟩ := ih (o + 1) (by omega)
      have hlt : o < c.length := by omega
      obtain ⟨v', f1, f2⟩ := h2 o c[o] (by simp [hlt])
      refine ⟨v' :: cs, fun j v hv => ?_, by simp [e2], ?_⟩
      · cases j with
        | zero => simp only [List.getElem?_cons_zero, Option.some.injEq] at hv; subst hv; rw [Nat.add_zero, cell_cells h1]; exact f1
        | succ j => simp only [List.getElem?_cons_succ] at hv; have := e1 j v hv; rw [show o + (j + 1) = o + 1 + j from by omega]; exact this
      · rw [List.drop_eq_getElem_cons hlt, List.take_succ_cons]
        exact .cons f2 e3
  exact key n o hn

/- Writing cells. -/
theorem Adv.setCell {r : Ren σ} {h : Hp} {w : World} (hr : Rel r h w) {i : Nat} {c : List Value} {sl : Option Nat} (hi : h.get i = some (.cells c sl)) {b m : Nat} (hri : r i = some (b, m))
    {o : Nat} (ho : o < c.length) {v v' : Value} (hv : VRel r v v') :
    (w.cell? ⟨b, o, none⟩).isSome = true ∧ w.frozen? ⟨b, o, none⟩ = false ∧ Adv r h w r (h.put i (.cells (c.set o v) sl)) (w.setCell ⟨b, o, none⟩ v') := by
  obtain ⟨c', el, fz, h1, h2, h3, h4⟩ := hr.cells hi hri
  obtain ⟨u', f1, f2⟩ := h2 o c[o] (by simp [ho])
  have hlt : o < c'.size := (Array.getElem?_eq_some_iff.1 f1).1
  refine ⟨by rw [cell_cells h1, f1]; rfl, ?_, ?_⟩
  · obtain ⟨lo, hi'⟩ := fz
    simp only [World.frozen?, h1]
    have := h3
    simp only [Bool.and_eq_false_iff, decide_eq_false_iff_not]
    simp only [] at this
    omega
  · have hheap : (w.setCell ⟨b, o, none⟩ v').heap = w.heap.modify b (fun ob => match ob with
        | .cells c elem frozen => .cells (c.setIfInBounds o v') elem frozen
        | ob => ob) := by
      unfold World.setCell
      congr 1
    refine Adv.put hr hi hri (obj' := .cells (c'.setIfInBounds o v') el fz) ?_ ?_ ?_ ⟨?_, ?_, ?_⟩ rfl rfl
    · rw [hheap, Array.getElem?_modify]; simp [h1]
    · intro d hd; rw [hheap, Array.getElem?_modify]; simp [Ne.symm hd]
    · rw [hheap]; simp
    · intro j u hj
      rw [List.getElem?_set] at hj
      split at hj
      · rename_i e
        subst e
        cases hj; exact ⟨v', by simp [hlt], hv⟩
      · rename_i hne
        obtain ⟨u', g1, g2⟩ := h2 j u hj
        exact ⟨u', by rw [Array.getElem?_setIfInBounds_ne hne]; exact g1, g2⟩
    · rw [Array.size_setIfInBounds]; exact h3
    · intro es he; simp; exact h4 es he

/- Several cells in a row. -/
def setsAt : List Value → Nat → List Value → List Value
  | c, _, [] => c
  | c, o, v :: vs => setsAt (c.set o v) (o + 1) vs

theorem setsAt_length : ∀ (vs : List Value) (c : List Value) (o : Nat), (setsAt c o vs).length = c.length := by
  intro vs
  induction vs with
  | nil => intros; rfl
  | cons v vs ih => intro c o; simp [setsAt, ih]

theorem Hp.put_put (h : Hp) (i : Nat) (o o' : AObj) : ∀ j, ((h.put i o).put i o').get j = (h.put i o').get j := by
  intro j; simp only [Hp.get_put]; split <;> rfl

/- Small heaps that hold the same are the same for all that is said of them. -/
structure Hp.same (h h' : Hp) : Prop where
  get : ∀ i, h'.get i = h.get i
  nx : h'.nx = h.nx
  ab : h'.ab = h.ab

theorem Spk.same {r : Ren σ} {h h' : Hp} {c : Nat} (hs : h.same h') (hc : Spk r h' c) : Spk r h c := by
  rcases hc with ⟨i, m, hi, h1⟩ | ⟨i, k, p, d, hi, h1⟩
  · rw [hs.get] at hi; exact .inl ⟨i, m, hi, h1⟩
  · rw [hs.get] at hi; exact .inr ⟨i, k, p, d, hi, h1⟩

theorem Rel.same {r : Ren σ} {h h' : Hp} {w : World} (hs : h.same h') (hr : Rel r h w) : Rel r h' w := by
  refine ⟨fun i x hx => by rw [hs.nx]; exact hr.dom i x hx, fun i o hi => hr.live i o (by rw [← hs.get]; exact hi), fun i j c m m' hi hj => hr.inj i j c m m' (by rw [← hs.get]; exact hi) (by rw [← hs.get]; exact hj), ?_, ?_, ?_, ?_, fun c o hc => ⟨(hr.ro c o hc).1, fun hk => (hr.ro c o hc).2 (hk.same hs)⟩⟩
  · intro i k p d hi; rw [hs.get] at hi; exact hr.abs i k p d hi
  · intro i k p d hi; rw [hs.get] at hi; obtain ⟨h1, h2⟩ := hr.pin i k p d hi; exact ⟨by rw [hs.ab]; exact h1, fun j hj => let ⟨es, h3⟩ := h2 j hj; ⟨es, by rw [hs.get]; exact h3⟩⟩
  · intro i k p d hi b hb j hj m; rw [hs.get] at hi hj; exact hr.sepN i k p d hi b hb j hj m
  · intro i j k p d k' p' d' hne hi hj b hb; rw [hs.get] at hi hj; exact hr.sepF i j k p d k' p' d' hne hi hj b hb

theorem Adv.same {r r' : Ren σ} {h h' h'' : Hp} {w w' : World} (hs : h'.same h'') (ha : Adv r h w r' h' w') : Adv r h w r' h'' w' :=
  ⟨ha.rel.same hs, ha.le, by rw [hs.nx]; exact ha.nx, ha.size, ha.keep, fun c hc => ha.orig c (hc.same hs), ha.os, ha.output, ha.old⟩

theorem Spk.kill {r : Ren σ} {h : Hp} {j c : Nat} (hc : Spk r (h.kill j) c) : Spk r h c := by
  rcases hc with ⟨i, m, hi, h1⟩ | ⟨i, k, p, d, hi, h1⟩
  · rw [Hp.get_kill] at hi
    split at hi
    · simp at hi
    · exact .inl ⟨i, m, hi, h1⟩
  · rw [Hp.get_kill] at hi
    split at hi
    · cases hi
    · exact .inr ⟨i, k, p, d, hi, h1⟩

/- A name may die at any time. -/
theorem Rel.kill {r : Ren σ} {h : Hp} {w : World} (hr : Rel r h w) {j : Nat} (hl : h.loose j) : Rel r (h.kill j) w := by
  have hg : ∀ {i : Nat} {o : AObj}, (h.kill j).get i = some o → h.get i = some o ∧ i ≠ j := by
    intro i o hi
    rw [Hp.get_kill] at hi
    split at hi
    · cases hi
    · exact ⟨hi, fun e => by subst e; contradiction⟩
  have hs : ∀ {i : Nat}, ((h.kill j).get i).isSome = true → (h.get i).isSome = true := by
    intro i hi
    obtain ⟨o, ho⟩ := Option.isSome_iff_exists.1 hi
    simp [(hg ho).1]
  refine ⟨hr.dom, fun i o hi => hr.live i o (hg hi).1, fun i k c m m' hi hk => hr.inj i k c m m' (hs hi) (hs hk), fun i k p d hi => hr.abs i k p d (hg hi).1, fun i k p d hi => ?_,
    fun i k p d hi b hb j' hj' m => hr.sepN i k p d (hg hi).1 b hb j' (hs hj') m, fun i i' k p d k' p' d' hne hi hi' => hr.sepF i i' k p d k' p' d' hne (hg hi).1 (hg hi').1, fun c o hc => ⟨(hr.ro c o hc).1, fun hk => (hr.ro c o hc).2 hk.kill⟩⟩
  obtain ⟨h1, h2⟩ := hr.pin i k p d (hg hi).1
  refine ⟨h1, fun j' hj' => ?_⟩
  obtain ⟨es, hes⟩ := h2 j' hj'
  refine ⟨es, ?_⟩
  rw [Hp.get_kill, if_neg (fun e => by subst e; exact hl i k p d (hg hi).1 hj')]
  exact hes

theorem Adv.kill {r r' : Ren σ} {h h' : Hp} {w w' : World} (ha : Adv r h w r' h' w') {j : Nat} (hl : h'.loose j) : Adv r h w r' (h'.kill j) w' :=
  ⟨ha.rel.kill hl, ha.le, ha.nx, ha.size, ha.keep, fun c hc => ha.orig c hc.kill, ha.os, ha.output, ha.old⟩

theorem Adv.setCells {r : Ren σ} {i b m : Nat} (hri : r i = some (b, m)) : ∀ (vs vs' : List Value), VRels r vs vs' → ∀ (h : Hp) (w : World) (c : List Value) (sl : Option Nat) (o : Nat), Rel r h w →
    h.get i = some (.cells c sl) → o + vs.length ≤ c.length →
    (∀ j, j < vs.length → (w.cell? ⟨b, o + j, none⟩).isSome = true ∧ w.frozen? ⟨b, o + j, none⟩ = false) ∧ Adv r h w r (h.put i (.cells (setsAt c o vs) sl)) (w.setCells b o vs') := by
  intro vs
  induction vs with
  | nil =>
    intro vs' hv h w c sl o hr hi _
    cases hv
    refine ⟨fun j hj => by simp at hj, ?_⟩
    have : h.same (h.put i (.cells c sl)) := ⟨fun j => by rw [Hp.get_put]; split <;> simp_all, rfl, rfl⟩
    exact (Adv.refl hr).same this
  | cons v vs ih =>
    intro vs' hv h w c sl o hr hi ho
    cases hv with
    | cons hv1 hv2 =>
      rename_i v' vs'
      simp only [List.length_cons] at ho
      have hlt : o < c.length := by omega
      obtain ⟨s1, s2, s3⟩ := Adv.setCell hr hi hri hlt hv1
      obtain ⟨t1, t2⟩ := ih vs' hv2 (h.put i (.cells (c.set o v) sl)) (w.setCell ⟨b, o, none⟩ v') (c.set o v) sl (o + 1) s3.rel (by simp [Hp.get_put]) (by simp; omega)
      refine ⟨fun j hj => ?_, ?_⟩
      · cases j with
        | zero => exact ⟨s1, s2⟩
        | succ j =>
          obtain ⟨_, q2, _⟩ := Adv.setCell hr hi hri (show o + (j + 1) < c.length by simp at hj; omega) hv1
          obtain ⟨q1, _, _⟩ := Adv.setCell hr hi hri (show o + (j + 1) < c.length by simp at hj; omega) hv1
          exact ⟨q1, q2⟩
      · have hs : ((h.put i (.cells (c.set o v) sl)).put i (.cells (setsAt (c.set o v) (o + 1) vs) sl)).same (h.put i (.cells (setsAt c o (v :: vs)) sl)) :=
          ⟨fun j => by rw [Hp.put_put]; rfl, rfl, rfl⟩
        exact Adv.same hs (s3.trans t2)

end Go.Eng
