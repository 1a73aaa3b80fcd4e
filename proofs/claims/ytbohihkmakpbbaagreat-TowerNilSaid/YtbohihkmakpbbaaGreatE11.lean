/- The engine, part 11: comparisons with nil, assertions, function values; all operations without a call. -/
import Derived.Test.YtbohihkmakpbbaaGreatE10L
namespace Go.Eng
variable {σ : Interp}

/- == and != where one side is nil and the other one is not. -/
def nilEq (d : TypeDesc) (x y : Value) : Option Bool :=
  match d, x, y with
  | .pointer _, .pointer none, .pointer b => some b.isNone
  | .pointer _, .pointer _, .pointer none => some false
  | .slice _, .slice none _ _, .slice b _ _ => some b.isNone
  | .slice _, .slice _ _ _, .slice none _ _ => some false
  | .map _ _, .map none, .map b => some b.isNone
  | .map _ _, .map _, .map none => some false
  | .func _ _ _, .nilFunc, .func _ _ _ | .func _ _ _, .func _ _ _, .nilFunc => some false
  | .interface _, .nilIface, .iface _ _ | .interface _, .iface _ _, .nilIface => some false
  | _, _, _ => none

theorem run_equal_nil {P : Program} {t : TypeId} {d : TypeDesc} (hu : P.underlying t = some d) {x y : Value} {b : Bool} (h : nilEq d x y = some b) (n : Nat) (w : World) :
    (Op.equalIn (n + 1) t x y).run P w = .ok b w := by
  unfold nilEq at h
  split at h <;> simp only [Option.some.injEq, reduceCtorEq] at h <;> subst h <;> simp [Op.equalIn, run_underlying hu]

theorem nilEq_rel {d : TypeDesc} {r : Ren σ} {x y x' y' : Value} {b : Bool} (h : nilEq d x y = some b) (hx : VRel r x x') (hy : VRel r y y') : nilEq d x' y' = some b := by
  cases hx <;> cases hy <;> first
    | exact h
    | (cases d <;> simp_all [nilEq])

def opNil (E : Env) (tm : Tr Value) (op : BinOp) (t : TypeId) (x y : Operand) : Option Value :=
  match opv tm x, opv tm y, E.und t with
  | some a, some b, some d =>
    match nilEq d a b with
    | some q => match op with
      | .eql => some (.bool q)
      | .neq => some (.bool (!q))
      | _ => none
    | none => none
  | _, _, _ => none

theorem eqGuard_nil {P : Program} {d : TypeDesc} {x y : Value} {b : Bool} (h : nilEq d x y = some b) (op : BinOp) (t : TypeId) (ox oy : Operand) (w : World) : (eqGuard op t ox oy x y).run P w = .ok () w := by
  unfold nilEq at h
  split at h <;> first | cases h | skip
  all_goals
    cases op <;> rfl

theorem binOp_nil {P : Program} {d : TypeDesc} {t : TypeId} (hu : P.underlying t = some d) {x y : Value} {b : Bool} (h : nilEq d x y = some b) (w : World) :
    (binOp .eql t x y).run P w = .ok (.bool b) w ∧ (binOp .neq t x y).run P w = .ok (.bool (!b)) w := by
  have he : (Op.equal t x y).run P w = .ok b w := run_equal_nil hu h 9999 w
  unfold nilEq at h
  split at h <;> first | cases h | skip
  all_goals
    constructor
    · simp only [binOp, Sem.run_bind, he, Result.andThen_ok, Sem.run_pure]
    · simp only [binOp, Sem.run_bind, he, Result.andThen_ok, Sem.run_pure]

theorem opNil_ok {E : Env} (hE : EnvOk E σ) {tm : Tr Value} {op : BinOp} {t : TypeId} {x y : Operand} {v : Value} (he : opNil E tm op t x y = some v) {r : Ren σ} {w : World} {a : Act} (ht : TmRel r tm a.tmps) :
    (do eqGuard op t x y (a.eval x) (a.eval y); binOp op t (a.eval x) (a.eval y)).run E.P w = .ok v w ∧ VRel r v v := by
  unfold opNil at he
  split at he
  · rename_i u1 u2 d h1 h2 hd
    split at he
    · rename_i q hq
      have hq' := nilEq_rel hq (opv_ok ht h1) (opv_ok ht h2)
      have hg := eqGuard_nil (P := E.P) hq' op t x y w
      have hb := binOp_nil (Env.und_ok hE hd) hq' w
      rw [Sem.run_bind, hg, Result.andThen_ok]
      split at he
      · cases he; exact ⟨hb.1, .bool _⟩
      · cases he; exact ⟨hb.2, .bool _⟩
      · cases he
    · cases he
  · cases he

def nonIface (d : TypeDesc) : Bool := match d with | .interface _ => false | _ => true

/- assertions to a type that is no interface -/
def opAssert (E : Env) (tm : Tr Value) (x : Operand) (asserted : TypeId) (ok : Bool) : Option Value :=
  match opv tm x, E.und asserted with
  | some (.iface t v), some d =>
    if nonIface d = true then
      if t = asserted then some (if ok = true then .tuple #[v, .bool true] else v)
      else if ok = true then
        match E.ts.get asserted with
        | some i => match i.zero with
          | some z => if gnd 6 z = true then some (.tuple #[z, .bool false]) else none
          | none => none
        | none => none
      else none
    else none
  | _, _ => none

theorem run_assert_same {P : Program} {t xT : TypeId} {d : TypeDesc} (hd : P.underlying t = some d) (hn : nonIface d = true) (v : Value) (ok : Bool) (w : World) :
    (Instr.typeAssert (.iface t v) xT t ok).run P w = .ok (if ok = true then .tuple #[v, .bool true] else v) w := by
  cases d <;> first | (simp [nonIface] at hn; done) | simp [Instr.typeAssert, run_underlying hd]

theorem run_assert_other {P : Program} {t u xT : TypeId} {d : TypeDesc} (hd : P.underlying t = some d) (hn : nonIface d = true) (hne : ¬ u = t) {z : Value} {w : World} (hz : (zeroValue t).run P w = .ok z w) (v : Value) :
    (Instr.typeAssert (.iface u v) xT t true).run P w = .ok (.tuple #[z, .bool false]) w := by
  cases d <;> first | (simp [nonIface] at hn; done) | simp [Instr.typeAssert, run_underlying hd, hne, hz]

theorem opAssert_ok {E : Env} (hE : EnvOk E σ) {tm : Tr Value} {x : Operand} {xT asserted : TypeId} {ok : Bool} {v : Value} (he : opAssert E tm x asserted ok = some v) {r : Ren σ} {w : World} {a : Act} (ht : TmRel r tm a.tmps) :
    ∃ v', (Instr.typeAssert (a.eval x) xT asserted ok).run E.P w = .ok v' w ∧ VRel r v v' := by
  unfold opAssert at he
  split at he
  · rename_i t u d hx hd
    have hv := opv_ok ht hx
    have hd' := Env.und_ok hE hd
    generalize a.eval x = p at hv ⊢
    cases hv with
    | @iface _ _ c hc =>
      by_cases hn : nonIface d = true
      · rw [if_pos hn] at he
        by_cases hta : t = asserted
        · rw [if_pos hta] at he
          subst hta
          cases he
          refine ⟨_, run_assert_same hd' hn c ok w, ?_⟩
          cases ok
          · exact hc
          · exact .tuple (.cons hc (.cons (.bool _) .nil))
        · rw [if_neg hta] at he
          cases ok with
          | false => cases he
          | true =>
            rw [if_pos rfl] at he
            split at he
            · rename_i i hi
              split at he
              · rename_i z hz
                split at he
                · rename_i hg
                  cases he
                  exact ⟨_, run_assert_other hd' hn hta (run_zeroValue_info (hE.ts _ _ hi) hz w) c, .tuple (.cons (gnd_spec r 6 _ hg).2 (.cons (.bool _) .nil))⟩
                · cases he
              · cases he
            · cases he
      · rw [if_neg hn] at he; cases he
  · cases he

def opvL (tm : Tr Value) : List Operand → Option (List Value)
  | [] => some []
  | x :: rest =>
    match opv tm x, opvL tm rest with
    | some v, some l => some (v :: l)
    | _, _ => none

theorem opvL_ok {r : Ren σ} {tm : Tr Value} {a : Act} (ht : TmRel r tm a.tmps) : ∀ {l : List Operand} {vs : List Value}, opvL tm l = some vs → VRels r vs (l.map a.eval) := by
  intro l
  induction l with
  | nil => intro vs h; cases h; exact .nil
  | cons x l ih =>
    intro vs h
    simp only [opvL] at h
    split at h
    · rename_i v l' hv hl; cases h; exact .cons (opv_ok ht hv) (ih hl)
    · cases h

/- All operations that make no call. -/
def opMem (E : Env) (tm : Tr Value) (h : Hp) (o : Oper) : Option (Value × Hp) :=
  match o.op with
  | .move x | .assign x => (opv tm x).map (·, h)
  | .pick c x y => match opv tm c with
    | some (.bool b) => (opv tm (if b = true then x else y)).map (·, h)
    | _ => none
  | .extract x i => match opv tm x with
    | some (.tuple vs) => (vs.toList[i]?).map (·, h)
    | _ => none
  | .alloc el => opAlloc E h el
  | .box _ x => opBox tm h x
  | .build t parts => (opBuild E tm t parts.toList).map (·, h)
  | .buildSlice t n parts => opBuildSlice E tm h t n parts.toList
  | .load t x => (opLoad E tm h t x).map (·, h)
  | .store t x y => (opStore E tm h t x y).map (undef, ·)
  | .nilCheck x => match opv tm x with
    | some (.pointer (some a)) => some (.pointer (some a), h)
    | some (.func (.func f) p q) => some (.func (.func f) p q, h)
    | some (.iface t v) => some (.iface t v, h)
    | _ => none
  | .fieldAddr s x f => (opField E tm s x f).map (·, h)
  | .indexAddr t x y => (opIndexAddr E tm t x y).map (·, h)
  | .field t x f => (opFieldOf E tm t x f).map (·, h)
  | .makeFunc (.func f) p q => match opvL tm p.toList, opvL tm q.toList with
    | some l, some m => some (.func (.func f) ⟨l⟩ ⟨m⟩, h)
    | _, _ => none
  | .makeInterface t x => match opv tm x, E.und t with
    | some v, some d => if nonIface d then some (.iface t v, h) else none
    | _, _ => none
  | .makeMap _ none => some (.map (some h.nx), h.new (.map []))
  | .makeMap t (some x) => match opv tm x, E.und t with
    | some (.int _ _), some (.map _ _) => some (.map (some h.nx), h.new (.map []))
    | _, _ => none
  | .makeSlice t x y => opMakeSlice E tm h t x y
  | .typeAssert x _ t ok => match opPure E tm o with
    | some v => some (v, h)
    | none => (opAssert E tm x t ok).map (·, h)
  | .insert t x y z | .mapUpdate t x y z => (opMapSet E tm h t x y z).map (undef, ·)
  | .lookup t x y ok => (opLookup E tm h t x y ok).map (·, h)
  | .index t x y => match opPure E tm o with
    | some v => some (v, h)
    | none => (opIndex E tm t x y).map (·, h)
  | .slice t x lo hi mx => match opPure E tm o with
    | some v => some (v, h)
    | none => (opSlice E tm t x lo hi mx).map (·, h)
  | .convert s d x => match opPure E tm o with
    | some v => some (v, h)
    | none => opConv E tm h s d x
  | .binOp op t x y _ => match opPure E tm o with
    | some v => some (v, h)
    | none => (opNil E tm op t x y).map (·, h)
  | .unOp _ _ _ => (opPure E tm o).map (·, h)
  | .range t x => opRange E tm h t x
  | .next x isS => if isS = false then opNext tm h x else none
  | .entry x => (opEntry tm h x).map (·, h)
  | .mapEntry t x y => opMapEntry E tm h t x y
  | .entryStore _ x y z => (opEntryStore tm h x y z).map (undef, ·)
  | _ => none

/- The builtins that stand as calls. -/
def opBuiltin (E : Env) (tm : Tr Value) (h : Hp) (o : Oper) (c : Call) (b : Builtin) : Option (Value × Hp) :=
  match b with
  | .append => match c.args.toList, c.argTypes.toList with
    | [x, y], [t, tx] => opAppend E tm h t tx x y
    | _, _ => none
  | .copy => match c.args.toList, c.argTypes.toList with
    | [x, y], [t, tx] => opCopy E tm h t tx x y
    | _, _ => none
  | .len => match c.args.toList, c.argTypes.toList with
    | [x], [t] => match opPure E tm o with
      | some v => some (v, h)
      | none => (opLen E tm h t x).map (·, h)
    | _, _ => none
  | .min => (opPure E tm o).map (·, h)
  | .max => (opPure E tm o).map (·, h)
  | .delete => match c.args.toList, c.argTypes.toList with
    | [x, y], t :: _ => (opDelete E tm h t x y).map (undef, ·)
    | _, _ => none
  | _ => none

theorem OpRuns.of_run {E : Env} {o : Oper} {r r' : Ren σ} {h h' : Hp} {w w' : World} {a : Act} {v v' : Value} (hrun : (execOp a.eval o).run E.P w = .ok (.value v') w') (ha : Adv r h w r' h' w') (hv : VRel r' v v') :
    OpRuns E o r h w a v h' r' v' w' := ⟨.inl hrun, ha, hv⟩

theorem run_v {P : Program} {s : Sem Value} {w w' : World} {v : Value} (h : s.run P w = .ok v w') : (do pure (Next.value (← s)) : Sem Next).run P w = .ok (.value v) w' := by
  rw [Sem.run_bind, h]; rfl

theorem run_u {P : Program} {s : Sem Unit} {w w' : World} (h : s.run P w = .ok () w') : (do s; pure Next.skip : Sem Next).run P w = .ok .skip w' := by
  rw [Sem.run_bind, h]; rfl

theorem undef_rel (r : Ren σ) : VRel r undef undef := .tuple .nil

theorem opMem_ok {E : Env} (hE : EnvOk E σ) {tm : Tr Value} {h h' : Hp} {o : Oper} {v : Value} (he : opMem E tm h o = some (v, h')) {r : Ren σ} {w : World} {a : Act} (ht : TmRel r tm a.tmps) (hr : Rel r h w) :
    ∃ r' v' w', OpRuns E o r h w a v h' r' v' w' := by
  obtain ⟨dst, op, type, pos, after, guard⟩ := o
  unfold opMem at he
  have fin : ∀ {r' : Ren σ} {v' : Value} {w' : World} {s : Sem Value}, execOp a.eval ⟨dst, op, type, pos, after, guard⟩ = (do pure (Next.value (← s))) → s.run E.P w = .ok v' w' → Adv r h w r' h' w' → VRel r' v v' →
      ∃ r' v' w', OpRuns E ⟨dst, op, type, pos, after, guard⟩ r h w a v h' r' v' w' := fun e h1 h2 h3 => ⟨_, _, _, .inl (by rw [e]; exact run_v h1), h2, h3⟩
  have finU : ∀ {r' : Ren σ} {w' : World} {s : Sem Unit}, execOp a.eval ⟨dst, op, type, pos, after, guard⟩ = (do s; pure Next.skip) → s.run E.P w = .ok () w' → Adv r h w r' h' w' → v = undef →
      ∃ r' v' w', OpRuns E ⟨dst, op, type, pos, after, guard⟩ r h w a v h' r' v' w' := fun e h1 h2 h3 => ⟨_, undef, _, .inr ⟨by rw [e]; exact run_u h1, rfl⟩, h2, by rw [h3]; exact undef_rel _⟩
  cases op with
  | move x =>
    simp only [Option.map_eq_some_iff] at he
    obtain ⟨u, hu, e⟩ := he; cases e
    exact ⟨r, a.eval x, w, .inl rfl, .refl hr, opv_ok ht hu⟩
  | assign x =>
    simp only [Option.map_eq_some_iff] at he
    obtain ⟨u, hu, e⟩ := he; cases e
    exact ⟨r, a.eval x, w, .inl rfl, .refl hr, opv_ok ht hu⟩
  | pick c x y =>
    simp only [] at he
    split at he
    · rename_i b hc
      rw [Option.map_eq_some_iff] at he
      obtain ⟨u, hu, e⟩ := he; cases e
      have hb := opv_ok ht hc
      refine ⟨r, a.eval (if b = true then x else y), w, .inl ?_, .refl hr, opv_ok ht hu⟩
      generalize hq : a.eval c = q at hb
      cases hb
      simp only [execOp, hq, Sem.run_bind, asBool, Sem.run_pure, Result.andThen_ok]
      cases b <;> rfl
    · cases he
  | extract x i =>
    simp only [] at he
    split at he
    · rename_i vs hx
      rw [Option.map_eq_some_iff] at he
      obtain ⟨u, hu, e⟩ := he; cases e
      have hv := opv_ok ht hx
      generalize hq : a.eval x = q at hv
      cases hv with
      | tuple h1 =>
        obtain ⟨u', g1, g2⟩ := h1.get hu
        refine fin (s := Instr.extract (a.eval x) i) rfl ?_ (.refl hr) g2
        rw [hq]
        simp [Instr.extract, g1]
    · cases he
  | alloc el =>
    obtain ⟨r', v', w', h1, h2, h3⟩ := opAlloc_ok hE he hr
    exact fin rfl h1 h2 h3
  | box el x =>
    obtain ⟨r', v', w', h1, h2, h3⟩ := opBox_ok (P := E.P) (el := el) he ht hr
    exact fin rfl h1 h2 h3
  | build t parts =>
    simp only [Option.map_eq_some_iff] at he
    obtain ⟨u, hu, e⟩ := he; cases e
    obtain ⟨v', h1, h2⟩ := opBuild_ok hE hu (w := w) ht
    exact fin rfl h1 (.refl hr) h2
  | buildSlice t n parts =>
    obtain ⟨r', v', w', h1, h2, h3⟩ := opBuildSlice_ok hE he ht hr
    exact fin rfl h1 h2 h3
  | load t x =>
    simp only [Option.map_eq_some_iff] at he
    obtain ⟨u, hu, e⟩ := he; cases e
    obtain ⟨v', h1, h2⟩ := opLoad_ok hE hu ht hr
    exact fin rfl h1 (.refl hr) h2
  | store t x y =>
    simp only [Option.map_eq_some_iff] at he
    obtain ⟨u, hu, e⟩ := he; cases e
    obtain ⟨w', h1, h2⟩ := opStore_ok hE hu ht hr
    exact finU rfl h1 h2 rfl
  | nilCheck x =>
    simp only [] at he
    have hq : ∀ u, opv tm x = some u → VRel r u (a.eval x) := fun u hu => opv_ok ht hu
    split at he <;> first | cases he | skip
    · rename_i b hx
      have hv := hq _ hx
      refine ⟨r, a.eval x, w, .inl ?_, .refl hr, hv⟩
      generalize hy : a.eval x = y at hv
      simp only [execOp, hy]
      cases hv; rfl
    · rename_i f p q hx
      have hv := hq _ hx
      refine ⟨r, a.eval x, w, .inl ?_, .refl hr, hv⟩
      generalize hy : a.eval x = y at hv
      simp only [execOp, hy]
      cases hv; rfl
    · rename_i t u hx
      have hv := hq _ hx
      refine ⟨r, a.eval x, w, .inl ?_, .refl hr, hv⟩
      generalize hy : a.eval x = y at hv
      simp only [execOp, hy]
      cases hv; rfl
  | fieldAddr s x f =>
    simp only [Option.map_eq_some_iff] at he
    obtain ⟨u, hu, e⟩ := he; cases e
    obtain ⟨v', h1, h2⟩ := opField_ok hE hu (w := w) ht
    exact fin rfl h1 (.refl hr) h2
  | indexAddr t x y =>
    simp only [Option.map_eq_some_iff] at he
    obtain ⟨u, hu, e⟩ := he; cases e
    obtain ⟨v', h1, h2⟩ := opIndexAddr_ok hE hu (w := w) ht
    exact fin rfl h1 (.refl hr) h2
  | field t x f =>
    simp only [Option.map_eq_some_iff] at he
    obtain ⟨u, hu, e⟩ := he; cases e
    obtain ⟨v', h1, h2⟩ := opFieldOf_ok hE hu (w := w) ht
    exact fin rfl h1 (.refl hr) h2
  | makeFunc fn p q =>
    cases fn with
    | func f =>
      simp only [] at he
      split at he
      · rename_i l m hl hm
        cases he
        have h1 := opvL_ok ht hl
        have h2 := opvL_ok ht hm
        refine fin (s := Instr.makeFunc (.func f) (p.map a.eval) (q.map a.eval)) rfl rfl (.refl hr) ?_
        rw [show p.map a.eval = ⟨p.toList.map a.eval⟩ from by apply Array.ext'; simp, show q.map a.eval = ⟨q.toList.map a.eval⟩ from by apply Array.ext'; simp]
        exact .func f h1 h2
      · cases he
    | _ => cases he
  | makeInterface t x =>
    simp only [] at he
    split at he
    · rename_i u d hx hd
      split at he
      · rename_i hn
        cases he
        refine fin (s := Instr.makeInterface t (a.eval x)) rfl ?_ (.refl hr) (.iface t (opv_ok ht hx))
        have hd' := Env.und_ok hE hd
        cases d <;> simp [Instr.makeInterface, run_underlying hd', nonIface] at hn ⊢
      · cases he
    · cases he
  | makeMap t rsv =>
    have hnew : ∃ r', Adv r h w r' (h.new (.map [])) (w.alloc (.map #[] 0)) ∧ r' h.nx = some (w.heap.size, 0) :=
      ⟨r.add h.nx (w.heap.size, 0), Adv.new hr (.map []) 0 (.map #[] 0) ⟨⟨[], by simp, .nil⟩, fun e he => by simp at he, by simp⟩, by simp [Ren.add]⟩
    obtain ⟨r', ha, hn⟩ := hnew
    cases rsv with
    | none =>
      cases he
      exact fin (s := Instr.makeMap t none) rfl rfl ha (.map hn)
    | some x =>
      simp only [] at he
      split at he
      · rename_i k n kt el hx hd
        cases he
        have hv := opv_ok ht hx
        refine fin (s := Instr.makeMap t (some (a.eval x))) (v' := .map (some w.heap.size)) rfl ?_ ha (.map hn)
        generalize a.eval x = q at hv
        cases hv
        simp [Instr.makeMap, run_underlying (Env.und_ok hE hd), asInt, asIntOf]
      · cases he
  | makeSlice t x y =>
    obtain ⟨r', v', w', h1, h2, h3⟩ := opMakeSlice_ok hE he ht hr
    exact fin rfl h1 h2 h3
  | typeAssert x xT t ok =>
    simp only [] at he
    split at he
    · rename_i u hu; cases he; exact ⟨r, _, w, opPure_ok (by simp) hu ht hr⟩
    · rw [Option.map_eq_some_iff] at he
      obtain ⟨u, hu, e⟩ := he; cases e
      obtain ⟨v', h1, h2⟩ := opAssert_ok hE (xT := xT) hu (w := w) ht
      exact fin rfl h1 (.refl hr) h2
  | insert t x y z =>
    simp only [Option.map_eq_some_iff] at he
    obtain ⟨u, hu, e⟩ := he; cases e
    obtain ⟨w', h1, h2⟩ := opMapSet_ok hE hu ht hr
    exact finU rfl h1 h2 rfl
  | mapUpdate t x y z =>
    simp only [Option.map_eq_some_iff] at he
    obtain ⟨u, hu, e⟩ := he; cases e
    obtain ⟨w', h1, h2⟩ := opMapSet_ok hE hu ht hr
    exact finU rfl h1 h2 rfl
  | lookup t x y ok =>
    simp only [Option.map_eq_some_iff] at he
    obtain ⟨u, hu, e⟩ := he; cases e
    obtain ⟨v', h1, h2⟩ := opLookup_ok hE hu ht hr
    exact fin rfl h1 (.refl hr) h2
  | index t x y =>
    simp only [] at he
    split at he
    · rename_i u hu; cases he; exact ⟨r, _, w, opPure_ok (by simp) hu ht hr⟩
    · rw [Option.map_eq_some_iff] at he
      obtain ⟨u, hu, e⟩ := he; cases e
      obtain ⟨v', h1, h2⟩ := opIndex_ok hE hu (w := w) ht
      exact fin rfl h1 (.refl hr) h2
  | slice t x lo hi mx =>
    simp only [] at he
    split at he
    · rename_i u hu; cases he; exact ⟨r, _, w, opPure_ok (by simp) hu ht hr⟩
    · rw [Option.map_eq_some_iff] at he
      obtain ⟨u, hu, e⟩ := he; cases e
      obtain ⟨v', h1, h2⟩ := opSlice_ok hE hu (w := w) ht
      exact fin rfl h1 (.refl hr) h2
  | convert s d x =>
    simp only [] at he
    split at he
    · rename_i u hu; cases he; exact ⟨r, _, w, opPure_ok (by simp) hu ht hr⟩
    · obtain ⟨r', v', w', h1, h2, h3⟩ := opConv_ok hE he ht hr
      exact fin rfl h1 h2 h3
  | binOp op t x y yt =>
    simp only [] at he
    split at he
    · rename_i u hu; cases he; exact ⟨r, _, w, opPure_ok (by simp) hu ht hr⟩
    · rw [Option.map_eq_some_iff] at he
      obtain ⟨u, hu, e⟩ := he; cases e
      obtain ⟨h1, h2⟩ := opNil_ok hE hu (w := w) ht
      exact fin (s := do eqGuard op t x y (a.eval x) (a.eval y); binOp op t (a.eval x) (a.eval y)) rfl h1 (.refl hr) h2
  | unOp op t x =>
    simp only [Option.map_eq_some_iff] at he
    obtain ⟨u, hu, e⟩ := he; cases e
    exact ⟨r, _, w, opPure_ok (by simp) hu ht hr⟩
  | range t x =>
    obtain ⟨r', v', w', h1, h2, h3⟩ := opRange_ok hE he ht hr
    exact fin rfl h1 h2 h3
  | next x isS =>
    simp only [] at he
    split at he
    · rename_i hS
      subst hS
      obtain ⟨v', w', h1, h2, h3⟩ := opNext_ok (P := E.P) he ht hr type
      exact fin rfl h1 h2 h3
    · cases he
  | entry x =>
    simp only [Option.map_eq_some_iff] at he
    obtain ⟨u, hu, e⟩ := he; cases e
    obtain ⟨v', h1, h2⟩ := opEntry_ok (P := E.P) hu ht hr
    exact fin rfl h1 (.refl hr) h2
  | mapEntry t x y =>
    obtain ⟨r', v', w', h1, h2, h3⟩ := opMapEntry_ok hE he ht hr
    exact fin rfl h1 h2 h3
  | entryStore t x y z =>
    simp only [Option.map_eq_some_iff] at he
    obtain ⟨u, hu, e⟩ := he; cases e
    obtain ⟨w', h1, h2⟩ := opEntryStore_ok (P := E.P) (t := t) hu ht hr
    exact finU rfl h1 h2 rfl
  | _ => cases he

theorem opBuiltin_ok {E : Env} (hE : EnvOk E σ) {tm : Tr Value} {h h' : Hp} {o : Oper} {c : Call} {b : Builtin} (hop : o.op = .call c) (hb : c.callee = .builtin b) {v : Value} (he : opBuiltin E tm h o c b = some (v, h'))
    {r : Ren σ} {w : World} {a : Act} (ht : TmRel r tm a.tmps) (hr : Rel r h w) : ∃ r' v' w', OpRuns E o r h w a v h' r' v' w' := by
  obtain ⟨dst, op, type, pos, after, guard⟩ := o
  simp only at hop
  subst hop
  obtain ⟨callee, args, argTypes⟩ := c
  simp only at hb
  subst hb
  obtain ⟨args⟩ := args
  obtain ⟨argTypes⟩ := argTypes
  cases b <;> simp only [opBuiltin] at he <;> try (cases he; done)
  case append =>
    split at he
    · rename_i x y t tx
      obtain ⟨r', v', w', h1, h2, h3⟩ := opAppend_ok hE (ty := type) he ht hr
      exact ⟨r', v', w', .inl (by simp [execOp, resolve, invoke, builtin, h1]), h2, h3⟩
    · cases he
  case copy =>
    split at he
    · rename_i x y t tx
      obtain ⟨r', v', w', h1, h2, h3⟩ := opCopy_ok hE (ty := type) he ht hr
      exact ⟨r', v', w', .inl (by simp [execOp, resolve, invoke, builtin, h1]), h2, h3⟩
    · cases he
  case delete =>
    split at he
    · rename_i x y t ts
      rw [Option.map_eq_some_iff] at he
      obtain ⟨h2, hd, e⟩ := he
      cases e
      obtain ⟨w', h1, h3⟩ := opDelete_ok hE hd ht hr ts type
      exact ⟨r, .tuple #[], w', .inl (by simp [execOp, resolve, invoke, builtin, h1]), h3, undef_rel _⟩
    · cases he
  case len =>
    split at he
    · rename_i x t
      split at he
      · rename_i u hu; cases he; exact ⟨r, _, w, opPure_ok (by simp) hu ht hr⟩
      · rw [Option.map_eq_some_iff] at he
        obtain ⟨u, hu, e⟩ := he; cases e
        obtain ⟨h1, h2⟩ := opLen_ok hE (ty := type) hu ht hr
        exact ⟨r, _, w, .inl (by simp [execOp, resolve, invoke, builtin, h1]), .refl hr, h2⟩
    · cases he
  case min =>
    rw [Option.map_eq_some_iff] at he
    obtain ⟨u, hu, e⟩ := he; cases e
    exact ⟨r, _, w, opPure_ok (by simp) hu ht hr⟩
  case max =>
    rw [Option.map_eq_some_iff] at he
    obtain ⟨u, hu, e⟩ := he; cases e
    exact ⟨r, _, w, opPure_ok (by simp) hu ht hr⟩

end Go.Eng
