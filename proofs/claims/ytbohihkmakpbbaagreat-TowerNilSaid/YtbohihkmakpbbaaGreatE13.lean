/- The engine, part 13: what the evaluator's answers say of the machine; operations in the text's order. -/
import Derived.Test.YtbohihkmakpbbaaGreatE12
import Derived.RangeFuncLeaves
import Derived.RecoverIn
import Derived.OrdersIn
namespace Go.Eng
variable {σ : Interp}

def CallOk (E : Env) (f : FuncId → List Value → Hp → Option (End × Hp)) : Prop :=
  ∀ g args h e h', f g args h = some (e, h') → ∀ {σ : Interp}, EnvOk E σ → ∀ (r : Ren σ) (w : World) (args' : List Value), VRels r args args' → Rel r h w →
    Calls E.P g ⟨args'⟩ w (fun e' w' => ∃ r', Adv r h w r' h' w' ∧ EndRel r' e e') ∧ ∀ w, (callFunc g ⟨args'⟩).run E.P w = .ok (.enter g ⟨args'⟩) w

def RoundOk (E : Env) (f : Nat → List Value → Hp → Option (End × Hp)) : Prop :=
  ∀ l args h e h', f l args h = some (e, h') → ∀ {σ : Interp}, EnvOk E σ → ∀ (r : Ren σ) (w : World) (args' : List Value) (lc m : Nat), VRels r args args' → Rel r h w → r l = some (lc, m) →
    ∃ fn tmps assign body, (Instr.yield lc ⟨args'⟩).run E.P w = .ok (.round lc fn tmps assign body) w ∧
      ∀ rd n, RoundIn (fen rd) n E.P lc fn tmps assign body w (fun e' w' => ∃ r', Adv r h w r' h' w' ∧ EndRel r' e e')

def CodeOk (E : Env) (f : Ctx → Code → St → Option (AEx × St)) : Prop :=
  ∀ c k s e s', f c k s = some (e, s') → ∀ {σ : Interp}, EnvOk E σ → ∀ (r : Ren σ) (w : World) (a : Act) (rd : Option Nat) (n : Nat) (Q : Exit → Act → World → Prop), StRel r c s a w → RdRel r c.rd rd →
    (∀ r' a' w' e', Adv r s.hp w r' s'.hp w' → StRel r' c s' a' w' → ExRel r' e e' → Q e' a' w') → k.wpIn (fen rd) n E.P Q a w

/- An operation is taken: what goes on behind it. -/
theorem wanted_ok {ops : List Oper} {o : Oper} {tm : Tr Value} {b : Bool} (h : wantedA ops o tm = some b) {r : Ren σ} {tmps : Array Value}
    (ht : ∀ j want d, o.guard = some (j, want) → (ops[j]?).bind (·.dst) = some d → ∀ v, tm.get d = some v → ∃ v', tmps[d]? = some v' ∧ VRel r v v') :
    Region.wanted o (yielded ⟨ops⟩ tmps) = b := by
  unfold wantedA at h
  unfold Region.wanted
  cases hg : o.guard with
  | none => rw [hg] at h; cases h; rfl
  | some p =>
    obtain ⟨j, want⟩ := p
    rw [hg] at h
    simp only [] at h ⊢
    split at h
    · rename_i d hd
      have hd' : ((⟨ops⟩ : Array Oper)[j]?).bind (·.dst) = some d := by simpa using hd
      have key := ht j want d hg hd
      split at h
      · rename_i q hq
        cases h
        obtain ⟨v', h1, h2⟩ := key _ hq
        cases h2
        simp [yielded, hd, h1]
      · rename_i hq
        cases h
        obtain ⟨v', h1, h2⟩ := key _ hq
        cases h2 with
        | tuple h3 =>
          cases h3
          simp [yielded, hd, h1]
      · cases h
    · cases h

theorem wanted_tm {ops : List Oper} {o : Oper} {tm : Tr Value} {b : Bool} (h : wantedA ops o tm = some b) {r : Ren σ} {tmps : Array Value} (ht : TmRel r tm tmps) : Region.wanted o (yielded ⟨ops⟩ tmps) = b :=
  wanted_ok h fun _ _ d _ _ v hv => ht d v hv

theorem resolve_value {P : Program} {ρ : Operand → Value} {c : Call} {f : Operand} (hc : c.callee = .value f) (t : TypeId) (w : World) {fn : Fn} {first cap : Array Value} (hf : ρ f = .func fn first cap) :
    (resolve ρ c t).run P w = .ok { target := .fn fn cap, args := first ++ c.args.map ρ } w := by
  simp [resolve, hc, hf, Deferred.ofValue]

theorem fen_about {rd : Option Nat} {P : Program} {o : Oper} {w : World} {a : Act} : ∀ f, o.about P w a.eval = some f → (fen rd).fn f := fun _ _ => trivial

def OutOk (_E : Env) (r : Ren σ) (h : Hp) (w : World) (o : Oper) (a : Act) (next : Act → World → Prop) (Q : Exit → Act → World → Prop) : OpOut → Prop
  | .val v h' => ∀ r' v' w', Adv r h w r' h' w' → VRel r' v v' → next (a.put o.dst v') w'
  | .dfr d => ∀ d', DfRel r [d] [d'] → next ({ a with defers := d' :: a.defers }.put o.dst undef) w
  | .pan ch h' => ∀ r' ch' w', Adv r h w r' h' w' → ChRel r' ch ch' → Q (.panic ch') a w'

theorem enter_ok {E : Env} (hE : EnvOk E σ) {f : FuncId} {fn : Func} (hf : E.fs.get f = some fn) {body : Code} (hb : fn.body = some body) (args : Array Value) (w : World) : (callFunc f args).run E.P w = .ok (.enter f args) w := by
  have h1 := hE.fs f fn hf
  have h2 := hE.names f fn h1
  simp [callFunc, Sem.run_bind, Go.program, Sem.run, h1, h2, hb, Result.andThen]

theorem callOr_ok {E : Env} (hE : EnvOk E σ) {rec : Rec} (hcall : CallOk E rec.call) {g : FuncId} {args : List Value} {h h' : Hp} {e : End} (he : callOr E rec g args h = some (e, h')) (r : Ren σ) (w : World) (args' : List Value)
    (ha : VRels r args args') (hr : Rel r h w) :
    Calls E.P g ⟨args'⟩ w (fun e' w' => ∃ r', Adv r h w r' h' w' ∧ EndRel r' e e') ∧ ∀ w, (callFunc g ⟨args'⟩).run E.P w = .ok (.enter g ⟨args'⟩) w := by
  unfold callOr at he
  split at he
  · rename_i x hx
    cases he
    obtain ⟨⟨fn, body, h1, h2⟩, h3⟩ := hE.con _ _ _ _ _ hx
    exact ⟨h3 r w args' ha hr, fun w => enter_ok hE h1 h2 _ w⟩
  · exact hcall _ _ _ _ _ he hE r w args' ha hr

theorem opExt_ok {E : Env} (hE : EnvOk E σ) {g : FuncId} {args : List Value} {h h' : Hp} {v : Value} (he : opExt E g args h = some (v, h')) (r : Ren σ) (w : World) (args' : List Value) (ha : VRels r args args') (hr : Rel r h w) :
    ∃ r' v' w', (callFunc g ⟨args'⟩).run E.P w = .ok (.value v') w' ∧ Adv r h w r' h' w' ∧ VRel r' v v' := by
  unfold opExt at he
  split at he
  · rename_i hg
    split at he
    · rename_i t i
      split at he
      · rename_i es hi
        cases he
        cases ha with
        | cons h1 h2 =>
          cases h2
          cases h1 with
          | iface _ h1 =>
            cases h1 with
            | @map _ b m hri =>
              obtain ⟨ms, k, hb, hm, hstp⟩ := hr.map hi hri
              refine ⟨r.add h.nx (w.heap.size, 0), .iface t (.map (some w.heap.size)), w.alloc (.map ms k), hE.clone _ hg t b ms k w hb, ?_, .iface t (.map (m := 0) (by simp [Ren.add]))⟩
              exact Adv.new hr (.map es) 0 (.map ms k) ⟨let ⟨ps, p1, p2⟩ := hm; ⟨ps, p1, p2.mono (Ren.le_add hr.nx_none)⟩, hstp⟩
      · cases he
    · cases he
  · cases he

theorem run_opMeth {E : Env} (hE : EnvOk E σ) {t : TypeId} {name : String} {g : FuncId} (h : opMeth E t name = some g) (n : Nat) (v : Value) (w : World) : (method (n + 1) t v name).run E.P w = .ok (g, v) w := by
  unfold opMeth at h
  split at h
  · rename_i i d hi hd
    split at h
    · rename_i m hm
      split at h
      · rename_i f p hp hf
        split at h
        · rename_i hpd
          cases h
          have hu := Env.und_ok hE hd
          have hinfo := hE.ts t i hi
          simp only [method, Sem.run_bind, typeInfo, Go.program, Sem.run, hinfo, Result.andThen_ok, hm, hp, follow, hf, Sem.run_pure, receiverAt, run_underlying hu]
          subst hpd
          cases d <;> simp [isPtrD, Place.get]
        · cases h
      · cases h
    · cases h
  · cases h

theorem run_invoke_meth {E : Env} (hE : EnvOk E σ) {t : TypeId} {name : String} {g : FuncId} (h : opMeth E t name = some g) (v : Value) (args : List Value) (w : World) :
    (invoke (.fn (.method name) #[]) ⟨.iface t v :: args⟩).run E.P w = (callFunc g ⟨v :: args⟩).run E.P w := by
  have hf : E.P.types.size + Made.depth = (E.P.types.size + Made.depth - 1) + 1 := by
    have : 0 < Made.depth := by decide
    omega
  have hx : (#[v] : Array Value) ++ (⟨.iface t v :: args⟩ : Array Value).extract 1 (⟨.iface t v :: args⟩ : Array Value).size = ⟨v :: args⟩ := by
    apply Array.ext'; simp
  have hrun := run_opMeth hE h (E.P.types.size + Made.depth - 1) v w
  rw [← hf] at hrun
  have hp : (Sem.program Sem.pure : Sem Program).run E.P w = .ok E.P w := rfl
  simp only [invoke, callMethod, Go.program, List.getElem?_toArray, List.getElem?_cons_zero, Sem.run_bind, hp, Result.andThen_ok, hrun]
  rw [hx]

theorem evOp0_wp {E : Env} (hE : EnvOk E σ) {rec : Rec} (hcall : CallOk E rec.call) (hround : RoundOk E rec.round) {rd rdc : Option Nat} {tm : Tr Value} {h : Hp} {o : Oper} {out : OpOut} (he : evOp0 E rec rd tm h o = some out)
    {r : Ren σ} {w : World} {a : Act} (ht : TmRel r tm a.tmps) (hr : Rel r h w) (hrd : RdRel r rd rdc) {n : Nat} {next : Act → World → Prop} {Q : Exit → Act → World → Prop} (hout : OutOk E r h w o a next Q out) :
    o.wpIn (fen rdc) n E.P a w next Q := by
  refine ⟨fen_about, ?_⟩
  have mem : ∀ v h', (∀ c, o.op ≠ .defer c) → (∃ r' v' w', OpRuns E o r h w a v h' r' v' w') → out = .val v h' → o.uponIn (fen rdc) n E.P a next Q ((o.semAt (fen rdc).round a.eval).run E.P w) := by
    intro v h' hnd hx ho
    obtain ⟨r', v', w', hx⟩ := hx
    subst ho
    rw [Oper.semAt_eq _ _ _ hnd]
    have hgo := hout r' v' w' hx.adv hx.val
    rcases hx.run with hrun | ⟨hrun, hv⟩
    · rw [hrun]; exact hgo
    · rw [hrun, Oper.uponIn_skip, ← hv]; exact hgo
  unfold evOp0 at he
  obtain ⟨dst, op, type, pos, after, guard⟩ := o
  cases op with
  | call c =>
    simp only [] at he
    split at he
    · rename_i b hb
      rw [Option.map_eq_some_iff] at he
      obtain ⟨p, hp, e⟩ := he
      obtain ⟨v, h'⟩ := p
      exact mem v h' (by simp) (opBuiltin_ok hE rfl hb hp ht hr) e.symm
    · rename_i f hf
      split at he
      · rename_i g first cap args hg hargs
        have hv := opv_ok ht hg
        have hl := opvL_ok ht hargs
        generalize hq : a.eval f = q at hv
        cases hv with
        | @func _ as cs bs ds h1 h2 =>
          rw [Oper.semAt_eq _ _ _ (by simp)]
          have hres := resolve_value (P := E.P) (ρ := a.eval) hf type w hq
          have hmap : (⟨cs⟩ : Array Value) ++ c.args.map a.eval ++ ⟨ds⟩ = ⟨cs ++ c.args.toList.map a.eval ++ ds⟩ := by apply Array.ext'; simp
          split at he
          · rename_i v h' hx
            cases he
            obtain ⟨r', v', w', k1, k2, k3⟩ := opExt_ok hE hx r w (cs ++ c.args.toList.map a.eval ++ ds) ((h1.append hl).append h2) hr
            have hrun : (execOp a.eval ⟨dst, .call c, type, pos, after, guard⟩).run E.P w = .ok (.value v') w' := by
              simp only [execOp, Sem.run_bind, hres, Result.andThen_ok, invoke, hmap]
              exact k1
            rw [hrun]
            exact hout r' v' w' k2 k3
          unfold endOut at he
          split at he
          · rename_i v h' hc
            cases he
            obtain ⟨k1, k2⟩ := callOr_ok hE hcall hc r w (cs ++ c.args.toList.map a.eval ++ ds) ((h1.append hl).append h2) hr
            have hrun : (execOp a.eval ⟨dst, .call c, type, pos, after, guard⟩).run E.P w = .ok (.enter g ⟨cs ++ c.args.toList.map a.eval ++ ds⟩) w := by
              simp only [execOp, Sem.run_bind, hres, Result.andThen_ok, invoke, hmap]
              exact k2 w
            rw [hrun, Oper.uponIn_enter]
            refine ⟨fun h => by simp [fen] at h, (callsIn_fen k1).mono fun e' w' hx => ?_⟩
            obtain ⟨r', ha, hend⟩ := hx
            cases e' with
            | returned v' => exact hout r' v' w' ha hend
            | panicked ch => exact hend.elim
            | outgrown => exact hend.elim
          · rename_i ch h' hc
            cases he
            obtain ⟨k1, k2⟩ := callOr_ok hE hcall hc r w (cs ++ c.args.toList.map a.eval ++ ds) ((h1.append hl).append h2) hr
            have hrun : (execOp a.eval ⟨dst, .call c, type, pos, after, guard⟩).run E.P w = .ok (.enter g ⟨cs ++ c.args.toList.map a.eval ++ ds⟩) w := by
              simp only [execOp, Sem.run_bind, hres, Result.andThen_ok, invoke, hmap]
              exact k2 w
            rw [hrun, Oper.uponIn_enter]
            refine ⟨fun h => by simp [fen] at h, (callsIn_fen k1).mono fun e' w' hx => ?_⟩
            obtain ⟨r', ha, hend⟩ := hx
            cases e' with
            | returned v' => exact hend.elim
            | panicked ch' => exact hout r' ch' w' ha hend
            | outgrown => exact hend.elim
          · cases he
      · rename_i l first cap args hg hargs
        have hv := opv_ok ht hg
        have hl := opvL_ok ht hargs
        generalize hq : a.eval f = q at hv
        cases hv with
        | @yield _ lc m hri =>
          unfold endOut at he
          rw [Oper.semAt_eq _ _ _ (by simp)]
          have hres := resolve_value (P := E.P) (ρ := a.eval) hf type w hq
          have hmap : (#[] : Array Value) ++ c.args.map a.eval = ⟨c.args.toList.map a.eval⟩ := by apply Array.ext'; simp
          split at he
          · rename_i v h' hc
            cases he
            obtain ⟨fn, tmps, assign, body, k1, k2⟩ := hround _ _ _ _ _ hc hE r w (c.args.toList.map a.eval) lc m hl hr hri
            have hrun : (execOp a.eval ⟨dst, .call c, type, pos, after, guard⟩).run E.P w = .ok (.round lc fn tmps assign body) w := by
              simp only [execOp, Sem.run_bind, hres, Result.andThen_ok, invoke, hmap]
              exact k1
            rw [hrun, Oper.uponIn_round]
            refine ⟨fun h => by simp [fen] at h, (k2 rdc (n - 1)).mono fun e' w' hx => ?_⟩
            obtain ⟨r', ha, hend⟩ := hx
            cases e' with
            | returned v' => exact hout r' v' w' ha hend
            | panicked ch => exact hend.elim
            | outgrown => exact hend.elim
          · rename_i ch h' hc
            cases he
            obtain ⟨fn, tmps, assign, body, k1, k2⟩ := hround _ _ _ _ _ hc hE r w (c.args.toList.map a.eval) lc m hl hr hri
            have hrun : (execOp a.eval ⟨dst, .call c, type, pos, after, guard⟩).run E.P w = .ok (.round lc fn tmps assign body) w := by
              simp only [execOp, Sem.run_bind, hres, Result.andThen_ok, invoke, hmap]
              exact k1
            rw [hrun, Oper.uponIn_round]
            refine ⟨fun h => by simp [fen] at h, (k2 rdc (n - 1)).mono fun e' w' hx => ?_⟩
            obtain ⟨r', ha, hend⟩ := hx
            cases e' with
            | returned v' => exact hend.elim
            | panicked ch' => exact hout r' ch' w' ha hend
            | outgrown => exact hend.elim
          · cases he
      · cases he
    · rename_i x name hx0
      split at he
      · rename_i t v args hv0 hargs
        split at he
        · rename_i g hg
          have hv := opv_ok ht hv0
          have hl := opvL_ok ht hargs
          generalize hq : a.eval x = q at hv
          cases hv with
          | @iface _ _ u hu =>
            rw [Oper.semAt_eq _ _ _ (by simp)]
            have hmap : (#[Value.iface t u] : Array Value) ++ c.args.map a.eval = ⟨.iface t u :: c.args.toList.map a.eval⟩ := by apply Array.ext'; simp
            have hres : (resolve a.eval c type).run E.P w = .ok { target := .fn (.method name) #[], args := ⟨.iface t u :: c.args.toList.map a.eval⟩ } w := by
              rw [← hmap]; simp [resolve, hx0, hq]
            have hrun : ∀ e0 h', callOr E rec g (v :: args) h = some (e0, h') → (execOp a.eval ⟨dst, .call c, type, pos, after, guard⟩).run E.P w = .ok (.enter g ⟨u :: c.args.toList.map a.eval⟩) w := by
              intro e0 h' hc
              obtain ⟨k1, k2⟩ := callOr_ok hE hcall hc r w (u :: c.args.toList.map a.eval) (.cons hu hl) hr
              simp only [execOp, Sem.run_bind, hres, Result.andThen_ok, run_invoke_meth hE hg]
              exact k2 w
            unfold endOut at he
            split at he
            · rename_i v h' hc
              cases he
              obtain ⟨k1, k2⟩ := callOr_ok hE hcall hc r w (u :: c.args.toList.map a.eval) (.cons hu hl) hr
              rw [hrun _ _ hc, Oper.uponIn_enter]
              refine ⟨fun h => by simp [fen] at h, (callsIn_fen k1).mono fun e' w' hx => ?_⟩
              obtain ⟨r', ha, hend⟩ := hx
              cases e' with
              | returned v' => exact hout r' v' w' ha hend
              | panicked ch => exact hend.elim
              | outgrown => exact hend.elim
            · rename_i ch h' hc
              cases he
              obtain ⟨k1, k2⟩ := callOr_ok hE hcall hc r w (u :: c.args.toList.map a.eval) (.cons hu hl) hr
              rw [hrun _ _ hc, Oper.uponIn_enter]
              refine ⟨fun h => by simp [fen] at h, (callsIn_fen k1).mono fun e' w' hx => ?_⟩
              obtain ⟨r', ha, hend⟩ := hx
              cases e' with
              | returned v' => exact hend.elim
              | panicked ch' => exact hout r' ch' w' ha hend
              | outgrown => exact hend.elim
            · cases he
        · cases he
      · cases he
  | defer c =>
    simp only [] at he
    split at he
    · rename_i f hf
      split at he
      · rename_i g first cap args hg hargs
        cases he
        cases hrd
        have hv := opv_ok ht hg
        have hl := opvL_ok ht hargs
        generalize hq : a.eval f = q at hv
        cases hv with
        | @func _ as cs bs ds h1 h2 =>
          have hres := resolve_value (P := E.P) (ρ := a.eval) hf type w hq
          have hmap : (⟨cs⟩ : Array Value) ++ c.args.map a.eval = ⟨cs ++ c.args.toList.map a.eval⟩ := by apply Array.ext'; simp
          rw [hmap] at hres
          have hrun : (Oper.semAt (fen none).round a.eval ⟨dst, .defer c, type, pos, after, guard⟩).run E.P w = .ok (.defer { target := .fn (.func g) ⟨ds⟩, args := ⟨cs ++ c.args.toList.map a.eval⟩ }) w := by
            show (execOp a.eval ⟨dst, .defer c, type, pos, after, guard⟩).run E.P w = _
            simp only [execOp, Sem.run_bind, hres, Result.andThen_ok, Sem.run_pure]
          rw [hrun, Oper.uponIn_defer]
          exact hout _ (.call h2 (h1.append hl) .nil)
      · cases he
    · cases he
  | panic x =>
    simp only [] at he
    split at he
    · rename_i t v hx
      cases he
      have hv := opv_ok ht hx
      rw [Oper.semAt_eq _ _ _ (by simp)]
      generalize hq : a.eval x = q at hv
      cases hv with
      | @iface _ _ u hc =>
        have hrun : (execOp a.eval ⟨dst, .panic x, type, pos, after, guard⟩).run E.P w = .halt (.panic (.iface t u)) w := by
          simp only [execOp, hq]
          rfl
        rw [hrun, Oper.uponIn_panic]
        exact hout r _ w (.refl hr) (.cons (.iface t hc) .nil)
    · cases he
  | _ =>
    simp only [Option.map_eq_some_iff] at he
    obtain ⟨p, hp, e⟩ := he
    obtain ⟨v, h'⟩ := p
    exact mem v h' (by simp) (opMem_ok hE hp ht hr) e.symm

theorem evOp_wp {E : Env} (hE : EnvOk E σ) {rec : Rec} (hcall : CallOk E rec.call) (hround : RoundOk E rec.round) {rd rdc : Option Nat} {tm : Tr Value} {h : Hp} {o : Oper} {out : OpOut} (he : evOp E rec rd tm h o = some out)
    {r : Ren σ} {w : World} {a : Act} (ht : TmRel r tm a.tmps) (hr : Rel r h w) (hrd : RdRel r rd rdc) {n : Nat} {next : Act → World → Prop} {Q : Exit → Act → World → Prop} (hout : OutOk E r h w o a next Q out) :
    o.wpIn (fen rdc) n E.P a w next Q := by
  unfold evOp at he
  split at he
  · rename_i x hx
    cases he
    exact evOp0_wp hE hcall hround hx ht hr hrd hout
  · split at he
    · rename_i v h1
      cases he
      unfold symOp at h1
      split at h1
      · cases h1
      · rename_i vs hvs hnd
        have hl := opvL_ok ht hvs
        obtain ⟨v', g1, g2⟩ := hE.sym o vs v h1 r a.eval w hl
        refine ⟨fen_about, ?_⟩
        rw [Oper.semAt_eq _ _ _ (fun c hc => hnd c hc), g1, Oper.uponIn_value]
        exact hout r v' w (.refl hr) g2
      · cases h1
    · unfold hookOp at he
      split at he
      · cases he
      · rename_i vs hvs hnd
        have hl := opvL_ok ht hvs
        refine ⟨fen_about, ?_⟩
        rw [Oper.semAt_eq _ _ _ (fun c hc => hnd c hc)]
        split at he
        · split at he
          · rw [Option.map_eq_some_iff] at he
            obtain ⟨v, h1, h2⟩ := he
            subst h2
            obtain ⟨v', g1, g2⟩ := hE.opr o vs h v h1 r a.eval w hl hr
            rw [g1, Oper.uponIn_value]
            exact hout r v' w (.refl hr) g2
          · cases he
        · rw [Option.map_eq_some_iff] at he
          obtain ⟨p, h1, h2⟩ := he
          obtain ⟨v, h'⟩ := p
          subst h2
          obtain ⟨r', v', w', g1, g2, g3⟩ := hE.opw o vs h v h' h1 r a.eval w hl hr
          have hgo := hout r' v' w' g2 g3
          rcases g1 with g1 | ⟨g1, g4⟩
          · rw [g1, Oper.uponIn_value]; exact hgo
          · rw [g1, Oper.uponIn_skip, ← g4]; exact hgo
      · cases he

theorem Act.put_size (a : Act) (d : Option Tmp) (v : Value) : (a.put d v).tmps.size = a.tmps.size := by
  cases d <;> simp [Act.put]

theorem put_tm {r : Ren σ} {c : Ctx} {tm tm' : Tr Value} {a : Act} {dst : Option Tmp} {v v' : Value} (ht : TmRel r tm a.tmps) (hn : a.tmps.size = c.nt) (hp : putT c.nt tm dst v = some tm') (hv : VRel r v v') : TmRel r tm' (a.put dst v').tmps := by
  unfold putT at hp
  cases dst with
  | none => cases hp; exact ht
  | some d =>
    simp only [] at hp
    split at hp
    · rename_i hlt
      cases hp
      exact ht.set hv (by rw [hn]; exact hlt)
    · cases hp

theorem DfRel.cons {r : Ren σ} {d d' : Deferred} {as cs : List Deferred} (h : DfRel r [d] [d']) (h' : DfRel r as cs) : DfRel r (d :: as) (d' :: cs) := by
  cases h with
  | call h1 h2 _ => exact .call h1 h2 h'
  | mark h1 _ => exact .mark h1 h'

/- Operations one behind the other. -/
theorem evOps_wp {E : Env} (hE : EnvOk E σ) {rec : Rec} (hcall : CallOk E rec.call) (hround : RoundOk E rec.round) {c : Ctx} {all : List Oper} {rdc : Option Nat} {n : Nat} {Q : Exit → Act → World → Prop} :
    ∀ (l : List Oper) (i : Nat) (s : St) (e : AEx) (s' : St), evOps E rec c all l s = some (e, s') → all.drop i = l → ∀ (r : Ren σ) (w : World) (a : Act), StRel r c s a w → RdRel r c.rd rdc →
      (∀ r' a' w' e', Adv r s.hp w r' s'.hp w' → StRel r' c s' a' w' → ExRel r' e e' → Q e' a' w') →
      wpOpsIn (fen rdc) n E.P ⟨all⟩ Q ((List.range' i l.length)) a w := by
  intro l
  induction l with
  | nil =>
    intro i s e s' he _ r w a hs _ hQ
    simp only [evOps, Option.some.injEq, Prod.mk.injEq] at he
    obtain ⟨rfl, rfl⟩ := he
    exact hQ r a w _ (.refl hs.rel) hs .normal
  | cons o l ih =>
    intro i s e s' he hdrop r w a hs hrd hQ
    have hoi : (⟨all⟩ : Array Oper)[i]? = some o := by
      have : (all.drop i)[0]? = some o := by rw [hdrop]; rfl
      simpa using this
    have hdrop' : all.drop (i + 1) = l := by
      rw [← List.drop_drop, hdrop]; rfl
    simp only [List.length_cons, List.range'_succ, wpOpsIn, hoi]
    simp only [evOps] at he
    split at he
    · rename_i hw
      rw [if_pos (wanted_tm hw hs.tm)]
      split at he
      · rename_i v h hop
        split at he
        · rename_i tm htm
          refine evOp_wp hE hcall hround hop hs.tm hs.rel hrd ?_
          intro r' v' w' ha hv
          refine ih (i + 1) _ e s' he hdrop' r' w' _ ⟨put_tm (hs.tm.mono ha.le) hs.nt htm hv, by rw [Act.put_size]; exact hs.nt, ?_, ha.rel⟩ (hrd.mono ha.le) ?_
          · have : (a.put o.dst v').defers = a.defers := by cases o.dst <;> rfl
            rw [this]; exact hs.df.mono ha.le
          · intro r'' a'' w'' e' ha' hs' hx
            exact hQ r'' a'' w'' e' (ha.trans ha') hs' hx
        · cases he
      · rename_i d hop
        split at he
        · rename_i tm htm
          refine evOp_wp hE hcall hround hop hs.tm hs.rel hrd ?_
          intro d' hd
          refine ih (i + 1) _ e s' he hdrop' r w _ ⟨?_, by rw [Act.put_size]; exact hs.nt, ?_, hs.rel⟩ hrd hQ
          · exact put_tm (a := { a with defers := d' :: a.defers }) hs.tm hs.nt htm (undef_rel r)
          · have : (({ a with defers := d' :: a.defers } : Act).put o.dst undef).defers = d' :: a.defers := by cases o.dst <;> rfl
            rw [this]; exact DfRel.cons hd hs.df
        · cases he
      · rename_i ch h hop
        simp only [Option.some.injEq, Prod.mk.injEq] at he
        obtain ⟨rfl, rfl⟩ := he
        refine evOp_wp hE hcall hround hop hs.tm hs.rel hrd ?_
        intro r' ch' w' ha hch
        exact hQ r' a w' _ ha ⟨hs.tm.mono ha.le, hs.nt, hs.df.mono ha.le, ha.rel⟩ (.pan hch)
      · cases he
    · rename_i hw
      rw [if_neg (by rw [wanted_tm hw hs.tm]; simp)]
      split at he
      · rename_i tm htm
        refine ⟨fen_about, ih (i + 1) _ e s' he hdrop' r w _ ⟨put_tm hs.tm hs.nt htm (undef_rel r), by rw [Act.put_size]; exact hs.nt, ?_, hs.rel⟩ hrd hQ⟩
        have : (a.put o.dst undef).defers = a.defers := by cases o.dst <;> rfl
        rw [this]; exact hs.df
      · cases he
    · cases he

end Go.Eng
