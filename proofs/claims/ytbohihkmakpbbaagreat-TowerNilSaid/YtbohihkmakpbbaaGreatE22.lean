/- The engine, part 22: control within an activation. -/
import Derived.Test.YtbohihkmakpbbaaGreatE21
import Derived.RangeFuncRecord
import Derived.RangeFuncNested
namespace Go.Eng
variable {σ : Interp}

section
variable {F : Fence} {n : Nat} {P : Program} {b : Frame} {a : Act} {k : List Item} {cs : List Frame} {w : World} {Q : Exit → Act → World → Prop}

theorem stepR_scope {c : Code} : Go.step P (lone (b.atR a (.code (.scope c) :: k)) cs w) = .next (lone (b.atR a (.code c :: .inScope c :: k)) cs w) :=
  step_lone_go (by simp [stepG, stepG.exec, Frame.atR])
theorem stepR_inScope {c : Code} : Go.step P (lone (b.atR a (.inScope c :: k)) cs w) = .next (lone (b.atR a k) cs w) :=
  step_lone_go (by simp [stepG, stepG.exec, Frame.atR])

def UnderIn (F : Fence) (n : Nat) (P : Program) (body c : Code) (Q : Exit → Act → World → Prop) (a : Act) (w : World) : Prop :=
  ∀ (b : Frame) (k : List Item) (cs : List Frame), b.roundOf = F.round → F.fn b.fn → F.room (cs.length + 1 + n) →
    ∃ e a' w', Q e a' w' ∧ ArrivesIn (Machine.fenced P F) P (lone (b.atR a (.code c :: .inScope body :: k)) cs w) b k cs e a' w'

theorem loopIn_of {c : Code} (h : c.wpIn F n P (Exit.then (LoopIn F n P c Q) Q) a w) : LoopIn F n P c Q a w := by
  intro b k cs hro hb hr
  obtain ⟨e, a₁, w₁, hq, harr⟩ := h b (.inLoop c :: k) cs hro hb hr
  cases e with
  | normal =>
    obtain ⟨e₂, a₂, w₂, hq₂, harr₂⟩ := hq b k cs hro hb hr
    exact ⟨e₂, a₂, w₂, hq₂, .of_steps (StepsIn.trans harr (.one (fenced_calm hb hr rfl) stepR_inLoop)) harr₂⟩
  | exit id => exact ⟨_, a₁, w₁, hq, .pass (x := .inLoop c) rfl (fun _ _ => .inl (by simp)) harr⟩
  | goto l => exact ⟨_, a₁, w₁, hq, .pass (x := .inLoop c) rfl (fun _ _ => .inl (by simp)) harr⟩
  | ret => exact ⟨_, a₁, w₁, hq, .pass (x := .inLoop c) rfl (fun _ _ => .inl (by simp)) harr⟩
  | panic ch => exact ⟨_, a₁, w₁, hq, .pass (x := .inLoop c) rfl (fun _ _ => .inl (by simp)) harr⟩
  | outgrown => exact ⟨_, a₁, w₁, hq, .pass (x := .inLoop c) rfl (fun _ _ => .inl (by simp)) harr⟩

theorem wpIn_loop_of {c : Code} (h : LoopIn F n P c Q a w) : (Code.loop c).wpIn F n P Q a w := fun b k cs hro hb hr =>
  let ⟨e, a', w', hq, harr⟩ := h b k cs hro hb hr; ⟨e, a', w', hq, .of_steps (.one (fenced_calm hb hr rfl) stepR_loop) harr⟩

def Exit.under (body : Code) (J : Code → Act → World → Prop) (Q : Exit → Act → World → Prop) : Exit → Act → World → Prop
  | .goto l, a, w => match findLabel body l with
    | some rest => J rest a w
    | none => Q (.goto l) a w
  | e, a, w => Q e a w

theorem underIn_of {body c : Code} (h : c.wpIn F n P (Exit.under body (fun rest => UnderIn F n P body rest Q) Q) a w) : UnderIn F n P body c Q a w := by
  intro b k cs hro hb hr
  obtain ⟨e, a₁, w₁, hq, harr⟩ := h b (.inScope body :: k) cs hro hb hr
  cases e with
  | normal => exact ⟨.normal, a₁, w₁, hq, StepsIn.trans harr (.one (fenced_calm hb hr rfl) stepR_inScope)⟩
  | exit id =>
    have hx : exitTo id (.inScope body :: k) = exitTo id k := by simp [exitTo]
    exact ⟨.exit id, a₁, w₁, hq, fun k' hk => harr.1 k' (by rw [hx]; exact hk), fun hr' hk => harr.2 hr' (by rw [hx]; exact hk)⟩
  | goto l =>
    simp only [Exit.under] at hq
    cases hf : findLabel body l with
    | some rest =>
      rw [hf] at hq
      have hx : gotoIn l (.inScope body :: k) = some (.code rest :: .inScope body :: k) := by simp [gotoIn, hf]
      obtain ⟨e₂, a₂, w₂, hq₂, harr₂⟩ := hq b k cs hro hb hr
      exact ⟨e₂, a₂, w₂, hq₂, .of_steps (harr.1 _ hx) harr₂⟩
    | none =>
      rw [hf] at hq
      have hx : gotoIn l (.inScope body :: k) = gotoIn l k := by simp [gotoIn, hf]
      exact ⟨.goto l, a₁, w₁, hq, fun k' hk => harr.1 k' (by rw [hx]; exact hk), fun hr' hk => harr.2 hr' (by rw [hx]; exact hk)⟩
  | ret => exact ⟨_, a₁, w₁, hq, harr⟩
  | panic ch => exact ⟨_, a₁, w₁, hq, harr⟩
  | outgrown => exact ⟨_, a₁, w₁, hq, harr⟩

theorem wpIn_scope_of {c : Code} (h : UnderIn F n P c c Q a w) : (Code.scope c).wpIn F n P Q a w := fun b k cs hro hb hr =>
  let ⟨e, a', w', hq, harr⟩ := h b k cs hro hb hr; ⟨e, a', w', hq, .of_steps (.one (fenced_calm hb hr rfl) stepR_scope) harr⟩

end

def LoopOk (E : Env) (f : Ctx → Code → St → Option (AEx × St)) : Prop :=
  ∀ c k s e s', f c (.loop k) s = some (e, s') → ∀ {σ : Interp}, EnvOk E σ → ∀ (r : Ren σ) (w : World) (a : Act) (rd : Option Nat) (n : Nat) (Q : Exit → Act → World → Prop), StRel r c s a w → RdRel r c.rd rd →
    (∀ r' a' w' e', Adv r s.hp w r' s'.hp w' → StRel r' c s' a' w' → ExRel r' e e' → Q e' a' w') → LoopIn (fen rd) n E.P k Q a w

def UnderOk (E : Env) (f : Ctx → Code → Code → St → Option (AEx × St)) : Prop :=
  ∀ c b k s e s', f c b k s = some (e, s') → ∀ {σ : Interp}, EnvOk E σ → ∀ (r : Ren σ) (w : World) (a : Act) (rd : Option Nat) (n : Nat) (Q : Exit → Act → World → Prop), StRel r c s a w → RdRel r c.rd rd →
    (∀ r' a' w' e', Adv r s.hp w r' s'.hp w' → StRel r' c s' a' w' → ExRel r' e e' → Q e' a' w') → UnderIn (fen rd) n E.P b k Q a w

theorem stepLoop_spec {b : Code} {s : St} {o : Oper} {os : List Oper} {rest : Code} {i m : Nat} {ls : List Value} (h : stepLoop b s = some (o, os, rest, i, m, ls)) :
    ∃ id x, b = .seq (.region id ⟨o :: os⟩ false) rest ∧ o.op = .next x false ∧ o.guard = none ∧ iterOf s.tm s.hp x = some (i, m, ls) ∧ ls ≠ [] := by
  unfold stepLoop at h
  split at h
  · rename_i id o1 os1 rest1
    split at h
    · rename_i x hop hg
      split at h
      · rename_i i1 m1 u v ls1 hit
        cases h
        exact ⟨id, x, rfl, hop, hg, hit, by simp⟩
      · cases h
    · cases h
  · cases h

theorem evCode_loop {E : Env} {rec : Rec} (hcode : CodeOk E rec.code) (hloop : LoopOk E rec.code) (hcall : CallOk E rec.call) (hround : RoundOk E rec.round) : LoopOk E (evCode E rec) := by
  intro c k s e s' he σ hE r w a rd n Q hs hrd hQ
  unfold evCode at he
  simp only [] at he
  split at he
  · rename_i x hx
    cases he
    exact hE.lp _ _ _ _ _ hx r w a rd n Q hs hrd hQ
  split at he
  · rename_i o os rest i m ls hst
    obtain ⟨id, x, rfl, hop, hgd, hit, hne⟩ := stepLoop_spec hst
    refine loopIn_of (wpIn_seq (wpIn_region ?_))
    have hoi : (⟨o :: os⟩ : Array Oper)[0]? = some o := rfl
    rw [List.range_eq_range']
    show wpOpsIn (fen rd) n E.P ⟨o :: os⟩ _ (List.range' 0 (os.length + 1)) a w
    simp only [List.range'_succ, wpOpsIn, hoi]
    rw [if_pos (by unfold Region.wanted; rw [hgd])]
    refine ⟨fen_about, ?_⟩
    rw [Oper.semAt_eq _ _ _ (by rw [hop]; simp)]
    obtain ⟨kk, v, h1, v', w1, g1, g2, g3, g4, g5⟩ := (next_ok (P := E.P) hit hs.tm hs.rel o.type).2 hne
    have hrun : (execOp a.eval o).run E.P w = .ok (.value v') w1 := by
      obtain ⟨dst, op, type, pos, after, guard⟩ := o
      simp only at hop
      subst hop
      exact run_v (s := Instr.next (a.eval x) false type) g3
    rw [hrun, Oper.uponIn_value]
    obtain ⟨p, hp, hbel⟩ := meets_ok he _ (List.mem_map.2 ⟨kk, List.mem_range.2 g1, rfl⟩)
    obtain ⟨ek, sk⟩ := p
    unfold stepTo at hp
    rw [g2] at hp
    simp only [] at hp
    have fin : ∀ r' a' w' e', Adv r s.hp w r' sk.hp w' → StRel r' c sk a' w' → ExRel r' ek e' → Q e' a' w' := by
      intro r' a' w' e' ha hst' hx
      obtain ⟨q1, q2⟩ := hbel.st r' c a' w' hst'
      have he' : ek = e := hbel.e
      subst he'
      exact hQ r' a' w' e' ⟨q1.rel, ha.le, Nat.le_trans ha.nx hbel.nx, ha.size, ha.keep, fun b hb => ha.orig b (q2 b hb), ha.os, ha.output, ha.old⟩ q1 hx
    split at hp
    · rename_i tm htm
      have hst1 : StRel r c { s with tm, hp := h1 } (a.put o.dst v') w1 := ⟨put_tm hs.tm hs.nt htm g5, by rw [Act.put_size]; exact hs.nt, by rw [show (a.put o.dst v').defers = a.defers from by cases o.dst <;> rfl]; exact hs.df, g4.rel⟩
      split at hp
      · rename_i s1 hops
        refine evOps_wp hE hcall hround (n := n) (rdc := rd) os 1 _ .normal s1 hops rfl r w1 _ hst1 hrd (fun r2 a2 w2 e2 ha2 hs2 hx2 => ?_)
        cases hx2
        cases hc : rec.code c rest s1 with
        | none => rw [hc] at hp; cases hp
        | some q =>
          obtain ⟨e3, s3⟩ := q
          rw [hc] at hp
          refine hcode c rest s1 e3 s3 hc hE r2 w2 a2 rd n _ hs2 (hrd.mono ha2.le) (fun r4 a4 w4 e4 ha4 hs4 hx4 => ?_)
          have hadv : Adv r s.hp w r4 s3.hp w4 := (g4.trans ha2).trans ha4
          cases hx4 with
          | normal => exact hloop c _ s3 ek sk hp hE r4 w4 a4 rd n Q hs4 (hrd.mono (Ren.le_trans ha2.le ha4.le)) (fun r5 a5 w5 e5 ha5 hs5 hx5 => fin r5 a5 w5 e5 (hadv.trans ha5) hs5 hx5)
          | exit id => cases hp; exact fin r4 a4 w4 _ hadv hs4 (.exit id)
          | goto l => cases hp; exact fin r4 a4 w4 _ hadv hs4 (.goto l)
          | ret => cases hp; exact fin r4 a4 w4 _ hadv hs4 .ret
          | pan h => cases hp; exact fin r4 a4 w4 _ hadv hs4 (.pan h)
      · cases hp
    · cases hp
  refine loopIn_of ?_
  cases hc : rec.code c k s with
  | none => rw [hc] at he; cases he
  | some p =>
    obtain ⟨e1, s1⟩ := p
    rw [hc] at he
    refine hcode c k s e1 s1 hc hE r w a rd n _ hs hrd (fun r' a' w' e' ha hst hx => ?_)
    cases hx with
    | normal => exact hloop c k s1 e s' he hE r' w' a' rd n Q hst (hrd.mono ha.le) (fun r2 a2 w2 e2 ha2 hst2 hx2 => hQ r2 a2 w2 e2 (ha.trans ha2) hst2 hx2)
    | exit id => cases he; exact hQ r' a' w' _ ha hst (.exit id)
    | goto l => cases he; exact hQ r' a' w' _ ha hst (.goto l)
    | ret => cases he; exact hQ r' a' w' _ ha hst .ret
    | pan h => cases he; exact hQ r' a' w' _ ha hst (.pan h)

theorem evUnder_ok {E : Env} {rec : Rec} (hcode : CodeOk E rec.code) (hunder : UnderOk E rec.under) : UnderOk E (evUnder rec) := by
  intro c b k s e s' he σ hE r w a rd n Q hs hrd hQ
  unfold evUnder at he
  refine underIn_of ?_
  cases hc : rec.code c k s with
  | none => rw [hc] at he; cases he
  | some p =>
    obtain ⟨e1, s1⟩ := p
    rw [hc] at he
    refine hcode c k s e1 s1 hc hE r w a rd n _ hs hrd (fun r' a' w' e' ha hst hx => ?_)
    cases hx with
    | normal => cases he; exact hQ r' a' w' _ ha hst .normal
    | exit id => cases he; exact hQ r' a' w' _ ha hst (.exit id)
    | goto l =>
      simp only [Exit.under] at he ⊢
      cases hf : findLabel b l with
      | some rest =>
        rw [hf] at he
        exact hunder c b rest s1 e s' he hE r' w' a' rd n Q hst (hrd.mono ha.le) (fun r2 a2 w2 e2 ha2 hst2 hx2 => hQ r2 a2 w2 e2 (ha.trans ha2) hst2 hx2)
      | none => rw [hf] at he; cases he; exact hQ r' a' w' _ ha hst (.goto l)
    | ret => cases he; exact hQ r' a' w' _ ha hst .ret
    | pan h => cases he; exact hQ r' a' w' _ ha hst (.pan h)

theorem DfRel.append {r : Ren σ} {as cs bs ds : List Deferred} (h : DfRel r as cs) (h' : DfRel r bs ds) : DfRel r (as ++ bs) (cs ++ ds) := by
  induction h with
  | nil => exact h'
  | call g1 g2 _ ih => exact .call g1 g2 ih
  | mark g1 _ ih => exact .mark g1 ih

theorem live_loop {r : Ren σ} {h : Hp} {w : World} (hr : Rel r h w) {i c m : Nat} {l : ALoop} (hi : h.get i = some (.loop l)) (hc : r i = some (c, m)) : ∃ l' : Loop, w.heap[c]? = some (.loop l') ∧ LoopRel r l l' := by
  obtain ⟨c', m', obj, h1, h2, h3⟩ := hr.live i _ hi
  rw [hc] at h1
  cases h1
  cases obj <;> simp only [ObjRel] at h3
  exact ⟨_, h2, h3⟩

theorem Adv.loop {r : Ren σ} {h : Hp} {w : World} (hr : Rel r h w) {i c m : Nat} {l l2 : ALoop} {x : Loop} (hi : h.get i = some (.loop l)) (hc : r i = some (c, m)) (hx : LoopRel r l2 x) :
    Adv r h w r (h.put i (.loop l2)) (w.putObj c (.loop x)) := by
  obtain ⟨c', m', obj, h1, h2, _⟩ := hr.live i _ hi
  rw [hc] at h1
  cases h1
  exact Adv.put hr hi hc (World.putObj_heap_same (Array.getElem?_eq_some_iff.1 h2).1) (fun d hd => World.putObj_heap_other hd) World.putObj_size hx rfl rfl

theorem evRange_ok {E : Env} (hE : EnvOk E σ) {rec : Rec} (hcode : CodeOk E rec.code) (hcall : CallOk E rec.call) {c : Ctx} {f : Operand} {params : Array Tmp} {assign body : Code} {s : St} {e : AEx} {s' : St}
    (he : evCode E rec c (.rangeFunc f params assign body) s = some (e, s')) {r : Ren σ} {w : World} {a : Act} {rd : Option Nat} {n : Nat} {Q : Exit → Act → World → Prop} (hs : StRel r c s a w) (hrd : RdRel r c.rd rd)
    (hQ : ∀ r' a' w' e', Adv r s.hp w r' s'.hp w' → StRel r' c s' a' w' → ExRel r' e e' → Q e' a' w') : (Code.rangeFunc f params assign body).wpIn (fen rd) n E.P Q a w := by
  unfold evCode at he
  simp only [] at he
  split at he
  · rename_i g first cap hf
    have hv := opv_ok hs.tm hf
    generalize hq : a.eval f = q at hv
    cases hv with
    | @func _ as cs bs ds hfirst hcap =>
      split at he
      · rename_i h1 db mark hstart
        refine wpIn_rangeFunc fun fn _ => ?_
        obtain ⟨r1, w1, dc, dm, mark', hen, hadv, hdb, hmark⟩ : ∃ (r1 : Ren σ) (w1 : World) (dc dm : Nat) (mark' : List Deferred),
            (Instr.enterLoop fn a.tmps params assign body (fen rd).round).run E.P w = .ok (w1.heap.size, mark') (w1.alloc (.loop { state := .ready, pending := none, fn, tmps := a.tmps, params, assign, body, defers := dc })) ∧
            Adv r s.hp w r1 h1 w1 ∧ r1 db = some (dc, dm) ∧ DfRel r1 mark mark' := by
          split at hstart
          · rename_i hcr
            rw [hcr] at hrd
            cases hrd
            simp only [Option.some.injEq, Prod.mk.injEq] at hstart
            obtain ⟨rfl, rfl, rfl⟩ := hstart
            have ha := Adv.new hs.rel (.defs false) 0 (.deferred (some [])) trivial
            have hself : r.add s.hp.nx (w.heap.size, 0) s.hp.nx = some (w.heap.size, 0) := by simp [Ren.add]
            refine ⟨_, w.alloc (.deferred (some [])), w.heap.size, 0, _, ?_, ha, hself, .mark hself .nil⟩
            have := run_enterLoop_outer (P := E.P) (w := w) fn a.tmps params assign body
            rw [World.size_alloc]
            exact this
          · rename_i l hcr
            split at hstart
            · rename_i r0 hl
              rw [hcr] at hrd
              cases hrd with
              | @some _ lc m hri =>
                simp only [Option.some.injEq, Prod.mk.injEq] at hstart
                obtain ⟨rfl, rfl, rfl⟩ := hstart
                obtain ⟨x, hx, hrel⟩ := live_loop hs.rel hl hri
                obtain ⟨m', hm'⟩ := hrel.defers
                exact ⟨r, w, x.defers, m', [], run_enterLoop_inner hx fn a.tmps params assign body, .refl hs.rel, hm', .nil⟩
            · cases hstart
        have hnx1 : r1 h1.nx = none := hadv.rel.nx_none
        have hle2 : r1.le (r1.add h1.nx (w1.heap.size, 0)) := Ren.le_add hnx1
        have hself : r1.add h1.nx (w1.heap.size, 0) h1.nx = some (w1.heap.size, 0) := by simp [Ren.add]
        have htm1 : TmRel (r1.add h1.nx (w1.heap.size, 0)) s.tm a.tmps := (hs.tm.mono hadv.le).mono hle2
        have hadv2 := Adv.new hadv.rel (.loop ⟨.ready, none, c.nt, s.tm, params, assign, body, db⟩) 0 (.loop { state := .ready, pending := none, fn, tmps := a.tmps, params, assign, body, defers := dc })
          ⟨rfl, rfl, hs.nt, htm1, rfl, rfl, rfl, dm, hle2 _ _ hdb⟩
        have hres := resolve_value (P := E.P) (ρ := a.eval) (c := rangeCall f w1.heap.size) rfl 0 (w1.alloc (.loop { state := .ready, pending := none, fn, tmps := a.tmps, params, assign, body, defers := dc })) hq
        have hle12 : r.le (r1.add h1.nx (w1.heap.size, 0)) := Ren.le_trans hadv.le hle2
        have hargs : VRels (r1.add h1.nx (w1.heap.size, 0)) (as ++ [.func (.yield h1.nx) #[] #[]] ++ bs) (cs ++ [.func (.yield w1.heap.size) #[] #[]] ++ ds) :=
          ((hfirst.mono hle12).append (.cons (.yield hself) .nil)).append (hcap.mono hle12)
        have hmap : (⟨cs⟩ : Array Value) ++ (rangeCall f w1.heap.size).args.map a.eval ++ (⟨ds⟩ : Array Value) = ⟨cs ++ [.func (.yield w1.heap.size) #[] #[]] ++ ds⟩ := by
          apply Array.ext'; simp [Act.eval]
        have fin : ∀ (e0 : End) (h2 : Hp), callOr E rec g (as ++ [.func (.yield h1.nx) #[] #[]] ++ bs) (h1.new (.loop ⟨.ready, none, c.nt, s.tm, params, assign, body, db⟩)) = some (e0, h2) →
            (∀ r3 e1 w3, Adv r s.hp w r3 h2 w3 → (r1.add h1.nx (w1.heap.size, 0)).le r3 → EndRel r3 e0 e1 → rangePost (fen rd) n E.P w1.heap.size Q { a with defers := mark' ++ a.defers } e1 w3) →
            ∃ (l : Nat) (mark : List Deferred) (w₁ : World) (d : Deferred) (w₁' : World) (f1 : FuncId) (args : Array Value) (w₂ : World),
              (Instr.enterLoop fn a.tmps params assign body (fen rd).round).run E.P w = .ok (l, mark) w₁ ∧ (resolve a.eval (rangeCall f l) 0).run E.P w₁ = .ok d w₁' ∧
              (∀ f', Target.leads E.P w₁' d.target d.args = some f' → (fen rd).fn f') ∧ (invoke d.target d.args).run E.P w₁' = .ok (.enter f1 args) w₂ ∧ ((fen rd).depth.isSome = true → 1 ≤ n) ∧
              CallsIn (fen rd) (n - 1) E.P f1 args w₂ (rangePost (fen rd) n E.P l Q { a with defers := mark ++ a.defers }) := by
          intro e0 h2 hc hpost
          obtain ⟨k1, k2⟩ := callOr_ok hE hcall hc _ _ _ hargs hadv2.rel
          refine ⟨_, _, _, _, _, g, _, _, hen, hres, fun _ _ => trivial, ?_, fun h => by simp [fen] at h, (callsIn_fen k1).mono fun e1 w3 hx => ?_⟩
          · simp only [invoke, hmap]
            exact k2 _
          · obtain ⟨r3, ha3, hend⟩ := hx
            exact hpost r3 e1 w3 ((hadv.trans hadv2).trans ha3) ha3.le hend
        have hdf : ∀ r3, (r1.add h1.nx (w1.heap.size, 0)).le r3 → DfRel r3 (mark ++ s.df) (mark' ++ a.defers) := by
          intro r3 hle3
          exact (hmark.mono (Ren.le_trans hle2 hle3)).append (hs.df.mono (Ren.le_trans hle12 hle3))
        split at he
        · rename_i v h2 hc
          refine fin _ _ hc fun r3 e1 w3 ha3 hle3 hend => ?_
          cases e1 with
          | panicked ch => exact hend.elim
          | outgrown => exact hend.elim
          | returned v' =>
            split at he
            · rename_i rr hl
              have hrl : r3 h1.nx = some (w1.heap.size, 0) := hle3 _ _ hself
              obtain ⟨x, hx, hrel⟩ := live_loop ha3.rel hl hrl
              split at he
              · cases he
              · rename_i hbusy
                have ha4 : Adv r3 h2 w3 r3 (h2.put h1.nx (.loop { rr with state := .exhausted })) (w3.putObj w1.heap.size (.loop { x with state := .exhausted })) :=
                  Adv.loop ha3.rel hl hrl ⟨rfl, hrel.pending, hrel.nt, hrel.tmps, hrel.params, hrel.assign, hrel.body, hrel.defers⟩
                have hst : StRel r3 c { s with df := mark ++ s.df, hp := h2.put h1.nx (.loop { rr with state := .exhausted }) } { a with defers := mark' ++ a.defers } (w3.putObj w1.heap.size (.loop { x with state := .exhausted })) :=
                  ⟨hs.tm.mono (Ren.le_trans hle12 hle3), hs.nt, hdf r3 hle3, ha4.rel⟩
                have hrun := run_endLoop (P := E.P) hx (by rw [hrel.state]; exact hbusy)
                have hpe := hrel.pending
                generalize w3.putObj w1.heap.size (.loop { x with state := .exhausted }) = w4 at ha4 hst hrun
                refine ⟨x.pending, w4, hrun, ?_⟩
                rw [hpe]
                split at he
                · rename_i hp
                  rw [hp]
                  cases he
                  exact hQ r3 _ _ _ (ha3.trans ha4) hst .normal
                · rename_i j hp
                  rw [hp]
                  exact hcode _ _ _ _ _ he hE r3 _ _ rd n Q hst (hrd.mono (Ren.le_trans hle12 hle3)) (fun r5 a5 w5 e5 ha5 hst5 hx5 => hQ r5 a5 w5 e5 ((ha3.trans ha4).trans ha5) hst5 hx5)
            · cases he
        · rename_i ch h2 hc
          cases he
          refine fin _ _ hc fun r3 e1 w3 ha3 hle3 hend => ?_
          cases e1 with
          | returned v => exact hend.elim
          | outgrown => exact hend.elim
          | panicked ch' => exact hQ r3 _ w3 _ ha3 ⟨hs.tm.mono (Ren.le_trans hle12 hle3), hs.nt, hdf r3 hle3, ha3.rel⟩ (.pan hend)
        · cases he
      · cases he
  · cases he

theorem evCode_ok {E : Env} {rec : Rec} (hcode : CodeOk E rec.code) (hloop : LoopOk E rec.code) (hunder : UnderOk E rec.under) (hcall : CallOk E rec.call) (hround : RoundOk E rec.round) : CodeOk E (evCode E rec) := by
  intro c k s e s' he σ hE r w a rd n Q hs hrd hQ
  cases k with
  | skip => unfold evCode at he; cases he; exact wpIn_skip (hQ r a w _ (.refl hs.rel) hs .normal)
  | label l => unfold evCode at he; cases he; exact wpIn_label (hQ r a w _ (.refl hs.rel) hs .normal)
  | region id ops draw =>
    obtain ⟨ops⟩ := ops
    unfold evCode at he
    simp only [] at he
    split at he
    · rename_i hd
      subst hd
      exact evRegionDraw_ok hE hcall hround he hs hrd hQ
    · rename_i hd
      have : draw = false := by simpa using hd
      subst this
      refine wpIn_region ?_
      have := evOps_wp hE hcall hround (n := n) (rdc := rd) (Q := Q) ops 0 s e s' he rfl r w a hs hrd hQ
      rw [← List.range_eq_range'] at this
      exact this
  | seq x y =>
    unfold evCode at he
    simp only [] at he
    refine wpIn_seq ?_
    cases hc : rec.code c x s with
    | none => rw [hc] at he; cases he
    | some p =>
      obtain ⟨e1, s1⟩ := p
      rw [hc] at he
      refine hcode c x s e1 s1 hc hE r w a rd n _ hs hrd (fun r' a' w' e' ha hst hx => ?_)
      cases hx with
      | normal => exact hcode c y s1 e s' he hE r' w' a' rd n Q hst (hrd.mono ha.le) (fun r2 a2 w2 e2 ha2 hst2 hx2 => hQ r2 a2 w2 e2 (ha.trans ha2) hst2 hx2)
      | exit id => cases he; exact hQ r' a' w' _ ha hst (.exit id)
      | goto l => cases he; exact hQ r' a' w' _ ha hst (.goto l)
      | ret => cases he; exact hQ r' a' w' _ ha hst .ret
      | pan h => cases he; exact hQ r' a' w' _ ha hst (.pan h)
  | cond x p q =>
    unfold evCode at he
    simp only [] at he
    split at he
    · rename_i b hb
      have hv := opv_ok hs.tm hb
      generalize hq : a.eval x = u at hv
      cases hv
      exact wpIn_cond hq (hcode _ _ _ _ _ he hE r w a rd n Q hs hrd hQ)
    · cases he
  | block id b =>
    unfold evCode at he
    simp only [] at he
    refine wpIn_block ?_
    cases hc : rec.code c b s with
    | none => rw [hc] at he; cases he
    | some p =>
      obtain ⟨e1, s1⟩ := p
      rw [hc] at he
      refine hcode c b s e1 s1 hc hE r w a rd n _ hs hrd (fun r' a' w' e' ha hst hx => ?_)
      cases hx with
      | normal => cases he; exact hQ r' a' w' _ ha hst .normal
      | exit id' =>
        simp only [Exit.inBlock]
        simp only [] at he
        split at he
        · rename_i h1
          rw [if_pos h1]
          cases he; exact hQ r' a' w' _ ha hst .normal
        · rename_i h1
          rw [if_neg h1]
          cases he; exact hQ r' a' w' _ ha hst (.exit id')
      | goto l => cases he; exact hQ r' a' w' _ ha hst (.goto l)
      | ret => cases he; exact hQ r' a' w' _ ha hst .ret
      | pan h => cases he; exact hQ r' a' w' _ ha hst (.pan h)
  | loop b => exact wpIn_loop_of (evCode_loop hcode hloop hcall hround c b s e s' he hE r w a rd n Q hs hrd hQ)
  | scope b =>
    unfold evCode at he
    exact wpIn_scope_of (hunder c b b s e s' he hE r w a rd n Q hs hrd hQ)
  | exit id => unfold evCode at he; cases he; exact wpIn_exit (hQ r a w _ (.refl hs.rel) hs (.exit id))
  | goto l => unfold evCode at he; cases he; exact wpIn_goto (hQ r a w _ (.refl hs.rel) hs (.goto l))
  | ret => unfold evCode at he; cases he; exact wpIn_ret (hQ r a w _ (.refl hs.rel) hs .ret)
  | rangeFunc f params assign body => exact evRange_ok hE hcode hcall he hs hrd hQ
  | refuse x => unfold evCode at he; cases he

end Go.Eng
