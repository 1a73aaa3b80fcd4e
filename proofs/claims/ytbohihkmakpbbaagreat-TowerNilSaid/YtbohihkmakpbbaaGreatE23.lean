/- The engine, part 23: calls, deferred calls, rounds; the whole evaluator. -/
import Derived.Test.YtbohihkmakpbbaaGreatE22
import Derived.RecoverIn
namespace Go.Eng
variable {σ : Interp}

inductive CMRel (r : Ren σ) : CM → FrameMode → Prop
  | ret : CMRel r .ret .returning
  | pan {ch : List (Value × Bool)} {ch' : List PanicEntry} : ChRel r ch ch' → CMRel r (.pan ch) (.panicking ch')

theorem CMRel.mono {r s : Ren σ} (h : r.le s) {u : CM} {m : FrameMode} (hu : CMRel r u m) : CMRel s u m := by
  cases hu with
  | ret => exact .ret
  | pan h1 => exact .pan (h1.mono h)

theorem ChRel.noexit {r : Ren σ} {as : List (Value × Bool)} {cs : List PanicEntry} (h : ChRel r as cs) : cs.dropWhile (!·.goexit) = [] := by
  induction h with
  | nil => rfl
  | cons _ _ ih => simpa [List.dropWhile_cons] using ih

theorem ChRel.append {r : Ren σ} {as bs : List (Value × Bool)} {cs ds : List PanicEntry} (h : ChRel r as cs) (h' : ChRel r bs ds) : ChRel r (as ++ bs) (cs ++ ds) := by
  induction h with
  | nil => exact h'
  | cons h1 _ ih => exact .cons h1 ih

theorem CMRel.settle {r : Ren σ} {u : CM} {m : FrameMode} (h : CMRel r u m) : CMRel r (settleA u) (Go.settle m) := by
  cases h with
  | ret => exact .ret
  | pan h1 =>
    cases h1 with
    | nil => exact .pan .nil
    | @cons v v' b as cs h2 h3 =>
      cases b with
      | true =>
        show CMRel r .ret (match cs.dropWhile (!·.goexit) with | [] => .returning | rest => .panicking rest)
        rw [h3.noexit]
        exact .ret
      | false => exact .pan (.cons h2 h3)

theorem CMRel.raised {r : Ren σ} {u : CM} {m : FrameMode} (h : CMRel r u m) {ch : List (Value × Bool)} {ch' : List PanicEntry} (hc : ChRel r ch ch') : CMRel r (raisedA u ch) (Go.raised m ch') := by
  cases h with
  | ret => exact .pan hc
  | pan h1 => exact .pan (hc.append h1)

theorem CMRel.run {r : Ren σ} {u : CM} {m : FrameMode} (h : CMRel r u m) : m ≠ .run := by
  cases h <;> simp

def CallDOk (E : Env) (f : FuncId → List Value → CM → Hp → Option (End × CM × Hp)) : Prop :=
  ∀ g args u h e u2 h', f g args u h = some (e, u2, h') → ∀ {σ : Interp}, EnvOk E σ → ∀ (r : Ren σ) (w : World) (args' : List Value) (m : FrameMode) (n : Nat), VRels r args args' → Rel r h w → CMRel r u m →
    CallsDIn (fen none) n E.P g ⟨args'⟩ m w (fun e' m2 w' => ∃ r', Adv r h w r' h' w' ∧ EndRel r' e e' ∧ CMRel r' u2 m2) ∧ ∀ w, (callFunc g ⟨args'⟩).run E.P w = .ok (.enter g ⟨args'⟩) w

def resF (tmps : Array Value) : ResultVar → Sem Value
  | .tmp t => pure (tmps.getD t undef)
  | .cell x t => do loadVar t (← asAddr (tmps.getD x undef))

theorem results_eq (fn : Func) (tmps : Array Value) : results fn tmps = (do
    let vs ← fn.results.mapM (resF tmps)
    pure (if h : vs.size = 1 then vs[0] else .tuple vs)) := by
  unfold results
  have : (fun x => match x with | ResultVar.tmp t => (pure (tmps.getD t undef) : Sem Value) | .cell x t => do loadVar t (← asAddr (tmps.getD x undef))) = resF tmps := by
    funext x; cases x <;> rfl
  rw [← this]
  rfl

theorem evResults_ok {E : Env} (hE : EnvOk E σ) {h : Hp} {tm : Tr Value} {r : Ren σ} {w : World} {a : Act} (ht : TmRel r tm a.tmps) (hr : Rel r h w) : ∀ (rs : List ResultVar) (vs : List Value), evResults E h tm rs = some vs →
    ∃ vs', (rs.mapM (resF a.tmps)).run E.P w = .ok vs' w ∧ VRels r vs vs' := by
  intro rs
  induction rs with
  | nil => intro vs he; cases he; exact ⟨[], rfl, .nil⟩
  | cons x rs ih =>
    intro vs he
    cases x with
    | tmp t =>
      simp only [evResults] at he
      split at he
      · rename_i v l hv hl
        cases he
        obtain ⟨vs', h1, h2⟩ := ih l hl
        obtain ⟨v', g1, g2⟩ := ht t v hv
        refine ⟨v' :: vs', ?_, .cons g2 h2⟩
        have g3 : (resF a.tmps (.tmp t)).run E.P w = .ok v' w := by simp [resF, g1]
        rw [List.mapM_cons]
        simp only [Sem.run_bind, g3, Sem.run_pure, Result.andThen_ok, h1]
      · cases he
    | cell x t =>
      simp only [evResults] at he
      split at he
      · rename_i v l hv hl
        cases he
        obtain ⟨vs', h1, h2⟩ := ih l hl
        obtain ⟨v', g1, g2⟩ := opLoad_ok hE hv ht hr
        refine ⟨v' :: vs', ?_, .cons g2 h2⟩
        rw [List.mapM_cons]
        have g1' : (resF a.tmps (.cell x t)).run E.P w = .ok v' w := by
          have hx : ∃ ad, a.eval (.tmp x) = .pointer (some ad) := by
            unfold opLoad at hv
            split at hv
            · rename_i i o hx
              have hv := opv_ok ht hx
              generalize a.eval (.tmp x) = y at hv
              cases hv
              exact ⟨_, rfl⟩
            · cases hv
          obtain ⟨ad, hx⟩ := hx
          rw [hx] at g1
          have hx' : a.tmps.getD x undef = .pointer (some ad) := hx
          simp only [resF, hx', asAddr]
          simpa only [Instr.loadAt, Instr.sureAddr] using g1
        simp only [Sem.run_bind, g1', Sem.run_pure, Result.andThen_ok, h1]
      · cases he

theorem results_ok {E : Env} (hE : EnvOk E σ) {h : Hp} {tm : Tr Value} {r : Ren σ} {w : World} {a : Act} (ht : TmRel r tm a.tmps) (hr : Rel r h w) {fn : Func} {vs : List Value} (he : evResults E h tm fn.results.toList = some vs) :
    ∃ v', (results fn a.tmps).run E.P w = .ok v' w ∧ VRel r (oneOf vs) v' := by
  obtain ⟨vs', h1, h2⟩ := evResults_ok hE ht hr _ _ he
  have hm : (fn.results.mapM (resF a.tmps)).run E.P w = .ok ⟨vs'⟩ w := by
    rw [Array.mapM_eq_mapM_toList, Sem.run_map, h1]
    rfl
  refine ⟨if h : (⟨vs'⟩ : Array Value).size = 1 then (⟨vs'⟩ : Array Value)[0] else .tuple ⟨vs'⟩, ?_, ?_⟩
  · rw [results_eq, Sem.run_bind, hm]
    rfl
  · cases h2 with
    | nil => exact .tuple .nil
    | cons g1 g2 =>
      cases g2 with
      | nil => exact g1
      | cons g2 g3 => exact .tuple (.cons g1 (.cons g2 g3))

theorem evLeave_ok {E : Env} (hE : EnvOk E σ) {rec : Rec} (hcallD : CallDOk E rec.callD) {fn : Func} {tm : Tr Value} {n : Nat} : ∀ (ds : List Deferred) (u : CM) (h : Hp) (e : End) (h' : Hp), evLeave E rec fn tm ds u h = some (e, h') →
    ∀ (r : Ren σ) (w : World) (ds' : List Deferred) (m : FrameMode) (a : Act) (R : Ending → World → Prop), DfRel r ds ds' → CMRel r u m → TmRel r tm a.tmps → Rel r h w →
      (∀ r' w' e', Adv r h w r' h' w' → EndRel r' e e' → R e' w') → LeavesInM (fen none) n E.P fn a.tmps R ds' m w := by
  intro ds
  induction ds with
  | nil =>
    intro u h e h' he r w ds' m a R hd hu ht hr hR
    cases hd
    cases hu with
    | ret =>
      simp only [evLeave, Option.map_eq_some_iff] at he
      obtain ⟨vs, h1, h2⟩ := he
      cases h2
      obtain ⟨v', g1, g2⟩ := results_ok hE ht hr h1
      exact ⟨v', g1, hR r w (.returned v') (.refl hr) g2⟩
    | pan hc =>
      simp only [evLeave] at he
      cases he
      exact hR r w (.panicked _) (.refl hr) hc
  | cons d ds ih =>
    intro u h e h' he r w ds' m a R hd hu ht hr hR
    cases hd with
    | @call f p p' q q' _ cs h1 h2 h3 =>
      simp only [evLeave] at he
      refine ⟨hu.run, .inr ⟨fun h => by simp [fen] at h, .func f, ⟨p'⟩, f, ⟨q' ++ p'⟩, rfl, ?_⟩⟩
      have step : ∀ e1 u1 h1', rec.callD f (q ++ p) u h = some (e1, u1, h1') →
          (∀ r1 w1 m1, Adv r h w r1 h1' w1 → CMRel r1 u1 m1 → ∀ e1', EndRel r1 e1 e1' → (match e1' with
            | .returned _ => LeavesInM (fen none) n E.P fn a.tmps R cs (Go.settle m1) w1
            | .panicked chain => LeavesInM (fen none) n E.P fn a.tmps R cs (Go.raised m1 chain) w1
            | .outgrown => R .outgrown w1)) →
          (invoke (.fn (.func f) ⟨p'⟩) ⟨q'⟩).run E.P w = .ok (.enter f ⟨q' ++ p'⟩) w ∧ (∀ g, Target.leads E.P w (.fn (.func f) ⟨p'⟩) ⟨q'⟩ = some g → (fen none).fn g) ∧
          CallsDIn (fen none) (n - 1) E.P f ⟨q' ++ p'⟩ m w fun
            | .returned _, u', w' => LeavesInM (fen none) n E.P fn a.tmps R cs (Go.settle u') w'
            | .panicked chain, u', w' => LeavesInM (fen none) n E.P fn a.tmps R cs (Go.raised u' chain) w'
            | .outgrown, _, w' => R .outgrown w' := by
        intro e1 u1 h1' hc hk
        obtain ⟨k1, k2⟩ := hcallD _ _ _ _ _ _ _ hc hE r w (q' ++ p') m (n - 1) (h2.append h1) hr hu
        refine ⟨?_, fun _ _ => trivial, k1.1, fun c0 cs0 hm hroom => ?_⟩
        · have : (⟨q'⟩ : Array Value) ++ (⟨p'⟩ : Array Value) = ⟨q' ++ p'⟩ := by apply Array.ext'; simp
          simp only [invoke, this]
          exact k2 w
        · obtain ⟨e1', m1, w1, fr, ⟨r1, g1, g2, g3⟩, g4⟩ := k1.2 c0 cs0 hm hroom
          refine ⟨e1', m1, w1, fr, ?_, g4⟩
          have := hk r1 w1 m1 g1 g3 e1' g2
          cases e1' <;> exact this
      split at he
      · rename_i v u1 h1' hc
        refine step _ _ _ hc fun r1 w1 m1 ha hm1 e1' hend => ?_
        cases e1' with
        | panicked ch => exact hend.elim
        | outgrown => exact hend.elim
        | returned v' => exact ih _ _ _ _ he r1 w1 cs _ a R (h3.mono ha.le) hm1.settle (ht.mono ha.le) ha.rel (fun r2 w2 e2 ha2 he2 => hR r2 w2 e2 (ha.trans ha2) he2)
      · rename_i ch u1 h1' hc
        refine step _ _ _ hc fun r1 w1 m1 ha hm1 e1' hend => ?_
        cases e1' with
        | returned v => exact hend.elim
        | outgrown => exact hend.elim
        | panicked ch' => exact ih _ _ _ _ he r1 w1 cs _ a R (h3.mono ha.le) (hm1.raised hend) (ht.mono ha.le) ha.rel (fun r2 w2 e2 ha2 he2 => hR r2 w2 e2 (ha.trans ha2) he2)
      · cases he
    | @mark i c mm _ cs hi h3 =>
      simp only [evLeave] at he
      split at he
      · rename_i hg
        obtain ⟨c', m', obj, g1, g2, g3⟩ := hr.live i _ hg
        rw [hi] at g1
        cases g1
        have hobj : obj = .deferred (some []) := by
          cases obj <;> simp only [ObjRel] at g3
          rename_i calls
          cases calls with
          | none => exact g3.elim
          | some l => cases l with
            | nil => rfl
            | cons => exact g3.elim
        subst hobj
        have hput : Adv r h w r (h.put i (.defs true)) (w.putObj c (.deferred none)) :=
          Adv.put hr hg hi (World.putObj_heap_same (Array.getElem?_eq_some_iff.1 g2).1) (fun d hd => World.putObj_heap_other hd) World.putObj_size trivial rfl rfl
        exact ⟨hu.run, .inl ⟨c, _, rfl, run_takeDeferred g2, ih _ _ _ _ he r _ cs m a R h3 hu ht hput.rel (fun r2 w2 e2 ha2 he2 => hR r2 w2 e2 (hput.trans ha2) he2)⟩⟩
      · cases he

theorem setArgs_ok {r : Ren σ} : ∀ (as cs : List Value) (i : Nat) (tm : Tr Value) (tmps : Array Value), VRels r as cs → TmRel r tm tmps → (∀ j v, cs[j]? = some v → tmps[i + j]? = some v) → TmRel r (setArgs as i tm) tmps := by
  intro as
  induction as with
  | nil => intro cs i tm tmps h ht _; exact ht
  | cons v as ih =>
    intro cs i tm tmps h ht hg
    cases h with
    | @cons _ c _ cs h1 h2 =>
      refine ih cs (i + 1) _ tmps h2 ?_ (fun j u hu => by rw [show i + 1 + j = i + (j + 1) from by omega]; exact hg (j + 1) u (by simpa using hu))
      intro t u hu
      rw [Tr.get_set] at hu
      split at hu
      · rename_i e
        cases hu
        subst e
        exact ⟨c, hg 0 c rfl, h1⟩
      · exact ht t u hu

theorem start_ok {r : Ren σ} {as cs : List Value} (h : VRels r as cs) {nt : Nat} (hn : as.length ≤ nt) : TmRel r (setArgs as 0 .leaf) ((⟨cs⟩ : Array Value) ++ Array.replicate (nt - (⟨cs⟩ : Array Value).size) undef) ∧
    ((⟨cs⟩ : Array Value) ++ Array.replicate (nt - (⟨cs⟩ : Array Value).size) undef).size = nt := by
  have hl := h.length
  refine ⟨setArgs_ok as cs 0 .leaf _ h (fun t v hv => by simp [Tr.get_leaf] at hv) (fun j v hv => ?_), by simp; omega⟩
  rw [Nat.zero_add, Array.getElem?_append]
  have hlt := (List.getElem?_eq_some_iff.1 hv).1
  rw [if_pos (by simpa using hlt)]
  simpa using hv

theorem evCall_ok {E : Env} {rec : Rec} (hcode : CodeOk E rec.code) (hcallD : CallDOk E rec.callD) : CallOk E (evCall E rec) := by
  intro g args h e h' he σ hE r w args' hargs hr
  unfold evCall at he
  split at he
  · rename_i fn hf
    split at he
    · rename_i body hb
      refine ⟨?_, fun w => enter_ok hE hf hb _ w⟩
      split at he
      · rename_i hlen
        obtain ⟨ht, hsz⟩ := start_ok hargs hlen
        refine calls_of_fen (rd := none) (n := 0) (callsIn_of_wp_marks (hE.fs g fn hf) hb trivial ?_)
        have hst : StRel r ⟨fn.ntmps, none⟩ ⟨setArgs args 0 .leaf, [], h⟩ { tmps := (⟨args'⟩ : Array Value) ++ Array.replicate (fn.ntmps - (⟨args'⟩ : Array Value).size) undef, defers := [] } w := ⟨ht, hsz, .nil, hr⟩
        cases hc : rec.code ⟨fn.ntmps, none⟩ body ⟨setArgs args 0 .leaf, [], h⟩ with
        | none => rw [hc] at he; cases he
        | some p =>
          obtain ⟨e1, s1⟩ := p
          rw [hc] at he
          refine hcode _ _ _ _ _ hc hE r w _ none 0 _ hst .none (fun r1 a1 w1 e1' ha hs1 hx => ?_)
          cases hx with
          | normal => exact evLeave_ok hE hcallD _ _ _ _ _ he r1 w1 _ _ a1 _ hs1.df .ret hs1.tm hs1.rel (fun r2 w2 e2 ha2 he2 => ⟨r2, ha.trans ha2, he2⟩)
          | ret => exact evLeave_ok hE hcallD _ _ _ _ _ he r1 w1 _ _ a1 _ hs1.df .ret hs1.tm hs1.rel (fun r2 w2 e2 ha2 he2 => ⟨r2, ha.trans ha2, he2⟩)
          | pan hch => exact evLeave_ok hE hcallD _ _ _ _ _ he r1 w1 _ _ a1 _ hs1.df (.pan hch) hs1.tm hs1.rel (fun r2 w2 e2 ha2 he2 => ⟨r2, ha.trans ha2, he2⟩)
          | exit id => cases he
          | goto l => cases he
      · cases he
    · cases he
  · cases he

/- Deferred functions. -/
def CodeDOk (E : Env) (f : Ctx → Code → St → CM → Option (AEx × St × CM)) : Prop :=
  ∀ c k s u e s' u', f c k s u = some (e, s', u') → c.rd = none → ∀ {σ : Interp}, EnvOk E σ → ∀ (r : Ren σ) (w : World) (a : Act) (n : Nat) (c0 : Frame) (cs : List Frame) (m : FrameMode) (Q : Exit → Act → List Frame → World → Prop), StRel r c s a w → CMRel r u m →
    (∀ r' a' w' e' m', Adv r s.hp w r' s'.hp w' → StRel r' c s' a' w' → ExRel r' e e' → CMRel r' u' m' → Q e' a' ({ c0 with mode := m' } :: cs) w') → k.wpSIn (fen none) n E.P Q a ({ c0 with mode := m } :: cs) w

theorem evOpsD_ok {E : Env} (hE : EnvOk E σ) {c : Ctx} {all : List Oper} {n : Nat} {c0 : Frame} {cs : List Frame} {Q : Exit → Act → List Frame → World → Prop} :
    ∀ (l : List Oper) (i : Nat) (s : St) (u : CM) (e : AEx) (s' : St) (u' : CM), evOpsD E c all l s u = some (e, s', u') → all.drop i = l → ∀ (r : Ren σ) (w : World) (a : Act) (m : FrameMode), StRel r c s a w → CMRel r u m →
      (∀ r' a' w' e' m', Adv r s.hp w r' s'.hp w' → StRel r' c s' a' w' → ExRel r' e e' → CMRel r' u' m' → Q e' a' ({ c0 with mode := m' } :: cs) w') →
      wpOpsSIn (fen none) n E.P ⟨all⟩ Q ((List.range' i l.length)) a ({ c0 with mode := m } :: cs) w := by
  intro l
  induction l with
  | nil =>
    intro i s u e s' u' he _ r w a m hs hu hQ
    simp only [evOpsD, Option.some.injEq, Prod.mk.injEq] at he
    obtain ⟨rfl, rfl, rfl⟩ := he
    exact hQ r a w _ m (.refl hs.rel) hs .normal hu
  | cons o l ih =>
    intro i s u e s' u' he hdrop r w a m hs hu hQ
    have hoi : (⟨all⟩ : Array Oper)[i]? = some o := by
      have : (all.drop i)[0]? = some o := by rw [hdrop]; rfl
      simpa using this
    have hdrop' : all.drop (i + 1) = l := by rw [← List.drop_drop, hdrop]; rfl
    simp only [List.length_cons, List.range'_succ, wpOpsSIn, hoi]
    refine ⟨fen_about, ?_⟩
    have hdf : ∀ v, (a.put o.dst v).defers = a.defers := fun v => by cases o.dst <;> rfl
    simp only [evOpsD] at he
    split at he
    · rename_i hw
      rw [if_pos (wanted_tm hw hs.tm)]
      split at he
      · rename_i x1 x2 hop
        have hrun : (execOp a.eval o).run E.P w = .ok .recover w := by
          simp only [execOp, hop, Sem.run_bind, resolve, Sem.run_pure, Result.andThen_ok]
          rfl
        rw [hrun]
        have other : (∀ v older, u ≠ .pan ((v, false) :: older)) → recoverD ({ c0 with mode := m } :: cs) = none := by
          intro hne
          cases hu with
          | ret => rfl
          | pan hc =>
            cases hc with
            | nil => rfl
            | @cons v v' b as ds h1 h2 =>
              cases b with
              | true => rfl
              | false => exact absurd rfl (hne v as)
        split at he
        · rename_i v older
          cases hu with
          | pan hc =>
            cases hc with
            | @cons _ v' _ _ older' h1 h2 =>
              simp only [recoverD]
              split at he
              · rename_i tm htm
                exact ih (i + 1) _ _ e s' u' he hdrop' r w _ (.panicking ({ v := v', recovered := true } :: older')) ⟨put_tm hs.tm hs.nt htm h1, by rw [Act.put_size]; exact hs.nt, by rw [hdf]; exact hs.df, hs.rel⟩ (.pan (.cons h1 h2)) hQ
              · cases he
        · rename_i hne
          rw [other (fun v older h => hne v older h)]
          simp only []
          split at he
          · rename_i tm htm
            exact ih (i + 1) _ _ e s' u' he hdrop' r w _ m ⟨put_tm hs.tm hs.nt htm .nilIface, by rw [Act.put_size]; exact hs.nt, by rw [hdf]; exact hs.df, hs.rel⟩ hu hQ
          · cases he
      · split at he
        · rename_i v h hop
          split at he
          · rename_i tm htm
            obtain ⟨r1, v', w1, hx⟩ := opMem_ok hE hop hs.tm hs.rel
            have hgo : wpOpsSIn (fen none) n E.P ⟨all⟩ Q (List.range' (i + 1) l.length) (a.put o.dst v') ({ c0 with mode := m } :: cs) w1 :=
              ih (i + 1) _ _ e s' u' he hdrop' r1 w1 _ m ⟨put_tm (hs.tm.mono hx.adv.le) hs.nt htm hx.val, by rw [Act.put_size]; exact hs.nt, by rw [hdf]; exact hs.df.mono hx.adv.le, hx.adv.rel⟩ (hu.mono hx.adv.le)
                (fun r2 a2 w2 e2 m2 ha2 hs2 hx2 hm2 => hQ r2 a2 w2 e2 m2 (hx.adv.trans ha2) hs2 hx2 hm2)
            rcases hx.run with hrun | ⟨hrun, hv⟩
            · rw [hrun]; exact hgo
            · rw [hrun]; rw [hv] at hgo; exact hgo
          · cases he
        · cases he
    · rename_i hw
      rw [if_neg (by rw [wanted_tm hw hs.tm]; simp)]
      split at he
      · rename_i tm htm
        exact ih (i + 1) _ _ e s' u' he hdrop' r w _ m ⟨put_tm hs.tm hs.nt htm (undef_rel r), by rw [Act.put_size]; exact hs.nt, by rw [hdf]; exact hs.df, hs.rel⟩ hu hQ
      · cases he
    · cases he

theorem evCodeD_ok {E : Env} {rec : Rec} (hcode : CodeOk E rec.code) (hcodeD : CodeDOk E rec.codeD) : CodeDOk E (evCodeD E rec) := by
  intro c k s u e s' u' he hcr σ hE r w a n c0 cs m Q hs hu hQ
  have plain : ∀ k', (rec.code c k' s).map (fun p => (p.1, p.2, u)) = some (e, s', u') → k'.wpSIn (fen none) n E.P Q a ({ c0 with mode := m } :: cs) w := by
    intro k' hk
    rw [Option.map_eq_some_iff] at hk
    obtain ⟨p, h1, h2⟩ := hk
    obtain ⟨e1, s1⟩ := p
    cases h2
    exact wpSIn_of_wpIn rfl (hcode _ _ _ _ _ h1 hE r w a none n _ hs (by rw [hcr]; exact .none) (fun r1 a1 w1 e1' ha hs1 hx => hQ r1 a1 w1 e1' m ha hs1 hx (hu.mono ha.le)))
  unfold evCodeD at he
  split at he
  · rename_i x y
    refine wpSIn_seq ?_
    cases hc : rec.codeD c x s u with
    | none => rw [hc] at he; cases he
    | some p =>
      obtain ⟨e1, s1, u1⟩ := p
      rw [hc] at he
      refine hcodeD c x s u e1 s1 u1 hc hcr hE r w a n c0 cs m _ hs hu (fun r' a' w' e' m' ha hst hx hm => ?_)
      cases hx with
      | normal => exact hcodeD c y s1 u1 e s' u' he hcr hE r' w' a' n c0 cs m' Q hst hm (fun r2 a2 w2 e2 m2 ha2 hst2 hx2 hm2 => hQ r2 a2 w2 e2 m2 (ha.trans ha2) hst2 hx2 hm2)
      | exit id => cases he; exact hQ r' a' w' _ m' ha hst (.exit id) hm
      | goto l => cases he; exact hQ r' a' w' _ m' ha hst (.goto l) hm
      | ret => cases he; exact hQ r' a' w' _ m' ha hst .ret hm
      | pan h => cases he; exact hQ r' a' w' _ m' ha hst (.pan h) hm
  · rename_i x p q
    split at he
    · rename_i b hb
      have hv := opv_ok hs.tm hb
      generalize hq : a.eval x = v at hv
      cases hv
      exact wpSIn_cond hq (hcodeD _ _ _ _ _ _ _ he hcr hE r w a n c0 cs m Q hs hu hQ)
    · cases he
  · rename_i id ops draw
    split at he
    · rename_i hc
      obtain ⟨hd, _⟩ := hc
      subst hd
      obtain ⟨ops⟩ := ops
      refine wpSIn_region ?_
      have := evOpsD_ok hE (n := n) (Q := Q) (c0 := c0) (cs := cs) ops 0 s u e s' u' he rfl r w a m hs hu hQ
      rw [← List.range_eq_range'] at this
      exact this
    · exact plain _ he
  · exact plain _ he

theorem evCallD_ok {E : Env} {rec : Rec} (hcodeD : CodeDOk E rec.codeD) : CallDOk E (evCallD E rec) := by
  intro g args u h e u2 h' he σ hE r w args' m n hargs hr hu
  unfold evCallD at he
  split at he
  · rename_i fn hf
    split at he
    · rename_i body hb
      refine ⟨?_, fun w => enter_ok hE hf hb _ w⟩
      split at he
      · rename_i hlen
        obtain ⟨ht, hsz⟩ := start_ok hargs hlen
        refine callsDIn_of_wpSIn (hE.fs g fn hf) hb trivial (fun c0 cs hm => ?_)
        have hst : StRel r ⟨fn.ntmps, none⟩ ⟨setArgs args 0 .leaf, [], h⟩ { tmps := (⟨args'⟩ : Array Value) ++ Array.replicate (fn.ntmps - (⟨args'⟩ : Array Value).size) undef, defers := [] } w := ⟨ht, hsz, .nil, hr⟩
        cases hc : rec.codeD ⟨fn.ntmps, none⟩ body ⟨setArgs args 0 .leaf, [], h⟩ u with
        | none => rw [hc] at he; cases he
        | some p =>
          obtain ⟨e1, s1, u1⟩ := p
          rw [hc] at he
          have key := hcodeD _ _ _ _ _ _ _ hc rfl hE r w _ n c0 cs m (bodyPostS E.P fn c0 cs (fun e' m2 w' => ∃ r', Adv r h w r' h' w' ∧ EndRel r' e e' ∧ CMRel r' u2 m2)) hst hu (fun r1 a1 w1 e1' m1 ha hs1 hx hm1 => by
            have done : s1.df = [] → a1.defers = [] := fun hd => by
              have h5 := hs1.df
              rw [hd] at h5
              generalize a1.defers = x at h5
              cases h5; rfl
            cases hx with
            | normal =>
              simp only [] at he
              split at he
              · rename_i hd
                rw [Option.map_eq_some_iff] at he
                obtain ⟨vs, g1, g2⟩ := he
                cases g2
                obtain ⟨v', k1, k2⟩ := results_ok hE hs1.tm hs1.rel g1
                exact ⟨done hd, m1, rfl, v', k1, r1, ha, k2, hm1⟩
              · cases he
            | ret =>
              simp only [] at he
              split at he
              · rename_i hd
                rw [Option.map_eq_some_iff] at he
                obtain ⟨vs, g1, g2⟩ := he
                cases g2
                obtain ⟨v', k1, k2⟩ := results_ok hE hs1.tm hs1.rel g1
                exact ⟨done hd, m1, rfl, v', k1, r1, ha, k2, hm1⟩
              · cases he
            | pan hch =>
              simp only [] at he
              split at he
              · rename_i hd
                cases he
                exact ⟨done hd, m1, rfl, r1, ha, hch, hm1⟩
              · cases he
            | exit id => cases he
            | goto l => cases he)
          rw [← hm] at key
          exact key
      · cases he
    · cases he
  · cases he

/- Rounds. -/
theorem setParams_ok {r : Ren σ} {nt : Nat} : ∀ (ps : List Tmp) (as cs : List Value) (tm : Tr Value) (tmps : Array Value), VRels r as cs → TmRel r tm tmps → tmps.size = nt → (ps.all fun t => decide (t < nt)) = true → as.length = ps.length →
    TmRel r (setParams ps as tm) ((ps.zip cs).foldl (fun t (p : Tmp × Value) => t.setIfInBounds p.1 p.2) tmps) ∧ ((ps.zip cs).foldl (fun t (p : Tmp × Value) => t.setIfInBounds p.1 p.2) tmps).size = nt := by
  intro ps
  induction ps with
  | nil =>
    intro as cs tm tmps h ht hs _ hl
    cases h with
    | nil => exact ⟨ht, hs⟩
    | cons => simp at hl
  | cons p ps ih =>
    intro as cs tm tmps h ht hs hp hl
    cases h with
    | nil => simp at hl
    | @cons v c as cs h1 h2 =>
      simp only [List.all_cons, Bool.and_eq_true, decide_eq_true_eq] at hp
      exact ih as cs _ _ h2 (ht.set h1 (by rw [hs]; exact hp.1)) (by simp [hs]) hp.2 (by simpa using hl)

theorem evRound_ok {E : Env} {rec : Rec} (hcode : CodeOk E rec.code) : RoundOk E (evRound E rec) := by
  intro l args h e h' he σ hE r w args' lc m hargs hr hl
  unfold evRound at he
  split at he
  · rename_i rr hg
    split at he
    · rename_i hc
      obtain ⟨c1, c2, c3⟩ := hc
      obtain ⟨x, hx, hrel⟩ := live_loop hr hg hl
      have hsz : (⟨args'⟩ : Array Value).size = x.params.size := by
        rw [hrel.params, ← c1]; simp [hargs.length]
      refine ⟨_, _, _, _, run_yield hx hsz, fun rd n => roundIn_of_wpIn trivial ?_⟩
      obtain ⟨t1, t2⟩ := setParams_ok rr.params.toList args args' rr.tm x.tmps hargs hrel.tmps hrel.nt c3 (by simpa using c1)
      have hfold : (x.params.zip (⟨args'⟩ : Array Value)).foldl (fun tmps (t, a) => tmps.setIfInBounds t a) x.tmps = (rr.params.toList.zip args').foldl (fun t (p : Tmp × Value) => t.setIfInBounds p.1 p.2) x.tmps := by
        rw [← Array.foldl_toList, Array.toList_zip, hrel.params]
      rw [hfold]
      have hst : StRel r ⟨rr.nt, some l⟩ ⟨setParams rr.params.toList args rr.tm, [], h⟩ { tmps := (rr.params.toList.zip args').foldl (fun t (p : Tmp × Value) => t.setIfInBounds p.1 p.2) x.tmps, defers := [] } w := ⟨t1, t2, .nil, hr⟩
      rw [hrel.assign, hrel.body]
      split at he
      · rename_i s1 hca
        refine hcode _ _ _ _ _ hca hE r w _ (some lc) n _ hst (.some hl) (fun r1 a1 w1 e1 ha hs1 hx1 => ?_)
        cases hx1
        split at he
        · rename_i r1' hd1 hg1
          split at he
          · rename_i hready
            obtain ⟨x1, hx1, hrel1⟩ := live_loop hs1.rel hg1 (ha.le _ _ hl)
            have ha2 : Adv r1 s1.hp w1 r1 (s1.hp.put l (.loop { r1' with state := .busy })) (w1.putObj lc (.loop { x1 with state := .busy })) :=
              Adv.loop hs1.rel hg1 (ha.le _ _ hl) ⟨rfl, hrel1.pending, hrel1.nt, hrel1.tmps, hrel1.params, hrel1.assign, hrel1.body, hrel1.defers⟩
            refine ⟨_, run_beginRound hx1 (by rw [hrel1.state]; exact hready), ?_⟩
            have hst2 : StRel r1 ⟨rr.nt, some l⟩ { s1 with hp := s1.hp.put l (.loop { r1' with state := .busy }) } a1 (w1.putObj lc (.loop { x1 with state := .busy })) := ⟨hs1.tm, hs1.nt, hs1.df, ha2.rel⟩
            split at he
            · rename_i e2 s2 hcb
              refine hcode _ _ _ _ _ hcb hE r1 _ a1 (some lc) n _ hst2 (.some (ha.le _ _ hl)) (fun r3 a3 w3 e3 ha3 hs3 hx3 => ?_)
              split at he
              · rename_i r2' hd2 hg2
                have hlc : r3 l = some (lc, m) := ha3.le _ _ (ha.le _ _ hl)
                obtain ⟨x2, hx2, hrel2⟩ := live_loop hs3.rel hg2 hlc
                have fin : ∀ (st : LoopState) (pe : Option Code), Adv r h w r3 (s2.hp.put l (.loop { r2' with state := st, pending := pe })) (w3.putObj lc (.loop { x2 with state := st, pending := pe })) := fun st pe =>
                  ((ha.trans ha2).trans ha3).trans (Adv.loop hs3.rel hg2 hlc ⟨rfl, rfl, hrel2.nt, hrel2.tmps, hrel2.params, hrel2.assign, hrel2.body, hrel2.defers⟩)
                cases hx3 with
                | normal => cases he; exact ⟨_, _, run_endRound none hx2, r3, fin .ready none, .bool true⟩
                | ret => cases he; exact ⟨_, _, run_endRound (some .ret) hx2, r3, fin .done (some .ret), .bool false⟩
                | exit id => cases he; exact ⟨_, _, run_endRound (some (.exit id)) hx2, r3, fin .done (some (.exit id)), .bool false⟩
                | goto t => cases he; exact ⟨_, _, run_endRound (some (.goto t)) hx2, r3, fin .done (some (.goto t)), .bool false⟩
                | pan hch => cases he
              · cases he
            · cases he
          · cases he
        · cases he
      · cases he
    · cases he
  · cases he

structure RecOk (E : Env) (rec : Rec) : Prop where
  code : CodeOk E rec.code
  loop : LoopOk E rec.code
  under : UnderOk E rec.under
  call : CallOk E rec.call
  callD : CallDOk E rec.callD
  codeD : CodeDOk E rec.codeD
  round : RoundOk E rec.round

theorem ev_ok {E : Env} : ∀ fuel, RecOk E (ev E fuel) := by
  intro fuel
  induction fuel with
  | zero => exact ⟨fun _ _ _ _ _ h => (by cases h), fun _ _ _ _ _ h => (by cases h), fun _ _ _ _ _ _ h => (by cases h), fun _ _ _ _ _ h => (by cases h), fun _ _ _ _ _ _ _ h => (by cases h), fun _ _ _ _ _ _ _ h => (by cases h), fun _ _ _ _ _ h => (by cases h)⟩
  | succ n ih =>
    exact ⟨evCode_ok ih.code ih.loop ih.under ih.call ih.round, evCode_loop ih.code ih.loop ih.call ih.round, evUnder_ok ih.code ih.under, evCall_ok ih.code ih.callD, evCallD_ok ih.codeD, evCodeD_ok ih.code ih.codeD, evRound_ok ih.code⟩

/- A call whose run the evaluator has told. -/
theorem ev_sound {E : Env} (hE : EnvOk E σ) {fuel : Nat} {f : FuncId} {args : List Value} {h h' : Hp} {e : End} (he : (ev E fuel).call f args h = some (e, h')) {r : Ren σ} {w : World} {args' : List Value} (hargs : VRels r args args') (hr : Rel r h w) :
    Calls E.P f ⟨args'⟩ w (fun e' w' => ∃ r', Adv r h w r' h' w' ∧ EndRel r' e e') := ((ev_ok fuel).call f args h e h' he hE r w args' hargs hr).1

end Go.Eng
