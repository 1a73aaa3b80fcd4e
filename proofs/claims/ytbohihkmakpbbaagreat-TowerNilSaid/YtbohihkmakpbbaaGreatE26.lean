/- The engine, part 26: runs put together by hand: code that the evaluator has told, loops by a measure, the way into a function and out of it; what has changed, by blocks. -/
import Derived.Test.YtbohihkmakpbbaaGreatE25
namespace Go.Eng
open Go.RowKit
variable {σ : Interp}

/- A piece of code that the evaluator has told. -/
theorem code_run {E : Env} (hE : EnvOk E σ) {fuel : Nat} {c : Ctx} {k : Code} {s s' : St} {e : AEx} (he : (ev E fuel).code c k s = some (e, s')) {r : Ren σ} {w : World} {a : Act} {rd : Option Nat} {n : Nat} {Q : Exit → Act → World → Prop}
    (hs : StRel r c s a w) (hrd : RdRel r c.rd rd) (hQ : ∀ r' a' w' e', Adv r s.hp w r' s'.hp w' → StRel r' c s' a' w' → ExRel r' e e' → Q e' a' w') : k.wpIn (fen rd) n E.P Q a w :=
  (ev_ok fuel).code c k s e s' he hE r w a rd n Q hs hrd hQ

/- A loop, by a measure. -/
theorem loop_rule {X : Type} {F : Fence} {n : Nat} {P : Program} {b : Code} {Q : Exit → Act → World → Prop} (μ : X → Nat) (I : X → Act → World → Prop)
    (hbody : ∀ x a w, I x a w → b.wpIn F n P (fun e a' w' => match e with | .normal => ∃ x', μ x' < μ x ∧ I x' a' w' | e => Q e a' w') a w) :
    ∀ x a w, I x a w → LoopIn F n P b Q a w := by
  have key : ∀ m x, μ x < m → ∀ a w, I x a w → LoopIn F n P b Q a w := by
    intro m
    induction m with
    | zero => intro x hx; omega
    | succ m ih =>
      intro x hx a w hI
      refine loopIn_of ?_
      intro fr k cs hro hb hr
      obtain ⟨e, a', w', hq, harr⟩ := hbody x a w hI fr k cs hro hb hr
      refine ⟨e, a', w', ?_, harr⟩
      cases e with
      | normal =>
        obtain ⟨x', h1, h2⟩ := hq
        exact ih x' (by omega) a' w' h2
      | _ => exact hq
  intro x a w hI
  exact key (μ x + 1) x (by omega) a w hI

theorem wp_loop {X : Type} {F : Fence} {n : Nat} {P : Program} {b : Code} {Q : Exit → Act → World → Prop} (μ : X → Nat) (I : X → Act → World → Prop)
    (hbody : ∀ x a w, I x a w → b.wpIn F n P (fun e a' w' => match e with | .normal => ∃ x', μ x' < μ x ∧ I x' a' w' | e => Q e a' w') a w) {x : X} {a : Act} {w : World} (hI : I x a w) :
    (Code.loop b).wpIn F n P Q a w := wpIn_loop_of (loop_rule μ I hbody x a w hI)

/- The way into a function and out of it. -/
theorem calls_by {E : Env} (hE : EnvOk E σ) {f : FuncId} {fn : Func} {body : Code} (hf : E.fs.get f = some fn) (hb : fn.body = some body) {args args' : List Value} (hlen : args.length ≤ fn.ntmps) {r : Ren σ} {h : Hp} {w : World}
    (hargs : VRels r args args') (hr : Rel r h w) {R : Ending → World → Prop}
    (hw : ∀ (a : Act) (Q : Exit → Act → World → Prop), StRel r ⟨fn.ntmps, none⟩ ⟨setArgs args 0 .leaf, [], h⟩ a w →
      (∀ {σ' : Interp} {E' : Env}, EnvOk E' σ' → E'.P = E.P → ∀ (r' : Ren σ') (s' : St) (a' : Act) (w' : World) (e' : Exit) (vs : List Value), StRel r' ⟨fn.ntmps, none⟩ s' a' w' → (e' = .normal ∨ e' = .ret) → s'.df = [] →
        evResults E' s'.hp s'.tm fn.results.toList = some vs → (∀ v', VRel r' (oneOf vs) v' → R (.returned v') w') → Q e' a' w') →
      body.wpIn (fen none) 0 E.P Q a w) : Calls E.P f ⟨args'⟩ w R := by
  obtain ⟨ht, hsz⟩ := start_ok hargs hlen
  refine calls_of_fen (rd := none) (n := 0) (callsIn_of_wp_marks (hE.fs f fn hf) hb trivial ?_)
  refine hw _ _ ⟨ht, hsz, .nil, hr⟩ (fun {σ' E'} hE' hP r' s' a' w' e' vs hs he hdf hvs hR => ?_)
  have hnil : a'.defers = [] := by
    have h5 := hs.df
    rw [hdf] at h5
    generalize a'.defers = x at h5
    cases h5; rfl
  obtain ⟨v', g1, g2⟩ := results_ok hE' hs.tm hs.rel hvs
  rw [hP] at g1
  have hlv : LeavesInM (fen none) 0 E.P fn a'.tmps R a'.defers .returning w' := by
    rw [hnil]
    exact ⟨v', g1, hR v' g2⟩
  rcases he with rfl | rfl
  · exact hlv
  · exact hlv

/- What has changed, by blocks. -/
structure Fr (S : Nat → Prop) (w : World) (S' : Nat → Prop) (w' : World) : Prop where
  size : w.heap.size ≤ w'.heap.size
  keep : ∀ c, c < w.heap.size → ¬ S c → w'.heap[c]? = w.heap[c]?
  orig : ∀ c, S' c → w.heap.size ≤ c ∨ S c
  os : outer w' = outer w
  output : w'.output = w.output

theorem Fr.refl (S : Nat → Prop) (w : World) : Fr S w S w := ⟨Nat.le_refl _, fun _ _ _ => rfl, fun _ h => .inr h, rfl, rfl⟩

theorem Fr.trans {S S' S'' : Nat → Prop} {w w' w'' : World} (a : Fr S w S' w') (b : Fr S' w' S'' w'') : Fr S w S'' w'' where
  size := Nat.le_trans a.size b.size
  keep := fun c hc hn => by
    rw [b.keep c (Nat.lt_of_lt_of_le hc a.size) (fun hs => ?_), a.keep c hc hn]
    rcases a.orig c hs with h | h
    · omega
    · exact hn h
  orig := fun c hs => by
    rcases b.orig c hs with h | h
    · exact .inl (Nat.le_trans a.size h)
    · exact a.orig c h
  os := b.os.trans a.os
  output := b.output.trans a.output

theorem Adv.fr {r r' : Ren σ} {h h' : Hp} {w w' : World} (ha : Adv r h w r' h' w') : Fr (Spk r h) w (Spk r' h') w' := ⟨ha.size, ha.keep, ha.orig, ha.os, ha.output⟩

theorem Fr.less {S S' T : Nat → Prop} {w w' : World} (a : Fr S w S' w') (h : ∀ c, T c → S' c) : Fr S w T w' := ⟨a.size, a.keep, fun c hc => a.orig c (h c hc), a.os, a.output⟩

theorem Fr.below {S S' : Nat → Prop} {w w' : World} (a : Fr S w S' w') (h : ∀ c, c < w.heap.size → ¬ S c) : Below w.heap.size w w' where
  os := congrArg Prod.fst a.os
  tape := congrArg Prod.snd a.os
  output := a.output
  size := a.size
  block := fun k hk => a.keep k hk (h k hk)

end Go.Eng
