/- The engine, part 10: maps whose keys hold no address. -/
import Derived.Test.YtbohihkmakpbbaaGreatE9
namespace Go.Eng
variable {σ : Interp}

def simpleKey : TypeDesc → Bool
  | .int _ | .string | .bool => true
  | _ => false

def eqKey (E : Env) (kt : TypeId) (kd : TypeDesc) (k k' : Value) : Option Bool :=
  if simpleKey kd then Instr.sameNow kd k k' else pureRun E.P (Op.equal kt k k')

def firstHit (E : Env) (kt : TypeId) (kd : TypeDesc) (k : Value) : List MapEntry → Nat → Option (Nat × Value)
  | [], _ => none
  | e :: es, i => if eqKey E kt kd k e.key = some true then some (i, e.val) else firstHit E kt kd k es (i + 1)

theorem sameNow_hard {kd : TypeDesc} (h : simpleKey kd = false) (k k' : Value) : Instr.sameNow kd k k' = none := by
  unfold Instr.sameNow
  split <;> simp_all [simpleKey]

theorem findKey_ok {E : Env} {kt : TypeId} {kd : TypeDesc} (hu : E.P.underlying kt = some kd) (k : Value) (es : List MapEntry) (h : ∀ e ∈ es, (eqKey E kt kd k e.key).isSome = true) (w : World) :
    (Instr.findKey kt k es).run E.P w = .ok (firstHit E kt kd k es 0) w := by
  unfold Instr.findKey
  rw [Sem.run_bind, run_underlying hu w, Result.andThen_ok]
  cases hs : simpleKey kd with
  | true =>
    have key : ∀ (es : List MapEntry) (i : Nat), (∀ e ∈ es, (eqKey E kt kd k e.key).isSome = true) → Instr.findNow kd k es i = some (firstHit E kt kd k es i) := by
      intro es
      induction es with
      | nil => intro i _; rfl
      | cons e es ih =>
        intro i he
        have h1 := he e (by simp)
        have h2 := ih (i + 1) (fun e' h' => he e' (by simp [h']))
        simp only [Instr.findNow, firstHit]
        simp only [eqKey, hs, if_true] at h1 ⊢
        cases hq : Instr.sameNow kd k e.key with
        | none => rw [hq] at h1; simp at h1
        | some b =>
          cases b
          · simp; exact h2
          · simp
    rw [key es 0 h]
    rfl
  | false =>
    have key : ∀ (es : List MapEntry) (i : Nat), (∀ e ∈ es, (eqKey E kt kd k e.key).isSome = true) → (Instr.findAsking kt k es i).run E.P w = .ok (firstHit E kt kd k es i) w := by
      intro es
      induction es with
      | nil => intro i _; rfl
      | cons e es ih =>
        intro i he
        have h1 := he e (by simp)
        have h2 := ih (i + 1) (fun e' h' => he e' (by simp [h']))
        simp only [Instr.findAsking, firstHit]
        simp only [eqKey, hs, Bool.false_eq_true, if_false] at h1 ⊢
        cases hq : pureRun E.P (Op.equal kt k e.key) with
        | none => rw [hq] at h1; simp at h1
        | some b =>
          rw [Sem.run_bind, pureRun_ok hq w, Result.andThen_ok]
          cases b
          · simp; exact h2
          · simp
    cases es with
    | nil => simp [Instr.findNow, firstHit]
    | cons e es =>
      have : Instr.findNow kd k (e :: es) 0 = none := by
        simp only [Instr.findNow, sameNow_hard hs]
      rw [this]
      exact key (e :: es) 0 h

/- The entries that are hit. -/
def hits (E : Env) (kt : TypeId) (kd : TypeDesc) (k : Value) (es : List (Value × Value)) : List (Value × Value) := es.filter fun p => eqKey E kt kd k p.1 == some true

def allTold (E : Env) (kt : TypeId) (kd : TypeDesc) (k : Value) (es : List (Value × Value)) : Bool := es.all fun p => (eqKey E kt kd k p.1).isSome

def kv (e : MapEntry) : Value × Value := (e.key, e.val)

theorem PRels.hits {r : Ren σ} {E : Env} {kt : TypeId} {kd : TypeDesc} {k : Value} {as cs : List (Value × Value)} (h : PRels r as cs) : PRels r (hits E kt kd k as) (Eng.hits E kt kd k cs) := by
  induction h with
  | nil => exact .nil
  | cons h1 h2 _ ih =>
    simp only [Eng.hits, List.filter_cons]
    split
    · exact .cons h1 h2 ih
    · exact ih

theorem PRels.told {r : Ren σ} {E : Env} {kt : TypeId} {kd : TypeDesc} {k : Value} {as cs : List (Value × Value)} (h : PRels r as cs) (ht : allTold E kt kd k as = true) : ∀ p ∈ cs, (eqKey E kt kd k p.1).isSome = true := by
  induction h with
  | nil => intro p hp; cases hp
  | cons h1 h2 _ ih =>
    simp only [allTold, List.all_cons, Bool.and_eq_true] at ht
    intro p hp
    cases hp with
    | head => exact ht.1
    | tail _ hm => exact ih ht.2 p hm

theorem firstHit_none {E : Env} {kt : TypeId} {kd : TypeDesc} {k : Value} : ∀ (es : List MapEntry) (i : Nat), hits E kt kd k (es.map kv) = [] → firstHit E kt kd k es i = none := by
  intro es
  induction es with
  | nil => intro i _; rfl
  | cons e es ih =>
    intro i h
    simp only [hits, List.map_cons, List.filter_cons, kv] at h
    split at h
    · cases h
    · rename_i hne
      simp only [firstHit]
      rw [if_neg (by simpa using hne)]
      exact ih (i + 1) h

theorem firstHit_one {E : Env} {kt : TypeId} {kd : TypeDesc} {k : Value} {p : Value × Value} : ∀ (es : List MapEntry) (i : Nat), hits E kt kd k (es.map kv) = [p] →
    ∃ j e, firstHit E kt kd k es i = some (i + j, p.2) ∧ es[j]? = some e ∧ kv e = p ∧ (∀ j' e', es[j']? = some e' → eqKey E kt kd k e'.key = some true → j' = j) := by
  intro es
  induction es with
  | nil => intro i h; simp [hits] at h
  | cons e es ih =>
    intro i h
    simp only [hits, List.map_cons, List.filter_cons, kv] at h
    split at h
    · rename_i heq
      simp only [List.cons.injEq] at h
      obtain ⟨rfl, h2⟩ := h
      refine ⟨0, e, ?_, rfl, rfl, ?_⟩
      · simp only [firstHit]; rw [if_pos (by simpa using heq)]; simp
      · intro j' e' hj' hq
        cases j' with
        | zero => rfl
        | succ j' =>
          exfalso
          simp only [List.getElem?_cons_succ] at hj'
          have hm : (e'.key, e'.val) ∈ (es.map kv).filter fun p => eqKey E kt kd k p.1 == some true := by
            rw [List.mem_filter]
            exact ⟨List.mem_map.2 ⟨e', List.mem_of_getElem? hj', rfl⟩, by simpa using hq⟩
          have h2' : (es.map kv).filter (fun p => eqKey E kt kd k p.1 == some true) = [] := h2
          rw [h2'] at hm; cases hm
    · rename_i hne
      obtain ⟨j, e', h1, h2, h3, h4⟩ := ih (i + 1) h
      refine ⟨j + 1, e', ?_, by simpa using h2, h3, ?_⟩
      · simp only [firstHit]
        rw [if_neg (by simpa using hne), h1]
        congr 2; omega
      · intro j' e'' hj' hq
        cases j' with
        | zero => simp only [List.getElem?_cons_zero, Option.some.injEq] at hj'; subst hj'; exact absurd (by simpa using hq) hne
        | succ j' => simp only [List.getElem?_cons_succ] at hj'; rw [h4 j' e'' hj' hq]

/- A map's two sides agree on what a key finds. -/
theorem MapRel.find {r : Ren σ} {E : Env} {kt : TypeId} {kd : TypeDesc} (hu : E.P.underlying kt = some kd) {k : Value} {es : List (Value × Value)} {ms : Array MapEntry} (hm : MapRel r es ms) (ht : allTold E kt kd k es = true) (w : World) :
    (Instr.findKey kt k ms.toList).run E.P w = .ok (firstHit E kt kd k ms.toList 0) w ∧
      (hits E kt kd k es = [] → hits E kt kd k (ms.toList.map kv) = []) ∧
      (∀ p, hits E kt kd k es = [p] → ∃ v', hits E kt kd k (ms.toList.map kv) = [(p.1, v')] ∧ VRel r p.2 v') := by
  obtain ⟨ps, h1, h2⟩ := hm
  have hperm : (hits E kt kd k ps).Perm (hits E kt kd k (ms.toList.map kv)) := h1.filter _
  have hrel : PRels r (hits E kt kd k es) (hits E kt kd k ps) := h2.hits
  refine ⟨findKey_ok hu k _ (fun e he => ?_) w, fun h => ?_, fun p h => ?_⟩
  · have hmem : (e.key, e.val) ∈ ps := h1.mem_iff.2 (List.mem_map.2 ⟨e, he, rfl⟩)
    exact h2.told ht _ hmem
  · rw [h] at hrel
    generalize hits E kt kd k ps = q at hrel hperm
    cases hrel
    exact hperm.nil_eq.symm
  · rw [h] at hrel
    generalize hits E kt kd k ps = q at hrel hperm
    cases hrel with
    | cons g1 g2 g3 =>
      cases g3
      exact ⟨_, (List.perm_singleton.1 hperm.symm), g2⟩

/- The kit's bound on nesting is a large numeral: it stays behind a name. -/
def ckey (E : Env) (b : Bool) (kt : TypeId) (k : Value) : Bool := (pureRun E.P (Instr.checkKey b 10000 kt k)).isSome

theorem ckey_ok {E : Env} {b : Bool} {kt : TypeId} {k : Value} (h : ckey E b kt k = true) (w : World) : (Instr.checkKey b 10000 kt k).run E.P w = .ok () w := by
  unfold ckey at h
  obtain ⟨u, hu⟩ := Option.isSome_iff_exists.1 h
  exact pureRun_ok hu w

def Holds (w : World) (x : Value) (ms : Array MapEntry) : Prop := (x = .map none ∧ ms = #[]) ∨ ∃ b k, x = .map (some b) ∧ w.heap[b]? = some (.map ms k)

theorem run_lookup_some {P : Program} {t kt el : TypeId} (hu : P.underlying t = some (.map kt el)) {w : World} {x k v : Value} {ms : Array MapEntry} {n : Nat} (hx : Holds w x ms)
    (hck : ∀ b, b = ms.isEmpty → (Instr.checkKey b 10000 kt k).run P w = .ok () w) (hf : (Instr.findKey kt k ms.toList).run P w = .ok (some (n, v)) w) (ok : Bool) :
    (Instr.lookup t x k ok).run P w = .ok (if ok = true then .tuple #[v, .bool true] else v) w := by
  have hck' := hck _ rfl
  unfold Instr.lookup
  rw [Sem.run_bind, run_underlying hu w, Result.andThen_ok]
  rcases hx with ⟨rfl, rfl⟩ | ⟨b, kk, rfl, hb⟩
  · simp only [Sem.run_bind, Sem.run_pure, Result.andThen_ok, hck', hf]
  · simp only [Sem.run_bind, Sem.run_pure, Result.andThen_ok, run_getObj_map hb, hck', hf]

theorem run_lookup_none {P : Program} {t kt el : TypeId} (hu : P.underlying t = some (.map kt el)) {w : World} {x k z : Value} {ms : Array MapEntry} (hx : Holds w x ms)
    (hck : ∀ b, b = ms.isEmpty → (Instr.checkKey b 10000 kt k).run P w = .ok () w) (hf : (Instr.findKey kt k ms.toList).run P w = .ok none w) (hz : (zeroValue el).run P w = .ok z w) (ok : Bool) :
    (Instr.lookup t x k ok).run P w = .ok (if ok = true then .tuple #[z, .bool false] else z) w := by
  have hck' := hck _ rfl
  unfold Instr.lookup
  rw [Sem.run_bind, run_underlying hu w, Result.andThen_ok]
  rcases hx with ⟨rfl, rfl⟩ | ⟨b, kk, rfl, hb⟩
  · simp only [Sem.run_bind, Sem.run_pure, Result.andThen_ok, hck', hf, hz]
  · simp only [Sem.run_bind, Sem.run_pure, Result.andThen_ok, run_getObj_map hb, hck', hf, hz]

theorem run_mapUpdate_new {P : Program} {t kt el : TypeId} (hu : P.underlying t = some (.map kt el)) {w : World} {k v : Value} {ms : Array MapEntry} {b kk : Nat} (hb : w.heap[b]? = some (.map ms kk))
    (hck : (Instr.checkKey false 10000 kt k).run P w = .ok () w) (hf : (Instr.findKey kt k ms.toList).run P w = .ok none w) :
    (Instr.mapUpdate t (.map (some b)) k v).run P w = .ok () { w with heap := w.heap.setIfInBounds b (.map (ms.push { key := k, val := v, born := kk }) (kk + 1)) } := by
  unfold Instr.mapUpdate
  simp only [Sem.run_bind, run_underlying hu w, Result.andThen_ok, run_getObj_map hb, hck, hf]
  simp [setObj, Sem.run, hb]

def sbits (a b : Value) : Bool := Instr.sameBits 10000 a b

theorem run_mapUpdate_old {P : Program} {t kt el : TypeId} (hu : P.underlying t = some (.map kt el)) {w : World} {k v v0 : Value} {ms : Array MapEntry} {b kk j : Nat} {e : MapEntry} (hb : w.heap[b]? = some (.map ms kk))
    (hck : (Instr.checkKey false 10000 kt k).run P w = .ok () w) (hf : (Instr.findKey kt k ms.toList).run P w = .ok (some (j, v0)) w) (hj : ms[j]? = some e) (hs : sbits e.key k = true) :
    (Instr.mapUpdate t (.map (some b)) k v).run P w = .ok () { w with heap := w.heap.setIfInBounds b (.map (ms.modify j fun e => { e with key := k, val := v }) kk) } := by
  have hstay : (Instr.keyThatStays (((ms[j]?).map (·.key)).getD k) k).run P w = .ok k w := by
    rw [hj]
    simp only [Option.map_some, Option.getD_some]
    unfold Instr.keyThatStays
    have hs' : Instr.sameBits 10000 e.key k = true := hs
    rw [if_pos hs']; rfl
  unfold Instr.mapUpdate
  simp only [Sem.run_bind, run_underlying hu w, Result.andThen_ok, run_getObj_map hb, hck, hf, hstay]
  simp [setObj, Sem.run, hb]

def mapAt (h : Hp) : Option Nat → Option (List (Value × Value))
  | none => some []
  | some i => match h.get i with | some (.map es) => some es | _ => none

theorem mapAt_ok {r : Ren σ} {h : Hp} {w : World} (hr : Rel r h w) {m : Option Nat} {es : List (Value × Value)} (he : mapAt h m = some es) {x : Value} (hx : VRel r (.map m) x) :
    ∃ ms, MapRel r es ms ∧ Holds w x ms := by
  cases hx with
  | mapNil => cases he; exact ⟨#[], ⟨[], by simp, .nil⟩, .inl ⟨rfl, rfl⟩⟩
  | map hri =>
    simp only [mapAt] at he
    split at he
    · rename_i es' hi
      cases he
      obtain ⟨ms, kk, h1, h2, _⟩ := hr.map hi hri
      exact ⟨ms, h2, .inr ⟨_, kk, rfl, h1⟩⟩
    · cases he

def opLookup (E : Env) (tm : Tr Value) (h : Hp) (t : TypeId) (x y : Operand) (ok : Bool) : Option Value :=
  match opv tm x, opv tm y, E.und t with
  | some (.map m), some k, some (.map kt el) =>
    match E.und kt, mapAt h m with
    | some kd, some es =>
      if gnd 6 k = true ∧ allTold E kt kd k es = true ∧ ckey E es.isEmpty kt k = true then
        match hits E kt kd k es with
        | [] => match E.ts.get el with
          | some i => match i.zero with
            | some z => if gnd 6 z = true then some (if ok = true then .tuple #[z, .bool false] else z) else none
            | none => none
          | none => none
        | [p] => some (if ok = true then .tuple #[p.2, .bool true] else p.2)
        | _ => none
      else none
    | _, _ => none
  | _, _, _ => none

theorem opLookup_ok {E : Env} (hE : EnvOk E σ) {tm : Tr Value} {h : Hp} {t : TypeId} {x y : Operand} {ok : Bool} {v : Value} (he : opLookup E tm h t x y ok = some v) {r : Ren σ} {w : World} {a : Act}
    (ht : TmRel r tm a.tmps) (hr : Rel r h w) : ∃ v', (Instr.lookup t (a.eval x) (a.eval y) ok).run E.P w = .ok v' w ∧ VRel r v v' := by
  unfold opLookup at he
  split at he
  · rename_i m k kt el hx hy hu
    have hv := opv_ok ht hx
    have hk := opv_ok ht hy
    split at he
    · rename_i kd es hkd hes
      split at he
      · rename_i hc
        obtain ⟨hc1, hc2, hc3⟩ := hc
        have hk' := (gnd_spec r 6 _ hc1).1 _ hk
        rw [hk']
        have hu' := Env.und_ok hE hu
        have hkd' := Env.und_ok hE hkd
        obtain ⟨ms, hm, hh⟩ := mapAt_ok hr hes hv
        obtain ⟨f1, f2, f3⟩ := hm.find hkd' hc2 w
        have hemp : ms.isEmpty = es.isEmpty := by
          have := hm.length
          cases es with
          | nil => simp at this; simp [this]
          | cons e es => simp at this; simp [Array.isEmpty]; intro h0; rw [h0] at this; simp at this
        have hck : ∀ b, b = ms.isEmpty → (Instr.checkKey b 10000 kt k).run E.P w = .ok () w := fun b hb => by rw [hb, hemp]; exact ckey_ok hc3 w
        split at he
        · rename_i hh0
          split at he
          · rename_i i hi
            split at he
            · rename_i z hz
              split at he
              · rename_i hg
                cases he
                rw [firstHit_none ms.toList 0 (f2 hh0)] at f1
                refine ⟨_, run_lookup_none hu' hh hck f1 (run_zeroValue_info (hE.ts _ _ hi) hz w) ok, ?_⟩
                cases ok
                · exact (gnd_spec r 6 _ hg).2
                · exact .tuple (.cons (gnd_spec r 6 _ hg).2 (.cons (.bool _) .nil))
              · cases he
            · cases he
          · cases he
        · rename_i p hh0
          cases he
          obtain ⟨v', g1, g2⟩ := f3 p hh0
          obtain ⟨j, e, q1, q2, q3, q4⟩ := firstHit_one ms.toList 0 g1
          rw [q1] at f1
          refine ⟨_, run_lookup_some hu' hh hck f1 ok, ?_⟩
          cases ok
          · exact g2
          · exact .tuple (.cons g2 (.cons (.bool _) .nil))
        · cases he
      · cases he
    · cases he
  · cases he

/- Storing. -/
def opMapSet (E : Env) (tm : Tr Value) (h : Hp) (t : TypeId) (x y z : Operand) : Option Hp :=
  match opv tm x, opv tm y, opv tm z, E.und t with
  | some (.map (some i)), some k, some v, some (.map kt _) =>
    match E.und kt, h.get i with
    | some kd, some (.map es) =>
      if gnd 6 k = true ∧ allTold E kt kd k es = true ∧ ckey E false kt k = true ∧ h.looseB i = true then
        match hits E kt kd k es with
        | [] => some (h.put i (.map ((k, v) :: es)))
        | [p] => if sbits p.1 k = true then some (h.put i (.map (es.map fun q => if eqKey E kt kd k q.1 == some true then (k, v) else q))) else none
        | _ => none
      else none
    | _, _ => none
  | _, _, _, _ => none

theorem Adv.putObj {r : Ren σ} {h : Hp} {w : World} (hr : Rel r h w) {i : Nat} {o o' : AObj} (hi : h.get i = some o) {b m : Nat} (hri : r i = some (b, m)) {obj obj' : Obj} (hb : w.heap[b]? = some obj) (hrel : ObjRel r m o' obj')
    (hl : h.loose i) (hpo : o.plain := by intro k p d e; cases e) (hpo' : o'.plain := by intro k p d e; cases e) : Adv r h w r (h.put i o') { w with heap := w.heap.setIfInBounds b obj' } := by
  have hlt := (Array.getElem?_eq_some_iff.1 hb).1
  exact Adv.putL hr hi hri (obj' := obj') (by simp [hlt]) (fun d hd => by rw [Array.getElem?_setIfInBounds_ne (Ne.symm hd)]) (by simp) hrel rfl rfl hl hpo hpo'

theorem Stamped.push {ms : Array MapEntry} {k : Nat} (h : Stamped ms k) {x v : Value} : Stamped (ms.push { key := x, val := v, born := k }) (k + 1) := by
  refine ⟨fun e he => ?_, ?_⟩
  · simp only [Array.toList_push, List.mem_append, List.mem_singleton] at he
    rcases he with he | he
    · have := h.1 e he; omega
    · subst he; simp
  · simp only [Array.toList_push, List.map_append, List.map_cons, List.map_nil]
    rw [List.nodup_append]
    refine ⟨h.2, by simp, fun a ha b hb => ?_⟩
    simp only [List.mem_singleton] at hb
    obtain ⟨e, he, rfl⟩ := List.mem_map.1 ha
    have := h.1 e he
    omega

theorem Stamped.modify {ms : Array MapEntry} {k : Nat} (h : Stamped ms k) {j : Nat} {f : MapEntry → MapEntry} (hf : ∀ e, (f e).born = e.born) : Stamped (ms.modify j f) k := by
  have hb : (ms.modify j f).toList.map (·.born) = ms.toList.map (·.born) := by
    apply List.ext_getElem?
    intro n
    simp only [List.getElem?_map, Array.getElem?_toList, Array.getElem?_modify]
    split
    · cases ms[n]? <;> simp [hf]
    · rfl
  refine ⟨fun e he => ?_, by rw [hb]; exact h.2⟩
  have h1 : e.born ∈ (ms.modify j f).toList.map (·.born) := List.mem_map_of_mem he
  rw [hb] at h1
  obtain ⟨e', he', h2⟩ := List.mem_map.1 h1
  have := h.1 e' he'
  omega

theorem opMapSet_ok {E : Env} (hE : EnvOk E σ) {tm : Tr Value} {h h' : Hp} {t : TypeId} {x y z : Operand} (he : opMapSet E tm h t x y z = some h') {r : Ren σ} {w : World} {a : Act}
    (ht : TmRel r tm a.tmps) (hr : Rel r h w) : ∃ w', (Instr.mapUpdate t (a.eval x) (a.eval y) (a.eval z)).run E.P w = .ok () w' ∧ Adv r h w r h' w' := by
  unfold opMapSet at he
  split at he
  · rename_i i k v kt el hx hy hz hu
    have hv := opv_ok ht hx
    have hk := opv_ok ht hy
    have hz' := opv_ok ht hz
    split at he
    · rename_i kd es hkd hi
      split at he
      · rename_i hc
        obtain ⟨hc1, hc2, hc3, hc4⟩ := hc
        have hk' := (gnd_spec r 6 _ hc1).1 _ hk
        rw [hk']
        have hu' := Env.und_ok hE hu
        have hkd' := Env.und_ok hE hkd
        have hck := ckey_ok hc3 w
        generalize a.eval x = p at hv ⊢
        generalize a.eval z = q at hz' ⊢
        cases hv with
        | @map _ b mm hri =>
        obtain ⟨ms, kk, h1, hm, hstp⟩ := hr.map hi hri
        obtain ⟨f1, f2, f3⟩ := hm.find hkd' hc2 w
        split at he
        · rename_i hh
          cases he
          rw [firstHit_none ms.toList 0 (f2 hh)] at f1
          refine ⟨_, run_mapUpdate_new hu' h1 hck f1, Adv.putObj hr hi hri h1 ?_ (hr.loose_of hc4)⟩
          refine ⟨?_, hstp.push⟩
          obtain ⟨ps, g1, g2⟩ := hm
          refine ⟨(k, q) :: ps, ?_, .cons hc1 hz' g2⟩
          simp only [Array.toList_push, List.map_append, List.map_cons, List.map_nil]
          exact ((g1.cons _).trans (List.perm_append_singleton _ _).symm)
        · rename_i p0 hh
          split at he
          · rename_i hsb
            cases he
            obtain ⟨v', g1, g2⟩ := f3 p0 hh
            obtain ⟨j, e, q1, q2, q3, q4⟩ := firstHit_one ms.toList 0 g1
            have hj : ms[j]? = some e := by simpa using q2
            have hek : e.key = p0.1 := congrArg Prod.fst q3
            rw [q1, Nat.zero_add] at f1
            refine ⟨_, run_mapUpdate_old hu' h1 hck f1 hj (by rw [hek]; exact hsb), Adv.putObj hr hi hri h1 ?_ (hr.loose_of hc4)⟩
            refine ⟨?_, hstp.modify (fun _ => rfl)⟩
            obtain ⟨ps, g1', g2'⟩ := hm
            refine ⟨ps.map (fun p => if eqKey E kt kd k p.1 == some true then (k, q) else p), ?_, ?_⟩
            · have hmod : (ms.modify j fun e => { e with key := k, val := q }).toList.map (fun e => (e.key, e.val)) =
                  (ms.toList.map fun e => (e.key, e.val)).map (fun p => if eqKey E kt kd k p.1 == some true then (k, q) else p) := by
                apply List.ext_getElem?
                intro n
                simp only [List.getElem?_map, Array.getElem?_toList, Array.getElem?_modify]
                cases hn : ms[n]? with
                | none => split <;> simp
                | some e' =>
                  by_cases hnj : j = n
                  · subst hnj
                    rw [hj] at hn; cases hn
                    have : eqKey E kt kd k e.key = some true := by
                      have hm1 : (p0.1, v') ∈ hits E kt kd k (ms.toList.map kv) := by rw [g1]; simp
                      have := (List.mem_filter.1 hm1).2
                      rw [hek]; simpa using this
                    simp [this]
                  · have : ¬ (eqKey E kt kd k e'.key = some true) := fun hq => hnj (q4 n e' (by simpa using hn) hq).symm
                    simp [hnj, this]
              rw [hmod]
              exact g1'.map _
            · have : ∀ {as cs : List (Value × Value)}, PRels r as cs → PRels r (as.map fun p => if eqKey E kt kd k p.1 == some true then (k, v) else p) (cs.map fun p => if eqKey E kt kd k p.1 == some true then (k, q) else p) := by
                intro as cs hp
                induction hp with
                | nil => exact .nil
                | @cons k0 v0 v0' n0 as cs e1 e2 e3 ih =>
                  simp only [List.map_cons]
                  split
                  · exact .cons hc1 hz' ih
                  · exact .cons e1 e2 ih
              exact this g2'
          · cases he
        · cases he
      · cases he
    · cases he
  · cases he

end Go.Eng
