/- The engine, part 10, continued: delete. -/
import Derived.Test.YtbohihkmakpbbaaGreatE10K
namespace Go.Eng
variable {σ : Interp}

def opDelete (E : Env) (tm : Tr Value) (h : Hp) (t : TypeId) (x y : Operand) : Option Hp :=
  match opv tm x, opv tm y, E.und t with
  | some (.map (some i)), some k, some (.map kt _) =>
    match E.und kt, h.get i with
    | some kd, some (.map es) =>
      if gnd 6 k = true ∧ allTold E kt kd k es = true ∧ ckey E true kt k = true ∧ ckey E false kt k = true ∧ h.looseB i = true then
        match hits E kt kd k es with
        | [] => some h
        | [_] => some (h.put i (.map (es.filter fun q => !(eqKey E kt kd k q.1 == some true))))
        | _ => none
      else none
    | _, _ => none
  | _, _, _ => none

theorem filter_erase {α : Type} {p : α → Bool} : ∀ (l : List α) (j : Nat) (e : α), l[j]? = some e → p e = true → (∀ j' e', l[j']? = some e' → p e' = true → j' = j) → l.filter (fun x => !p x) = l.eraseIdx j := by
  intro l
  induction l with
  | nil => intro j e h; simp at h
  | cons x l ih =>
    intro j e h hp hu
    cases j with
    | zero =>
      simp at h; subst h
      rw [List.filter_cons, if_neg (by simp [hp]), List.eraseIdx_zero, List.tail_cons]
      rw [List.filter_eq_self]
      intro y hy
      obtain ⟨n, hn⟩ := List.getElem?_of_mem hy
      cases hpy : p y with
      | false => rfl
      | true =>
        have := hu (n + 1) y (by simpa using hn) hpy
        omega
    | succ j =>
      simp only [List.getElem?_cons_succ] at h
      have hx : p x = false := by
        cases hpx : p x with
        | false => rfl
        | true => have := hu 0 x (by simp) hpx; omega
      rw [List.filter_cons, if_pos (by simp [hx]), List.eraseIdx_cons_succ, ih j e h hp (fun j' e' h1 h2 => by have := hu (j' + 1) e' (by simpa using h1) h2; omega)]

theorem PRels.filterKeys {r : Ren σ} {f : Value → Bool} {as cs : List (Value × Value)} (h : PRels r as cs) : PRels r (as.filter fun q => f q.1) (cs.filter fun q => f q.1) := by
  induction h with
  | nil => exact .nil
  | @cons k v v' n as cs h1 h2 _ ih =>
    simp only [List.filter_cons]
    split
    · exact .cons h1 h2 ih
    · exact ih

theorem Stamped.erase {ms : Array MapEntry} {k : Nat} (h : Stamped ms k) (j : Nat) : Stamped (ms.eraseIdxIfInBounds j) k := by
  have hs : (ms.eraseIdxIfInBounds j).toList.Sublist ms.toList := by
    rw [Array.toList_eraseIdxIfInBounds]
    exact List.eraseIdx_sublist _ _
  exact ⟨fun e he => h.1 e (hs.subset he), (hs.map _).nodup h.2⟩

theorem opDelete_ok {E : Env} (hE : EnvOk E σ) {tm : Tr Value} {h h' : Hp} {t : TypeId} {x y : Operand} (he : opDelete E tm h t x y = some h') {r : Ren σ} {w : World} {a : Act} (ht : TmRel r tm a.tmps) (hr : Rel r h w) (ts : List TypeId) (ty : TypeId) :
    ∃ w', (Builtin.delete_ ⟨t :: ts⟩ ty #[a.eval x, a.eval y]).run E.P w = .ok (.tuple #[]) w' ∧ Adv r h w r h' w' := by
  unfold opDelete at he
  split at he
  · rename_i i k kt el hx hy hu
    have hv := opv_ok ht hx
    have hk := opv_ok ht hy
    split at he
    · rename_i kd es hkd hi
      split at he
      · rename_i hc
        obtain ⟨hc1, hc2, hc3, hc4, hc5⟩ := hc
        have hk' := (gnd_spec r 6 _ hc1).1 _ hk
        rw [hk']
        have hu' := Env.und_ok hE hu
        have hkd' := Env.und_ok hE hkd
        generalize a.eval x = p at hv ⊢
        cases hv with
        | @map _ b mm hri =>
        obtain ⟨ms, kk, h1, hm, hstp⟩ := hr.map hi hri
        have hck : (Instr.checkKey ms.isEmpty 10000 kt k).run E.P w = .ok () w := by
          cases ms.isEmpty
          · exact ckey_ok hc4 w
          · exact ckey_ok hc3 w
        obtain ⟨f1, f2, f3⟩ := hm.find hkd' hc2 w
        split at he
        · rename_i hh
          cases he
          rw [firstHit_none ms.toList 0 (f2 hh)] at f1
          refine ⟨{ w with heap := w.heap.setIfInBounds b (.map ms kk) }, ?_, ?_⟩
          · simp only [Builtin.delete_, List.getElem?_toArray, List.getElem?_cons_zero]
            simp [hck, f1, setObj, Sem.run, h1, run_underlying hu', run_getObj_map h1, Result.andThen]
          · have hs : (h.put i (.map es)).same h := ⟨fun j => by rw [Hp.get_put]; split <;> simp_all, rfl, rfl⟩
            exact Adv.same hs (Adv.putObj hr hi hri h1 ⟨hm, hstp⟩ (hr.loose_of hc5))
        · rename_i p0 hh
          cases he
          obtain ⟨v', g1, g2⟩ := f3 p0 hh
          obtain ⟨j, e, q1, q2, q3, q4⟩ := firstHit_one ms.toList 0 g1
          rw [q1, Nat.zero_add] at f1
          have hek : eqKey E kt kd k e.key = some true := by
            have hm1 : (p0.1, v') ∈ hits E kt kd k (ms.toList.map kv) := by rw [g1]; simp
            have := (List.mem_filter.1 hm1).2
            rw [show e.key = p0.1 from congrArg Prod.fst q3]; simpa using this
          refine ⟨{ w with heap := w.heap.setIfInBounds b (.map (ms.eraseIdxIfInBounds j) kk) }, ?_, Adv.putObj hr hi hri h1 ⟨?_, hstp.erase j⟩ (hr.loose_of hc5)⟩
          · simp only [Builtin.delete_, List.getElem?_toArray, List.getElem?_cons_zero]
            simp [hck, f1, setObj, Sem.run, h1, run_underlying hu', run_getObj_map h1, Result.andThen]
          · obtain ⟨ps, k1, k2⟩ := hm
            refine ⟨ps.filter fun q => !(eqKey E kt kd k q.1 == some true), ?_, k2.filterKeys (f := fun k' => !(eqKey E kt kd k k' == some true))⟩
            have hfil := filter_erase (p := fun e' : MapEntry => eqKey E kt kd k e'.key == some true) ms.toList j e (by simpa using q2) (by simp [hek]) (fun j' e' h1 h2 => q4 j' e' h1 (by simpa using h2))
            rw [Array.toList_eraseIdxIfInBounds, ← hfil]
            have hmap : (ms.toList.filter fun e' => !(eqKey E kt kd k e'.key == some true)).map (fun e => (e.key, e.val)) = (ms.toList.map fun e => (e.key, e.val)).filter fun q => !(eqKey E kt kd k q.1 == some true) := by
              rw [List.filter_map]; rfl
            rw [hmap]
            exact k1.filter _
        · cases he
      · cases he
    · cases he
  · cases he

/- One dead name more. -/
theorem Adv.widen {r : Ren σ} {h : Hp} {w : World} (hr : Rel r h w) (x : Nat × Nat) : Adv r h w (r.add h.nx x) { h with nx := h.nx + 1 } w := by
  have hle : r.le (r.add h.nx x) := Ren.le_add hr.nx_none
  have hne : ∀ {j o}, h.get j = some o → j ≠ h.nx := fun hj => by have := hr.bound hj; omega
  have hat : ∀ {j}, (h.get j).isSome = true → (r.add h.nx x) j = r j := by
    intro j hj
    obtain ⟨o, ho⟩ := Option.isSome_iff_exists.1 hj
    exact Ren.add_ne (hne ho)
  have hspk : ∀ c, Spk (r.add h.nx x) { h with nx := h.nx + 1 } c → Spk r h c := by
    intro c hc
    rcases hc with ⟨j, m, hj, h1⟩ | ⟨j, k, p, d, hj, h1⟩
    · rw [hat hj] at h1; exact .inl ⟨j, m, hj, h1⟩
    · exact .inr ⟨j, k, p, d, hj, h1⟩
  refine ⟨⟨fun i y hy => ?_, fun i o hi => ?_, fun i j c m m' hi hj h1 h2 => ?_, fun i k p d hi => ?_, hr.pin, fun i k p d hi b hb j hj m h1 => ?_, hr.sepF, fun c o hc => ⟨(hr.ro c o hc).1, fun hs => (hr.ro c o hc).2 (hspk c hs)⟩⟩,
    hle, Nat.le_succ _, Nat.le_refl _, fun _ _ _ => rfl, fun c hs => .inr (hspk c hs), rfl, rfl, fun i hi => Ren.add_ne (by omega)⟩
  · show i < h.nx + 1
    by_cases e : i = h.nx
    · omega
    · rw [Ren.add_ne e] at hy; have := hr.dom i y hy; omega
  · obtain ⟨c, m, obj, h1, h2, h3⟩ := hr.live i o hi
    exact ⟨c, m, obj, hle _ _ h1, h2, h3.mono hle⟩
  · rw [hat hi] at h1; rw [hat hj] at h2; exact hr.inj i j c m m' hi hj h1 h2
  · obtain ⟨c, m, h1, h2, h3⟩ := hr.abs i k p d hi
    exact ⟨c, m, hle _ _ h1, ownA_more h2 hle, h3⟩
  · rw [hat hj] at h1; exact hr.sepN i k p d hi b hb j hj m h1

/- An entry that is opened, and shut: 'm[k] = f(m[k])'. -/
def opMapEntry (E : Env) (tm : Tr Value) (h : Hp) (t : TypeId) (x y : Operand) : Option (Value × Hp) :=
  match opv tm x, opv tm y, E.und t with
  | some (.map (some i)), some k, some (.map kt el) =>
    match E.und kt, h.get i with
    | some kd, some (.map es) =>
      if gnd 6 k = true ∧ allTold E kt kd k es = true ∧ ckey E false kt k = true ∧ h.looseB i = true then
        match hits E kt kd k es with
        | [] =>
          match E.ts.get el with
          | some ti =>
            match ti.zero with
            | some z => if gnd 6 z = true then some (.tuple ⟨[z, .float .f64 h.nx]⟩, { h.put i (.mapE ((k, z) :: es) h.nx k) with nx := h.nx + 1 }) else none
            | none => none
          | none => none
        | [p] => if sbits p.1 k = true ∧ veq 9 p.1 k = true then some (.tuple ⟨[p.2, .float .f64 h.nx]⟩, { h.put i (.mapE es h.nx k) with nx := h.nx + 1 }) else none
        | _ => none
      else none
    | _, _ => none
  | _, _, _ => none

def opEntryStore (tm : Tr Value) (h : Hp) (x y z : Operand) : Option Hp :=
  match opv tm x, opv tm y, opv tm z with
  | some (.map (some i)), some (.float .f64 j), some v =>
    match h.get i with
    | some (.mapE es j' k) =>
      if j = j' ∧ (es.filter fun q => veq 9 q.1 k).length = 1 ∧ veq 9 k k = true then some (h.put i (.map (es.map fun q => if veq 9 q.1 k = true then (q.1, v) else q))) else none
    | _ => none
  | _, _, _ => none

theorem opMapEntry_ok {E : Env} (hE : EnvOk E σ) {tm : Tr Value} {h h' : Hp} {t : TypeId} {x y : Operand} {v : Value} (he : opMapEntry E tm h t x y = some (v, h')) {r : Ren σ} {w : World} {a : Act} (ht : TmRel r tm a.tmps) (hr : Rel r h w) :
    ∃ r' v' w', (Instr.mapEntry t (a.eval x) (a.eval y)).run E.P w = .ok v' w' ∧ Adv r h w r' h' w' ∧ VRel r' v v' := by
  unfold opMapEntry at he
  split at he
  · rename_i i k kt el hx hy hu
    have hv := opv_ok ht hx
    have hk := opv_ok ht hy
    split at he
    · rename_i kd es hkd hi
      split at he
      · rename_i hc
        obtain ⟨hc1, hc2, hc3, hc4⟩ := hc
        have hk' := (gnd_spec r 6 _ hc1).1 _ hk
        rw [hk']
        have hu' := Env.und_ok hE hu
        have hkd' := Env.und_ok hE hkd
        have hck := ckey_ok hc3 w
        generalize a.eval x = p at hv ⊢
        cases hv with
        | @map _ b mm hri =>
        obtain ⟨ms, kk, h1, hm, hstp⟩ := hr.map hi hri
        obtain ⟨f1, f2, f3⟩ := hm.find hkd' hc2 w
        have hi' : ({ h with nx := h.nx + 1 } : Hp).get i = some (.map es) := hi
        split at he
        · rename_i hh
          split at he
          · rename_i ti hti
            split at he
            · rename_i z hz
              split at he
              · rename_i hgz
                cases he
                rw [firstHit_none ms.toList 0 (f2 hh)] at f1
                have ha := Adv.widen hr (0, kk)
                have hri' : (r.add h.nx (0, kk)) i = some (b, mm) := ha.le _ _ hri
                have hrz := run_zeroValue_info (hE.ts _ _ hti) hz w
                refine ⟨r.add h.nx (0, kk), .tuple #[z, .int .i64 (kk : Int)], { w with heap := w.heap.setIfInBounds b (.map (ms.push { key := k, val := z, born := kk }) (kk + 1)) }, ?_,
                  ha.trans (Adv.putObj ha.rel hi' hri' h1 (o' := .mapE ((k, z) :: es) h.nx k) ⟨⟨?_, hstp.push⟩, 0, kk, { key := k, val := z, born := kk }, Ren.add_same, by simp, rfl, rfl⟩ (ha.rel.loose_of hc4)),
                  .tuple (.cons (gnd_spec _ 6 _ hgz).2 (.cons (.stamp Ren.add_same) .nil))⟩
                · simp only [Instr.mapEntry, Sem.run_bind, run_underlying hu', Result.andThen_ok, run_getObj_map h1, hck, f1, hrz]
                  simp [setObj, Sem.run, h1, goInt, Result.andThen]
                · obtain ⟨ps, g1, g2⟩ := hm
                  refine ⟨(k, z) :: ps, ?_, .cons hc1 (gnd_spec _ 6 _ hgz).2 (g2.mono ha.le)⟩
                  simp only [Array.toList_push, List.map_append, List.map_cons, List.map_nil]
                  exact ((g1.cons _).trans (List.perm_append_singleton _ _).symm)
              · cases he
            · cases he
          · cases he
        · rename_i p0 hh
          split at he
          · rename_i hsb
            obtain ⟨hsb, hvk⟩ := hsb
            cases he
            obtain ⟨v', g1, g2⟩ := f3 p0 hh
            obtain ⟨j, e, q1, q2, q3, q4⟩ := firstHit_one ms.toList 0 g1
            have hj : ms[j]? = some e := by simpa using q2
            have hek : e.key = k := (congrArg Prod.fst q3).trans (veq_ok _ _ _ hvk)
            have hev : e.val = v' := congrArg Prod.snd q3
            rw [q1, Nat.zero_add] at f1
            have ha := Adv.widen hr (0, e.born)
            have hri' : (r.add h.nx (0, e.born)) i = some (b, mm) := ha.le _ _ hri
            have hmod : ms.modify j (fun e => { e with key := k }) = ms := by
              apply Array.ext'
              apply List.ext_getElem?
              intro n
              simp only [Array.getElem?_toList, Array.getElem?_modify]
              split
              · rename_i hnj
                subst hnj
                rw [hj, Option.map_some, ← hek]
              · rfl
            have hstay : (Instr.keyThatStays (((ms[j]?).map (·.key)).getD k) k).run E.P w = .ok k w := by
              rw [hj]
              simp only [Option.map_some, Option.getD_some]
              unfold Instr.keyThatStays
              have hs' : Instr.sameBits 10000 e.key k = true := by rw [hek]; rw [veq_ok _ _ _ hvk] at hsb; exact hsb
              rw [if_pos hs']; rfl
            refine ⟨r.add h.nx (0, e.born), .tuple #[v', .int .i64 (e.born : Int)], { w with heap := w.heap.setIfInBounds b (.map ms kk) }, ?_,
              ha.trans (Adv.putObj ha.rel hi' hri' h1 (o' := .mapE es h.nx k) ⟨⟨let ⟨ps, k1, k2⟩ := hm; ⟨ps, k1, k2.mono ha.le⟩, hstp⟩, 0, e.born, e, Ren.add_same, List.mem_of_getElem? q2, hek, rfl⟩ (ha.rel.loose_of hc4)),
              .tuple (.cons (g2.mono ha.le) (.cons (.stamp Ren.add_same) .nil))⟩
            simp only [Instr.mapEntry, Sem.run_bind, run_underlying hu', Result.andThen_ok, run_getObj_map h1, hck, f1, hstay, hmod]
            simp [setObj, Sem.run, h1, goInt, Result.andThen, hj]
          · cases he
        · cases he
      · cases he
    · cases he
  · cases he

theorem PRels.sameKeys {r : Ren σ} {f : Value → Bool} {as cs : List (Value × Value)} (h : PRels r as cs) : (as.filter fun q => f q.1).length = (cs.filter fun q => f q.1).length := by
  induction h with
  | nil => rfl
  | @cons k v v' n as cs h1 h2 _ ih =>
    simp only [List.filter_cons]
    split <;> simp [ih]

theorem PRels.setKeys {r : Ren σ} {f : Value → Bool} {u u' : Value} (hu : VRel r u u') {as cs : List (Value × Value)} (h : PRels r as cs) : PRels r (as.map fun q => if f q.1 = true then (q.1, u) else q) (cs.map fun q => if f q.1 = true then (q.1, u') else q) := by
  induction h with
  | nil => exact .nil
  | @cons k v v' n as cs h1 h2 _ ih =>
    simp only [List.map_cons]
    split
    · exact .cons h1 hu ih
    · exact .cons h1 h2 ih

theorem one_index {α : Type} {p : α → Bool} : ∀ {l : List α}, (l.filter p).length = 1 → ∀ {i j : Nat} {x y : α}, l[i]? = some x → l[j]? = some y → p x = true → p y = true → i = j := by
  intro l
  induction l with
  | nil => intro h; simp at h
  | cons z l ih =>
    intro h i j x y hi hj hx hy
    have no : p z = true → ∀ (n : Nat) (t : α), l[n]? = some t → p t = true → False := by
      intro hz n t hn ht
      rw [List.filter_cons, if_pos hz] at h
      have : l.filter p = [] := by simpa using h
      have := List.filter_eq_nil_iff.1 this t (List.mem_of_getElem? hn)
      exact this ht
    cases i with
    | zero =>
      simp at hi; subst hi
      cases j with
      | zero => rfl
      | succ j => exact (no hx j y (by simpa using hj) hy).elim
    | succ i =>
      cases j with
      | zero =>
        simp at hj; subst hj
        exact (no hy i x (by simpa using hi) hx).elim
      | succ j =>
        cases hz : p z with
        | true => exact (no hz i x (by simpa using hi) hx).elim
        | false =>
          rw [List.filter_cons, if_neg (by simp [hz])] at h
          have := ih h (i := i) (j := j) (by simpa using hi) (by simpa using hj) hx hy
          omega

theorem opEntryStore_ok {P : Program} {tm : Tr Value} {h h' : Hp} {t : TypeId} {x y z : Operand} (he : opEntryStore tm h x y z = some h') {r : Ren σ} {w : World} {a : Act} (ht : TmRel r tm a.tmps) (hr : Rel r h w) :
    ∃ w', (Instr.entryStore t (a.eval x) (a.eval y) (a.eval z)).run P w = .ok () w' ∧ Adv r h w r h' w' := by
  unfold opEntryStore at he
  split at he
  · rename_i i j v hx hy hz
    have hv := opv_ok ht hx
    have hs := opv_ok ht hy
    have hz' := opv_ok ht hz
    generalize a.eval x = p at hv ⊢
    generalize a.eval y = q at hs ⊢
    generalize a.eval z = u at hz' ⊢
    split at he
    · rename_i es j' k hi
      split at he
      · rename_i hc
        obtain ⟨rfl, hc2, hc3⟩ := hc
        cases he
        cases hv with
        | @map _ b mm hri =>
        cases hs with
        | @stamp _ cs n hsj =>
        obtain ⟨b', m', obj, g1, g2, g3⟩ := hr.live i _ hi
        rw [hri] at g1
        cases g1
        cases obj <;> simp only [ObjRel] at g3
        rename_i ms clock
        obtain ⟨⟨⟨ps, k1, k2⟩, hstp⟩, c, n', e, e1, e2, e3, e4⟩ := g3
        rw [hsj] at e1
        cases e1
        obtain ⟨jj, hjj⟩ := List.getElem?_of_mem e2
        have hj : ms[jj]? = some e := by simpa using hjj
        have hcnt : ((ms.toList.map fun e => (e.key, e.val)).filter fun q => veq 9 q.1 k).length = 1 := by
          rw [← (k1.filter _).length_eq, ← k2.sameKeys (f := fun q => veq 9 q k)]; exact hc2
        have hfind : ms.findIdx? (fun e' => (e'.born : Int) == (n : Int)) = some jj := by
          rw [Array.findIdx?_eq_some_iff_getElem]
          obtain ⟨hlt, hge⟩ := Array.getElem?_eq_some_iff.1 hj
          refine ⟨hlt, by rw [hge, e4]; simp, fun i' hi' hb => ?_⟩
          have hb' : ms[i'].born = n := by
            have : (ms[i'].born : Int) = n := by simpa using hb
            omega
          have hnd := List.pairwise_iff_getElem.1 hstp.2 i' jj (by simp; omega) (by simpa using hlt) hi'
          apply hnd
          simp only [List.getElem_map, Array.getElem_toList]
          rw [hb', hge, e4]
        refine ⟨{ w with heap := w.heap.setIfInBounds b (.map (ms.modify jj fun e => { e with val := u }) clock) }, ?_, ?_⟩
        · simp only [Instr.entryStore, Sem.run_bind, run_getObj_map g2, Result.andThen_ok, asInt, asIntOf, Sem.run_pure]
          simp [hfind, setObj, Sem.run, g2]
        · refine Adv.putObj hr hi hri g2 ⟨⟨ps.map fun q => if veq 9 q.1 k = true then (q.1, u) else q, ?_, k2.setKeys (f := fun q => veq 9 q k) hz'⟩, hstp.modify (fun _ => rfl)⟩ (hr.loose_not hi (by intro es e; cases e))
          have hmod : (ms.modify jj fun e => { e with val := u }).toList.map (fun e => (e.key, e.val)) = (ms.toList.map fun e => (e.key, e.val)).map (fun q => if veq 9 q.1 k = true then (q.1, u) else q) := by
            apply List.ext_getElem?
            intro i'
            simp only [List.getElem?_map, Array.getElem?_toList, Array.getElem?_modify]
            cases hn : ms[i']? with
            | none => split <;> simp
            | some e' =>
              by_cases hij : jj = i'
              · subst hij
                rw [hj] at hn; cases hn
                simp [e3, hc3]
              · have : ¬ (veq 9 e'.key k = true) := by
                  intro hq
                  apply hij
                  refine one_index hcnt (i := jj) (j := i') (x := (e.key, e.val)) (y := (e'.key, e'.val)) ?_ ?_ (by simp [e3, hc3]) hq
                  · simp [hjj]
                  · simp [hn]
                simp [hij, this]
          rw [hmod]
          exact k1.map _
      · cases he
    · cases he
  · cases he

end Go.Eng
