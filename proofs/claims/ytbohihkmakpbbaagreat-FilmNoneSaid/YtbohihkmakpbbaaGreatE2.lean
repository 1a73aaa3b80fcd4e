/- The engine, part 2: heaps up to a renaming of blocks; what is read, written and made there. -/
import Derived.Test.YtbohihkmakpbbaaGreatE1
namespace Go.Eng
variable {σ : Nat → Value}

/- Slots: those of which the small side knows what they hold. -/
def TmRel (r : Ren σ) (tm : Tr Value) (tmps : Array Value) : Prop := ∀ (t : Nat) (v : Value), tm.get t = some v → ∃ v', tmps[t]? = some v' ∧ VRel r v v'

theorem TmRel.mono {r s : Ren σ} (h : r.le s) {tm : Tr Value} {tmps : Array Value} (ht : TmRel r tm tmps) : TmRel s tm tmps :=
  fun t v hv => let ⟨v', h1, h2⟩ := ht t v hv; ⟨v', h1, h2.mono h⟩

theorem TmRel.set {r : Ren σ} {tm : Tr Value} {tmps : Array Value} (ht : TmRel r tm tmps) {d : Nat} {v v' : Value} (hv : VRel r v v') (hd : d < tmps.size) :
    TmRel r (tm.set d (some v)) (tmps.setIfInBounds d v') := by
  intro t u hu
  rw [Tr.get_set] at hu
  split at hu
  · subst_vars; cases hu; exact ⟨v', by simp [hd], hv⟩
  · rename_i hne
    obtain ⟨u', h1, h2⟩ := ht t u hu
    exact ⟨u', by rw [Array.getElem?_setIfInBounds_ne hne]; exact h1, h2⟩

/- A loop over a function, as the small heap keeps it. -/
structure ALoop where
  state : LoopState
  pending : Option Code
  nt : Nat
  tm : Tr Value
  params : Array Tmp
  assign : Code
  body : Code
  defers : Nat

/- An object of the small heap. 'cells c (some es)': the row may be longer than c (its capacity is not known; an element has es cells). -/
inductive AObj where
  | cells (c : List Value) (sl : Option Nat)
  | map (es : List (Value × Value))
  | loop (l : ALoop)
  | defs (taken : Bool)

structure Hp where
  t : Tr AObj
  nx : Nat

def Hp.get (h : Hp) (i : Nat) : Option AObj := h.t.get i
def Hp.put (h : Hp) (i : Nat) (o : AObj) : Hp := { h with t := h.t.set i (some o) }
def Hp.kill (h : Hp) (i : Nat) : Hp := { h with t := h.t.set i none }
def Hp.new (h : Hp) (o : AObj) : Hp := { t := h.t.set h.nx (some o), nx := h.nx + 1 }

def CellsRel (r : Ren σ) (c : List Value) (c' : Array Value) : Prop := ∀ (i : Nat) (v : Value), c[i]? = some v → ∃ v', c'[i]? = some v' ∧ VRel r v v'

inductive PRels (r : Ren σ) : List (Value × Value) → List (Value × Value) → Prop
  | nil : PRels r [] []
  | cons {k v v' : Value} {n : Nat} {as cs : List (Value × Value)} : gnd n k = true → VRel r v v' → PRels r as cs → PRels r ((k, v) :: as) ((k, v') :: cs)

def MapRel (r : Ren σ) (es : List (Value × Value)) (ms : Array MapEntry) : Prop :=
  ∃ ps, ps.Perm (ms.toList.map fun e => (e.key, e.val)) ∧ PRels r es ps

structure LoopRel (r : Ren σ) (a : ALoop) (c : Loop) : Prop where
  state : c.state = a.state
  pending : c.pending = a.pending
  nt : c.tmps.size = a.nt
  tmps : TmRel r a.tm c.tmps
  params : c.params = a.params
  assign : c.assign = a.assign
  body : c.body = a.body
  defers : ∃ m, r a.defers = some (c.defers, m)

def ObjRel (r : Ren σ) (cap : Nat) : AObj → Obj → Prop
  | .cells c sl, .cells c' _ fz => CellsRel r c c' ∧ (fz.1 = fz.2 ∨ c'.size ≤ fz.1) ∧ (∀ es, sl = some es → c'.size = cap * es)
  | .map es, .map ms _ => MapRel r es ms
  | .loop l, .loop l' => LoopRel r l l'
  | .defs false, .deferred (some []) => True
  | .defs true, .deferred none => True
  | _, _ => False

structure Rel (r : Ren σ) (h : Hp) (w : World) : Prop where
  dom : ∀ i x, r i = some x → i < h.nx
  live : ∀ i o, h.get i = some o → ∃ c m obj, r i = some (c, m) ∧ w.heap[c]? = some obj ∧ ObjRel r m o obj
  inj : ∀ i j c m m', (h.get i).isSome = true → (h.get j).isSome = true → r i = some (c, m) → r j = some (c, m') → i = j

/- What stands about the memory and does not turn. -/
def outer (w : World) : Os × Tape := (w.os, w.tape)

/- What became of the world: nothing that the small heap does not speak of has changed. -/
structure Adv (r : Ren σ) (h : Hp) (w : World) (r' : Ren σ) (h' : Hp) (w' : World) : Prop where
  rel : Rel r' h' w'
  le : r.le r'
  nx : h.nx ≤ h'.nx
  size : w.heap.size ≤ w'.heap.size
  keep : ∀ c, c < w.heap.size → (∀ i, (h.get i).isSome = true → ∀ m, r i ≠ some (c, m)) → w'.heap[c]? = w.heap[c]?
  orig : ∀ i c m, (h'.get i).isSome = true → r' i = some (c, m) → w.heap.size ≤ c ∨ ∃ j m', (h.get j).isSome = true ∧ r j = some (c, m')
  os : outer w' = outer w
  output : w'.output = w.output
  old : ∀ i, i < h.nx → r' i = r i

theorem Adv.refl {r : Ren σ} {h : Hp} {w : World} (hr : Rel r h w) : Adv r h w r h w :=
  ⟨hr, Ren.le_refl r, Nat.le_refl _, Nat.le_refl _, fun _ _ _ => rfl, fun i _ m hi hri => .inr ⟨i, m, hi, hri⟩, rfl, rfl, fun _ _ => rfl⟩

theorem Adv.trans {r r' r'' : Ren σ} {h h' h'' : Hp} {w w' w'' : World} (a : Adv r h w r' h' w') (b : Adv r' h' w' r'' h'' w'') : Adv r h w r'' h'' w'' where
  rel := b.rel
  le := Ren.le_trans a.le b.le
  nx := Nat.le_trans a.nx b.nx
  size := Nat.le_trans a.size b.size
  keep := fun c hc hn => by
    rw [b.keep c (Nat.lt_of_lt_of_le hc a.size) (fun i hi m hri => ?_), a.keep c hc hn]
    rcases a.orig i c m hi hri with hlt | ⟨j, m', hj, hrj⟩
    · omega
    · exact hn j hj m' hrj
  orig := fun i c m hi hri => by
    rcases b.orig i c m hi hri with hlt | ⟨j, m', hj, hrj⟩
    · exact .inl (Nat.le_trans a.size hlt)
    · exact a.orig j c m' hj hrj
  os := b.os.trans a.os
  output := b.output.trans a.output
  old := fun i hi => (b.old i (Nat.lt_of_lt_of_le hi a.nx)).trans (a.old i hi)

/- A draw moves nothing. -/
theorem Rel.drew {r : Ren σ} {h : Hp} {w w' : World} (hr : Rel r h w) (hw : w'.heap = w.heap) : Rel r h w' :=
  ⟨hr.dom, fun i o hi => by rw [hw]; exact hr.live i o hi, hr.inj⟩

theorem Adv.drew {r : Ren σ} {h : Hp} {w w' : World} (hr : Rel r h w) (hw : w'.heap = w.heap) (ho : outer w' = outer w) (hp : w'.output = w.output) : Adv r h w r h w' :=
  ⟨hr.drew hw, Ren.le_refl r, Nat.le_refl _, by rw [hw]; exact Nat.le_refl _, fun _ _ _ => by rw [hw], fun i _ m hi hri => .inr ⟨i, m, hi, hri⟩, ho, hp, fun _ _ => rfl⟩

theorem CellsRel.mono {r s : Ren σ} (h : r.le s) {c : List Value} {c' : Array Value} (hc : CellsRel r c c') : CellsRel s c c' :=
  fun i v hv => let ⟨v', h1, h2⟩ := hc i v hv; ⟨v', h1, h2.mono h⟩

theorem PRels.mono {r s : Ren σ} (h : r.le s) {as cs : List (Value × Value)} (hc : PRels r as cs) : PRels s as cs := by
  induction hc with
  | nil => exact .nil
  | cons h1 h2 _ ih => exact .cons h1 (h2.mono h) ih

theorem ObjRel.mono {r s : Ren σ} (h : r.le s) {m : Nat} {o : AObj} {obj : Obj} (hc : ObjRel r m o obj) : ObjRel s m o obj := by
  cases o with
  | cells c sl => cases obj <;> simp only [ObjRel] at hc ⊢ <;> exact ⟨hc.1.mono h, hc.2.1, hc.2.2⟩
  | map es => cases obj <;> simp only [ObjRel] at hc ⊢ <;> exact let ⟨ps, h1, h2⟩ := hc; ⟨ps, h1, h2.mono h⟩
  | loop l => cases obj <;> simp only [ObjRel] at hc ⊢ <;> exact ⟨hc.state, hc.pending, hc.nt, hc.tmps.mono h, hc.params, hc.assign, hc.body, let ⟨m, hm⟩ := hc.defers; ⟨m, h _ _ hm⟩⟩
  | defs b =>
    cases b <;> cases obj <;> first
      | exact hc
      | (rename_i calls; cases calls with
        | none => exact hc
        | some l => cases l <;> exact hc)

theorem Hp.get_put (h : Hp) (i j : Nat) (o : AObj) : (h.put i o).get j = if i = j then some o else h.get j := Tr.get_set _ _ _ _
theorem Hp.get_kill (h : Hp) (i j : Nat) : (h.kill i).get j = if i = j then none else h.get j := Tr.get_set _ _ _ _
theorem Hp.get_new (h : Hp) (j : Nat) (o : AObj) : (h.new o).get j = if h.nx = j then some o else h.get j := Tr.get_set _ _ _ _

/- An object is replaced, at its place. -/
theorem Rel.put {r : Ren σ} {h : Hp} {w : World} (hr : Rel r h w) {i : Nat} {o o' : AObj} (hi : h.get i = some o) {c m : Nat} (hri : r i = some (c, m))
    {w' : World} {obj' : Obj} (hat : w'.heap[c]? = some obj') (hother : ∀ d, d ≠ c → w'.heap[d]? = w.heap[d]?) (hrel : ObjRel r m o' obj') : Rel r (h.put i o') w' where
  dom := hr.dom
  live := fun j p hj => by
    rw [Hp.get_put] at hj
    split at hj
    · subst_vars; cases hj; exact ⟨c, m, obj', hri, hat, hrel⟩
    · rename_i hne
      obtain ⟨c₁, m₁, obj₁, h1, h2, h3⟩ := hr.live j p hj
      refine ⟨c₁, m₁, obj₁, h1, ?_, h3⟩
      rw [hother c₁ (fun e => hne ?_), h2]
      subst e
      exact (hr.inj i j c₁ m m₁ (by simp [hi]) (by simp [hj]) hri h1)
  inj := fun j k d m₁ m₂ hj hk h1 h2 => by
    refine hr.inj j k d m₁ m₂ ?_ ?_ h1 h2
    · rw [Hp.get_put] at hj; split at hj
      · subst_vars; simp [hi]
      · exact hj
    · rw [Hp.get_put] at hk; split at hk
      · subst_vars; simp [hi]
      · exact hk

theorem Adv.put {r : Ren σ} {h : Hp} {w : World} (hr : Rel r h w) {i : Nat} {o o' : AObj} (hi : h.get i = some o) {c m : Nat} (hri : r i = some (c, m))
    {w' : World} {obj' : Obj} (hat : w'.heap[c]? = some obj') (hother : ∀ d, d ≠ c → w'.heap[d]? = w.heap[d]?) (hsize : w'.heap.size = w.heap.size) (hrel : ObjRel r m o' obj')
    (ho : outer w' = outer w) (hp : w'.output = w.output) : Adv r h w r (h.put i o') w' where
  rel := hr.put hi hri hat hother hrel
  le := Ren.le_refl r
  nx := Nat.le_refl _
  size := by omega
  keep := fun d _ hn => hother d (fun e => hn i (by simp [hi]) m (e ▸ hri))
  orig := fun j d m' hj hrj => .inr ⟨j, m', by rw [Hp.get_put] at hj; split at hj <;> simp_all, hrj⟩
  os := ho
  output := hp
  old := fun _ _ => rfl

/- A new object. -/
def Ren.add (r : Ren σ) (i : Nat) (x : Nat × Nat) : Ren σ := fun j => if j = i then some x else r j

theorem Ren.le_add {r : Ren σ} {i : Nat} {x : Nat × Nat} (h : r i = none) : r.le (r.add i x) := fun j y hy => by
  unfold Ren.add
  split
  · subst_vars; rw [h] at hy; cases hy
  · exact hy

theorem Rel.nx_none {r : Ren σ} {h : Hp} {w : World} (hr : Rel r h w) : r h.nx = none := by
  cases hx : r h.nx with
  | none => rfl
  | some x => exact absurd (hr.dom _ _ hx) (Nat.lt_irrefl _)

theorem Rel.bound {r : Ren σ} {h : Hp} {w : World} (hr : Rel r h w) {i : Nat} {o : AObj} (hi : h.get i = some o) : i < h.nx :=
  let ⟨_, _, _, h1, _, _⟩ := hr.live i o hi; hr.dom _ _ h1

/- A new name for a block that no live name bears; the names in 'dead' die. -/
theorem Adv.name {r : Ren σ} {h : Hp} {w w' : World} (hr : Rel r h w) (o : AObj) (c m : Nat) {obj : Obj} (dead : Option Nat)
    (hat : w'.heap[c]? = some obj) (hrel : ObjRel (r.add h.nx (c, m)) m o obj) (hother : ∀ d, d < w.heap.size → d ≠ c → w'.heap[d]? = w.heap[d]?) (hsize : w.heap.size ≤ w'.heap.size)
    (hfresh : w.heap.size ≤ c ∨ ∃ j m' oj, dead = some j ∧ h.get j = some oj ∧ r j = some (c, m')) (ho : outer w' = outer w) (hp : w'.output = w.output) :
    Adv r h w (r.add h.nx (c, m)) ((match dead with | some j => h.kill j | none => h).new o) w' := by
  have hnone := hr.nx_none
  have hle : r.le (r.add h.nx (c, m)) := Ren.le_add hnone
  have hnx : (match dead with | some j => h.kill j | none => h).nx = h.nx := by cases dead <;> rfl
  have hget : ∀ j, (match dead with | some j => h.kill j | none => h).get j = if dead = some j then none else h.get j := by
    intro j
    cases dead with
    | none => simp
    | some k => simp [Hp.get_kill]
  have hget' : ∀ j, ((match dead with | some j => h.kill j | none => h).new o).get j = if h.nx = j then some o else if dead = some j then none else h.get j := by
    intro j; rw [Hp.get_new, hnx, hget]
  have hoff : ∀ j p c₁ m₁, h.get j = some p → dead ≠ some j → r j = some (c₁, m₁) → c₁ ≠ c := by
    intro j p c₁ m₁ hj hd h1 e
    rcases hfresh with hf | ⟨k, m', oj, hk, hgk, hrk⟩
    · obtain ⟨c₂, m₂, obj₂, e1, e2, _⟩ := hr.live j p hj
      rw [h1] at e1; cases e1
      have := (Array.getElem?_eq_some_iff.1 e2).1
      omega
    · subst e
      have := hr.inj j k c₁ m₁ m' (by simp [hj]) (by simp [hgk]) h1 hrk
      subst this
      exact hd hk
  have hlt : ∀ j p c₁ m₁, h.get j = some p → r j = some (c₁, m₁) → c₁ < w.heap.size := by
    intro j p c₁ m₁ hj h1
    obtain ⟨c₂, m₂, obj₂, e1, e2, _⟩ := hr.live j p hj
    rw [h1] at e1; cases e1
    exact (Array.getElem?_eq_some_iff.1 e2).1
  have hadd : ∀ j, j ≠ h.nx → r.add h.nx (c, m) j = r j := fun j hj => by simp [Ren.add, hj]
  refine ⟨⟨?_, ?_, ?_⟩, hle, ?_, hsize, ?_, ?_, ho, hp, fun i hi => hadd i (by omega)⟩
  · intro i x hx
    show i < (match dead with | some j => h.kill j | none => h).nx + 1
    rw [hnx]
    by_cases hi : i = h.nx
    · omega
    · rw [hadd i hi] at hx; have := hr.dom _ _ hx; omega
  · intro i p hi
    rw [hget'] at hi
    split at hi
    · rename_i e; subst e; cases hi
      exact ⟨c, m, obj, by simp [Ren.add], hat, hrel⟩
    · rename_i hne
      split at hi
      · cases hi
      · rename_i hd
        obtain ⟨c₁, m₁, obj₁, h1, h2, h3⟩ := hr.live i p hi
        refine ⟨c₁, m₁, obj₁, hle _ _ h1, ?_, h3.mono hle⟩
        rw [hother c₁ (hlt i p c₁ m₁ hi h1) (hoff i p c₁ m₁ hi hd h1), h2]
  · intro i j d m₁ m₂ hi hj h1 h2
    rw [hget'] at hi hj
    by_cases ei : h.nx = i
    · by_cases ej : h.nx = j
      · omega
      · exfalso
        rw [if_neg ej] at hj
        subst ei
        simp only [Ren.add, if_true, Option.some.injEq, Prod.mk.injEq] at h1
        rw [hadd j (fun e => ej e.symm)] at h2
        split at hj
        · simp at hj
        · rename_i hd
          obtain ⟨p, hp'⟩ := Option.isSome_iff_exists.1 hj
          exact hoff j p d m₂ hp' hd h2 h1.1.symm
    · rw [if_neg ei] at hi
      rw [hadd i (fun e => ei e.symm)] at h1
      by_cases ej : h.nx = j
      · exfalso
        subst ej
        simp only [Ren.add, if_true, Option.some.injEq, Prod.mk.injEq] at h2
        split at hi
        · simp at hi
        · rename_i hd
          obtain ⟨p, hp'⟩ := Option.isSome_iff_exists.1 hi
          exact hoff i p d m₁ hp' hd h1 h2.1.symm
      · rw [if_neg ej] at hj
        rw [hadd j (fun e => ej e.symm)] at h2
        split at hi
        · simp at hi
        · split at hj
          · simp at hj
          · exact hr.inj i j d m₁ m₂ hi hj h1 h2
  · show h.nx ≤ (match dead with | some j => h.kill j | none => h).nx + 1
    rw [hnx]; omega
  · intro d hd hn
    refine hother d hd (fun e => ?_)
    subst e
    rcases hfresh with hf | ⟨k, m', oj, hk, hgk, hrk⟩
    · omega
    · exact hn k (by simp [hgk]) m' hrk
  · intro i d m₁ hi h1
    rw [hget'] at hi
    by_cases ei : h.nx = i
    · subst ei
      simp only [Ren.add, if_true, Option.some.injEq, Prod.mk.injEq] at h1
      rcases hfresh with hf | ⟨k, m', oj, hk, hgk, hrk⟩
      · exact .inl (by omega)
      · exact .inr ⟨k, m', by simp [hgk], by rw [hrk, h1.1]⟩
    · rw [if_neg ei] at hi
      rw [hadd i (fun e => ei e.symm)] at h1
      split at hi
      · simp at hi
      · exact .inr ⟨i, m₁, hi, h1⟩

/- A new block. -/
theorem Adv.new {r : Ren σ} {h : Hp} {w : World} (hr : Rel r h w) (o : AObj) (m : Nat) (obj : Obj) (hrel : ObjRel (r.add h.nx (w.heap.size, m)) m o obj) :
    Adv r h w (r.add h.nx (w.heap.size, m)) (h.new o) { w with heap := w.heap.push obj } :=
  Adv.name hr o w.heap.size m none (by simp) hrel (fun d hd hne => by simp [Array.getElem?_push, hne]) (by simp) (.inl (Nat.le_refl _)) rfl rfl

end Go.Eng
