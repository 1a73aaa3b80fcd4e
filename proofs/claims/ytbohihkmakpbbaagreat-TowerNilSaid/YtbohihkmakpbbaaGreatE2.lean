/- The engine, part 2: heaps up to a renaming of blocks; what is read, written and made there. -/
import Derived.Test.YtbohihkmakpbbaaGreatE1
namespace Go.Eng
variable {σ : Interp}

/- Slots: those of which the small side knows what they hold. -/
def TmRel (r : Ren σ) (tm : Tr Value) (tmps : Array Value) : Prop := ∀ (t : Nat) (v : Value), tm.get t = some v → ∃ v', tmps[t]? = some v' ∧ VRel r v v'

theorem TmRel.mono {r s : Ren σ} (h : r.le s) {tm : Tr Value} {tmps : Array Value} (ht : TmRel r tm tmps) : TmRel s tm tmps :=
  fun t v hv => let ⟨v', h1, h2⟩ := ht t v hv; ⟨v', h1, h2.mono h⟩

theorem TmRel.set {r : Ren σ} {tm : Tr Value} {tmps : Array Value} (ht : TmRel r tm tmps) {d : Nat} {v v' : Value} (hv : VRel r v v') (hd : d < tmps.size) :
    TmRel r (tm.set d (some v)) (tmps.setIfInBounds d v') := by
  intro t u hu
  rw [Tr.get_set] at hu
  split at hu
  · subst_vars; cases hu; exact ⟨v', by simp [hd], hv⟩
  · rename_i hne
    obtain ⟨u', h1, h2⟩ := ht t u hu
    exact ⟨u', by rw [Array.getElem?_setIfInBounds_ne hne]; exact h1, h2⟩

/- A loop over a function, as the small heap keeps it. -/
structure ALoop where
  state : LoopState
  pending : Option Code
  nt : Nat
  tm : Tr Value
  params : Array Tmp
  assign : Code
  body : Code
  defers : Nat

/- An object of the small heap. 'cells c (some es)': the row may be longer than c (its capacity is not known; an element has es cells). -/
inductive AObj where
  | cells (c : List Value) (sl : Option Nat)
  | map (es : List (Value × Value))
  | loop (l : ALoop)
  | defs (taken : Bool)
  | abs (k : Nat) (pins : List Nat) (d : List Value)
  | mapE (es : List (Value × Value)) (i : Nat) (k : Value)

structure Hp where
  t : Tr AObj
  nx : Nat
  ab : List Nat := []

def Hp.get (h : Hp) (i : Nat) : Option AObj := h.t.get i
def Hp.put (h : Hp) (i : Nat) (o : AObj) : Hp := { h with t := h.t.set i (some o) }
def Hp.kill (h : Hp) (i : Nat) : Hp := { h with t := h.t.set i none }
def Hp.new (h : Hp) (o : AObj) : Hp := { h with t := h.t.set h.nx (some o), nx := h.nx + 1 }

def CellsRel (r : Ren σ) (c : List Value) (c' : Array Value) : Prop := ∀ (i : Nat) (v : Value), c[i]? = some v → ∃ v', c'[i]? = some v' ∧ VRel r v v'

inductive PRels (r : Ren σ) : List (Value × Value) → List (Value × Value) → Prop
  | nil : PRels r [] []
  | cons {k v v' : Value} {n : Nat} {as cs : List (Value × Value)} : gnd n k = true → VRel r v v' → PRels r as cs → PRels r ((k, v) :: as) ((k, v') :: cs)

def MapRel (r : Ren σ) (es : List (Value × Value)) (ms : Array MapEntry) : Prop :=
  ∃ ps, ps.Perm (ms.toList.map fun e => (e.key, e.val)) ∧ PRels r es ps

/- Each entry has a stamp of its own, ahead of the clock. -/
def Stamped (ms : Array MapEntry) (k : Nat) : Prop := (∀ e ∈ ms.toList, e.born < k) ∧ (ms.toList.map (·.born)).Nodup

/- A map that is ranged over: what is left, and where it stands. -/
def leftOf (ms : Array MapEntry) (seen : Array Nat) : List (Value × Value) := (ms.toList.filter fun e => !seen.contains e.born).map fun e => (e.key, e.val)

def pairsOf : List Value → Option (List (Value × Value))
  | [] => some []
  | .tuple ⟨[k, v]⟩ :: l => (pairsOf l).map ((k, v) :: ·)
  | _ => none

structure IterAt (f : Nat → Option (Nat × Nat)) (m : Nat) (cur : Value) (lefts : List (Value × Value)) (w : World) (c cm mm : Nat) (since : Nat) (seen : Array Nat) (stepped : Nat) (ms : Array MapEntry) (clock : Nat) : Prop where
  at_ : f m = some (cm, mm)
  it : w.heap[c]? = some (.mapIter (some cm) since seen stepped)
  mp : w.heap[cm]? = some (.map ms clock)
  ne : c ≠ cm
  old : ∀ e ∈ ms.toList, e.born < since
  le : since ≤ clock
  st : since ≤ stepped
  nd : (ms.toList.map (·.born)).Nodup
  left : ∃ ps, ps.Perm (leftOf ms seen) ∧ PRels (⟨f, fun _ _ => False⟩ : Ren σ) lefts ps
  cur : cur ≠ .nilFunc → stepped = clock ∧ ∃ stamp e, seen.back? = some stamp ∧ ms.find? (·.born == stamp) = some e ∧ VRel (⟨f, fun _ _ => False⟩ : Ren σ) cur (.tuple #[e.key, e.val])

def IterOwn (σ : Interp) (f : Nat → Option (Nat × Nat)) (p : List Nat) (d : List Value) (w : World) (c : Nat) : Prop :=
  ∃ m cur ls lefts cm mm since seen stepped ms clock, p = [m] ∧ d = cur :: ls ∧ pairsOf ls = some lefts ∧ IterAt (σ := σ) f m cur lefts w c cm mm since seen stepped ms clock

/- What structures are: iterators (kind 0), and what σ says. -/
def ownA (σ : Interp) (k : Nat) (f : Nat → Option (Nat × Nat)) (p : List Nat) (d : List Value) (w : World) (c : Nat) (F : Nat → Prop) : Prop :=
  if k = 0 then IterOwn σ f p d w c else σ.own k f p d w c F

structure LoopRel (r : Ren σ) (a : ALoop) (c : Loop) : Prop where
  state : c.state = a.state
  pending : c.pending = a.pending
  nt : c.tmps.size = a.nt
  tmps : TmRel r a.tm c.tmps
  params : c.params = a.params
  assign : c.assign = a.assign
  body : c.body = a.body
  defers : ∃ m, r a.defers = some (c.defers, m)

def ObjRel (r : Ren σ) (cap : Nat) : AObj → Obj → Prop
  | .cells c sl, .cells c' _ fz => CellsRel r c c' ∧ (fz.1 = fz.2 ∨ c'.size ≤ fz.1) ∧ (∀ es, sl = some es → c'.size = cap * es)
  | .map es, .map ms k => MapRel r es ms ∧ Stamped ms k
  | .loop l, .loop l' => LoopRel r l l'
  | .defs false, .deferred (some []) => True
  | .defs true, .deferred none => True
  | .abs _ _ _, _ => True
  | .mapE es i k, .map ms clock => (MapRel r es ms ∧ Stamped ms clock) ∧ ∃ c n e, r i = some (c, n) ∧ e ∈ ms.toList ∧ e.key = k ∧ e.born = n
  | _, _ => False

/- The small side speaks of a block. -/
def Spk (r : Ren σ) (h : Hp) (c : Nat) : Prop := (∃ i m, (h.get i).isSome = true ∧ r i = some (c, m)) ∨ ∃ i k p d, h.get i = some (.abs k p d) ∧ r.F i c

structure Rel (r : Ren σ) (h : Hp) (w : World) : Prop where
  dom : ∀ i x, r i = some x → i < h.nx
  live : ∀ i o, h.get i = some o → ∃ c m obj, r i = some (c, m) ∧ w.heap[c]? = some obj ∧ ObjRel r m o obj
  inj : ∀ i j c m m', (h.get i).isSome = true → (h.get j).isSome = true → r i = some (c, m) → r j = some (c, m') → i = j
  abs : ∀ i k p d, h.get i = some (.abs k p d) → ∃ c m, r i = some (c, m) ∧ ownA σ k r.f p d w c (r.F i) ∧ ∀ b, r.F i b → b < w.heap.size
  pin : ∀ i k p d, h.get i = some (.abs k p d) → i ∈ h.ab ∧ ∀ j ∈ p, ∃ es, h.get j = some (.map es)
  sepN : ∀ i k p d, h.get i = some (.abs k p d) → ∀ b, r.F i b → ∀ j, (h.get j).isSome = true → ∀ m, r j ≠ some (b, m)
  sepF : ∀ i j k p d k' p' d', i ≠ j → h.get i = some (.abs k p d) → h.get j = some (.abs k' p' d') → ∀ b, r.F i b → ¬ r.F j b
  ro : ∀ c o, σ.ro c = some o → w.heap[c]? = some o ∧ ¬ Spk r h c

/- No structure is pinned to a name. -/
def Hp.loose (h : Hp) (i : Nat) : Prop := ∀ j k p d, h.get j = some (.abs k p d) → i ∉ p

def Hp.looseB (h : Hp) (i : Nat) : Bool := h.ab.all fun j => match h.get j with | some (.abs _ p _) => !p.contains i | _ => true

theorem Rel.loose_of {r : Ren σ} {h : Hp} {w : World} (hr : Rel r h w) {i : Nat} (hb : h.looseB i = true) : h.loose i := by
  intro j k p d hj hi
  unfold Hp.looseB at hb
  rw [List.all_eq_true] at hb
  have := hb j (hr.pin j k p d hj).1
  rw [hj] at this
  simp at this
  exact this hi

theorem Rel.loose_not {r : Ren σ} {h : Hp} {w : World} (hr : Rel r h w) {i : Nat} {o : AObj} (hi : h.get i = some o) (ho : ∀ es, o ≠ .map es) : h.loose i := by
  intro j k p d hj hip
  obtain ⟨es, hes⟩ := (hr.pin j k p d hj).2 i hip
  rw [hi] at hes
  exact ho es (Option.some.inj hes)

def AObj.plain (o : AObj) : Prop := ∀ k p d, o ≠ .abs k p d

/- What stands about the memory and does not turn. -/
def outer (w : World) : Os × Tape := (w.os, w.tape)

/- What became of the world: nothing that the small heap does not speak of has changed. -/
structure Adv (r : Ren σ) (h : Hp) (w : World) (r' : Ren σ) (h' : Hp) (w' : World) : Prop where
  rel : Rel r' h' w'
  le : r.le r'
  nx : h.nx ≤ h'.nx
  size : w.heap.size ≤ w'.heap.size
  keep : ∀ c, c < w.heap.size → ¬ Spk r h c → w'.heap[c]? = w.heap[c]?
  orig : ∀ c, Spk r' h' c → w.heap.size ≤ c ∨ Spk r h c
  os : outer w' = outer w
  output : w'.output = w.output
  old : ∀ i, i < h.nx → r' i = r i

theorem Adv.refl {r : Ren σ} {h : Hp} {w : World} (hr : Rel r h w) : Adv r h w r h w :=
  ⟨hr, Ren.le_refl r, Nat.le_refl _, Nat.le_refl _, fun _ _ _ => rfl, fun _ hi => .inr hi, rfl, rfl, fun _ _ => rfl⟩

theorem Adv.trans {r r' r'' : Ren σ} {h h' h'' : Hp} {w w' w'' : World} (a : Adv r h w r' h' w') (b : Adv r' h' w' r'' h'' w'') : Adv r h w r'' h'' w'' where
  rel := b.rel
  le := Ren.le_trans a.le b.le
  nx := Nat.le_trans a.nx b.nx
  size := Nat.le_trans a.size b.size
  keep := fun c hc hn => by
    rw [b.keep c (Nat.lt_of_lt_of_le hc a.size) (fun hs => ?_), a.keep c hc hn]
    rcases a.orig c hs with hlt | h1
    · omega
    · exact hn h1
  orig := fun c hs => by
    rcases b.orig c hs with hlt | h1
    · exact .inl (Nat.le_trans a.size hlt)
    · exact a.orig c h1
  os := b.os.trans a.os
  output := b.output.trans a.output
  old := fun i hi => (b.old i (Nat.lt_of_lt_of_le hi a.nx)).trans (a.old i hi)

theorem CellsRel.mono {r s : Ren σ} (h : r.le s) {c : List Value} {c' : Array Value} (hc : CellsRel r c c') : CellsRel s c c' :=
  fun i v hv => let ⟨v', h1, h2⟩ := hc i v hv; ⟨v', h1, h2.mono h⟩

theorem PRels.mono {r s : Ren σ} (h : r.le s) {as cs : List (Value × Value)} (hc : PRels r as cs) : PRels s as cs := by
  induction hc with
  | nil => exact .nil
  | cons h1 h2 _ ih => exact .cons h1 (h2.mono h) ih

theorem ownA_frame {k : Nat} {f : Nat → Option (Nat × Nat)} {p : List Nat} {d : List Value} {w w' : World} {c : Nat} {F : Nat → Prop} (h : ownA σ k f p d w c F)
    (hw : ∀ b, (b = c ∨ F b ∨ ∃ i ∈ p, ∃ m, f i = some (b, m)) → w'.heap[b]? = w.heap[b]?) : ownA σ k f p d w' c F := by
  unfold ownA at h ⊢
  split at h
  · rename_i hk
    rw [if_pos hk]
    obtain ⟨m, cur, ls, lefts, cm, mm, since, seen, stepped, ms, clock, rfl, h2, h3, h4⟩ := h
    exact ⟨m, cur, ls, lefts, cm, mm, since, seen, stepped, ms, clock, rfl, h2, h3, h4.at_, by rw [hw c (.inl rfl)]; exact h4.it, by rw [hw cm (.inr (.inr ⟨m, by simp, mm, h4.at_⟩))]; exact h4.mp, h4.ne, h4.old, h4.le, h4.st, h4.nd, h4.left, h4.cur⟩
  · rename_i hk
    rw [if_neg hk]
    exact σ.frame h hw

theorem ownA_more {k : Nat} {f g : Nat → Option (Nat × Nat)} {p : List Nat} {d : List Value} {w : World} {c : Nat} {F : Nat → Prop} (h : ownA σ k f p d w c F) (hg : ∀ i x, f i = some x → g i = some x) : ownA σ k g p d w c F := by
  unfold ownA at h ⊢
  split at h
  · rename_i hk
    rw [if_pos hk]
    obtain ⟨m, cur, ls, lefts, cm, mm, since, seen, stepped, ms, clock, rfl, h2, h3, h4⟩ := h
    have hle : (⟨f, fun _ _ => False⟩ : Ren σ).le ⟨g, fun _ _ => False⟩ := hg
    refine ⟨m, cur, ls, lefts, cm, mm, since, seen, stepped, ms, clock, rfl, h2, h3, hg _ _ h4.at_, h4.it, h4.mp, h4.ne, h4.old, h4.le, h4.st, h4.nd, ?_, fun hc => ?_⟩
    · obtain ⟨ps, q1, q2⟩ := h4.left
      exact ⟨ps, q1, q2.mono hle⟩
    · obtain ⟨q1, stamp, e, q2, q3, q4⟩ := h4.cur hc
      exact ⟨q1, stamp, e, q2, q3, q4.mono hle⟩
  · rename_i hk
    rw [if_neg hk]
    exact σ.more h hg

/- A draw moves nothing. -/
theorem Rel.drew {r : Ren σ} {h : Hp} {w w' : World} (hr : Rel r h w) (hw : w'.heap = w.heap) : Rel r h w' :=
  ⟨hr.dom, fun i o hi => by rw [hw]; exact hr.live i o hi, hr.inj, fun i k p d hi => let ⟨c, m, h1, h2, h3⟩ := hr.abs i k p d hi; ⟨c, m, h1, ownA_frame h2 (fun b _ => by rw [hw]), by rw [hw]; exact h3⟩, hr.pin, hr.sepN, hr.sepF, fun c o hc => ⟨by rw [hw]; exact (hr.ro c o hc).1, (hr.ro c o hc).2⟩⟩

theorem Adv.drew {r : Ren σ} {h : Hp} {w w' : World} (hr : Rel r h w) (hw : w'.heap = w.heap) (ho : outer w' = outer w) (hp : w'.output = w.output) : Adv r h w r h w' :=
  ⟨hr.drew hw, Ren.le_refl r, Nat.le_refl _, by rw [hw]; exact Nat.le_refl _, fun _ _ _ => by rw [hw], fun _ hi => .inr hi, ho, hp, fun _ _ => rfl⟩

theorem ObjRel.mono {r s : Ren σ} (h : r.le s) {m : Nat} {o : AObj} {obj : Obj} (hc : ObjRel r m o obj) : ObjRel s m o obj := by
  cases o with
  | cells c sl => cases obj <;> simp only [ObjRel] at hc ⊢ <;> exact ⟨hc.1.mono h, hc.2.1, hc.2.2⟩
  | map es => cases obj <;> simp only [ObjRel] at hc ⊢ <;> exact let ⟨⟨ps, h1, h2⟩, h3⟩ := hc; ⟨⟨ps, h1, h2.mono h⟩, h3⟩
  | loop l => cases obj <;> simp only [ObjRel] at hc ⊢ <;> exact ⟨hc.state, hc.pending, hc.nt, hc.tmps.mono h, hc.params, hc.assign, hc.body, let ⟨m, hm⟩ := hc.defers; ⟨m, h _ _ hm⟩⟩
  | defs b =>
    cases b <;> cases obj <;> first
      | exact hc
      | (rename_i calls; cases calls with
        | none => exact hc
        | some l => cases l <;> exact hc)
  | abs k p d => cases obj <;> trivial
  | mapE es i k => cases obj <;> simp only [ObjRel] at hc ⊢ <;> exact let ⟨⟨⟨ps, h1, h2⟩, h3⟩, c, n, e, h4, h5⟩ := hc; ⟨⟨⟨ps, h1, h2.mono h⟩, h3⟩, c, n, e, h _ _ h4, h5⟩

theorem Hp.get_put (h : Hp) (i j : Nat) (o : AObj) : (h.put i o).get j = if i = j then some o else h.get j := Tr.get_set _ _ _ _
theorem Hp.get_kill (h : Hp) (i j : Nat) : (h.kill i).get j = if i = j then none else h.get j := Tr.get_set _ _ _ _
theorem Hp.get_new (h : Hp) (j : Nat) (o : AObj) : (h.new o).get j = if h.nx = j then some o else h.get j := Tr.get_set _ _ _ _

theorem Spk.put {r : Ren σ} {h : Hp} {i : Nat} {o o' : AObj} (hi : h.get i = some o) (hpo' : o'.plain) {c : Nat} (hs : Spk r (h.put i o') c) : Spk r h c := by
  rcases hs with ⟨j, m, hj, h1⟩ | ⟨j, k, p, d, hj, h1⟩
  · refine .inl ⟨j, m, ?_, h1⟩
    rw [Hp.get_put] at hj; split at hj
    · subst_vars; simp [hi]
    · exact hj
  · rw [Hp.get_put] at hj
    split at hj
    · exact absurd (Option.some.inj hj) (hpo' k p d)
    · exact .inr ⟨j, k, p, d, hj, h1⟩

/- An object is replaced, at its place. -/
theorem Rel.putL {r : Ren σ} {h : Hp} {w : World} (hr : Rel r h w) {i : Nat} {o o' : AObj} (hi : h.get i = some o) {c m : Nat} (hri : r i = some (c, m))
    {w' : World} {obj' : Obj} (hat : w'.heap[c]? = some obj') (hother : ∀ d, d ≠ c → w'.heap[d]? = w.heap[d]?) (hsize : w'.heap.size = w.heap.size) (hrel : ObjRel r m o' obj')
    (hl : h.loose i) (_hpo : o.plain) (hpo' : o'.plain) : Rel r (h.put i o') w' where
  dom := hr.dom
  live := fun j p hj => by
    rw [Hp.get_put] at hj
    split at hj
    · subst_vars; cases hj; exact ⟨c, m, obj', hri, hat, hrel⟩
    · rename_i hne
      obtain ⟨c₁, m₁, obj₁, h1, h2, h3⟩ := hr.live j p hj
      refine ⟨c₁, m₁, obj₁, h1, ?_, h3⟩
      rw [hother c₁ (fun e => hne ?_), h2]
      subst e
      exact (hr.inj i j c₁ m m₁ (by simp [hi]) (by simp [hj]) hri h1)
  inj := fun j k d m₁ m₂ hj hk h1 h2 => by
    refine hr.inj j k d m₁ m₂ ?_ ?_ h1 h2
    · rw [Hp.get_put] at hj; split at hj
      · subst_vars; simp [hi]
      · exact hj
    · rw [Hp.get_put] at hk; split at hk
      · subst_vars; simp [hi]
      · exact hk
  abs := fun j k p d hj => by
    rw [Hp.get_put] at hj
    split at hj
    · exact absurd (Option.some.inj hj) (hpo' k p d)
    · rename_i hne
      obtain ⟨c₁, m₁, h1, h2, h3⟩ := hr.abs j k p d hj
      refine ⟨c₁, m₁, h1, ownA_frame h2 (fun b hb => hother b (fun e => ?_)), by rw [hsize]; exact h3⟩
      subst e
      rcases hb with hb | hb | ⟨i', hi', m', hb⟩
      · subst hb
        exact hne (hr.inj i j b m m₁ (by simp [hi]) (by simp [hj]) hri h1)
      · exact hr.sepN j k p d hj b hb i (by simp [hi]) m hri
      · obtain ⟨es, hes⟩ := (hr.pin j k p d hj).2 i' hi'
        have := hr.inj i i' b m m' (by simp [hi]) (by simp [hes]) hri hb
        subst this
        exact hl j k p d hj hi'
  pin := fun j k p d hj => by
    rw [Hp.get_put] at hj
    split at hj
    · exact absurd (Option.some.inj hj) (hpo' k p d)
    · obtain ⟨h1, h2⟩ := hr.pin j k p d hj
      refine ⟨h1, fun j' hj' => ?_⟩
      rw [Hp.get_put]
      split
      · subst_vars; exact absurd hj' (hl j k p d hj)
      · exact h2 j' hj'
  sepN := fun j k p d hj b hb j' hj' m' h1 => by
    rw [Hp.get_put] at hj
    split at hj
    · exact absurd (Option.some.inj hj) (hpo' k p d)
    · refine hr.sepN j k p d hj b hb j' ?_ m' h1
      rw [Hp.get_put] at hj'; split at hj'
      · subst_vars; simp [hi]
      · exact hj'
  sepF := fun j j' k p d k' p' d' hne hj hj' b hb => by
    rw [Hp.get_put] at hj hj'
    split at hj
    · exact absurd (Option.some.inj hj) (hpo' k p d)
    · split at hj'
      · exact absurd (Option.some.inj hj') (hpo' k' p' d')
      · exact hr.sepF j j' k p d k' p' d' hne hj hj' b hb
  ro := fun c' o'' hc' => by
    obtain ⟨h1, h2⟩ := hr.ro c' o'' hc'
    exact ⟨by rw [hother c' (fun e => h2 (.inl ⟨i, m, by simp [hi], e ▸ hri⟩))]; exact h1, fun hs => h2 (hs.put hi hpo')⟩

theorem Adv.putL {r : Ren σ} {h : Hp} {w : World} (hr : Rel r h w) {i : Nat} {o o' : AObj} (hi : h.get i = some o) {c m : Nat} (hri : r i = some (c, m))
    {w' : World} {obj' : Obj} (hat : w'.heap[c]? = some obj') (hother : ∀ d, d ≠ c → w'.heap[d]? = w.heap[d]?) (hsize : w'.heap.size = w.heap.size) (hrel : ObjRel r m o' obj')
    (ho : outer w' = outer w) (hp : w'.output = w.output) (hl : h.loose i) (hpo : o.plain) (hpo' : o'.plain) : Adv r h w r (h.put i o') w' where
  rel := hr.putL hi hri hat hother hsize hrel hl hpo hpo'
  le := Ren.le_refl r
  nx := Nat.le_refl _
  size := by omega
  keep := fun d _ hn => hother d (fun e => hn (.inl ⟨i, m, by simp [hi], e ▸ hri⟩))
  orig := fun d hs => .inr (hs.put hi hpo')
  os := ho
  output := hp
  old := fun _ _ => rfl

/- The same of what is no map. -/
theorem Adv.put {r : Ren σ} {h : Hp} {w : World} (hr : Rel r h w) {i : Nat} {o o' : AObj} (hi : h.get i = some o) {c m : Nat} (hri : r i = some (c, m))
    {w' : World} {obj' : Obj} (hat : w'.heap[c]? = some obj') (hother : ∀ d, d ≠ c → w'.heap[d]? = w.heap[d]?) (hsize : w'.heap.size = w.heap.size) (hrel : ObjRel r m o' obj')
    (ho : outer w' = outer w) (hp : w'.output = w.output) (hm : ∀ es, o ≠ .map es := by intro es e; cases e) (hpo : o.plain := by intro k p d e; cases e) (hpo' : o'.plain := by intro k p d e; cases e) :
    Adv r h w r (h.put i o') w' := Adv.putL hr hi hri hat hother hsize hrel ho hp (hr.loose_not hi hm) hpo hpo'

/- A new object. -/
def Ren.add (r : Ren σ) (i : Nat) (x : Nat × Nat) : Ren σ := { r with f := fun j => if j = i then some x else r j }

theorem Ren.le_add {r : Ren σ} {i : Nat} {x : Nat × Nat} (h : r i = none) : r.le (r.add i x) := fun j y hy => by
  show (if j = i then some x else r j) = some y
  split
  · subst_vars; rw [h] at hy; cases hy
  · exact hy

theorem Ren.add_same {r : Ren σ} {i : Nat} {x : Nat × Nat} : r.add i x i = some x := if_pos rfl
theorem Ren.add_ne {r : Ren σ} {i j : Nat} {x : Nat × Nat} (h : j ≠ i) : r.add i x j = r j := if_neg h

theorem Rel.nx_none {r : Ren σ} {h : Hp} {w : World} (hr : Rel r h w) : r h.nx = none := by
  cases hx : r h.nx with
  | none => rfl
  | some x => exact absurd (hr.dom _ _ hx) (Nat.lt_irrefl _)

theorem Rel.bound {r : Ren σ} {h : Hp} {w : World} (hr : Rel r h w) {i : Nat} {o : AObj} (hi : h.get i = some o) : i < h.nx :=
  let ⟨_, _, _, h1, _, _⟩ := hr.live i o hi; hr.dom _ _ h1

/- A name may die, if it is no structure and no structure is pinned to it. -/
theorem Hp.ab_kill (h : Hp) (i : Nat) : (h.kill i).ab = h.ab := rfl

/- A new name for a block that no live name bears; the names in 'dead' die. -/
theorem Adv.name {r : Ren σ} {h : Hp} {w w' : World} (hr : Rel r h w) (o : AObj) (c m : Nat) {obj : Obj} (dead : Option Nat)
    (hat : w'.heap[c]? = some obj) (hrel : ObjRel (r.add h.nx (c, m)) m o obj) (hother : ∀ d, d < w.heap.size → d ≠ c → w'.heap[d]? = w.heap[d]?) (hsize : w.heap.size ≤ w'.heap.size)
    (hfresh : w.heap.size ≤ c ∨ ∃ j m' oj, dead = some j ∧ h.get j = some oj ∧ r j = some (c, m')) (ho : outer w' = outer w) (hp : w'.output = w.output)
    (hdead : ∀ j, dead = some j → h.loose j ∧ ∀ oj, h.get j = some oj → oj.plain := by intro j e; cases e) (hpo : o.plain := by intro k p d e; cases e) :
    Adv r h w (r.add h.nx (c, m)) ((match dead with | some j => h.kill j | none => h).new o) w' := by
  have hnone := hr.nx_none
  have hle : r.le (r.add h.nx (c, m)) := Ren.le_add hnone
  have hnx : (match dead with | some j => h.kill j | none => h).nx = h.nx := by cases dead <;> rfl
  have hab : ((match dead with | some j => h.kill j | none => h).new o).ab = h.ab := by cases dead <;> rfl
  have hget : ∀ j, (match dead with | some j => h.kill j | none => h).get j = if dead = some j then none else h.get j := by
    intro j
    cases dead with
    | none => simp
    | some k => simp [Hp.get_kill]
  have hget' : ∀ j, ((match dead with | some j => h.kill j | none => h).new o).get j = if h.nx = j then some o else if dead = some j then none else h.get j := by
    intro j; rw [Hp.get_new, hnx, hget]
  have hoff : ∀ j p c₁ m₁, h.get j = some p → dead ≠ some j → r j = some (c₁, m₁) → c₁ ≠ c := by
    intro j p c₁ m₁ hj hd h1 e
    rcases hfresh with hf | ⟨k, m', oj, hk, hgk, hrk⟩
    · obtain ⟨c₂, m₂, obj₂, e1, e2, _⟩ := hr.live j p hj
      rw [h1] at e1; cases e1
      have := (Array.getElem?_eq_some_iff.1 e2).1
      omega
    · subst e
      have := hr.inj j k c₁ m₁ m' (by simp [hj]) (by simp [hgk]) h1 hrk
      subst this
      exact hd hk
  have hlt : ∀ j p c₁ m₁, h.get j = some p → r j = some (c₁, m₁) → c₁ < w.heap.size := by
    intro j p c₁ m₁ hj h1
    obtain ⟨c₂, m₂, obj₂, e1, e2, _⟩ := hr.live j p hj
    rw [h1] at e1; cases e1
    exact (Array.getElem?_eq_some_iff.1 e2).1
  have hadd : ∀ j, j ≠ h.nx → r.add h.nx (c, m) j = r j := fun j hj => Ren.add_ne hj
  -- a structure is an old one, at its place
  have habs : ∀ j k p d, ((match dead with | some j => h.kill j | none => h).new o).get j = some (.abs k p d) → h.get j = some (.abs k p d) ∧ j ≠ h.nx ∧ dead ≠ some j := by
    intro j k p d hj
    rw [hget'] at hj
    split at hj
    · exact absurd (Option.some.inj hj) (hpo k p d)
    · rename_i hne
      split at hj
      · cases hj
      · exact ⟨hj, fun e => hne e.symm, by assumption⟩
  have hFc : ∀ j k p d, h.get j = some (.abs k p d) → ∀ b, r.F j b → b ≠ c := by
    intro j k p d hj b hb e
    subst e
    rcases hfresh with hf | ⟨k', m', oj, hk, hgk, hrk⟩
    · obtain ⟨_, _, _, _, h3⟩ := hr.abs j k p d hj
      have := h3 b hb; omega
    · exact hr.sepN j k p d hj b hb k' (by simp [hgk]) m' hrk
  have hkeep : ∀ d, d < w.heap.size → ¬ Spk r h d → w'.heap[d]? = w.heap[d]? := by
    intro d hd hn
    refine hother d hd (fun e => ?_)
    subst e
    rcases hfresh with hf | ⟨k, m', oj, hk, hgk, hrk⟩
    · omega
    · exact hn (.inl ⟨k, m', by simp [hgk], hrk⟩)
  have horig : ∀ d, Spk (r.add h.nx (c, m)) ((match dead with | some j => h.kill j | none => h).new o) d → w.heap.size ≤ d ∨ Spk r h d := by
    intro d hs
    rcases hs with ⟨i, m₁, hi, h1⟩ | ⟨i, k, p, d', hi, h1⟩
    · rw [hget'] at hi
      by_cases ei : h.nx = i
      · subst ei
        rw [Ren.add_same] at h1
        simp only [Option.some.injEq, Prod.mk.injEq] at h1
        rcases hfresh with hf | ⟨k, m', oj, hk, hgk, hrk⟩
        · exact .inl (by omega)
        · exact .inr (.inl ⟨k, m', by simp [hgk], by rw [hrk, h1.1]⟩)
      · rw [if_neg ei] at hi
        rw [hadd i (fun e => ei e.symm)] at h1
        split at hi
        · simp at hi
        · exact .inr (.inl ⟨i, m₁, hi, h1⟩)
    · exact .inr (.inr ⟨i, k, p, d', (habs i k p d' hi).1, h1⟩)
  refine ⟨⟨?_, ?_, ?_, ?_, ?_, ?_, ?_, ?_⟩, hle, ?_, hsize, hkeep, horig, ho, hp, fun i hi => hadd i (by omega)⟩
  · intro i x hx
    show i < (match dead with | some j => h.kill j | none => h).nx + 1
    rw [hnx]
    by_cases hi : i = h.nx
    · omega
    · rw [hadd i hi] at hx; have := hr.dom _ _ hx; omega
  · intro i p hi
    rw [hget'] at hi
    split at hi
    · rename_i e; subst e; cases hi
      exact ⟨c, m, obj, Ren.add_same, hat, hrel⟩
    · rename_i hne
      split at hi
      · cases hi
      · rename_i hd
        obtain ⟨c₁, m₁, obj₁, h1, h2, h3⟩ := hr.live i p hi
        refine ⟨c₁, m₁, obj₁, hle _ _ h1, ?_, h3.mono hle⟩
        rw [hother c₁ (hlt i p c₁ m₁ hi h1) (hoff i p c₁ m₁ hi hd h1), h2]
  · intro i j d m₁ m₂ hi hj h1 h2
    rw [hget'] at hi hj
    by_cases ei : h.nx = i
    · by_cases ej : h.nx = j
      · omega
      · exfalso
        rw [if_neg ej] at hj
        subst ei
        rw [Ren.add_same] at h1
        simp only [Option.some.injEq, Prod.mk.injEq] at h1
        rw [hadd j (fun e => ej e.symm)] at h2
        split at hj
        · simp at hj
        · rename_i hd
          obtain ⟨p, hp'⟩ := Option.isSome_iff_exists.1 hj
          exact hoff j p d m₂ hp' hd h2 h1.1.symm
    · rw [if_neg ei] at hi
      rw [hadd i (fun e => ei e.symm)] at h1
      by_cases ej : h.nx = j
      · exfalso
        subst ej
        rw [Ren.add_same] at h2
        simp only [Option.some.injEq, Prod.mk.injEq] at h2
        split at hi
        · simp at hi
        · rename_i hd
          obtain ⟨p, hp'⟩ := Option.isSome_iff_exists.1 hi
          exact hoff i p d m₁ hp' hd h1 h2.1.symm
      · rw [if_neg ej] at hj
        rw [hadd j (fun e => ej e.symm)] at h2
        split at hi
        · simp at hi
        · split at hj
          · simp at hj
          · exact hr.inj i j d m₁ m₂ hi hj h1 h2
  · intro j k p d hj
    obtain ⟨g1, g2, g3⟩ := habs j k p d hj
    obtain ⟨c₁, m₁, h1, h2, h3⟩ := hr.abs j k p d g1
    refine ⟨c₁, m₁, hle _ _ h1, ownA_more (ownA_frame h2 (fun b hb => ?_)) hle, fun b hb => Nat.lt_of_lt_of_le (h3 b hb) hsize⟩
    rcases hb with hb | hb | ⟨i', hi', m', hb⟩
    · subst hb
      exact hother _ (hlt j _ b m₁ g1 h1) (hoff j _ b m₁ g1 g3 h1)
    · exact hother _ (h3 b hb) (hFc j k p d g1 b hb)
    · obtain ⟨es, hes⟩ := (hr.pin j k p d g1).2 i' hi'
      have hd' : dead ≠ some i' := fun e => (hdead i' e).1 j k p d g1 hi'
      exact hother _ (hlt i' _ b m' hes hb) (hoff i' _ b m' hes hd' hb)
  · intro j k p d hj
    obtain ⟨g1, g2, g3⟩ := habs j k p d hj
    obtain ⟨q1, q2⟩ := hr.pin j k p d g1
    refine ⟨by rw [hab]; exact q1, fun j' hj' => ?_⟩
    obtain ⟨es, hes⟩ := q2 j' hj'
    refine ⟨es, ?_⟩
    rw [hget', if_neg (fun e => by have := hr.bound hes; omega), if_neg (fun e => (hdead j' e).1 j k p d g1 hj')]
    exact hes
  · intro j k p d hj b hb j' hj' m' h1
    obtain ⟨g1, g2, g3⟩ := habs j k p d hj
    by_cases e : j' = h.nx
    · subst e
      rw [Ren.add_same] at h1
      simp only [Option.some.injEq, Prod.mk.injEq] at h1
      exact hFc j k p d g1 b hb h1.1.symm
    · rw [hadd j' e] at h1
      refine hr.sepN j k p d g1 b hb j' ?_ m' h1
      rw [hget', if_neg (fun e' => e e'.symm)] at hj'
      split at hj'
      · simp at hj'
      · exact hj'
  · intro i j k p d k' p' d' hne hi hj b hb
    exact hr.sepF i j k p d k' p' d' hne (habs i k p d hi).1 (habs j k' p' d' hj).1 b hb
  · intro c' o' hc'
    obtain ⟨h1, h2⟩ := hr.ro c' o' hc'
    have hlt' := (Array.getElem?_eq_some_iff.1 h1).1
    refine ⟨by rw [hkeep c' hlt' h2]; exact h1, fun hs => ?_⟩
    rcases horig c' hs with h3 | h3
    · omega
    · exact h2 h3
  · show h.nx ≤ (match dead with | some j => h.kill j | none => h).nx + 1
    rw [hnx]; omega

/- A new block. -/
theorem Adv.new {r : Ren σ} {h : Hp} {w : World} (hr : Rel r h w) (o : AObj) (m : Nat) (obj : Obj) (hrel : ObjRel (r.add h.nx (w.heap.size, m)) m o obj) (hpo : o.plain := by intro k p d e; cases e) :
    Adv r h w (r.add h.nx (w.heap.size, m)) (h.new o) { w with heap := w.heap.push obj } :=
  Adv.name hr o w.heap.size m none (by simp) hrel (fun d hd hne => by simp [Array.getElem?_push, hne]) (by simp) (.inl (Nat.le_refl _)) rfl rfl (by intro j e; cases e) hpo

end Go.Eng
