/- The engine, part 18: regions that draw their order: whatever the order is, it comes to what the run in the text's order has told. -/
import Derived.Test.YtbohihkmakpbbaaGreatE17
namespace Go.Eng
variable {σ : Interp}

/- A row that was made takes its place among the live ones. -/
structure PFact (r : Ren σ) (h : Hp) (w0 w : World) (id : Nat) (cs : List Value) (cb : Nat) : Prop where
  at_ : r id = some (cb, 0)
  obj : ∃ ob, w.heap[cb]? = some ob ∧ ObjRel r 0 (.cells cs none) ob
  late : w0.heap.size ≤ cb
  free : ¬ Spk r h cb
  nro : σ.ro cb = none

theorem Spk.putNew {r : Ren σ} {h : Hp} {id c : Nat} {cs : List Value} (hs : Spk r (h.put id (.cells cs none)) c) : (∃ m, r id = some (c, m)) ∨ Spk r h c := by
  rcases hs with ⟨j, m, hj, h1⟩ | ⟨j, k, p, d, hj, h1⟩
  · rw [Hp.get_put] at hj
    split at hj
    · subst_vars; exact .inl ⟨m, h1⟩
    · exact .inr (.inl ⟨j, m, hj, h1⟩)
  · rw [Hp.get_put] at hj
    split at hj
    · cases hj
    · exact .inr (.inr ⟨j, k, p, d, hj, h1⟩)

theorem PFact.gone {r : Ren σ} {h : Hp} {w0 w : World} {id cb : Nat} {cs : List Value} (hp : PFact r h w0 w id cs cb) : h.get id = none := by
  cases hg : h.get id with
  | none => rfl
  | some o => exact absurd (.inl ⟨id, 0, by simp [hg], hp.at_⟩) hp.free

theorem Adv.adopt1 {r0 r : Ren σ} {h0 h : Hp} {w0 w : World} (ha : Adv r0 h0 w0 r h w) {id cb : Nat} {cs : List Value} (hp : PFact r h w0 w id cs cb) : Adv r0 h0 w0 r (h.put id (.cells cs none)) w where
  rel := by
    obtain ⟨ob, g1, g2⟩ := hp.obj
    have hg : ∀ {j k p d}, (h.put id (.cells cs none)).get j = some (.abs k p d) → h.get j = some (.abs k p d) := by
      intro j k p d hj
      rw [Hp.get_put] at hj
      split at hj
      · cases hj
      · exact hj
    refine ⟨ha.rel.dom, fun i o hi => ?_, fun i j c m m' hi hj h1 h2 => ?_, fun j k p d hj => ha.rel.abs j k p d (hg hj), fun j k p d hj => ?_, fun j k p d hj b hb j' hj' m' h1 => ?_,
      fun i j k p d k' p' d' hne hi hj => ha.rel.sepF i j k p d k' p' d' hne (hg hi) (hg hj), fun c o hc => ⟨(ha.rel.ro c o hc).1, fun hs => ?_⟩⟩
    · rw [Hp.get_put] at hi
      split at hi
      · subst_vars; cases hi; exact ⟨cb, 0, ob, hp.at_, g1, g2⟩
      · exact ha.rel.live i o hi
    · rw [Hp.get_put] at hi hj
      by_cases ei : id = i
      · by_cases ej : id = j
        · omega
        · exfalso
          rw [if_neg ej] at hj
          subst ei
          rw [hp.at_] at h1
          simp only [Option.some.injEq, Prod.mk.injEq] at h1
          exact hp.free (.inl ⟨j, m', hj, by rw [h2, h1.1]⟩)
      · rw [if_neg ei] at hi
        by_cases ej : id = j
        · exfalso
          subst ej
          rw [hp.at_] at h2
          simp only [Option.some.injEq, Prod.mk.injEq] at h2
          exact hp.free (.inl ⟨i, m, hi, by rw [h1, h2.1]⟩)
        · rw [if_neg ej] at hj
          exact ha.rel.inj i j c m m' hi hj h1 h2
    · obtain ⟨h1, h2⟩ := ha.rel.pin j k p d (hg hj)
      refine ⟨h1, fun j' hj' => ?_⟩
      obtain ⟨es, hes⟩ := h2 j' hj'
      refine ⟨es, ?_⟩
      rw [Hp.get_put, if_neg (fun e => by subst e; rw [hp.gone] at hes; cases hes)]
      exact hes
    · rw [Hp.get_put] at hj'
      split at hj'
      · subst_vars
        rw [hp.at_] at h1
        simp only [Option.some.injEq, Prod.mk.injEq] at h1
        exact hp.free (.inr ⟨j, k, p, d, hg hj, by rw [h1.1]; exact hb⟩)
      · exact ha.rel.sepN j k p d (hg hj) b hb j' hj' m' h1
    · rcases hs.putNew with ⟨m, h1⟩ | h1
      · rw [hp.at_] at h1
        simp only [Option.some.injEq, Prod.mk.injEq] at h1
        rw [← h1.1, hp.nro] at hc; cases hc
      · exact (ha.rel.ro c o hc).2 h1
  le := ha.le
  nx := ha.nx
  size := ha.size
  keep := ha.keep
  orig := fun c hs => by
    rcases hs.putNew with ⟨m, h1⟩ | h1
    · rw [hp.at_] at h1
      simp only [Option.some.injEq, Prod.mk.injEq] at h1
      exact .inl (by have := hp.late; omega)
    · exact ha.orig c h1
  os := ha.os
  output := ha.output
  old := ha.old

theorem adopt_ok {r0 r : Ren σ} {h0 : Hp} {w0 w : World} {es : List Ent} {b : Option Nat} : ∀ (l : List Ent) (h : Hp), Adv r0 h0 w0 r h w →
    (∀ e ∈ l, ∀ id cs, e.new = some (id, cs) → adopts es b e = true → ∃ cb, PFact r h w0 w id cs cb) →
    l.Pairwise (fun e e' => ∀ id cs id' cs' cb, e.new = some (id, cs) → e'.new = some (id', cs') → adopts es b e = true → adopts es b e' = true → r id = some (cb, 0) → r id' ≠ some (cb, 0)) →
    Adv r0 h0 w0 r (adopt es b l h) w ∧ (adopt es b l h).nx = h.nx ∧ ∀ j, ((adopt es b l h).get j).isSome = true → (h.get j).isSome = true ∨ ∃ e ∈ l, ∃ cs, e.new = some (j, cs) ∧ adopts es b e = true := by
  intro l
  induction l with
  | nil => intro h ha _ _; exact ⟨ha, rfl, fun j hj => .inl hj⟩
  | cons e l ih =>
    intro h ha hf hp
    rw [List.pairwise_cons] at hp
    simp only [adopt]
    cases hn : e.new with
    | none =>
      simp only []
      obtain ⟨g1, g2, g3⟩ := ih h ha (fun e' he' => hf e' (by simp [he'])) hp.2
      exact ⟨g1, g2, fun j hj => (g3 j hj).imp (fun x => x) (fun ⟨e', h1, h2⟩ => ⟨e', by simp [h1], h2⟩)⟩
    | some p =>
      obtain ⟨id, cs⟩ := p
      simp only []
      by_cases hc : adopts es b e = true
      · rw [if_pos hc]
        obtain ⟨cb, hfact⟩ := hf e (by simp) id cs hn hc
        obtain ⟨g1, g2, g3⟩ := ih (h.put id (.cells cs none)) (ha.adopt1 hfact) (fun e' he' id' cs' hn' hc2 => by
          obtain ⟨cb', hf'⟩ := hf e' (by simp [he']) id' cs' hn' hc2
          refine ⟨cb', hf'.at_, hf'.obj, hf'.late, fun hs => ?_, hf'.nro⟩
          rcases hs.putNew with ⟨m, h1⟩ | h1
          · rw [hfact.at_] at h1
            simp only [Option.some.injEq, Prod.mk.injEq] at h1
            exact hp.1 e' he' _ cs id' cs' cb hn hn' hc hc2 hfact.at_ (by rw [hf'.at_, h1.1])
          · exact hf'.free h1) hp.2
        refine ⟨g1, g2, fun j hj => ?_⟩
        rcases g3 j hj with h1 | ⟨e', h1, h2⟩
        · rw [Hp.get_put] at h1
          split at h1
          · subst_vars; exact .inr ⟨e, by simp, cs, hn, hc⟩
          · exact .inl h1
        · exact .inr ⟨e', by simp [h1], h2⟩
      · rw [if_neg hc]
        obtain ⟨g1, g2, g3⟩ := ih h ha (fun e' he' => hf e' (by simp [he'])) hp.2
        exact ⟨g1, g2, fun j hj => (g3 j hj).imp (fun x => x) (fun ⟨e', h1, h2⟩ => ⟨e', by simp [h1], h2⟩)⟩

theorem adopt_abs {es : List Ent} {b : Option Nat} : ∀ (l : List Ent) (h : Hp) {j k : Nat} {p : List Nat} {d : List Value}, (adopt es b l h).get j = some (.abs k p d) → h.get j = some (.abs k p d) := by
  intro l
  induction l with
  | nil => intro h j k p d hj; exact hj
  | cons e l ih =>
    intro h j k p d hj
    simp only [adopt] at hj
    split at hj
    · split at hj
      · have := ih _ hj
        rw [Hp.get_put] at this
        split at this
        · cases this
        · exact this
      · exact ih _ hj
    · exact ih _ hj

/- The invariant: which operations are done, how many of them acted; the world stands so. -/
structure DInv (E : Env) (c : Ctx) (ops : List Oper) (bs : List Nat) (s : St) (d : DRun) (r0 : Ren σ) (w0 : World) (done : Nat → Bool) (k : Nat) (r : Ren σ) (h : Hp) (a : Act) (w : World) : Prop where
  down : ∀ (i j bi : Nat), done i = true → bs[i]? = some bi → bi.testBit j = true → done j = true
  hk : d.hs.reverse[k]? = some h
  adv : Adv r0 s.hp w0 r h w
  nx : s.hp.nx + nAlloc E ops ≤ h.nx
  acts : ∀ (i : Nat) (e : Ent) (q : Nat), d.es.reverse[i]? = some e → e.act = some q → (done i = true ↔ q < k)
  nopan : ∀ j ch h, d.pan = some (j, ch, h) → done j = false
  new1 : ∀ (i : Nat) (e : Ent) (id : Nat) (cs : List Value), d.es.reverse[i]? = some e → e.new = some (id, cs) → done i = false → r id = none
  new2 : ∀ (i : Nat) (e : Ent) (id : Nat) (cs : List Value), d.es.reverse[i]? = some e → e.new = some (id, cs) → done i = true →
    (∀ (i' : Nat) (e' : Ent) (q : Nat), d.es.reverse[i']? = some e' → e'.act = some q → q < k → e'.b.testBit i = false) → ∃ cb, PFact r h w0 w id cs cb
  new3 : ∀ (i i' : Nat) (e e' : Ent) (id id' : Nat) (cs cs' : List Value) (cb : Nat), i ≠ i' → d.es.reverse[i]? = some e → d.es.reverse[i']? = some e' → e.new = some (id, cs) → e'.new = some (id', cs') → done i = true → done i' = true →
    r id = some (cb, 0) → r id' ≠ some (cb, 0)
  new4 : ∀ (i : Nat) (e : Ent) (id : Nat) (cs : List Value), d.es.reverse[i]? = some e → e.new = some (id, cs) → done i = true → ∃ cb, r id = some (cb, 0) ∧ cb < w.heap.size
  tmps1 : ∀ (i : Nat) (e : Ent) (t : Tmp), d.es.reverse[i]? = some e → done i = true → e.o.dst = some t → ∃ v', a.tmps[t]? = some v' ∧ VRel r e.v v'
  tmps0 : ∀ (t : Tmp) (v : Value), s.tm.get t = some v → (∀ (i : Nat) (e : Ent), d.es.reverse[i]? = some e → done i = true → e.o.dst ≠ some t) → ∃ v', a.tmps[t]? = some v' ∧ VRel r v v'
  nt : a.tmps.size = c.nt
  df : DfRel r s.df a.defers

theorem dlook_spec {T0 : Tr Value} : ∀ (es : List Ent) (t : Tmp) (v : Value), dlook T0 es t = some v → (∃ e ∈ es, e.o.dst = some t ∧ e.dead = false ∧ v = e.v) ∨ ((∀ e ∈ es, e.o.dst ≠ some t) ∧ T0.get t = some v) := by
  intro es
  induction es with
  | nil => intro t v h; exact .inr ⟨fun e he => (by cases he), h⟩
  | cons e es ih =>
    intro t v h
    simp only [dlook] at h
    by_cases hd : e.o.dst = some t
    · rw [if_pos hd] at h
      split at h
      · cases h
      · rename_i hde
        cases h
        exact .inl ⟨e, by simp, hd, by simpa using hde, rfl⟩
    · rw [if_neg hd] at h
      rcases ih t v h with ⟨e', h1, h2⟩ | ⟨h1, h2⟩
      · exact .inl ⟨e', by simp [h1], h2⟩
      · refine .inr ⟨fun e' he' => ?_, h2⟩
        cases he' with
        | head => exact hd
        | tail _ hm => exact h1 e' hm

theorem dtm_get {T0 : Tr Value} {es : List Ent} : ∀ (ts : List Tmp) (t : Tmp) (v : Value), (dtm T0 es ts).get t = some v → t ∈ ts ∧ dlook T0 es t = some v := by
  intro ts
  induction ts with
  | nil => intro t v h; simp [dtm, Tr.get_leaf] at h
  | cons x ts ih =>
    intro t v h
    simp only [dtm] at h
    rw [Tr.get_set] at h
    split at h
    · subst_vars; exact ⟨by simp, h⟩
    · obtain ⟨h1, h2⟩ := ih t v h
      exact ⟨by simp [h1], h2⟩

theorem mem_before {d : DRun} {i : Nat} {e : Ent} (h : e ∈ before d i) : ∃ j, j < i ∧ d.es.reverse[j]? = some e := by
  unfold before at h
  rw [List.mem_reverse] at h
  obtain ⟨j, hj, he⟩ := List.getElem_of_mem h
  rw [List.length_take] at hj
  refine ⟨j, by omega, ?_⟩
  rw [List.getElem_take] at he
  rw [← he]
  exact List.getElem?_eq_getElem _

theorem before_mem {d : DRun} {i j : Nat} {e : Ent} (hj : j < i) (h : d.es.reverse[j]? = some e) : e ∈ before d i := by
  unfold before
  rw [List.mem_reverse]
  have hlt := (List.getElem?_eq_some_iff.1 h).1
  refine List.mem_of_getElem? (i := j) ?_
  rw [List.getElem?_take, if_pos hj]; exact h

end Go.Eng
