/- The engine, part 17: what each entry of such a run says. -/
import Derived.Test.YtbohihkmakpbbaaGreatE16
namespace Go.Eng
variable {σ : Interp}

def before (d : DRun) (i : Nat) : List Ent := (d.es.reverse.take i).reverse

structure EntOk (E : Env) (rec : Rec) (c : Ctx) (ops : List Oper) (T0 : Tr Value) (id0 : Nat) (bs : List Nat) (d : DRun) (i : Nat) (e : Ent) : Prop where
  o : ops[i]? = some e.o
  b : bs[i]? = some e.b
  ix : e.ix = i
  dead : e.dead = true → e.act = none ∧ e.new = none ∧ ∃ j ch h, d.pan = some (j, ch, h) ∧ e.b.testBit j = true
  tm : e.dead = false → e.tm = dtm T0 (before d i) (looks ops e.o) ∧ wantedA ops e.o e.tm = some e.w
  off : e.dead = false → e.w = false → e.v = undef ∧ e.act = none ∧ e.new = none
  on : e.dead = false → e.w = true →
    (kd E e.o = .r ∧ e.act = none ∧ e.new = none ∧ ∃ h h1, h ∈ d.hs ∧ evOp E rec c.rd e.tm h e.o = some (.val e.v h1)) ∨
    (kd E e.o = .a ∧ e.act = none ∧ ∃ cs mk id, opA E e.tm e.o = some (cs, mk) ∧ e.v = mk id ∧ e.new = some (id, cs)) ∨
    (kd E e.o = .l ∧ e.new = none ∧ ∃ q hq, e.act = some q ∧ d.hs.reverse[q]? = some hq ∧
      ((∃ h', d.hs.reverse[q + 1]? = some h' ∧ evOp E rec c.rd e.tm (adopt (before d i) (some e.b) (before d i) hq) e.o = some (.val e.v h') ∧ ∀ ch h, d.pan ≠ some (i, ch, h)) ∨
       (∃ ch h', d.pan = some (i, ch, h') ∧ evOp E rec c.rd e.tm (adopt (before d i) (some e.b) (before d i) hq) e.o = some (.pan ch h'))))

structure Ext (d d' : DRun) (n i : Nat) : Prop where
  es : ∃ es', d'.es = es' ++ d.es ∧ es'.length = n
  hs : ∃ hs', d'.hs = hs' ++ d.hs
  pan : ∀ x, d.pan = some x → d'.pan = some x
  late : d.pan = none → d'.pan = none ∨ ∃ j ch h, d'.pan = some (j, ch, h) ∧ i ≤ j ∧ j < i + n

theorem Step1.ext {E : Env} {rec : Rec} {c : Ctx} {ops : List Oper} {T0 : Tr Value} {id0 : Nat} {o : Oper} {b i : Nat} {d d1 : DRun} {e : Ent} (h : Step1 E rec c ops T0 id0 o b i d e d1) : d1.es = e :: d.es ∧ Ext d d1 1 i := by
  cases h with
  | dead h1 h2 => exact ⟨rfl, ⟨[_], rfl, rfl⟩, ⟨[], rfl⟩, fun x hx => hx, fun hn => .inl hn⟩
  | off h1 => exact ⟨rfl, ⟨[_], rfl, rfl⟩, ⟨[], rfl⟩, fun x hx => hx, fun hn => .inl hn⟩
  | r h1 h2 h3 h4 => exact ⟨rfl, ⟨[_], rfl, rfl⟩, ⟨[], rfl⟩, fun x hx => hx, fun hn => .inl hn⟩
  | a h1 h2 h3 => exact ⟨rfl, ⟨[_], rfl, rfl⟩, ⟨[], rfl⟩, fun x hx => hx, fun hn => .inl hn⟩
  | l h1 h2 h3 h4 h5 => exact ⟨rfl, ⟨[_], rfl, rfl⟩, ⟨[_], by rw [h4]; rfl⟩, fun x hx => hx, fun hn => .inl hn⟩
  | p h1 h2 h3 h4 h5 => exact ⟨rfl, ⟨[_], rfl, rfl⟩, ⟨[], rfl⟩, fun x hx => (by rw [h3] at hx; cases hx), fun _ => .inr ⟨i, _, _, rfl, Nat.le_refl _, by omega⟩⟩

theorem Ext.trans {d d1 d2 : DRun} {n m i : Nat} (a : Ext d d1 n i) (b : Ext d1 d2 m (i + n)) : Ext d d2 (n + m) i where
  es := by
    obtain ⟨e1, h1, l1⟩ := a.es
    obtain ⟨e2, h2, l2⟩ := b.es
    exact ⟨e2 ++ e1, by rw [h2, h1, List.append_assoc], by simp [l1, l2]; omega⟩
  hs := by
    obtain ⟨e1, h1⟩ := a.hs
    obtain ⟨e2, h2⟩ := b.hs
    exact ⟨e2 ++ e1, by rw [h2, h1, List.append_assoc]⟩
  pan := fun x hx => b.pan x (a.pan x hx)
  late := fun hn => by
    rcases a.late hn with h1 | ⟨j, ch, h, h1, h2, h3⟩
    · rcases b.late h1 with h2 | ⟨j, ch, h, h2, h3, h4⟩
      · exact .inl h2
      · exact .inr ⟨j, ch, h, h2, by omega, by omega⟩
    · exact .inr ⟨j, ch, h, b.pan _ h1, h2, by omega⟩

theorem Ext.refl (d : DRun) (i : Nat) : Ext d d 0 i := ⟨⟨[], rfl, rfl⟩, ⟨[], rfl⟩, fun _ h => h, fun h => .inl h⟩

theorem evDraw_ext {E : Env} {rec : Rec} {c : Ctx} {ops : List Oper} {T0 : Tr Value} {id0 : Nat} : ∀ (l : List (Oper × Nat)) (i : Nat) (d d' : DRun), evDraw E rec c ops T0 id0 l i d = some d' → Ext d d' l.length i := by
  intro l
  induction l with
  | nil => intro i d d' h; simp only [evDraw, Option.some.injEq] at h; subst h; exact .refl d i
  | cons p l ih =>
    intro i d d' h
    obtain ⟨o, b⟩ := p
    simp only [evDraw] at h
    split at h
    · rename_i d1 h1
      obtain ⟨e, hs⟩ := evDraw1_step h1
      have := hs.ext.2.trans (ih (i + 1) d1 d' h)
      rw [List.length_cons, Nat.add_comm]; exact this
    · cases h

theorem evDraw_ents {E : Env} {rec : Rec} {c : Ctx} {ops : List Oper} {T0 : Tr Value} {id0 : Nat} {bs : List Nat} : ∀ (l : List (Oper × Nat)) (i : Nat) (d d' : DRun), evDraw E rec c ops T0 id0 l i d = some d' → d.es.length = i →
    (∀ j o b, l[j]? = some (o, b) → ops[i + j]? = some o ∧ bs[i + j]? = some b) → ∀ k, i ≤ k → k < i + l.length → ∃ e, d'.es.reverse[k]? = some e ∧ EntOk E rec c ops T0 id0 bs d' k e := by
  intro l
  induction l with
  | nil => intro i d d' _ _ _ k h1 h2; simp at h2; omega
  | cons p l ih =>
    intro i d d' h hlen hl k h1 h2
    obtain ⟨o, b⟩ := p
    simp only [evDraw] at h
    split at h
    · rename_i d1 hd1
      obtain ⟨e, hs⟩ := evDraw1_step hd1
      obtain ⟨he1, hx1⟩ := hs.ext
      have hx := evDraw_ext l (i + 1) d1 d' h
      by_cases hk : k = i
      · subst hk
        obtain ⟨es', g1, g2⟩ := hx.es
        obtain ⟨hs', g3⟩ := hx.hs
        have hrev : d'.es.reverse = d.es.reverse ++ (e :: es'.reverse) := by
          rw [g1, he1]; simp
        have hget : d'.es.reverse[k]? = some e := by
          rw [hrev, List.getElem?_append_right (by simp [hlen])]
          simp [hlen]
        have hbef : before d' k = d.es := by
          unfold before
          rw [hrev, List.take_append_of_le_length (by simp [hlen]), List.take_of_length_le (by simp [hlen]), List.reverse_reverse]
        have hob := hl 0 o b (by simp)
        rw [Nat.add_zero] at hob
        refine ⟨e, hget, ?_⟩
        cases hs with
        | @dead j ch hh p1 p2 => exact ⟨hob.1, hob.2, rfl, fun _ => ⟨rfl, rfl, j, ch, hh, hx.pan _ p1, p2⟩, fun h => by simp at h, fun h => by simp at h, fun h => by simp at h⟩
        | off p1 => exact ⟨hob.1, hob.2, rfl, fun h => by simp at h, fun _ => ⟨by rw [hbef], p1⟩, fun _ _ => ⟨rfl, rfl, rfl⟩, fun _ h => by simp at h⟩
        | @r hh h1' v p1 p2 p3 p4 => exact ⟨hob.1, hob.2, rfl, fun h => by simp at h, fun _ => ⟨by rw [hbef], p1⟩, fun _ h => by simp at h, fun _ _ => .inl ⟨p2, rfl, rfl, hh, h1', by rw [g3]; exact List.mem_append_right _ (List.mem_of_mem_head? (by rw [p4]; rfl)), p3⟩⟩
        | @a cs mk p1 p2 p3 => exact ⟨hob.1, hob.2, rfl, fun h => by simp at h, fun _ => ⟨by rw [hbef], p1⟩, fun _ h => by simp at h, fun _ _ => .inr (.inl ⟨p2, rfl, cs, mk, _, p3, rfl, rfl⟩)⟩
        | @l hh h' hs v p1 p2 p3 p4 p5 =>
          have hr : d'.hs.reverse = hs.reverse ++ hh :: h' :: hs'.reverse := by rw [g3]; simp
          refine ⟨hob.1, hob.2, rfl, fun h => by simp at h, fun _ => ⟨by rw [hbef], p1⟩, fun _ h => by simp at h, fun _ _ => .inr (.inr ⟨p2, rfl, hs.length, hh, rfl, ?_, .inl ⟨h', ?_, ?_, ?_⟩⟩)⟩
          · rw [hr, List.getElem?_append_right (by simp)]; simp
          · rw [hr, List.getElem?_append_right (by simp)]; simp
          · rw [hbef]; exact p5
          · intro ch h0 hc
            rcases hx.late p3 with q | ⟨j, ch', h', q, q1, q2⟩
            · rw [q] at hc; cases hc
            · rw [q] at hc; simp only [Option.some.injEq, Prod.mk.injEq] at hc; omega
        | @p hh h' hs ch p1 p2 p3 p4 p5 =>
          have hr : d'.hs.reverse = hs.reverse ++ hh :: hs'.reverse := by rw [g3]; simp [p4]
          refine ⟨hob.1, hob.2, rfl, fun h => by simp at h, fun _ => ⟨by rw [hbef], p1⟩, fun _ h => by simp at h, fun _ _ => .inr (.inr ⟨p2, rfl, hs.length, hh, rfl, ?_, .inr ⟨ch, h', ?_, ?_⟩⟩)⟩
          · rw [hr, List.getElem?_append_right (by simp)]; simp
          · exact hx.pan _ rfl
          · rw [hbef]; exact p5
      · refine ih (i + 1) d1 d' h (by rw [he1]; simp [hlen]) (fun j o' b' hj => ?_) k (by omega) (by simp at h2; omega)
        have := hl (j + 1) o' b' (by simpa using hj)
        rw [show i + 1 + j = i + (j + 1) from by omega]; exact this
    · cases h

/- The numbers of what acts, the names of what is made. -/
structure Num (E : Env) (ops : List Oper) (id0 : Nat) (d : DRun) (i : Nat) : Prop where
  len : d.es.length = i
  ne : 0 < d.hs.length
  lt : ∀ (p : Nat) (e : Ent) (q : Nat), d.es.reverse[p]? = some e → e.act = some q → q < d.hs.length ∧ (d.pan = none → q + 1 < d.hs.length)
  ord : ∀ (p p' : Nat) (e e' : Ent) (q q' : Nat), p < p' → d.es.reverse[p]? = some e → d.es.reverse[p']? = some e' → e.act = some q → e'.act = some q' → q < q'
  all : ∀ k, k + 1 < d.hs.length → ∃ (p : Nat) (e : Ent), d.es.reverse[p]? = some e ∧ e.act = some k
  down : ∀ (p : Nat) (e : Ent) (q : Nat), d.es.reverse[p]? = some e → e.act = some (q + 1) → ∃ (p' : Nat) (e' : Ent), p' < p ∧ d.es.reverse[p']? = some e' ∧ e'.act = some q
  ids : ∀ (p : Nat) (e : Ent) (id : Nat) (cs : List Value), d.es.reverse[p]? = some e → e.new = some (id, cs) → id0 ≤ id ∧ id < id0 + d.na
  one : ∀ (p p' : Nat) (e e' : Ent) (id : Nat) (cs cs' : List Value), p < p' → d.es.reverse[p]? = some e → d.es.reverse[p']? = some e' → e.new = some (id, cs) → e'.new ≠ some (id, cs')
  na : d.na ≤ nAlloc E (ops.take i)
  pan : ∀ (p : Nat) (ch : List (Value × Bool)) (h : Hp), d.pan = some (p, ch, h) → ∃ (e : Ent) (q : Nat), d.es.reverse[p]? = some e ∧ e.act = some q

theorem nAlloc_append (E : Env) : ∀ (a b : List Oper), nAlloc E (a ++ b) = nAlloc E a + nAlloc E b := by
  intro a
  induction a with
  | nil => intro b; simp [nAlloc]
  | cons x a ih => intro b; simp only [List.cons_append, nAlloc, ih]; omega

theorem Num.step {E : Env} {rec : Rec} {c : Ctx} {ops : List Oper} {T0 : Tr Value} {id0 : Nat} {o : Oper} {b i : Nat} {d d1 : DRun} {e : Ent} (hn : Num E ops id0 d i) (ho : ops[i]? = some o) (h : Step1 E rec c ops T0 id0 o b i d e d1) :
    Num E ops id0 d1 (i + 1) := by
  have hrev : ∀ (e : Ent), (e :: d.es).reverse = d.es.reverse ++ [e] := fun e => by simp
  have hget : ∀ (e : Ent) (p : Nat) (x : Ent), (e :: d.es).reverse[p]? = some x → (p < i ∧ d.es.reverse[p]? = some x) ∨ (p = i ∧ x = e) := by
    intro e p x hx
    rw [hrev, List.getElem?_append] at hx
    simp only [List.length_reverse, hn.len] at hx
    split at hx
    · exact .inl ⟨by assumption, hx⟩
    · right
      rename_i hge
      have : p - i = 0 := by
        rcases Nat.eq_zero_or_pos (p - i) with h0 | h0
        · exact h0
        · rw [List.getElem?_eq_none (by simp; omega)] at hx; cases hx
      rw [this] at hx
      simp at hx
      exact ⟨by omega, hx.symm⟩
  have hold : ∀ (e : Ent) (p : Nat) (x : Ent), d.es.reverse[p]? = some x → (e :: d.es).reverse[p]? = some x := by
    intro e p x hx
    have hlt := (List.getElem?_eq_some_iff.1 hx).1
    rw [hrev, List.getElem?_append_left hlt]; exact hx
  have hnew : ∀ (e : Ent), (e :: d.es).reverse[i]? = some e := by
    intro e
    rw [hrev, List.getElem?_append_right (by simp [hn.len])]; simp [hn.len]
  have htake : ops.take (i + 1) = ops.take i ++ [o] := by
    rw [List.take_succ_eq_append_getElem (List.getElem?_eq_some_iff.1 ho).1]
    congr 2
    exact (List.getElem?_eq_some_iff.1 ho).2
  have hna : nAlloc E (ops.take (i + 1)) = nAlloc E (ops.take i) + (if kd E o = .a then 1 else 0) := by
    rw [htake, nAlloc_append]; simp [nAlloc]
  have plain : ∀ (e : Ent), e.act = none → e.new = none → Num E ops id0 { d with es := e :: d.es } (i + 1) := by
    intro e ha hw
    refine ⟨by simp [hn.len], hn.ne, ?_, ?_, ?_, ?_, ?_, ?_, by have := hn.na; show d.na ≤ _; rw [hna]; omega, fun p ch h hp => by
      obtain ⟨x, q, h1, h2⟩ := hn.pan p ch h hp
      exact ⟨x, q, hold e p x h1, h2⟩⟩
    · intro p x q hx hq
      rcases hget e p x hx with ⟨_, h1⟩ | ⟨_, rfl⟩
      · exact hn.lt p x q h1 hq
      · rw [ha] at hq; cases hq
    · intro p p' x x' q q' hlt hx hx' hq hq'
      rcases hget e p x hx with ⟨_, h1⟩ | ⟨_, rfl⟩
      · rcases hget e p' x' hx' with ⟨_, h2⟩ | ⟨_, rfl⟩
        · exact hn.ord p p' x x' q q' hlt h1 h2 hq hq'
        · rw [ha] at hq'; cases hq'
      · rw [ha] at hq; cases hq
    · intro k hk
      obtain ⟨p, x, h1, h2⟩ := hn.all k hk
      exact ⟨p, x, hold e p x h1, h2⟩
    · intro p x q hx hq
      rcases hget e p x hx with ⟨_, h1⟩ | ⟨_, rfl⟩
      · obtain ⟨p', x', h2, h3, h4⟩ := hn.down p x q h1 hq
        exact ⟨p', x', h2, hold e p' x' h3, h4⟩
      · rw [ha] at hq; cases hq
    · intro p x id cs hx hq
      rcases hget e p x hx with ⟨_, h1⟩ | ⟨_, rfl⟩
      · exact hn.ids p x id cs h1 hq
      · rw [hw] at hq; cases hq
    · intro p p' x x' id cs cs' hlt hx hx' hq
      rcases hget e p x hx with ⟨_, h1⟩ | ⟨_, rfl⟩
      · rcases hget e p' x' hx' with ⟨_, h2⟩ | ⟨_, rfl⟩
        · exact hn.one p p' x x' id cs cs' hlt h1 h2 hq
        · rw [hw]; simp
      · rw [hw] at hq; cases hq
  cases h with
  | dead p1 p2 => exact plain _ rfl rfl
  | off p1 => exact plain _ rfl rfl
  | r p1 p2 p3 p4 => exact plain _ rfl rfl
  | @a cs mk p1 p2 p3 =>
    refine ⟨by simp [hn.len], hn.ne, ?_, ?_, ?_, ?_, ?_, ?_, ?_, fun p ch h hp => by
      obtain ⟨x, q, h1, h2⟩ := hn.pan p ch h hp
      exact ⟨x, q, hold _ p x h1, h2⟩⟩
    · intro p x q hx hq
      rcases hget _ p x hx with ⟨_, h1⟩ | ⟨_, rfl⟩
      · exact hn.lt p x q h1 hq
      · cases hq
    · intro p p' x x' q q' hlt hx hx' hq hq'
      rcases hget _ p x hx with ⟨_, h1⟩ | ⟨_, rfl⟩
      · rcases hget _ p' x' hx' with ⟨_, h2⟩ | ⟨_, rfl⟩
        · exact hn.ord p p' x x' q q' hlt h1 h2 hq hq'
        · cases hq'
      · cases hq
    · intro k hk
      obtain ⟨p, x, h1, h2⟩ := hn.all k hk
      exact ⟨p, x, hold _ p x h1, h2⟩
    · intro p x q hx hq
      rcases hget _ p x hx with ⟨_, h1⟩ | ⟨_, rfl⟩
      · obtain ⟨p', x', h2, h3, h4⟩ := hn.down p x q h1 hq
        exact ⟨p', x', h2, hold _ p' x' h3, h4⟩
      · cases hq
    · intro p x id cs' hx hq
      show id0 ≤ id ∧ id < id0 + (d.na + 1)
      rcases hget _ p x hx with ⟨_, h1⟩ | ⟨_, rfl⟩
      · have := hn.ids p x id cs' h1 hq; omega
      · simp only [Option.some.injEq, Prod.mk.injEq] at hq; omega
    · intro p p' x x' id cs' cs'' hlt hx hx' hq
      rcases hget _ p x hx with ⟨_, h1⟩ | ⟨hpi, rfl⟩
      · have h3 := hn.ids p x id cs' h1 hq
        rcases hget _ p' x' hx' with ⟨_, h2⟩ | ⟨_, rfl⟩
        · exact hn.one p p' x x' id cs' cs'' hlt h1 h2 hq
        · intro hc; simp only [Option.some.injEq, Prod.mk.injEq] at hc; omega
      · rcases hget _ p' x' hx' with ⟨_, h2⟩ | ⟨_, rfl⟩
        · omega
        · omega
    · have := hn.na
      show d.na + 1 ≤ _
      rw [hna, if_pos p2]; omega
  | @l hh h' hs v p1 p2 p3 p4 p5 =>
    have hl : d.hs.length = hs.length + 1 := by rw [p4]; rfl
    refine ⟨by simp [hn.len], by simp, ?_, ?_, ?_, ?_, ?_, ?_, by have := hn.na; show d.na ≤ _; rw [hna]; omega, fun p ch h hp => by rw [p3] at hp; cases hp⟩
    · intro p x q hx hq
      simp only [List.length_cons]
      rcases hget _ p x hx with ⟨_, h1⟩ | ⟨_, rfl⟩
      · have := hn.lt p x q h1 hq
        have h2 := this.2 p3
        exact ⟨by omega, fun _ => by omega⟩
      · simp only [Option.some.injEq] at hq; exact ⟨by omega, fun _ => by omega⟩
    · intro p p' x x' q q' hlt hx hx' hq hq'
      rcases hget _ p x hx with ⟨_, h1⟩ | ⟨hpi, rfl⟩
      · rcases hget _ p' x' hx' with ⟨_, h2⟩ | ⟨_, rfl⟩
        · exact hn.ord p p' x x' q q' hlt h1 h2 hq hq'
        · have := (hn.lt p x q h1 hq).2 p3
          simp only [Option.some.injEq] at hq'; omega
      · rcases hget _ p' x' hx' with ⟨h2, _⟩ | ⟨h2, _⟩ <;> omega
    · intro k hk
      simp only [List.length_cons] at hk
      by_cases hk' : k + 1 < d.hs.length
      · obtain ⟨p, x, h1, h2⟩ := hn.all k hk'
        exact ⟨p, x, hold _ p x h1, h2⟩
      · exact ⟨i, _, hnew _, by simp; omega⟩
    · intro p x q hx hq
      rcases hget _ p x hx with ⟨_, h1⟩ | ⟨hpi, rfl⟩
      · obtain ⟨p', x', h2, h3, h4⟩ := hn.down p x q h1 hq
        exact ⟨p', x', h2, hold _ p' x' h3, h4⟩
      · simp only [Option.some.injEq] at hq
        obtain ⟨p', x', h1, h2⟩ := hn.all q (by omega)
        have hlt := (List.getElem?_eq_some_iff.1 h1).1
        rw [List.length_reverse, hn.len] at hlt
        exact ⟨p', x', by omega, hold _ p' x' h1, h2⟩
    · intro p x id cs hx hq
      rcases hget _ p x hx with ⟨_, h1⟩ | ⟨_, rfl⟩
      · exact hn.ids p x id cs h1 hq
      · cases hq
    · intro p p' x x' id cs cs' hlt hx hx' hq
      rcases hget _ p x hx with ⟨_, h1⟩ | ⟨_, rfl⟩
      · rcases hget _ p' x' hx' with ⟨_, h2⟩ | ⟨_, rfl⟩
        · exact hn.one p p' x x' id cs cs' hlt h1 h2 hq
        · simp
      · cases hq
  | @p hh h' hs ch p1 p2 p3 p4 p5 =>
    have hl : d.hs.length = hs.length + 1 := by rw [p4]; rfl
    refine ⟨by simp [hn.len], hn.ne, ?_, ?_, ?_, ?_, ?_, ?_, by have := hn.na; show d.na ≤ _; rw [hna]; omega, fun p ch' h0 hp => by
      simp only [Option.some.injEq, Prod.mk.injEq] at hp
      rw [← hp.1]
      exact ⟨_, _, hnew _, rfl⟩⟩
    · intro p x q hx hq
      refine ⟨?_, fun h => by cases h⟩
      rcases hget _ p x hx with ⟨_, h1⟩ | ⟨_, rfl⟩
      · exact (hn.lt p x q h1 hq).1
      · simp only [Option.some.injEq] at hq; show q < d.hs.length; omega
    · intro p p' x x' q q' hlt hx hx' hq hq'
      rcases hget _ p x hx with ⟨_, h1⟩ | ⟨hpi, rfl⟩
      · rcases hget _ p' x' hx' with ⟨_, h2⟩ | ⟨_, rfl⟩
        · exact hn.ord p p' x x' q q' hlt h1 h2 hq hq'
        · have := (hn.lt p x q h1 hq).2 p3
          simp only [Option.some.injEq] at hq'; omega
      · rcases hget _ p' x' hx' with ⟨h2, _⟩ | ⟨h2, _⟩ <;> omega
    · intro k hk
      obtain ⟨p, x, h1, h2⟩ := hn.all k hk
      exact ⟨p, x, hold _ p x h1, h2⟩
    · intro p x q hx hq
      rcases hget _ p x hx with ⟨_, h1⟩ | ⟨hpi, rfl⟩
      · obtain ⟨p', x', h2, h3, h4⟩ := hn.down p x q h1 hq
        exact ⟨p', x', h2, hold _ p' x' h3, h4⟩
      · simp only [Option.some.injEq] at hq
        obtain ⟨p', x', h1, h2⟩ := hn.all q (by omega)
        have hlt := (List.getElem?_eq_some_iff.1 h1).1
        rw [List.length_reverse, hn.len] at hlt
        exact ⟨p', x', by omega, hold _ p' x' h1, h2⟩
    · intro p x id cs hx hq
      rcases hget _ p x hx with ⟨_, h1⟩ | ⟨_, rfl⟩
      · exact hn.ids p x id cs h1 hq
      · cases hq
    · intro p p' x x' id cs cs' hlt hx hx' hq
      rcases hget _ p x hx with ⟨_, h1⟩ | ⟨_, rfl⟩
      · rcases hget _ p' x' hx' with ⟨_, h2⟩ | ⟨_, rfl⟩
        · exact hn.one p p' x x' id cs cs' hlt h1 h2 hq
        · simp
      · cases hq

theorem evDraw_num {E : Env} {rec : Rec} {c : Ctx} {ops : List Oper} {T0 : Tr Value} {id0 : Nat} : ∀ (l : List (Oper × Nat)) (i : Nat) (d d' : DRun), evDraw E rec c ops T0 id0 l i d = some d' →
    (∀ j o b, l[j]? = some (o, b) → ops[i + j]? = some o) → Num E ops id0 d i → Num E ops id0 d' (i + l.length) := by
  intro l
  induction l with
  | nil => intro i d d' h _ hn; simp only [evDraw, Option.some.injEq] at h; subst h; exact hn
  | cons p l ih =>
    intro i d d' h hl hn
    obtain ⟨o, b⟩ := p
    simp only [evDraw] at h
    split at h
    · rename_i d1 h1
      obtain ⟨e, hs⟩ := evDraw1_step h1
      have := ih (i + 1) d1 d' h (fun j o' b' hj => by
        have := hl (j + 1) o' b' (by simpa using hj)
        rw [show i + 1 + j = i + (j + 1) from by omega]; exact this) (hn.step (by have := hl 0 o b (by simp); simpa using this) hs)
      rw [List.length_cons, show i + (l.length + 1) = i + 1 + l.length from by omega]; exact this
    · cases h

end Go.Eng
