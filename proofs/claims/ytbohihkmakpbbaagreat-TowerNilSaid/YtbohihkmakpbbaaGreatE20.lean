/- The engine, part 20: one operation of a region that draws its order, whenever it comes up; the step. -/
import Derived.Test.YtbohihkmakpbbaaGreatE19
namespace Go.Eng
variable {σ : Interp}

theorem Rel.named {r : Ren σ} {h : Hp} {w : World} (hr : Rel r h w) {id : Nat} (hn : r id = none) {j : Nat} (hj : (h.get j).isSome = true) : j ≠ id := by
  intro e
  obtain ⟨o', ho⟩ := Option.isSome_iff_exists.1 hj
  obtain ⟨c, m, obj, h1, _, _⟩ := hr.live j o' ho
  rw [e, hn] at h1; cases h1

theorem Spk.row {r : Ren σ} {h : Hp} {w : World} (hr : Rel r h w) {id : Nat} (hn : r id = none) {x : Nat × Nat} {c : Nat} (hs : Spk (r.add id x) h c) : Spk r h c := by
  rcases hs with ⟨j, m, hj, h1⟩ | ⟨j, k, p, d, hj, h1⟩
  · rw [Ren.add_ne (hr.named hn hj)] at h1
    exact .inl ⟨j, m, hj, h1⟩
  · exact .inr ⟨j, k, p, d, hj, h1⟩

theorem Rel.spk_lt {r : Ren σ} {h : Hp} {w : World} (hr : Rel r h w) {c : Nat} (hs : Spk r h c) : c < w.heap.size := by
  rcases hs with ⟨j, m, hj, h1⟩ | ⟨j, k, p, d, hj, h1⟩
  · obtain ⟨o', ho⟩ := Option.isSome_iff_exists.1 hj
    obtain ⟨c', m', obj, g1, g2, _⟩ := hr.live j o' ho
    rw [h1] at g1
    cases g1
    exact (Array.getElem?_eq_some_iff.1 g2).1
  · obtain ⟨_, _, _, _, h3⟩ := hr.abs j k p d hj
    exact h3 c h1

theorem Adv.row {r0 r : Ren σ} {h0 h : Hp} {w0 w : World} (ha : Adv r0 h0 w0 r h w) {id : Nat} (hn : r id = none) (hlt : id < h.nx) (hge : h0.nx ≤ id) (o : Obj) :
    Adv r0 h0 w0 (r.add id (w.heap.size, 0)) h (w.alloc o) := by
  have hadd : ∀ j, j ≠ id → r.add id (w.heap.size, 0) j = r j := fun j hj => Ren.add_ne hj
  have hle : r.le (r.add id (w.heap.size, 0)) := Ren.le_add hn
  have hlive : ∀ j, (h.get j).isSome = true → j ≠ id := fun j hj => ha.rel.named hn hj
  have hpush : ∀ b, b < w.heap.size → (w.heap.push o)[b]? = w.heap[b]? := fun b hb => by rw [Array.getElem?_push, if_neg (by omega)]
  refine ⟨⟨?_, ?_, ?_, ?_, ha.rel.pin, ?_, ha.rel.sepF, fun c ob hc => ⟨?_, fun hs => (ha.rel.ro c ob hc).2 (hs.row ha.rel hn)⟩⟩, Ren.le_trans ha.le hle, ha.nx, ?_, ?_, fun c hs => ha.orig c (hs.row ha.rel hn), ha.os, ha.output, ?_⟩
  · intro i x hx
    by_cases hi : i = id
    · rw [hi]; exact hlt
    · rw [hadd i hi] at hx; exact ha.rel.dom _ _ hx
  · intro i p hi
    obtain ⟨c, m, obj, h1, h2, h3⟩ := ha.rel.live i p hi
    refine ⟨c, m, obj, hle _ _ h1, ?_, h3.mono hle⟩
    show (w.heap.push o)[c]? = _
    rw [hpush c (Array.getElem?_eq_some_iff.1 h2).1]; exact h2
  · intro i j c m m' hi hj h1 h2
    rw [hadd i (hlive i hi)] at h1
    rw [hadd j (hlive j hj)] at h2
    exact ha.rel.inj i j c m m' hi hj h1 h2
  · intro i k p d hi
    obtain ⟨c, m, h1, h2, h3⟩ := ha.rel.abs i k p d hi
    refine ⟨c, m, hle _ _ h1, ownA_more (ownA_frame h2 (fun b hb => ?_)) hle, fun b hb => ?_⟩
    · refine hpush b ?_
      rcases hb with hb | hb | ⟨i', hi', m', hb⟩
      · subst hb
        exact ha.rel.spk_lt (.inl ⟨i, m, by simp [hi], h1⟩)
      · exact h3 b hb
      · obtain ⟨es, hes⟩ := (ha.rel.pin i k p d hi).2 i' hi'
        exact ha.rel.spk_lt (.inl ⟨i', m', by simp [hes], hb⟩)
    · show b < (w.heap.push o).size
      have := h3 b hb
      simp; omega
  · intro i k p d hi b hb j hj m h1
    rw [hadd j (hlive j hj)] at h1
    exact ha.rel.sepN i k p d hi b hb j hj m h1
  · have h1 := (ha.rel.ro c ob hc).1
    show (w.heap.push o)[c]? = _
    rw [hpush c (Array.getElem?_eq_some_iff.1 h1).1]; exact h1
  · show w0.heap.size ≤ (w.heap.push o).size
    have := ha.size
    simp; omega
  · intro c hc hx
    have := ha.size
    show (w.heap.push o)[c]? = _
    rw [hpush c (by omega)]
    exact ha.keep c hc hx
  · intro i hi
    rw [hadd i (by omega)]; exact ha.old i hi

theorem PFact.row {r : Ren σ} {h : Hp} {w0 w : World} {id cb : Nat} {cs : List Value} (hp : PFact r h w0 w id cs cb) (hr : Rel r h w) {i : Nat} (hn : r i = none) (o : Obj) : PFact (r.add i (w.heap.size, 0)) h w0 (w.alloc o) id cs cb where
  at_ := Ren.le_add hn _ _ hp.at_
  obj := by
    obtain ⟨ob, h1, h2⟩ := hp.obj
    refine ⟨ob, ?_, h2.mono (Ren.le_add hn)⟩
    have := hp.lt
    show (w.heap.push o)[cb]? = _
    rw [Array.getElem?_push, if_neg (by omega)]; exact h1
  late := hp.late
  free := fun hs => hp.free (hs.row hr hn)
  nro := hp.nro

theorem before_pairwise {d : DRun} {i : Nat} {R : Ent → Ent → Prop} (h : ∀ (j j' : Nat) (e e' : Ent), j ≠ j' → j < i → j' < i → d.es.reverse[j]? = some e → d.es.reverse[j']? = some e' → R e e') : (before d i).Pairwise R := by
  rw [List.pairwise_iff_getElem]
  intro x y hx hy hxy
  have hl : (before d i).length = min i d.es.length := by simp [before]
  have key : ∀ z (hz : z < (before d i).length), d.es.reverse[min i d.es.length - 1 - z]? = some ((before d i)[z]) := by
    intro z hz
    have h1 : (before d i)[z]? = some ((before d i)[z]) := List.getElem?_eq_getElem hz
    rw [← h1]
    unfold before at hz ⊢
    simp only [List.length_reverse, List.length_take] at hz
    rw [List.getElem?_reverse (l := d.es.reverse.take i) (by simp; omega), List.getElem?_take, List.length_take, List.length_reverse, if_pos (by omega)]
  exact h _ _ _ _ (by omega) (by omega) (by omega) (key x hx) (key y hy)

theorem mayStand_ok {i b k : Nat} : ∀ (l : List Ent) (j0 : Nat), (∀ (j : Nat) (e : Ent) (q : Nat), l[j]? = some e → e.act = some q → (b.testBit (j0 + j) = true → q < k) ∧ (e.b.testBit i = true → k ≤ q)) → mayStand i b k l j0 = true := by
  intro l
  induction l with
  | nil => intro j0 _; rfl
  | cons e l ih =>
    intro j0 h
    simp only [mayStand, Bool.and_eq_true]
    refine ⟨?_, ih (j0 + 1) (fun j e' q h1 h2 => ?_)⟩
    · cases hq : e.act with
      | none => rfl
      | some q =>
        have := h 0 e q (by simp) hq
        simp only [Nat.add_zero] at this
        simp only [Bool.and_eq_true, Bool.or_eq_true, Bool.not_eq_true', decide_eq_true_eq]
        refine ⟨?_, ?_⟩
        · cases hb : b.testBit j0 with
          | false => exact .inl rfl
          | true => exact .inr (this.1 hb)
        · cases hb : e.b.testBit i with
          | false => exact .inl rfl
          | true => exact .inr (this.2 hb)
    · have := h (j + 1) e' q (by simpa using h1) h2
      rw [show j0 + 1 + j = j0 + (j + 1) from by omega]; exact this

theorem stillAt_ok {E : Env} {rec : Rec} {rd : Option Nat} {ents : List Ent} {i : Nat} {e : Ent} : ∀ (l : List Hp) (k0 : Nat), stillAt E rec rd ents i e l k0 = true → ∀ (k : Nat) (h : Hp), l[k]? = some h → mayStand i e.b (k0 + k) ents 0 = true →
    ∃ h1, evOp E rec rd e.tm h e.o = some (.val e.v h1) := by
  intro l
  induction l with
  | nil => intro k0 _ k h hk; simp at hk
  | cons x l ih =>
    intro k0 hs k h hk hm
    simp only [stillAt, Bool.and_eq_true, Bool.or_eq_true, Bool.not_eq_true'] at hs
    cases k with
    | zero =>
      simp only [List.getElem?_cons_zero, Option.some.injEq] at hk
      subst hk
      rw [Nat.add_zero] at hm
      rcases hs.1 with h1 | h1
      · rw [hm] at h1; cases h1
      · split at h1
        · rename_i v h2 hop
          rw [veq_ok _ _ _ h1] at hop
          exact ⟨h2, hop⟩
        · cases h1
    | succ k =>
      exact ih (k0 + 1) hs.2 k h (by simpa using hk) (by rw [show k0 + 1 + k = k0 + (k + 1) from by omega]; exact hm)

theorem stillOk_ok {E : Env} {rec : Rec} {rd : Option Nat} {ents : List Ent} {heaps : List Hp} : ∀ (l : List Ent) (i0 : Nat), stillOk E rec rd ents heaps l i0 = true → ∀ (i : Nat) (e : Ent), l[i]? = some e →
    e.w = true → e.act = none → e.new = none → looksIn e.o = true → 1 < heaps.length → stillAt E rec rd ents (i0 + i) e heaps 0 = true := by
  intro l
  induction l with
  | nil => intro i0 _ i e hi; simp at hi
  | cons x l ih =>
    intro i0 hs i e hi h1 h2 h3 h4 h5
    simp only [stillOk, Bool.and_eq_true, Bool.or_eq_true, Bool.not_eq_true'] at hs
    cases i with
    | zero =>
      simp only [List.getElem?_cons_zero, Option.some.injEq] at hi
      subst hi
      rcases hs.1 with g | g
      · simp [h1, h2, h3, h4, h5] at g
      · exact g
    | succ i =>
      rw [show i0 + (i + 1) = i0 + 1 + i from by omega]
      exact ih (i0 + 1) hs.2 i e (by simpa using hi) h1 h2 h3 h4 h5

section
variable {E : Env} {rec : Rec} {c : Ctx} {ops : List Oper} {bs : List Nat} {s : St} {d : DRun} {r0 : Ren σ} {w0 : World}

/- What is asked of the run in the text's order. -/
structure Told (E : Env) (rec : Rec) (c : Ctx) (ops : List Oper) (bs : List Nat) (s : St) (d : DRun) : Prop where
  st : Stat E c.nt ops bs
  num : Num E ops s.hp.nx d ops.length
  ents : ∀ k, k < ops.length → ∃ e, d.es.reverse[k]? = some e ∧ EntOk E rec c ops s.tm s.hp.nx bs d k e
  still : stillOk E rec c.rd d.es.reverse d.hs.reverse d.es.reverse 0 = true

theorem Told.lt (T : Told E rec c ops bs s d) {i : Nat} {e : Ent} (h : d.es.reverse[i]? = some e) : i < ops.length := by
  have := (List.getElem?_eq_some_iff.1 h).1
  rw [List.length_reverse, T.num.len] at this; exact this

theorem Told.ent (T : Told E rec c ops bs s d) {i : Nat} {e : Ent} (h : d.es.reverse[i]? = some e) : EntOk E rec c ops s.tm s.hp.nx bs d i e := by
  obtain ⟨e', h1, h2⟩ := T.ents i (T.lt h)
  rw [h] at h1; cases h1; exact h2

theorem Told.kl (T : Told E rec c ops bs s d) {i : Nat} {e : Ent} {q : Nat} (h : d.es.reverse[i]? = some e) (hq : e.act = some q) : kd E e.o = .l := by
  have ok := T.ent h
  cases hd : e.dead with
  | true => have := (ok.dead hd).1; rw [hq] at this; cases this
  | false =>
    cases hw : e.w with
    | false => have := (ok.off hd hw).2.1; rw [hq] at this; cases this
    | true =>
      rcases ok.on hd hw with ⟨_, h1, _⟩ | ⟨_, h1, _⟩ | ⟨h1, _⟩
      · rw [hq] at h1; cases h1
      · rw [hq] at h1; cases h1
      · exact h1

/- The slots that an operation reads. -/
theorem DInv.reads (T : Told E rec c ops bs s d) {done : Nat → Bool} {k : Nat} {r : Ren σ} {h : Hp} {a : Act} {w : World} (hinv : DInv E c ops bs s d r0 w0 done k r h a w)
    {i : Nat} {e : Ent} (he : d.es.reverse[i]? = some e) (hnd : done i = false) (hbits : ∀ j, e.b.testBit j = true → done j = true) (hde : e.dead = false) : TmRel r e.tm a.tmps := by
  have ok := T.ent he
  intro t v hv
  rw [(ok.tm hde).1] at hv
  obtain ⟨h1, h2⟩ := dtm_get _ _ _ hv
  have pair : ∀ {j : Nat} {e' : Ent}, d.es.reverse[j]? = some e' → e'.o.dst = some t → j ≠ i → e.b.testBit j = true ∨ e'.b.testBit i = true := by
    intro j e' g1 g2 g3
    have ok' := T.ent g1
    have hp := T.st.pair i j e.o e'.o e.b e'.b (fun x => g3 x.symm) ok.o ok'.o ok.b ok'.b
    unfold pairOk at hp
    rw [g2] at hp
    simp only [Bool.and_eq_true, Bool.or_eq_true, Bool.not_eq_true', List.contains_eq_mem, decide_eq_false_iff_not] at hp
    rcases hp.1.1 with (q | q) | q
    · exact absurd h1 q
    · exact .inl q
    · exact .inr q
  rcases dlook_spec _ _ _ h2 with ⟨e', g1, g2, g3, g4⟩ | ⟨g1, g2⟩
  · obtain ⟨j, f1, f2⟩ := mem_before g1
    subst g4
    refine hinv.tmps1 j e' t f2 ?_ g2
    rcases pair f2 g2 (by omega) with q | q
    · exact hbits j q
    · have := T.st.low j e'.b i (T.ent f2).b q; omega
  · refine hinv.tmps0 t v g2 (fun j e' f1 f2 f3 => ?_)
    rcases Nat.lt_trichotomy j i with q | q | q
    · exact g1 e' (before_mem q f1) f3
    · rw [q, hnd] at f2; cases f2
    · rcases pair f1 f3 (by omega) with p | p
      · have := T.st.low i e.b j ok.b p; omega
      · have := hinv.down j i e'.b f2 (T.ent f1).b p
        rw [hnd] at this; cases this

/- Rows that were made and that nothing which acted has seen take their place: up to an operation, or at the end. -/
theorem DInv.adopts (T : Told E rec c ops bs s d) {done : Nat → Bool} {k : Nat} {r : Ren σ} {h : Hp} {a : Act} {w : World} (hinv : DInv E c ops bs s d r0 w0 done k r h a w)
    (i : Nat) (b : Option Nat) (hb : ∀ (j : Nat) (e : Ent), d.es.reverse[j]? = some e → j < i → (∀ m, b = some m → m.testBit j = true) → done j = true)
    (hk : ∀ (j : Nat) (e : Ent) (q : Nat), d.es.reverse[j]? = some e → e.act = some q → q < k → j < i) :
    Adv r0 s.hp w0 r (adopt (before d i) b (before d i) h) w ∧ (adopt (before d i) b (before d i) h).nx = h.nx ∧
      ∀ j, ((adopt (before d i) b (before d i) h).get j).isSome = true → (h.get j).isSome = true ∨ ∃ (x : Nat) (e : Ent), d.es.reverse[x]? = some e ∧ x < i ∧ done x = true ∧ (∀ m, b = some m → m.testBit x = true) ∧ ∃ cs, e.new = some (j, cs) := by
  have hd : ∀ {x : Nat} {e : Ent}, d.es.reverse[x]? = some e → x < i → Eng.adopts (before d i) b e = true → done x = true ∧ (∀ m, b = some m → m.testBit x = true) ∧ ∀ (i' : Nat) (e' : Ent) (q : Nat), d.es.reverse[i']? = some e' → e'.act = some q → q < k → e'.b.testBit x = false := by
    intro x e h1 h2 h3
    unfold Eng.adopts at h3
    rw [(T.ent h1).ix, Bool.and_eq_true] at h3
    have hm : ∀ m, b = some m → m.testBit x = true := fun m hm => by have := h3.1; rw [hm] at this; exact this
    refine ⟨hb x e h1 h2 hm, hm, fun i' e' q g1 g2 g3 => ?_⟩
    have := h3.2
    unfold unseen at this
    rw [List.all_eq_true] at this
    have := this e' (before_mem (hk i' e' q g1 g2 g3) g1)
    simp only [g2, Option.isSome_some, Bool.true_and, Bool.not_eq_true'] at this
    exact this
  obtain ⟨g1, g2, g3⟩ := adopt_ok (es := before d i) (b := b) (before d i) h hinv.adv (fun e he id cs hn ha => by
      obtain ⟨x, h1, h2⟩ := mem_before he
      obtain ⟨f1, _, f2⟩ := hd h2 h1 ha
      exact hinv.new2 x e id cs h2 hn f1 f2)
    (before_pairwise fun j j' e e' hne hj hj' h1 h2 id cs id' cs' cb n1 n2 a1 a2 hr =>
      hinv.new3 j j' e e' id id' cs cs' cb hne h1 h2 n1 n2 (hd h1 hj a1).1 (hd h2 hj' a2).1 hr)
  refine ⟨g1, g2, fun j hj => ?_⟩
  rcases g3 j hj with h1 | ⟨e, h1, cs, h2, h3⟩
  · exact .inl h1
  · obtain ⟨x, f1, f2⟩ := mem_before h1
    obtain ⟨f3, f4, _⟩ := hd f2 f1 h3
    exact .inr ⟨x, e, f2, f1, f3, f4, cs, h2⟩

theorem dropAll_get : ∀ (l : List Ent) (tm : Tr Value) (t : Tmp) (v : Value), (dropAll l tm).get t = some v → (∀ e ∈ l, e.o.dst ≠ some t) ∧ tm.get t = some v := by
  intro l
  induction l with
  | nil => intro tm t v h; exact ⟨fun e he => (by cases he), h⟩
  | cons e l ih =>
    intro tm t v h
    obtain ⟨h1, h2⟩ := ih _ t v h
    cases hd : e.o.dst with
    | none =>
      rw [hd] at h2
      refine ⟨fun e' he' => ?_, h2⟩
      cases he' with
      | head => rw [hd]; simp
      | tail _ hm => exact h1 e' hm
    | some x =>
      rw [hd] at h2
      simp only [Tr.get_set] at h2
      split at h2
      · cases h2
      · rename_i hne
        refine ⟨fun e' he' => ?_, h2⟩
        cases he' with
        | head => rw [hd]; simpa using hne
        | tail _ hm => exact h1 e' hm

theorem DInv.step (hE : EnvOk E σ) (hcall : CallOk E rec.call) (hround : RoundOk E rec.round) (T : Told E rec c ops bs s d) {rdc : Option Nat} (hrd : RdRel r0 c.rd rdc) {n : Nat} {Q : Exit → Act → World → Prop}
    (hpan : ∀ i ch hp, d.pan = some (i, ch, hp) → ∀ r' a' w' ch', Adv r0 s.hp w0 r' hp w' → StRel r' c { s with tm := dropAll d.es s.tm, hp := hp } a' w' → ChRel r' ch ch' → Q (.panic ch') a' w')
    {done : Nat → Bool} {k : Nat} {r : Ren σ} {h : Hp} {a : Act} {w : World} (hinv : DInv E c ops bs s d r0 w0 done k r h a w)
    {i : Nat} (hi : i < ops.length) (hnd : done i = false) (hbits : ∀ b j, bs[i]? = some b → b.testBit j = true → done j = true) {K : Act → World → Prop}
    (hK : ∀ k' r' h' a' w', DInv E c ops bs s d r0 w0 (fun j => decide (j = i) || done j) k' r' h' a' w' → K a' w') : wpOpIn (fen rdc) n E.P ⟨ops⟩ Q i K a w := by
  obtain ⟨e, he, hok⟩ := T.ents i hi
  have hbits' : ∀ j, e.b.testBit j = true → done j = true := fun j hj => hbits e.b j hok.b hj
  have hde : e.dead = false := by
    cases hd : e.dead with
    | false => rfl
    | true =>
      obtain ⟨_, _, j, ch, h0, h1, h2⟩ := hok.dead hd
      have h3 := hinv.nopan j ch h0 h1
      rw [hbits' j h2] at h3; cases h3
  have htm := hinv.reads T he hnd hbits' hde
  have hw := wanted_tm (hok.tm hde).2 htm
  have hoi : (⟨ops⟩ : Array Oper)[i]? = some e.o := by simpa using hok.o
  have nopan : e.act = none → ∀ ch h0, d.pan ≠ some (i, ch, h0) := fun ha ch h0 hc => by
    obtain ⟨e', q, h1, h2⟩ := T.num.pan i ch h0 hc
    rw [he] at h1; cases h1
    rw [ha] at h2; cases h2
  unfold wpOpIn
  rw [hoi]
  simp only [hw]
  cases hew : e.w with
  | false =>
    obtain ⟨h1, h2, h3⟩ := hok.off hde hew
    simp only [Bool.false_eq_true, if_false]
    refine ⟨fen_about, hK k r h _ w (hinv.next T.st T.num T.ents he hok hnd hbits' hinv.hk hinv.adv (Ren.le_refl r) (Nat.le_refl _) (Nat.le_refl _) (fun _ _ _ => rfl) (.inl ⟨h2, rfl⟩) (nopan h2)
      (fun _ _ _ _ _ _ _ _ _ h => h) (fun id cs h4 => by rw [h3] at h4; cases h4) (by rw [h1]; exact undef_rel r))⟩
  | true =>
    simp only [if_true]
    rcases hok.on hde hew with ⟨hkd, hact, hnew, h0, h1, hmem, hop⟩ | ⟨hkd, hact, cs, mk, id, hop, hv, hnew⟩ | ⟨hkd, hnew, q, hq, hact, hhq, hcase⟩
    · have hnow : ∃ h2, evOp E rec c.rd e.tm h e.o = some (.val e.v h2) := by
        cases hl : looksIn e.o with
        | false => exact ⟨_, kdr_blind hkd hl hop h⟩
        | true =>
          by_cases hlen : 1 < d.hs.reverse.length
          · have hs := stillOk_ok _ 0 T.still i e he hew hact hnew hl hlen
            refine stillAt_ok _ 0 hs k h hinv.hk ?_
            rw [Nat.zero_add, Nat.zero_add]
            refine mayStand_ok _ 0 (fun j e' q g1 g2 => ⟨fun hb => ?_, fun hb => ?_⟩)
            · rw [Nat.zero_add] at hb
              exact (hinv.acts j e' q g1 g2).1 (hbits' j hb)
            · rcases Nat.lt_or_ge q k with hlt | hge
              · have := hinv.down j i e'.b ((hinv.acts j e' q g1 g2).2 hlt) (T.ent g1).b hb
                rw [hnd] at this; cases this
              · exact hge
          · have hk := hinv.hk
            have hk0 := (List.getElem?_eq_some_iff.1 hk).1
            have hm : h0 ∈ d.hs.reverse := by simpa using hmem
            obtain ⟨j, hj, hj2⟩ := List.getElem_of_mem hm
            have : j = k := by omega
            subst this
            rw [List.getElem?_eq_getElem hj, hj2] at hk
            cases hk
            exact ⟨h1, hop⟩
      obtain ⟨h2, hop2⟩ := hnow
      have := kdr_same hkd hop2
      subst this
      refine evOp_wp hE hcall hround hop2 htm hinv.adv.rel (hrd.mono hinv.adv.le) ?_
      intro r' v' w' ha hval
      exact hK k r' h2 _ w' (hinv.next T.st T.num T.ents he hok hnd hbits' hinv.hk (hinv.adv.trans ha) ha.le (Nat.le_refl _) ha.size (fun j hj _ => ha.old j hj) (.inl ⟨hact, rfl⟩) (nopan hact)
        (fun _ _ _ _ _ _ _ _ _ h => h.adv ha) (fun id cs h4 => by rw [hnew] at h4; cases h4) hval)
    · obtain ⟨c', el, v', hrun, hcs, hmk⟩ := opA_ok hE hop htm w
      have hnid := hinv.new1 i e id cs he hnew hnd
      have hids := T.num.ids i e id cs he hnew
      have hna := T.num.na
      rw [List.take_length] at hna
      have hidlt : id < h.nx := by have := hinv.nx; omega
      refine ⟨fen_about, ?_⟩
      rw [Oper.semAt_eq _ _ _ (fun x hx => by simp [opA, hx] at hop), hrun, Oper.uponIn_value]
      have hadv := hinv.adv.row hnid hidlt hids.1 (.cells c' el)
      have hself : r.add id (w.heap.size, 0) id = some (w.heap.size, 0) := by simp [Ren.add]
      refine hK k (r.add id (w.heap.size, 0)) h _ _ (hinv.next T.st T.num T.ents he hok hnd hbits' hinv.hk hadv (Ren.le_add hnid) (Nat.le_refl _) (by show w.heap.size ≤ (w.heap.push _).size; simp) (fun j _ hj2 => ?_) (.inl ⟨hact, rfl⟩) (nopan hact)
        (fun _ _ _ _ _ _ _ _ _ h => h.row hinv.adv.rel hnid _) (fun id' cs' h4 => ?_) (by rw [hv]; exact hmk _ _ hself))
      · have : j ≠ id := fun x => hj2 cs (by rw [hnew, x])
        simp [Ren.add, this]
      · rw [hnew] at h4
        cases h4
        refine ⟨w.heap.size, ⟨hself, ⟨.cells c' el, by show (w.heap.push _)[w.heap.size]? = _; simp, ?_⟩, hinv.adv.size, fun hs => ?_, ?_⟩, Nat.le_refl _⟩
        · exact ⟨(hcs.mono (Ren.le_add hnid)).cellsRel, .inl rfl, by simp⟩
        · have := hinv.adv.rel.spk_lt (hs.row hinv.adv.rel hnid)
          omega
        · cases hro : σ.ro w.heap.size with
          | none => rfl
          | some ob =>
            have := (Array.getElem?_eq_some_iff.1 (hinv.adv.rel.ro _ _ hro).1).1
            omega
    · have hqk : q = k := by
        have h1 := hinv.acts i e q he hact
        rcases Nat.lt_trichotomy q k with g | g | g
        · have := h1.2 g; rw [hnd] at this; cases this
        · exact g
        · exfalso
          have h2 := (T.num.lt i e q he hact).1
          obtain ⟨p, e', h3, h4⟩ := T.num.all k (by omega)
          have hpi : p ≠ i := fun x => by rw [x, he] at h3; cases h3; rw [hact] at h4; cases h4; omega
          have hp := T.st.pair i p e.o e'.o e.b e'.b (fun x => hpi x.symm) hok.o (T.ent h3).o hok.b (T.ent h3).b
          unfold pairOk at hp
          rw [hkd, T.kl h3 h4] at hp
          simp only [Bool.and_eq_true, Bool.or_eq_true] at hp
          rcases hp.2 with (g1 | g1) | g1
          · exact absurd g1 (by decide)
          · have := (hinv.acts p e' k h3 h4).1 (hbits' p g1); omega
          · have h5 := T.st.low p e'.b i (T.ent h3).b g1
            have := T.num.ord i p e e' q k h5 he h3 hact h4
            omega
      subst hqk
      rw [hinv.hk] at hhq
      cases hhq
      obtain ⟨a1, a2, a3⟩ := hinv.adopts T i (some e.b) (fun j e' _ _ hb => hbits' j (hb _ rfl)) (fun j e' q' h1 h2 h3 => by
        rcases Nat.lt_trichotomy j i with g | g | g
        · exact g
        · rw [g, he] at h1; cases h1; rw [hact] at h2; cases h2; omega
        · have := T.num.ord i j e e' q q' g he h1 hact h2; omega)
      rcases hcase with ⟨h', hh', hop, hnp⟩ | ⟨ch, h', hp, hop⟩
      · refine evOp_wp hE hcall hround hop htm a1.rel (hrd.mono hinv.adv.le) ?_
        intro r' v' w' ha hval
        refine hK (q + 1) r' h' _ w' (hinv.next T.st T.num T.ents he hok hnd hbits' hh' (a1.trans ha) ha.le (by rw [← a2]; exact ha.nx) ha.size (fun j hj _ => ha.old j (by rw [a2]; exact hj)) (.inr ⟨hact, rfl⟩) hnp
          (fun i1 e1 id cs cb g1 g2 g3 g4 g5 => ?_) (fun id cs h4 => by rw [hnew] at h4; cases h4) hval)
        refine PFact.adv (h := adopt (before d i) (some e.b) (before d i) h) ⟨g5.at_, g5.obj, g5.late, fun hs => ?_, g5.nro⟩ ha
        rcases hs with ⟨j, m, hj, h1⟩ | ⟨j, kk, pp, dd, hj, h1⟩
        rotate_left
        · exact g5.free (.inr ⟨j, kk, pp, dd, adopt_abs _ _ hj, h1⟩)
        rcases a3 j hj with f1 | ⟨x, e2, f1, f2, f3, f4, cs', f5⟩
        · exact g5.free (.inl ⟨j, m, f1, h1⟩)
        · obtain ⟨cb', k1, k2⟩ := hinv.new4 x e2 j cs' f1 f5 f3
          rw [k1] at h1
          simp only [Option.some.injEq, Prod.mk.injEq] at h1
          have hx : i1 ≠ x := fun y => by
            have := g4 i e q he hact (by omega)
            rw [y, f4 _ rfl] at this; cases this
          exact hinv.new3 i1 x e1 e2 id j cs cs' cb hx g1 f1 g2 f5 g3 f3 g5.at_ (by rw [k1, h1.1])
      · refine evOp_wp hE hcall hround hop htm a1.rel (hrd.mono hinv.adv.le) ?_
        intro r' ch' w' ha hch
        refine hpan i ch h' hp r' a w' ch' (a1.trans ha) ⟨fun t v hv => ?_, hinv.nt, hinv.df.mono ha.le, ha.rel⟩ hch
        obtain ⟨g1, g2⟩ := dropAll_get _ _ _ _ hv
        obtain ⟨u, f1, f2⟩ := hinv.tmps0 t v g2 (fun j e' f1 _ f3 => g1 e' (by
          have := List.mem_of_getElem? f1
          simpa using this) f3)
        exact ⟨u, f1, f2.mono ha.le⟩

end
end Go.Eng
