/- The engine, part 31: contracts: what is known of a call, told to the engine; runs kept as rows of a table. -/
import Derived.Test.YtbohihkmakpbbaaGreatE28
namespace Go.Eng
open Go.RowKit
variable {σ : Interp}

/- What lies above moves nothing of what is known. -/
theorem Rel.lt {r : Ren σ} {h : Hp} {w : World} (hr : Rel r h w) {i : Nat} {o : AObj} (hi : h.get i = some o) {c m : Nat} (hc : r i = some (c, m)) : c < w.heap.size := by
  obtain ⟨c', m', obj, h1, h2, _⟩ := hr.live i o hi
  rw [hc] at h1; cases h1
  exact (Array.getElem?_eq_some_iff.1 h2).1

theorem Rel.below {r : Ren σ} {h : Hp} {w w' : World} (hr : Rel r h w) (hb : Below w.heap.size w w') : Rel r h w' where
  dom := hr.dom
  live := fun i o hi => by
    obtain ⟨c, m, obj, h1, h2, h3⟩ := hr.live i o hi
    exact ⟨c, m, obj, h1, by rw [hb.block c (hr.lt hi h1)]; exact h2, h3⟩
  inj := hr.inj
  abs := fun i k p d hi => by
    obtain ⟨c, m, h1, h2, h3⟩ := hr.abs i k p d hi
    refine ⟨c, m, h1, ownA_frame h2 (fun b hq => hb.block b ?_), fun b hF => Nat.lt_of_lt_of_le (h3 b hF) hb.size⟩
    rcases hq with rfl | hF | ⟨j, hj, m', hm⟩
    · exact hr.lt hi h1
    · exact h3 b hF
    · obtain ⟨es, hes⟩ := (hr.pin i k p d hi).2 j hj
      exact hr.lt hes hm
  pin := hr.pin
  sepN := hr.sepN
  sepF := hr.sepF
  ro := fun c o hc => by
    obtain ⟨h1, h2⟩ := hr.ro c o hc
    exact ⟨by rw [hb.block c (Array.getElem?_eq_some_iff.1 h1).1]; exact h1, h2⟩

theorem Adv.below {r : Ren σ} {h : Hp} {w w' : World} (hr : Rel r h w) (hb : Below w.heap.size w w') : Adv r h w r h w' :=
  ⟨hr.below hb, Ren.le_refl r, Nat.le_refl _, hb.size, fun c hc _ => hb.block c hc, fun _ hs => .inr hs, by simp [outer, hb.os, hb.tape], hb.output, fun _ _ => rfl⟩

/- Contracts. -/
def ConOk (σ : Interp) (P : Program) (fs : Tr Func) (c : FuncId → List Value → Hp → Option (End × Hp)) : Prop :=
  ∀ g args h e h', c g args h = some (e, h') → (∃ fn body, fs.get g = some fn ∧ fn.body = some body) ∧ ∀ (r : Ren σ) (w : World) (args' : List Value), VRels r args args' → Rel r h w →
    Calls P g ⟨args'⟩ w (fun e' w' => ∃ r', Adv r h w r' h' w' ∧ EndRel r' e e')

theorem EnvOk.withCon {E : Env} (h : EnvOk E σ) {c : FuncId → List Value → Hp → Option (End × Hp)} (hc : ConOk σ E.P E.fs c) : EnvOk { E with con := c } σ :=
  ⟨h.fs, h.ts, h.mixed, h.names, h.sym, h.clone, hc, h.lp, h.opr, h.opw⟩

def conOr (c d : FuncId → List Value → Hp → Option (End × Hp)) (g : FuncId) (args : List Value) (h : Hp) : Option (End × Hp) :=
  match c g args h with
  | some x => some x
  | none => d g args h

theorem ConOk.or {P : Program} {fs : Tr Func} {c d : FuncId → List Value → Hp → Option (End × Hp)} (hc : ConOk σ P fs c) (hd : ConOk σ P fs d) : ConOk σ P fs (conOr c d) := by
  intro g args h e h' he
  unfold conOr at he
  split at he
  · rename_i x hx; cases he; exact hc g args h e h' hx
  · exact hd g args h e h' he

def hasBody (fs : Tr Func) (g : FuncId) : Bool := match fs.get g with
  | some fn => fn.body.isSome
  | none => false

theorem hasBody_ok {fs : Tr Func} {g : FuncId} (h : hasBody fs g = true) : ∃ fn body, fs.get g = some fn ∧ fn.body = some body := by
  unfold hasBody at h
  split at h
  · rename_i fn hfn
    obtain ⟨b, hb⟩ := Option.isSome_iff_exists.1 h
    exact ⟨fn, b, hfn, hb⟩
  · cases h

/- A function of nothing that answers a value and leaves what there was. -/
def con0 (f : FuncId) (v : Value) (g : FuncId) (args : List Value) (h : Hp) : Option (End × Hp) :=
  match args with
  | [] => if f = g then some (.ret v, h) else none
  | _ => none

theorem con0_ok {P : Program} {fs : Tr Func} {f : FuncId} {v : Value} (hb : hasBody fs f = true) (hv : gnd 6 v = true) (hc : ∀ w, Calls P f #[] w fun e w' => e = .returned v ∧ Below w.heap.size w w') : ConOk σ P fs (con0 f v) := by
  intro g args h e h' he
  unfold con0 at he
  split at he
  · split at he
    · rename_i hg
      subst hg
      cases he
      refine ⟨hasBody_ok hb, fun r w args' hargs hr => ?_⟩
      cases hargs
      refine (hc w).mono fun e w' ⟨h1, h2⟩ => ⟨r, .below hr h2, ?_⟩
      subst h1
      exact (gnd_spec r 6 _ hv).2
    · cases he
  · cases he

/- Part of a small heap: some of its rows and maps. -/
def pairsEq : List (Value × Value) → List (Value × Value) → Bool
  | [], [] => true
  | (a, b) :: xs, (c, d) :: ys => veq 12 a c && veq 12 b d && pairsEq xs ys
  | _, _ => false

theorem pairsEq_ok : ∀ {xs ys : List (Value × Value)}, pairsEq xs ys = true → xs = ys := by
  intro xs
  induction xs with
  | nil => intro ys h; cases ys with
    | nil => rfl
    | cons y ys => simp [pairsEq] at h
  | cons x xs ih =>
    intro ys h
    cases ys with
    | nil => simp [pairsEq] at h
    | cons y ys =>
      obtain ⟨a, b⟩ := x
      obtain ⟨c, d⟩ := y
      simp only [pairsEq, Bool.and_eq_true] at h
      have e1 : a = c := veq_ok _ _ _ h.1.1
      have e2 : b = d := veq_ok _ _ _ h.1.2
      rw [e1, e2, ih h.2]

def objEq (o o' : AObj) : Bool :=
  match o, o' with
  | .cells c sl, .cells c' sl' => veqs (veq 12) c c' && (match sl, sl' with
    | none, none => true
    | some n, some m => n == m
    | _, _ => false)
  | .map es, .map es' => pairsEq es es'
  | _, _ => false

theorem objEq_ok {o o' : AObj} (h : objEq o o' = true) : o = o' ∧ o'.plain := by
  unfold objEq at h
  split at h
  · rename_i c sl c' sl'
    rw [Bool.and_eq_true] at h
    have h1 := veqs_ok h.1 (fun x y _ hx => veq_ok _ x y hx)
    have h2 : sl = sl' := by
      have := h.2
      split at this
      · rfl
      · rw [beq_iff_eq] at this; rw [this]
      · cases this
    subst h1 h2
    exact ⟨rfl, fun k p d hk => by cases hk⟩
  · rw [pairsEq_ok h]; exact ⟨rfl, fun k p d hk => by cases hk⟩
  · cases h

def trSub : Tr AObj → Tr AObj → Bool
  | _, .leaf => true
  | .leaf, .node .. => false
  | .node l v r, .node l' v' r' =>
    (match v' with
    | none => true
    | some o' => match v with
      | some o => objEq o o'
      | none => false) && trSub l l' && trSub r r'

theorem trSub_ok : ∀ (t t' : Tr AObj), trSub t t' = true → ∀ (p : List Bool) (o : AObj), t'.getP p = some o → t.getP p = some o ∧ o.plain := by
  intro t
  induction t with
  | leaf =>
    intro t' h p o ho
    cases t' with
    | leaf => rw [Tr.getP_leaf] at ho; cases ho
    | node l v r => simp [trSub] at h
  | node l v r ihl ihr =>
    intro t' h p o ho
    cases t' with
    | leaf => rw [Tr.getP_leaf] at ho; cases ho
    | node l' v' r' =>
      simp only [trSub, Bool.and_eq_true] at h
      obtain ⟨⟨h1, h2⟩, h3⟩ := h
      match p with
      | [] =>
        simp only [Tr.getP] at ho ⊢
        subst ho
        split at h1
        · rename_i hx; cases hx
        · rename_i o' hx
          cases hx
          split at h1
          · obtain ⟨e1, e2⟩ := objEq_ok h1
            subst e1; exact ⟨rfl, e2⟩
          · cases h1
      | true :: p => exact ihl l' h2 p o ho
      | false :: p => exact ihr r' h3 p o ho

def Hp.sub (h h' : Hp) : Bool := trSub h.t h'.t && h.nx == h'.nx

theorem Hp.sub_get {h h' : Hp} (hs : h.sub h' = true) {i : Nat} {o : AObj} (hi : h'.get i = some o) : h.get i = some o ∧ o.plain := by
  unfold Hp.sub at hs
  rw [Bool.and_eq_true] at hs
  exact trSub_ok h.t h'.t hs.1 _ o hi

theorem Hp.sub_nx {h h' : Hp} (hs : h.sub h' = true) : h.nx = h'.nx := by
  unfold Hp.sub at hs
  rw [Bool.and_eq_true, beq_iff_eq] at hs
  exact hs.2

theorem Hp.sub_some {h h' : Hp} (hs : h.sub h' = true) {i : Nat} (hi : (h'.get i).isSome = true) : (h.get i).isSome = true := by
  obtain ⟨o, ho⟩ := Option.isSome_iff_exists.1 hi
  rw [(Hp.sub_get hs ho).1]; rfl

theorem Spk.sub {r : Ren σ} {h h' : Hp} (hs : h.sub h' = true) {c : Nat} (hc : Spk r h' c) : Spk r h c := by
  rcases hc with ⟨i, m, hi, h1⟩ | ⟨i, k, p, d, hi, h1⟩
  · exact .inl ⟨i, m, Hp.sub_some hs hi, h1⟩
  · exact absurd rfl ((Hp.sub_get hs hi).2 k p d)

theorem Rel.sub {r : Ren σ} {h h' : Hp} {w : World} (hr : Rel r h w) (hs : h.sub h' = true) : Rel r h' w where
  dom := fun i x hx => by rw [← Hp.sub_nx hs]; exact hr.dom i x hx
  live := fun i o hi => hr.live i o (Hp.sub_get hs hi).1
  inj := fun i j c m m' hi hj => hr.inj i j c m m' (Hp.sub_some hs hi) (Hp.sub_some hs hj)
  abs := fun i k p d hi => absurd rfl ((Hp.sub_get hs hi).2 k p d)
  pin := fun i k p d hi => absurd rfl ((Hp.sub_get hs hi).2 k p d)
  sepN := fun i k p d hi => absurd rfl ((Hp.sub_get hs hi).2 k p d)
  sepF := fun i j k p d k' p' d' _ hi => absurd rfl ((Hp.sub_get hs hi).2 k p d)
  ro := fun c o hc => ⟨(hr.ro c o hc).1, fun hk => (hr.ro c o hc).2 (hk.sub hs)⟩

theorem Adv.sub {r r' : Ren σ} {h h' h'' : Hp} {w w' : World} (ha : Adv r h w r' h' w') (hs : h'.sub h'' = true) : Adv r h w r' h'' w' :=
  ⟨ha.rel.sub hs, ha.le, by rw [← Hp.sub_nx hs]; exact ha.nx, ha.size, ha.keep, fun c hc => ha.orig c (hc.sub hs), ha.os, ha.output, ha.old⟩

theorem Adv.from {r r' : Ren σ} {h h1 h' : Hp} {w w' : World} (hs : h.sub h1 = true) (ha : Adv r h1 w r' h' w') : Adv r h w r' h' w' :=
  ⟨ha.rel, ha.le, by rw [Hp.sub_nx hs]; exact ha.nx, ha.size, fun c hc hn => ha.keep c hc (fun hk => hn (hk.sub hs)), fun c hc => (ha.orig c hc).imp id (Spk.sub hs), ha.os, ha.output, by rw [Hp.sub_nx hs]; exact ha.old⟩

/- Runs that were told once, as rows of a table. -/
structure Memo where
  f : FuncId
  args : List Value
  h : Hp
  v : Value
  h' : Hp

def Memo.fits (E : Env) (n : Nat) (m : Memo) : Bool :=
  hasBody E.fs m.f && (match (ev E n).call m.f m.args m.h with
  | some (.ret v, h) => veq 12 v m.v && h.sub m.h'
  | _ => false)

/- What a call does not speak of stays as it was. -/
def trMinus {α : Type} : Tr α → Tr α → Tr α
  | t, .leaf => t
  | .leaf, .node .. => .leaf
  | .node l v r, .node l' v' r' => .node (trMinus l l') (match v' with | none => v | some _ => none) (trMinus r r')

def trPlus {α : Type} : Tr α → Tr α → Tr α
  | t, .leaf => t
  | .leaf, .node l v r => .node l v r
  | .node l v r, .node l' v' r' => .node (trPlus l l') (match v' with | none => v | some x => some x) (trPlus r r')

theorem trMinus_get {α : Type} : ∀ (t t' : Tr α) (p : List Bool), (trMinus t t').getP p = match t'.getP p with | none => t.getP p | some _ => none := by
  intro t
  induction t with
  | leaf => intro t' p; cases t' <;> simp only [trMinus, Tr.getP_leaf] <;> split <;> rfl
  | node l v r ihl ihr =>
    intro t' p
    cases t' with
    | leaf => simp only [trMinus, Tr.getP_leaf]
    | node l' v' r' =>
      match p with
      | [] => cases v' <;> rfl
      | true :: p => exact ihl l' p
      | false :: p => exact ihr r' p

theorem trPlus_get {α : Type} : ∀ (t t' : Tr α) (p : List Bool), (trPlus t t').getP p = match t'.getP p with | none => t.getP p | some x => some x := by
  intro t
  induction t with
  | leaf => intro t' p; cases t' <;> simp only [trPlus, Tr.getP_leaf] <;> split <;> simp_all
  | node l v r ihl ihr =>
    intro t' p
    cases t' with
    | leaf => simp only [trPlus, Tr.getP_leaf]
    | node l' v' r' =>
      match p with
      | [] => cases v' <;> rfl
      | true :: p => exact ihl l' p
      | false :: p => exact ihr r' p

def Hp.over (h h1 h2 : Hp) : Hp := { h with t := trPlus (trMinus h.t h1.t) h2.t, nx := h2.nx }

theorem Hp.over_get (h h1 h2 : Hp) (i : Nat) : (h.over h1 h2).get i = match h2.get i with
    | some x => some x
    | none => match h1.get i with
      | some _ => none
      | none => h.get i := by
  unfold Hp.over Hp.get Tr.get
  simp only [trPlus_get, trMinus_get]
  split <;> rename_i h <;> rw [h]
  split <;> rename_i h <;> rw [h]

def Hp.noAbs (h : Hp) : Bool := h.ab.all fun j => match h.get j with
  | some (.abs ..) => false
  | _ => true

theorem Rel.plain {r : Ren σ} {h : Hp} {w : World} (hr : Rel r h w) (hn : h.noAbs = true) {i : Nat} {o : AObj} (hi : h.get i = some o) : o.plain := by
  intro k p d ho
  subst ho
  unfold Hp.noAbs at hn
  rw [List.all_eq_true] at hn
  have := hn i (hr.pin i k p d hi).1
  rw [hi] at this; cases this

theorem Adv.over {r r' : Ren σ} {h h1 h2 : Hp} {w w' : World} (hr : Rel r h w) (hn : h.noAbs = true) (hs : h.sub h1 = true) (hp2 : ∀ i o, h2.get i = some o → o.plain) (ha : Adv r h1 w r' h2 w') : Adv r h w r' (h.over h1 h2) w' := by
  have hcase : ∀ {i : Nat} {o : AObj}, (h.over h1 h2).get i = some o → h2.get i = some o ∨ (h1.get i = none ∧ h.get i = some o) := by
    intro i o hi
    rw [Hp.over_get] at hi
    split at hi
    · rename_i x hx; rw [hx]; exact .inl hi
    · split at hi
      · cases hi
      · rename_i hx; exact .inr ⟨hx, hi⟩
  have hpl : ∀ {i : Nat} {o : AObj}, (h.over h1 h2).get i = some o → o.plain := by
    intro i o hi
    rcases hcase hi with h3 | ⟨_, h3⟩
    · exact hp2 i o h3
    · exact hr.plain hn h3
  have hrest : ∀ {i : Nat} {o : AObj}, h1.get i = none → h.get i = some o → ∃ c m obj, r i = some (c, m) ∧ r' i = some (c, m) ∧ w.heap[c]? = some obj ∧ ObjRel r m o obj ∧ c < w.heap.size ∧ ¬ Spk r h1 c := by
    intro i o hi1 hi
    obtain ⟨c, m, obj, q1, q2, q3⟩ := hr.live i o hi
    refine ⟨c, m, obj, q1, ha.le _ _ q1, q2, q3, hr.lt hi q1, fun hk => ?_⟩
    rcases hk with ⟨j, m', hj, q4⟩ | ⟨j, k, p, d, hj, _⟩
    · have := hr.inj i j c m m' (by rw [hi]; rfl) (Hp.sub_some hs hj) q1 q4
      subst this
      rw [hi1] at hj; cases hj
    · exact absurd rfl ((Hp.sub_get hs hj).2 k p d)
  have hspk : ∀ {c : Nat}, Spk r' (h.over h1 h2) c → Spk r' h2 c ∨ (Spk r h c ∧ ¬ Spk r h1 c ∧ c < w.heap.size) := by
    intro c hc
    rcases hc with ⟨i, m, hi, q1⟩ | ⟨i, k, p, d, hi, _⟩
    · obtain ⟨o, ho⟩ := Option.isSome_iff_exists.1 hi
      rcases hcase ho with h3 | ⟨h3, h4⟩
      · exact .inl (.inl ⟨i, m, by rw [h3]; rfl, q1⟩)
      · obtain ⟨c', m', obj, q2, q3, q4, q5, q6, q7⟩ := hrest h3 h4
        rw [q1] at q3; cases q3
        exact .inr ⟨.inl ⟨i, m, by rw [h4]; rfl, q2⟩, q7, q6⟩
    · exact absurd rfl (hpl hi k p d)
  refine ⟨⟨ha.rel.dom, ?_, ?_, fun i k p d hi => absurd rfl (hpl hi k p d), fun i k p d hi => absurd rfl (hpl hi k p d), fun i k p d hi => absurd rfl (hpl hi k p d), fun i j k p d k' p' d' _ hi => absurd rfl (hpl hi k p d), ?_⟩, ha.le, ?_, ha.size, fun c hc hk => ha.keep c hc (fun hk' => hk (hk'.sub hs)), ?_, ha.os, ha.output, ?_⟩
  · intro i o hi
    rcases hcase hi with h3 | ⟨h3, h4⟩
    · exact ha.rel.live i o h3
    · obtain ⟨c, m, obj, q2, q3, q4, q5, q6, q7⟩ := hrest h3 h4
      exact ⟨c, m, obj, q3, by rw [ha.keep c q6 q7]; exact q4, q5.mono ha.le⟩
  · intro i j c m m' hi hj q1 q2
    obtain ⟨oi, hoi⟩ := Option.isSome_iff_exists.1 hi
    obtain ⟨oj, hoj⟩ := Option.isSome_iff_exists.1 hj
    have mixed : ∀ {i j : Nat} {oi oj : AObj} {m m' : Nat}, h2.get i = some oi → h1.get j = none → h.get j = some oj → r' i = some (c, m) → r' j = some (c, m') → False := by
      intro i j oi oj m m' hi hj1 hj q1 q2
      obtain ⟨c', m1, obj, p2, p3, p4, p5, p6, p7⟩ := hrest hj1 hj
      rw [q2] at p3; cases p3
      rcases ha.orig c (.inl ⟨i, m, by rw [hi]; rfl, q1⟩) with h5 | h5
      · omega
      · exact p7 h5
    rcases hcase hoi with h3 | ⟨h3, h4⟩
    · rcases hcase hoj with h5 | ⟨h5, h6⟩
      · exact ha.rel.inj i j c m m' (by rw [h3]; rfl) (by rw [h5]; rfl) q1 q2
      · exact (mixed h3 h5 h6 q1 q2).elim
    · rcases hcase hoj with h5 | ⟨h5, h6⟩
      · exact (mixed h5 h3 h4 q2 q1).elim
      · obtain ⟨c1, m1, obj1, p2, p3, _⟩ := hrest h3 h4
        obtain ⟨c2, m2, obj2, p4, p5, _⟩ := hrest h5 h6
        rw [q1] at p3; cases p3
        rw [q2] at p5; cases p5
        exact hr.inj i j c m m' (by rw [h4]; rfl) (by rw [h6]; rfl) p2 p4
  · intro c o hc
    refine ⟨(ha.rel.ro c o hc).1, fun hk => ?_⟩
    rcases hspk hk with h3 | ⟨h3, _⟩
    · exact (ha.rel.ro c o hc).2 h3
    · exact (hr.ro c o hc).2 h3
  · show h.nx ≤ h2.nx
    rw [Hp.sub_nx hs]; exact ha.nx
  · intro c hc
    rcases hspk hc with h3 | ⟨h3, _⟩
    · exact (ha.orig c h3).imp id (Spk.sub hs)
    · exact .inr h3
  · rw [Hp.sub_nx hs]; exact ha.old

def memoCon : List Memo → FuncId → List Value → Hp → Option (End × Hp)
  | [], _, _, _ => none
  | m :: l, g, args, h => if (m.f == g && veqs (veq 12) args m.args && h.noAbs && h.sub m.h) = true then some (.ret m.v, h.over m.h m.h') else memoCon l g args h

theorem memoCon_ok {E : Env} (hE : EnvOk E σ) {n : Nat} : ∀ {l : List Memo}, (∀ m ∈ l, m.fits E n = true) → ConOk σ E.P E.fs (memoCon l) := by
  intro l
  induction l with
  | nil => intro _ g args h e h' he; cases he
  | cons m l ih =>
    intro hl g args h e h' he
    unfold memoCon at he
    split at he
    · rename_i hg
      rw [Bool.and_eq_true, Bool.and_eq_true, Bool.and_eq_true, beq_iff_eq] at hg
      obtain ⟨⟨⟨h1, h2⟩, hn⟩, h3⟩ := hg
      cases he
      have h2' := veqs_ok h2 (fun x y _ hx => veq_ok _ x y hx)
      subst h1 h2'
      have hf := hl m (by simp)
      unfold Memo.fits at hf
      rw [Bool.and_eq_true] at hf
      obtain ⟨f1, f2⟩ := hf
      refine ⟨hasBody_ok f1, fun r w args' hargs hr => ?_⟩
      split at f2
      · rename_i v h1 hev
        rw [Bool.and_eq_true] at f2
        have hv := veq_ok _ _ _ f2.1
        subst hv
        refine (ev_sound hE hev hargs (hr.sub h3)).mono fun e w' ⟨r', ha, hend⟩ => ⟨r', Adv.over hr hn h3 (fun i o hi => (Hp.sub_get f2.2 hi).2) (ha.sub f2.2), hend⟩
      · cases f2
    · exact ih (fun m' hm => hl m' (by simp [hm])) g args h e h' he

end Go.Eng
