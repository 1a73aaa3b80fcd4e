/- The engine, part 16: what a run of a region that draws its order has told. -/
import Derived.Test.YtbohihkmakpbbaaGreatE15
namespace Go.Eng
variable {σ : Interp}

/- Which operations stand ahead. -/
theorem bef1_testBit (acc : List Nat) (o : Oper) (j : Nat) :
    (bef1 acc o).testBit j = o.after.toList.any fun e => Region.binds .any e && (e.on == j || (acc.getD e.on 0).testBit j) := by
  have key : ∀ (l : List Edge) (s : Nat), (l.foldl (fun s e => if Region.binds .any e then s ||| (1 <<< e.on) ||| acc.getD e.on 0 else s) s).testBit j =
      (s.testBit j || l.any fun e => Region.binds .any e && (e.on == j || (acc.getD e.on 0).testBit j)) := by
    intro l
    induction l with
    | nil => intro s; simp
    | cons e l ih =>
      intro s
      rw [List.foldl_cons, ih, List.any_cons]
      cases hb : Region.binds .any e
      · simp
      · simp only [if_true, Nat.testBit_or, Nat.one_shiftLeft, Nat.testBit_two_pow, Bool.true_and]
        have : decide (e.on = j) = (e.on == j) := by
          rw [Bool.eq_iff_iff]; simp
        rw [this]
        simp [Bool.or_assoc]
  unfold bef1
  rw [key]
  simp

theorem befs_spec : ∀ (l : List Oper) (acc : List Nat), (befs l acc).length = acc.length + l.length ∧ (befs l acc).take acc.length = acc ∧
    ∀ i o, l[i]? = some o → (befs l acc)[acc.length + i]? = some (bef1 ((befs l acc).take (acc.length + i)) o) := by
  intro l
  induction l with
  | nil => intro acc; exact ⟨by simp [befs], by simp [befs], fun i o h => by simp at h⟩
  | cons x l ih =>
    intro acc
    obtain ⟨h1, h2, h3⟩ := ih (acc ++ [bef1 acc x])
    simp only [befs]
    have hpre : (befs l (acc ++ [bef1 acc x])).take acc.length = acc := by
      have := congrArg (List.take acc.length) h2
      rw [List.take_take] at this
      simpa using this
    refine ⟨by rw [h1]; simp; omega, hpre, fun i o hi => ?_⟩
    cases i with
    | zero =>
      simp only [List.getElem?_cons_zero, Option.some.injEq] at hi
      subst hi
      rw [Nat.add_zero, hpre]
      have : ((befs l (acc ++ [bef1 acc x])).take (acc ++ [bef1 acc x]).length)[acc.length]? = some (bef1 acc x) := by rw [h2]; simp
      rw [List.getElem?_take] at this
      simpa using this
    | succ i =>
      simp only [List.getElem?_cons_succ] at hi
      have := h3 i o hi
      simp only [List.length_append, List.length_cons, List.length_nil] at this
      rw [show acc.length + (i + 1) = acc.length + 1 + i from by omega]
      exact this

structure Stat (E : Env) (nt : Nat) (ops : List Oper) (bs : List Nat) : Prop where
  len : bs.length = ops.length
  pair : ∀ (i j : Nat) (oi oj : Oper) (bi bj : Nat), i ≠ j → ops[i]? = some oi → ops[j]? = some oj → bs[i]? = some bi → bs[j]? = some bj → pairOk E ops i j oi oj bi bj = true
  low : ∀ (i bi j : Nat), bs[i]? = some bi → bi.testBit j = true → j < i
  dst : ∀ (i : Nat) (o : Oper) (d : Tmp), ops[i]? = some o → o.dst = some d → d < nt
  up : ∀ (i : Nat) (o : Oper) (bi : Nat) (e : Edge), ops[i]? = some o → bs[i]? = some bi → e ∈ o.after → Region.binds .any e = true → bi.testBit e.on = true
  dn : ∀ (i : Nat) (o : Oper) (bi j : Nat), ops[i]? = some o → bs[i]? = some bi → bi.testBit j = true → ∃ e ∈ o.after, Region.binds .any e = true ∧ (e.on = j ∨ ∃ be, bs[e.on]? = some be ∧ be.testBit j = true)

theorem stat_of {E : Env} {nt : Nat} {ops : List Oper} (h : drawStat E nt ops = true) : Stat E nt ops (befs ops []) := by
  unfold drawStat at h
  rw [Bool.and_eq_true, decide_eq_true_eq] at h
  obtain ⟨hall, hlen⟩ := h
  obtain ⟨q1, q2, q3⟩ := befs_spec ops []
  simp only [List.length_nil, Nat.zero_add] at q1 q3
  generalize hbs : befs ops [] = bs at *
  have hrow : ∀ (l : List (Oper × Nat)) (i j0 : Nat) (oi : Oper) (bi : Nat), rowOk E ops i oi bi l j0 = true → ∀ j oj bj, l[j]? = some (oj, bj) → i ≠ j0 + j → pairOk E ops i (j0 + j) oi oj bi bj = true := by
    intro l
    induction l with
    | nil => intro i j0 oi bi _ j oj bj hj; simp at hj
    | cons p l ih =>
      intro i j0 oi bi hr j oj bj hj hne
      obtain ⟨o', b'⟩ := p
      simp only [rowOk, Bool.and_eq_true, Bool.or_eq_true, beq_iff_eq] at hr
      cases j with
      | zero =>
        simp only [List.getElem?_cons_zero, Option.some.injEq, Prod.mk.injEq] at hj
        obtain ⟨rfl, rfl⟩ := hj
        rcases hr.1 with h1 | h1
        · exact absurd h1 hne
        · exact h1
      | succ j =>
        simp only [List.getElem?_cons_succ] at hj
        have := ih i (j0 + 1) oi bi hr.2 j oj bj hj (by omega)
        rw [show j0 + (j + 1) = j0 + 1 + j from by omega]
        exact this
  have hfull : ∀ (l all : List (Oper × Nat)) (i0 : Nat), allOk E ops nt all l i0 = true → ∀ i o b, l[i]? = some (o, b) → rowOk E ops (i0 + i) o b all 0 = true ∧ b >>> (i0 + i) = 0 ∧ ∀ d, o.dst = some d → d < nt := by
    intro l all
    induction l with
    | nil => intro i0 _ i o b hi; simp at hi
    | cons p l ih =>
      intro i0 hr i o b hi
      obtain ⟨o', b'⟩ := p
      simp only [allOk, Bool.and_eq_true, beq_iff_eq] at hr
      cases i with
      | zero =>
        simp only [List.getElem?_cons_zero, Option.some.injEq, Prod.mk.injEq] at hi
        obtain ⟨rfl, rfl⟩ := hi
        refine ⟨hr.1.1.1, hr.1.1.2, fun d hd => ?_⟩
        have := hr.1.2
        rw [hd] at this
        simpa using this
      | succ i =>
        simp only [List.getElem?_cons_succ] at hi
        have := ih (i0 + 1) hr.2 i o b hi
        rw [show i0 + (i + 1) = i0 + 1 + i from by omega]
        exact this
  have hzip : ∀ (i : Nat) (o : Oper) (b : Nat), ops[i]? = some o → bs[i]? = some b → (ops.zip bs)[i]? = some (o, b) := by
    intro i o b h1 h2
    rw [List.getElem?_zip_eq_some]; exact ⟨h1, h2⟩
  refine ⟨hlen, ?_, ?_, ?_, ?_, ?_⟩
  · intro i j oi oj bi bj hne h1 h2 h3 h4
    have := hrow _ i 0 oi bi (by have := (hfull _ _ 0 hall i oi bi (hzip i oi bi h1 h3)).1; rwa [Nat.zero_add] at this) j oj bj (hzip j oj bj h2 h4) (by omega)
    rwa [Nat.zero_add] at this
  · intro i bi j hi hb
    have hlt : i < ops.length := by
      have := (List.getElem?_eq_some_iff.1 hi).1; omega
    have h0 := (hfull _ _ 0 hall i ops[i] bi (hzip i _ bi (by simp [hlt]) hi)).2.1
    rw [Nat.zero_add] at h0
    rcases Nat.lt_or_ge j i with h | h
    · exact h
    · exfalso
      have : (bi >>> i).testBit (j - i) = true := by
        rw [Nat.testBit_shiftRight]
        rw [show i + (j - i) = j from by omega]; exact hb
      rw [h0] at this
      simp at this
  · intro i o d hi hd
    have hlt := (List.getElem?_eq_some_iff.1 hi).1
    have hb : bs[i]? = some bs[i] := by simp [show i < bs.length by omega]
    exact (hfull _ _ 0 hall i o _ (hzip i o _ hi hb)).2.2 d hd
  · intro i o bi e hi hb he hbind
    have := q3 i o hi
    rw [hb] at this
    simp only [Option.some.injEq] at this
    rw [this, bef1_testBit, List.any_eq_true]
    exact ⟨e, by simpa using he, by simp [hbind]⟩
  · intro i o bi j hi hb hj
    have := q3 i o hi
    rw [hb] at this
    simp only [Option.some.injEq] at this
    rw [this, bef1_testBit, List.any_eq_true] at hj
    obtain ⟨e, he, hx⟩ := hj
    simp only [Bool.and_eq_true, Bool.or_eq_true, beq_iff_eq] at hx
    refine ⟨e, by simpa using he, hx.1, ?_⟩
    rcases hx.2 with h1 | h1
    · exact .inl h1
    · right
      cases hq : (bs.take i)[e.on]? with
      | none => simp [List.getD_eq_getElem?_getD, hq] at h1
      | some be =>
        rw [List.getElem?_take] at hq
        split at hq
        · refine ⟨be, hq, ?_⟩
          rename_i hlt
          simpa [List.getD_eq_getElem?_getD, List.getElem?_take, hlt, hq] using h1
        · cases hq

/- One entry more. -/
inductive Step1 (E : Env) (rec : Rec) (c : Ctx) (ops : List Oper) (T0 : Tr Value) (id0 : Nat) (o : Oper) (b i : Nat) (d : DRun) : Ent → DRun → Prop
  | dead {j : Nat} {ch : List (Value × Bool)} {h : Hp} : d.pan = some (j, ch, h) → b.testBit j = true →
      Step1 E rec c ops T0 id0 o b i d ⟨o, i, b, .leaf, false, undef, none, none, true⟩ { d with es := ⟨o, i, b, .leaf, false, undef, none, none, true⟩ :: d.es }
  | off : wantedA ops o (dtm T0 d.es (looks ops o)) = some false →
      Step1 E rec c ops T0 id0 o b i d ⟨o, i, b, dtm T0 d.es (looks ops o), false, undef, none, none, false⟩ { d with es := ⟨o, i, b, dtm T0 d.es (looks ops o), false, undef, none, none, false⟩ :: d.es }
  | r {h h1 : Hp} {v : Value} : wantedA ops o (dtm T0 d.es (looks ops o)) = some true → kd E o = .r → evOp E rec c.rd (dtm T0 d.es (looks ops o)) h o = some (.val v h1) → d.hs.head? = some h →
      Step1 E rec c ops T0 id0 o b i d ⟨o, i, b, dtm T0 d.es (looks ops o), true, v, none, none, false⟩ { d with es := ⟨o, i, b, dtm T0 d.es (looks ops o), true, v, none, none, false⟩ :: d.es }
  | a {cs : List Value} {mk : Nat → Value} : wantedA ops o (dtm T0 d.es (looks ops o)) = some true → kd E o = .a → opA E (dtm T0 d.es (looks ops o)) o = some (cs, mk) →
      Step1 E rec c ops T0 id0 o b i d ⟨o, i, b, dtm T0 d.es (looks ops o), true, mk (id0 + d.na), none, some (id0 + d.na, cs), false⟩
        { d with es := ⟨o, i, b, dtm T0 d.es (looks ops o), true, mk (id0 + d.na), none, some (id0 + d.na, cs), false⟩ :: d.es, na := d.na + 1 }
  | l {h h' : Hp} {hs : List Hp} {v : Value} : wantedA ops o (dtm T0 d.es (looks ops o)) = some true → kd E o = .l → d.pan = none → d.hs = h :: hs →
      evOp E rec c.rd (dtm T0 d.es (looks ops o)) (adopt d.es (some b) d.es h) o = some (.val v h') →
      Step1 E rec c ops T0 id0 o b i d ⟨o, i, b, dtm T0 d.es (looks ops o), true, v, some hs.length, none, false⟩
        { d with es := ⟨o, i, b, dtm T0 d.es (looks ops o), true, v, some hs.length, none, false⟩ :: d.es, hs := h' :: h :: hs }
  | p {h h' : Hp} {hs : List Hp} {ch : List (Value × Bool)} : wantedA ops o (dtm T0 d.es (looks ops o)) = some true → kd E o = .l → d.pan = none → d.hs = h :: hs →
      evOp E rec c.rd (dtm T0 d.es (looks ops o)) (adopt d.es (some b) d.es h) o = some (.pan ch h') →
      Step1 E rec c ops T0 id0 o b i d ⟨o, i, b, dtm T0 d.es (looks ops o), true, undef, some hs.length, none, false⟩
        { d with es := ⟨o, i, b, dtm T0 d.es (looks ops o), true, undef, some hs.length, none, false⟩ :: d.es, pan := some (i, ch, h') }

theorem evDraw1_step {E : Env} {rec : Rec} {c : Ctx} {ops : List Oper} {T0 : Tr Value} {id0 : Nat} {o : Oper} {b i : Nat} {d d1 : DRun} (he : evDraw1 E rec c ops T0 id0 o b i d = some d1) :
    ∃ e, Step1 E rec c ops T0 id0 o b i d e d1 := by
  unfold evDraw1 at he
  by_cases hp : behind d b = true
  · rw [if_pos hp] at he
    simp only [Option.some.injEq] at he
    subst he
    unfold behind at hp
    split at hp
    · rename_i j x hj
      obtain ⟨ch, h⟩ := x
      exact ⟨_, .dead hj hp⟩
    · cases hp
  · rw [if_neg hp] at he
    clear hp
    cases hw : wantedA ops o (dtm T0 d.es (looks ops o)) with
    | none => rw [hw] at he; cases he
    | some wt =>
      rw [hw] at he
      cases wt with
      | false =>
        simp only [Option.some.injEq] at he
        subst he
        exact ⟨_, .off hw⟩
      | true =>
        cases hhs : d.hs with
        | nil => rw [hhs] at he; cases he
        | cons h hs =>
          rw [hhs] at he
          simp only [] at he
          cases hk : kd E o with
          | x => rw [hk] at he; cases he
          | r =>
            rw [hk] at he
            simp only [] at he
            split at he
            · rename_i v h1 hop
              simp only [Option.some.injEq] at he
              subst he
              have hst := Step1.r (c := c) (i := i) (b := b) (id0 := id0) hw hk hop (show d.hs.head? = some h by rw [hhs]; rfl)
              rw [hhs] at hst
              exact ⟨_, hst⟩
            · cases he
          | a =>
            rw [hk] at he
            simp only [] at he
            split at he
            · rename_i cs mk hop
              simp only [Option.some.injEq] at he
              subst he
              have hst := Step1.a (rec := rec) (c := c) (i := i) (b := b) (id0 := id0) hw hk hop
              rw [hhs] at hst
              exact ⟨_, hst⟩
            · cases he
          | l =>
            rw [hk] at he
            simp only [] at he
            split at he
            · rename_i v h' hpan hop
              simp only [Option.some.injEq] at he
              subst he
              exact ⟨_, .l hw hk hpan hhs hop⟩
            · rename_i ch h' hpan hop
              simp only [Option.some.injEq] at he
              subst he
              have hst := Step1.p (id0 := id0) (i := i) hw hk hpan hhs hop
              rw [hhs] at hst
              exact ⟨_, hst⟩
            · cases he

end Go.Eng
