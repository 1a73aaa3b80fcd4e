/- The engine, part 11, continued: what two states have in common. -/
import Derived.Test.YtbohihkmakpbbaaGreatE11
namespace Go.Eng
variable {σ : Interp}

namespace Tr
variable {α : Type}

def meet (f : α → α → Option α) : Tr α → Tr α → Tr α
  | node l v r, node l' v' r' => node (meet f l l') (match v, v' with | some x, some y => f x y | _, _ => none) (meet f r r')
  | _, _ => leaf

theorem getP_meet (f : α → α → Option α) : ∀ (a b : Tr α) (p : List Bool) (x : α), (meet f a b).getP p = some x → ∃ u v, a.getP p = some u ∧ b.getP p = some v ∧ f u v = some x := by
  intro a
  induction a with
  | leaf => intro b p x h; cases b <;> simp [meet, getP_leaf] at h
  | node l v r ihl ihr =>
    intro b p x h
    cases b with
    | leaf => simp [meet, getP_leaf] at h
    | node l' v' r' =>
      cases p with
      | nil =>
        simp only [meet, getP] at h ⊢
        split at h
        · exact ⟨_, _, rfl, rfl, h⟩
        · cases h
      | cons q p =>
        cases q with
        | true => exact ihl l' p x h
        | false => exact ihr r' p x h

theorem get_meet {f : α → α → Option α} {a b : Tr α} {n : Nat} {x : α} (h : (meet f a b).get n = some x) : ∃ u v, a.get n = some u ∧ b.get n = some v ∧ f u v = some x := getP_meet f a b (key n) x h

def keep (f : α → Bool) : Tr α → Tr α
  | leaf => leaf
  | node l v r => node (keep f l) (match v with | some x => if f x = true then some x else none | none => none) (keep f r)

theorem getP_keep (f : α → Bool) : ∀ (a : Tr α) (p : List Bool) (x : α), (keep f a).getP p = some x → a.getP p = some x ∧ f x = true := by
  intro a
  induction a with
  | leaf => intro p x h; simp [keep, getP_leaf] at h
  | node l v r ihl ihr =>
    intro p x h
    cases p with
    | nil =>
      simp only [keep, getP] at h ⊢
      split at h
      · split at h
        · cases h; exact ⟨rfl, by assumption⟩
        · cases h
      · cases h
    | cons q p =>
      cases q with
      | true => exact ihl p x h
      | false => exact ihr p x h

theorem getP_keep_of (f : α → Bool) : ∀ (a : Tr α) (p : List Bool) (x : α), a.getP p = some x → f x = true → (keep f a).getP p = some x := by
  intro a
  induction a with
  | leaf => intro p x h; simp [getP_leaf] at h
  | node l v r ihl ihr =>
    intro p x h hf
    cases p with
    | nil =>
      simp only [keep, getP] at h ⊢
      subst h
      simp [hf]
    | cons q p =>
      cases q with
      | true => exact ihl p x h hf
      | false => exact ihr p x h hf

theorem get_keep_of {f : α → Bool} {a : Tr α} {n : Nat} {x : α} (h : a.get n = some x) (hf : f x = true) : (keep f a).get n = some x := getP_keep_of f a (key n) x h hf

theorem get_keep {f : α → Bool} {a : Tr α} {n : Nat} {x : α} (h : (keep f a).get n = some x) : a.get n = some x ∧ f x = true := getP_keep f a (key n) x h
end Tr

def takeP (p : Value × Value) : List (Value × Value) → Option (List (Value × Value))
  | [] => none
  | q :: l => if veq 9 p.1 q.1 && veq 9 p.2 q.2 then some l else (takeP p l).map (q :: ·)

def permB : List (Value × Value) → List (Value × Value) → Bool
  | [], [] => true
  | p :: as, bs => match takeP p bs with | some bs' => permB as bs' | none => false
  | _, _ => false

theorem takeP_ok {p : Value × Value} : ∀ {l l' : List (Value × Value)}, takeP p l = some l' → l.Perm (p :: l') := by
  intro l
  induction l with
  | nil => intro l' h; cases h
  | cons q l ih =>
    intro l' h
    simp only [takeP] at h
    split at h
    · rename_i hc
      cases h
      rw [Bool.and_eq_true] at hc
      have e1 := veq_ok _ _ _ hc.1
      have e2 := veq_ok _ _ _ hc.2
      have : p = q := Prod.ext e1 e2
      subst this
      exact List.Perm.refl _
    · rw [Option.map_eq_some_iff] at h
      obtain ⟨l2, h1, h2⟩ := h
      subst h2
      exact ((ih h1).cons q).trans (List.Perm.swap _ _ _)

theorem permB_ok : ∀ {as bs : List (Value × Value)}, permB as bs = true → bs.Perm as := by
  intro as
  induction as with
  | nil => intro bs h; cases bs with
    | nil => exact List.Perm.refl _
    | cons => simp [permB] at h
  | cons p as ih =>
    intro bs h
    simp only [permB] at h
    split at h
    · rename_i bs' hb
      exact (takeP_ok hb).trans ((ih h).cons p)
    · cases h

theorem PRels.perm {r : Ren σ} {as bs : List (Value × Value)} (h : as.Perm bs) : ∀ {ps : List (Value × Value)}, PRels r as ps → ∃ qs, qs.Perm ps ∧ PRels r bs qs := by
  induction h with
  | nil => intro ps hp; exact ⟨ps, List.Perm.refl _, hp⟩
  | cons x _ ih =>
    intro ps hp
    cases hp with
    | cons h1 h2 h3 =>
      obtain ⟨qs, g1, g2⟩ := ih h3
      exact ⟨_ :: qs, g1.cons _, .cons h1 h2 g2⟩
  | swap x y l =>
    intro ps hp
    cases hp with
    | cons h1 h2 h3 =>
      cases h3 with
      | cons h4 h5 h6 => exact ⟨_, List.Perm.swap _ _ _, .cons h4 h5 (.cons h1 h2 h6)⟩
  | trans _ _ ih1 ih2 =>
    intro ps hp
    obtain ⟨qs, g1, g2⟩ := ih1 hp
    obtain ⟨qs', g3, g4⟩ := ih2 g2
    exact ⟨qs', g3.trans g1, g4⟩

def meetV (x y : Value) : Option Value := if veq 12 x y = true then some x else none

def meetO (a b : AObj) : Option AObj :=
  match a, b with
  | .cells c sl, .cells c' sl' => if veqs (veq 12) c c' = true ∧ sl = sl' then some (.cells c sl) else none
  | .map es, .map es' => if permB es es' = true then some (.map es) else none
  | .abs k p d, .abs k' p' d' => if k = k' ∧ p = p' ∧ veqs (veq 12) d d' = true then some (.abs k p d) else none
  | _, _ => none

def isMapAt (t : Tr AObj) (j : Nat) : Bool := match t.get j with | some (.map _) => true | _ => false

def meetHp (a b : Hp) : Hp :=
  { t := Tr.keep (fun o => match o with | .abs _ p _ => p.all (isMapAt (Tr.meet meetO a.t b.t)) | _ => true) (Tr.meet meetO a.t b.t), nx := max a.nx b.nx, ab := a.ab ++ b.ab }

theorem meetHp_get {a b : Hp} {i : Nat} {o : AObj} (h : (meetHp a b).get i = some o) : ∃ u v, a.get i = some u ∧ b.get i = some v ∧ meetO u v = some o ∧ (∀ k p d, o = .abs k p d → ∀ j ∈ p, ∃ es, (Tr.meet meetO a.t b.t).get j = some (.map es)) := by
  obtain ⟨h1, h2⟩ := Tr.get_keep h
  obtain ⟨u, v, g1, g2, g3⟩ := Tr.get_meet h1
  refine ⟨u, v, g1, g2, g3, fun k p d e j hj => ?_⟩
  subst e
  simp only [List.all_eq_true] at h2
  have h3 := h2 j hj
  unfold isMapAt at h3
  split at h3
  · exact ⟨_, by assumption⟩
  · cases h3

theorem meetO_left {u v o : AObj} (h : meetO u v = some o) : o = u := by
  unfold meetO at h
  split at h
  · split at h
    · cases h; rfl
    · cases h
  · split at h
    · cases h; rfl
    · cases h
  · split at h
    · cases h; rfl
    · cases h
  · cases h

theorem meetO_right {u v o : AObj} (h : meetO u v = some o) : o = v ∨ ∃ es es', o = .map es ∧ v = .map es' ∧ es'.Perm es := by
  unfold meetO at h
  split at h
  · split at h
    · rename_i hc
      cases h
      left
      rw [veqs_ok hc.1 (fun x y _ h => veq_ok 12 x y h), hc.2]
    · cases h
  · split at h
    · rename_i hc
      cases h
      exact .inr ⟨_, _, rfl, rfl, permB_ok hc⟩
    · cases h
  · split at h
    · rename_i hc
      cases h
      left
      rw [hc.1, hc.2.1, veqs_ok hc.2.2 (fun x y _ h => veq_ok 12 x y h)]
    · cases h
  · cases h

/- A heap that tells less. -/
theorem Rel.fewer {r : Ren σ} {h h' : Hp} {w : World} (hr : Rel r h w) (hnx : h.nx ≤ h'.nx) (hab : ∀ i k p d, h'.get i = some (.abs k p d) → i ∈ h'.ab ∧ ∀ j ∈ p, ∃ es, h'.get j = some (.map es))
    (hg : ∀ i o, h'.get i = some o → h.get i = some o ∨ ∃ es es', o = .map es ∧ h.get i = some (.map es') ∧ es'.Perm es) : Rel r h' w ∧ ∀ c, Spk r h' c → Spk r h c := by
  have hs : ∀ {i}, (h'.get i).isSome = true → (h.get i).isSome = true := by
    intro i hi
    obtain ⟨o, ho⟩ := Option.isSome_iff_exists.1 hi
    rcases hg i o ho with h1 | ⟨_, _, _, h1, _⟩ <;> simp [h1]
  have ha : ∀ {i k p d}, h'.get i = some (.abs k p d) → h.get i = some (.abs k p d) := by
    intro i k p d hi
    rcases hg i _ hi with h1 | ⟨_, _, e, _, _⟩
    · exact h1
    · cases e
  have hspk : ∀ c, Spk r h' c → Spk r h c := by
    intro c hc
    rcases hc with ⟨i, m, hi, h1⟩ | ⟨i, k, p, d, hi, h1⟩
    · exact .inl ⟨i, m, hs hi, h1⟩
    · exact .inr ⟨i, k, p, d, ha hi, h1⟩
  refine ⟨⟨fun i x hx => Nat.lt_of_lt_of_le (hr.dom i x hx) hnx, fun i o hi => ?_, fun i j c m m' hi hj => hr.inj i j c m m' (hs hi) (hs hj), fun i k p d hi => hr.abs i k p d (ha hi), hab,
    fun i k p d hi b hb j hj m => hr.sepN i k p d (ha hi) b hb j (hs hj) m, fun i j k p d k' p' d' hne hi hj => hr.sepF i j k p d k' p' d' hne (ha hi) (ha hj), fun c o hc => ⟨(hr.ro c o hc).1, fun hk => (hr.ro c o hc).2 (hspk c hk)⟩⟩, hspk⟩
  rcases hg i o hi with h1 | ⟨es, es', e, h1, hp⟩
  · exact hr.live i o h1
  · subst e
    obtain ⟨c, m, obj, q1, q2, q3⟩ := hr.live i _ h1
    refine ⟨c, m, obj, q1, q2, ?_⟩
    cases obj <;> simp only [ObjRel] at q3 ⊢
    obtain ⟨⟨ps, g1, g2⟩, g3⟩ := q3
    obtain ⟨qs, k1, k2⟩ := g2.perm hp
    exact ⟨⟨qs, k1.trans g1, k2⟩, g3⟩

theorem meetHp_pins {a b : Hp} {i k : Nat} {p : List Nat} {d : List Value} (hi : (meetHp a b).get i = some (.abs k p d)) : ∀ j ∈ p, ∃ es, (meetHp a b).get j = some (.map es) := by
  obtain ⟨u, v, g1, g2, g3, g4⟩ := meetHp_get hi
  intro j hj
  obtain ⟨es, hes⟩ := g4 k p d rfl j hj
  exact ⟨es, Tr.get_keep_of hes rfl⟩

theorem meetHp_left {r : Ren σ} {a b : Hp} {w : World} (hr : Rel r a w) : Rel r (meetHp a b) w ∧ ∀ c, Spk r (meetHp a b) c → Spk r a c := by
  refine hr.fewer (Nat.le_max_left _ _) (fun i k p d hi => ?_) (fun i o hi => ?_)
  · obtain ⟨u, v, g1, g2, g3, g4⟩ := meetHp_get hi
    have := meetO_left g3
    subst this
    exact ⟨by show i ∈ a.ab ++ b.ab; exact List.mem_append_left _ (hr.pin i k p d g1).1, meetHp_pins hi⟩
  · obtain ⟨u, v, g1, g2, g3, g4⟩ := meetHp_get hi
    rw [meetO_left g3]
    exact .inl g1

theorem meetHp_right {r : Ren σ} {a b : Hp} {w : World} (hr : Rel r b w) : Rel r (meetHp a b) w ∧ ∀ c, Spk r (meetHp a b) c → Spk r b c := by
  refine hr.fewer (Nat.le_max_right _ _) (fun i k p d hi => ?_) (fun i o hi => ?_)
  · obtain ⟨u, v, g1, g2, g3, g4⟩ := meetHp_get hi
    have hb : i ∈ b.ab := by
      rcases meetO_right g3 with e | ⟨_, _, e, _, _⟩
      · subst e; exact (hr.pin i k p d g2).1
      · cases e
    exact ⟨List.mem_append_right a.ab hb, meetHp_pins hi⟩
  · obtain ⟨u, v, g1, g2, g3, g4⟩ := meetHp_get hi
    rcases meetO_right g3 with e | ⟨es, es', e1, e2, e3⟩
    · subst e; exact .inl g2
    · subst e1; subst e2; exact .inr ⟨es, es', rfl, g2, e3⟩

/- Ends and states. -/
def meetE : AEx → AEx → Option AEx
  | .normal, .normal => some .normal
  | .exit i, .exit j => if i = j then some (.exit i) else none
  | .goto i, .goto j => if i = j then some (.goto i) else none
  | .ret, .ret => some .ret
  | _, _ => none

def meetS (a b : AEx × St) : Option (AEx × St) :=
  match meetE a.1 b.1, a.2.df, b.2.df with
  | some e, [], [] => some (e, ⟨Tr.meet meetV a.2.tm b.2.tm, [], meetHp a.2.hp b.2.hp⟩)
  | _, _, _ => none

def meetAll : AEx × St → List (Option (AEx × St)) → Option (AEx × St)
  | a, [] => some a
  | a, some b :: l => match meetS a b with
    | some c => meetAll c l
    | none => none
  | _, none :: _ => none

def meets : List (Option (AEx × St)) → Option (AEx × St)
  | some a :: l => meetAll a l
  | _ => none

/- One state tells no more than another. -/
structure Below' (a b : AEx × St) : Prop where
  e : a.1 = b.1
  nx : a.2.hp.nx ≤ b.2.hp.nx
  st : ∀ {σ : Interp} (r : Ren σ) (c : Ctx) (x : Act) (w : World), StRel r c a.2 x w → StRel r c b.2 x w ∧ ∀ k, Spk r b.2.hp k → Spk r a.2.hp k

theorem Below'.refl (a : AEx × St) : Below' a a := ⟨rfl, Nat.le_refl _, fun _ _ _ _ h => ⟨h, fun _ h => h⟩⟩
theorem Below'.trans {a b c : AEx × St} (x : Below' a b) (y : Below' b c) : Below' a c :=
  ⟨x.e.trans y.e, Nat.le_trans x.nx y.nx, fun r ct ac w h => let ⟨h1, h2⟩ := x.st r ct ac w h; let ⟨h3, h4⟩ := y.st r ct ac w h1; ⟨h3, fun k hk => h2 k (h4 k hk)⟩⟩

theorem meetE_ok {a b e : AEx} (h : meetE a b = some e) : a = e ∧ b = e := by
  unfold meetE at h
  split at h
  · cases h; exact ⟨rfl, rfl⟩
  · split at h
    · cases h; subst_vars; exact ⟨rfl, rfl⟩
    · cases h
  · split at h
    · cases h; subst_vars; exact ⟨rfl, rfl⟩
    · cases h
  · cases h; exact ⟨rfl, rfl⟩
  · cases h

theorem meetS_ok {a b c : AEx × St} (h : meetS a b = some c) : Below' a c ∧ Below' b c := by
  unfold meetS at h
  split at h
  · rename_i e he ha hb
    cases h
    obtain ⟨h1, h2⟩ := meetE_ok he
    refine ⟨⟨h1, Nat.le_max_left _ _, fun r ct x w hs => ?_⟩, ⟨h2, Nat.le_max_right _ _, fun r ct x w hs => ?_⟩⟩
    · obtain ⟨g1, g2⟩ := meetHp_left (b := b.2.hp) hs.rel
      refine ⟨⟨fun t v hv => ?_, hs.nt, by have := hs.df; rw [ha] at this; exact this, g1⟩, g2⟩
      obtain ⟨u, v', k1, k2, k3⟩ := Tr.get_meet hv
      unfold meetV at k3
      split at k3
      · cases k3; exact hs.tm t _ k1
      · cases k3
    · obtain ⟨g1, g2⟩ := meetHp_right (a := a.2.hp) hs.rel
      refine ⟨⟨fun t v hv => ?_, hs.nt, by have := hs.df; rw [hb] at this; exact this, g1⟩, g2⟩
      obtain ⟨u, v', k1, k2, k3⟩ := Tr.get_meet hv
      unfold meetV at k3
      split at k3
      · rename_i hq
        cases k3
        rw [veq_ok _ _ _ hq]; exact hs.tm t v' k2
      · cases k3
  · cases h

theorem meetAll_ok : ∀ {l : List (Option (AEx × St))} {a m : AEx × St}, meetAll a l = some m → Below' a m ∧ ∀ b ∈ l, ∃ x, b = some x ∧ Below' x m := by
  intro l
  induction l with
  | nil => intro a m h; cases h; exact ⟨.refl a, fun b hb => by cases hb⟩
  | cons q l ih =>
    intro a m h
    cases q with
    | none => simp [meetAll] at h
    | some b =>
      simp only [meetAll] at h
      split at h
      · rename_i c hc
        obtain ⟨h1, h2⟩ := meetS_ok hc
        obtain ⟨h3, h4⟩ := ih h
        refine ⟨h1.trans h3, fun x hx => ?_⟩
        cases hx with
        | head => exact ⟨b, rfl, h2.trans h3⟩
        | tail _ hx => exact h4 x hx
      · cases h

theorem meets_ok {l : List (Option (AEx × St))} {m : AEx × St} (h : meets l = some m) : ∀ b ∈ l, ∃ x, b = some x ∧ Below' x m := by
  unfold meets at h
  split at h
  · obtain ⟨h1, h2⟩ := meetAll_ok h
    intro b hb
    cases hb with
    | head => exact ⟨_, rfl, h1⟩
    | tail _ hb => exact h2 b hb
  · cases h

end Go.Eng
