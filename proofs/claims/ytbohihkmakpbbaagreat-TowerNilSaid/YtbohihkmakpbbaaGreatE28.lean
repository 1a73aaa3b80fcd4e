/- The engine, part 28: a state under other names and other values, whole. -/
import Derived.Test.YtbohihkmakpbbaaGreatE27
namespace Go.Eng

def mvTm (τ : List (Nat × Value)) (ρ : List (Nat × Nat)) (nx : Nat) (tm0 tm1 : Tr Value) : Bool :=
  tm0.toList.all fun p => match tm1.get p.1 with | some v => mv τ ρ nx 12 p.2 v | none => false

def mvPs (f : Value → Value → Bool) : List (Value × Value) → List (Value × Value) → Bool
  | [], [] => true
  | (k, x) :: xs, (l, y) :: ys => veq 9 k l && gnd 6 k && f x y && mvPs f xs ys
  | _, _ => false

def subD (τ : List (Nat × Value)) (d : List Value) : List Value := d.map fun v => match v with | .chan (some t) => asc τ t | v => v

def mvObj (τ : List (Nat × Value)) (ρ : List (Nat × Nat)) (nx : Nat) : AObj → AObj → Bool
  | .cells c sl, .cells c' sl' => decide (sl = sl') && mvs (mv τ ρ nx 12) c (c'.take c.length)
  | .map es, .map es' => mvPs (mv τ ρ nx 12) es es'
  | .abs k p d, .abs k' p' d' => decide (k ≠ 0) && decide (k = k') && decide (p.map (asn ρ) = p') && mvs (veq 9) d' (subD τ d)
  | _, _ => false

def mvHp (τ : List (Nat × Value)) (ρ : List (Nat × Nat)) (h0 h1 : Hp) : Bool :=
  h0.t.toList.all (fun q => decide (q.1 < h0.nx) && (match h1.get (asn ρ q.1) with | some o => mvObj τ ρ h0.nx q.2 o | none => false) &&
    (match q.2 with | .abs _ p _ => h0.ab.contains q.1 && p.all (fun j => match h0.get j with | some (.map _) => true | _ => false) | _ => true)) &&
  decide ((h0.t.toList.map fun q => (asn ρ q.1)).Nodup)

section
variable {σ σ' : Interp} {τ : List (Nat × Value)} {ρ : List (Nat × Nat)}

theorem mvTm_ok (hS : Sub τ σ σ') {r : Ren σ} {nx : Nat} {tm0 tm1 : Tr Value} {tmps : Array Value} (h : mvTm τ ρ nx tm0 tm1 = true) (ht : TmRel r tm1 tmps) : TmRel (r.back σ' ρ nx) tm0 tmps := by
  intro t v hv
  unfold mvTm at h
  rw [List.all_eq_true] at h
  have h1 := h _ (Tr.mem_toList hv)
  simp only [] at h1
  split at h1
  · rename_i u hu
    obtain ⟨v', g1, g2⟩ := ht t u hu
    exact ⟨v', g1, mv_ok hS r 12 _ _ h1 _ g2⟩
  · cases h1

theorem mvs_get {f : Value → Value → Bool} : ∀ {ps vs : List Value}, mvs f ps vs = true → ∀ (j : Nat) (p : Value), ps[j]? = some p → ∃ v, vs[j]? = some v ∧ f p v = true := by
  intro ps
  induction ps with
  | nil => intro vs _ j p hp; simp at hp
  | cons q ps ih =>
    intro vs h j p hp
    cases vs with
    | nil => simp [mvs] at h
    | cons v vs =>
      simp only [mvs, Bool.and_eq_true] at h
      cases j with
      | zero => simp at hp; subst hp; exact ⟨v, rfl, h.1⟩
      | succ j => simp only [List.getElem?_cons_succ] at hp ⊢; exact ih h.2 j p hp

theorem mvPs_ok {f : Value → Value → Bool} {r : Ren σ} {r' : Ren σ'} (hf : ∀ p v, f p v = true → ∀ y, VRel r v y → VRel r' p y) : ∀ {es es' : List (Value × Value)}, mvPs f es es' = true → ∀ ps, PRels r es' ps → PRels r' es ps := by
  intro es
  induction es with
  | nil =>
    intro es' h ps hp
    cases es' with
    | nil => cases hp; exact .nil
    | cons => simp [mvPs] at h
  | cons q es ih =>
    intro es' h ps hp
    obtain ⟨k, x⟩ := q
    cases es' with
    | nil => simp [mvPs] at h
    | cons q' es' =>
      obtain ⟨l, y⟩ := q'
      simp only [mvPs, Bool.and_eq_true] at h
      obtain ⟨⟨⟨h1, h2⟩, h3⟩, h4⟩ := h
      have e := veq_ok _ _ _ h1
      subst e
      cases hp with
      | cons g1 g2 g3 => exact .cons h2 (hf _ _ h3 _ g2) (ih h4 _ g3)

theorem mvObj_ok (hS : Sub τ σ σ') {r : Ren σ} {nx m : Nat} {o0 o1 : AObj} {obj : Obj} (h : mvObj τ ρ nx o0 o1 = true) (ho : ObjRel r m o1 obj) : ObjRel (r.back σ' ρ nx) m o0 obj := by
  unfold mvObj at h
  split at h
  · rename_i c sl c' sl'
    rw [Bool.and_eq_true, decide_eq_true_eq] at h
    obtain ⟨rfl, h2⟩ := h
    cases obj <;> simp only [ObjRel] at ho ⊢
    obtain ⟨g1, g2, g3⟩ := ho
    refine ⟨fun j v hv => ?_, g2, g3⟩
    obtain ⟨u, k1, k2⟩ := mvs_get h2 j v hv
    have k3 : c'[j]? = some u := by
      rw [List.getElem?_take] at k1
      split at k1
      · exact k1
      · cases k1
    obtain ⟨v', q1, q2⟩ := g1 j u k3
    exact ⟨v', q1, mv_ok hS r 12 _ _ k2 _ q2⟩
  · cases obj <;> simp only [ObjRel] at ho ⊢
    obtain ⟨⟨ps, g1, g2⟩, g3⟩ := ho
    refine ⟨?_, g3⟩
    exact ⟨ps, g1, mvPs_ok (fun p v h1 y h2 => mv_ok hS r 12 p v h1 y h2) h _ g2⟩
  · cases obj <;> trivial
  · cases h

theorem mvs_veq : ∀ {xs ys : List Value}, mvs (veq 9) xs ys = true → xs = ys := by
  intro xs
  induction xs with
  | nil => intro ys h; cases ys with
    | nil => rfl
    | cons => simp [mvs] at h
  | cons x xs ih =>
    intro ys h
    cases ys with
    | nil => simp [mvs] at h
    | cons y ys =>
      simp only [mvs, Bool.and_eq_true] at h
      rw [veq_ok _ _ _ h.1, ih h.2]

theorem mvObj_abs {nx k : Nat} {p : List Nat} {d : List Value} {o1 : AObj} (h : mvObj τ ρ nx (.abs k p d) o1 = true) : o1 = .abs k (p.map (asn ρ)) (subD τ d) := by
  cases o1 with
  | abs k' p' d' =>
    simp only [mvObj, Bool.and_eq_true, decide_eq_true_eq] at h
    obtain ⟨⟨⟨_, rfl⟩, rfl⟩, h3⟩ := h
    rw [mvs_veq h3]
  | _ => simp [mvObj] at h

theorem mvObj_kind {nx k : Nat} {p : List Nat} {d : List Value} {o1 : AObj} (h : mvObj τ ρ nx (.abs k p d) o1 = true) : k ≠ 0 := by
  cases o1 with
  | abs k' p' d' =>
    simp only [mvObj, Bool.and_eq_true, decide_eq_true_eq] at h
    exact h.1.1.1
  | _ => simp [mvObj] at h

theorem mvHp_ok (hS : Sub τ σ σ') {r : Ren σ} {h0 h1 : Hp} {w : World} (hm : mvHp τ ρ h0 h1 = true) (hr : Rel r h1 w) : Rel (r.back σ' ρ h0.nx) h0 w ∧ ∀ c, Spk (r.back σ' ρ h0.nx) h0 c → Spk r h1 c := by
  unfold mvHp at hm
  rw [Bool.and_eq_true, decide_eq_true_eq, List.all_eq_true] at hm
  obtain ⟨hall, hnd⟩ := hm
  have hobj : ∀ {i o}, h0.get i = some o → i < h0.nx ∧ (∃ o1, h1.get (asn ρ i) = some o1 ∧ mvObj τ ρ h0.nx o o1 = true) ∧ (i, o) ∈ h0.t.toList := by
    intro i o hi
    have hmem := Tr.mem_toList hi
    have := hall _ hmem
    simp only [Bool.and_eq_true, decide_eq_true_eq] at this
    refine ⟨this.1.1, ?_, hmem⟩
    have h2 := this.1.2
    split at h2
    · exact ⟨_, by assumption, h2⟩
    · cases h2
  have habs : ∀ {i k p d}, h0.get i = some (.abs k p d) → i ∈ h0.ab ∧ ∀ j ∈ p, ∃ es, h0.get j = some (.map es) := by
    intro i k p d hi
    have := hall _ (Tr.mem_toList hi)
    simp only [Bool.and_eq_true, List.all_eq_true] at this
    refine ⟨by simpa using this.2.1, fun j hj => ?_⟩
    have h3 := this.2.2 j hj
    split at h3
    · exact ⟨_, by assumption⟩
    · cases h3
  have hlv : ∀ {i}, (h0.get i).isSome = true → (h1.get (asn ρ i)).isSome = true ∧ i < h0.nx := by
    intro i hi
    obtain ⟨o, ho⟩ := Option.isSome_iff_exists.1 hi
    obtain ⟨g1, ⟨o1, g2, _⟩, _⟩ := hobj ho
    exact ⟨by simp [g2], g1⟩
  have hat : ∀ {i}, i < h0.nx → (r.back σ' ρ h0.nx) i = r (asn ρ i) := fun h => if_pos h
  have hinj : ∀ {i j}, (h0.get i).isSome = true → (h0.get j).isSome = true → asn ρ i = asn ρ j → i = j := by
    intro i j hi hj e
    obtain ⟨o, ho⟩ := Option.isSome_iff_exists.1 hi
    obtain ⟨o', ho'⟩ := Option.isSome_iff_exists.1 hj
    have m1 := (hobj ho).2.2
    have m2 := (hobj ho').2.2
    have hp : ∀ (l : List (Nat × AObj)), (l.map fun q => asn ρ q.1).Nodup → (i, o) ∈ l → (j, o') ∈ l → i = j := by
      intro l
      induction l with
      | nil => intro _ h; cases h
      | cons q l ih =>
        intro hn h2 h3
        simp only [List.map_cons, List.nodup_cons, List.mem_map] at hn
        cases h2 with
        | head =>
          cases h3 with
          | head => rfl
          | tail _ h3 => exact absurd ⟨_, h3, e.symm⟩ hn.1
        | tail _ h2 =>
          cases h3 with
          | head => exact absurd ⟨_, h2, e⟩ hn.1
          | tail _ h3 => exact ih hn.2 h2 h3
    exact hp _ hnd m1 m2
  have habs1 : ∀ {i k p d}, h0.get i = some (.abs k p d) → h1.get (asn ρ i) = some (.abs k (p.map (asn ρ)) (subD τ d)) := by
    intro i k p d hi
    obtain ⟨_, ⟨o1, g2, g3⟩, _⟩ := hobj hi
    rw [g2, mvObj_abs g3]
  have hspk : ∀ c, Spk (r.back σ' ρ h0.nx) h0 c → Spk r h1 c := by
    intro c hs
    rcases hs with ⟨i, m, hi, h2⟩ | ⟨i, k, p, d, hi, h2⟩
    · rw [hat (hlv hi).2] at h2
      exact .inl ⟨_, m, (hlv hi).1, h2⟩
    · exact .inr ⟨_, _, _, _, habs1 hi, h2⟩
  refine ⟨⟨fun i x hx => ?_, fun i o hi => ?_, fun i j c m m' hi hj h2 h3 => ?_, fun i k p d hi => ?_, fun i k p d hi => habs hi, fun i k p d hi b hb j hj m h2 => ?_, fun i j k p d k' p' d' hne hi hj b hb => ?_, fun c o hc => ?_⟩, hspk⟩
  · by_cases h : i < h0.nx
    · exact h
    · exact absurd (show (r.back σ' ρ h0.nx) i = none from if_neg h) (by rw [hx]; simp)
  · obtain ⟨g1, ⟨o1, g2, g3⟩, _⟩ := hobj hi
    obtain ⟨c, m, obj, k1, k2, k3⟩ := hr.live _ _ g2
    exact ⟨c, m, obj, by rw [hat g1]; exact k1, k2, mvObj_ok hS g3 k3⟩
  · rw [hat (hlv hi).2] at h2
    rw [hat (hlv hj).2] at h3
    exact hinj hi hj (hr.inj _ _ c m m' (hlv hi).1 (hlv hj).1 h2 h3)
  · obtain ⟨c, m, k1, k2, k3⟩ := hr.abs _ _ _ _ (habs1 hi)
    have hk0 : k ≠ 0 := let ⟨_, ⟨o1, _, g3⟩, _⟩ := hobj hi; mvObj_kind g3
    unfold ownA at k2
    rw [if_neg hk0] at k2
    have hp : p.map (r.back σ' ρ h0.nx).f = (p.map (asn ρ)).map r.f := by
      rw [List.map_map]
      refine List.map_congr_left fun j hj => ?_
      obtain ⟨es, hes⟩ := (habs hi).2 j hj
      exact hat (hobj hes).1
    exact ⟨c, m, by rw [hat (hobj hi).1]; exact k1, by unfold ownA; rw [if_neg hk0]; exact hS.own k r.f _ _ _ _ _ w c _ hp rfl k2, k3⟩
  · rw [hat (hlv hj).2] at h2
    exact hr.sepN _ _ _ _ (habs1 hi) b hb _ (hlv hj).1 m h2
  · exact hr.sepF _ _ _ _ _ _ _ _ (fun e => hne (hinj (by simp [hi]) (by simp [hj]) e)) (habs1 hi) (habs1 hj) b hb
  · rw [hS.ro] at hc
    exact ⟨(hr.ro c o hc).1, fun hs => (hr.ro c o hc).2 (hspk c hs)⟩

/- A frame's state under other names and values. -/
def mvSt (τ : List (Nat × Value)) (ρ : List (Nat × Nat)) (s0 s1 : St) : Bool :=
  mvTm τ ρ s0.hp.nx s0.tm s1.tm && mvHp τ ρ s0.hp s1.hp && s0.df.isEmpty && s1.df.isEmpty

theorem mvSt_ok (hS : Sub τ σ σ') {r : Ren σ} {c : Ctx} {s0 s1 : St} {a : Act} {w : World} (hm : mvSt τ ρ s0 s1 = true) (hs : StRel r c s1 a w) :
    StRel (r.back σ' ρ s0.hp.nx) c s0 a w ∧ ∀ b, Spk (r.back σ' ρ s0.hp.nx) s0.hp b → Spk r s1.hp b := by
  unfold mvSt at hm
  rw [Bool.and_eq_true, Bool.and_eq_true, Bool.and_eq_true] at hm
  obtain ⟨⟨⟨h1, h2⟩, h3⟩, h4⟩ := hm
  have g := mvHp_ok hS h2 hs.rel
  have e0 : s0.df = [] := by simpa using h3
  have e1 : s1.df = [] := by simpa using h4
  have hdf := hs.df
  rw [e1] at hdf
  refine ⟨⟨mvTm_ok hS h1 hs.tm, hs.nt, ?_, g.1⟩, g.2⟩
  rw [e0]
  generalize a.defers = x at hdf
  cases hdf
  exact .nil

end

end Go.Eng
