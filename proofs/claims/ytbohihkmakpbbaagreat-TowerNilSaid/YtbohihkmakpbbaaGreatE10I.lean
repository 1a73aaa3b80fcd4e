/- The engine, part 10, continued: structures at a name; ranging over a map; delete. -/
import Derived.Test.YtbohihkmakpbbaaGreatE10
namespace Go.Eng
variable {σ : Interp}

/- The same value (addresses too). -/
def veqs (f : Value → Value → Bool) : List Value → List Value → Bool
  | [], [] => true
  | x :: xs, y :: ys => f x y && veqs f xs ys
  | _, _ => false

def veq : Nat → Value → Value → Bool
  | 0, _, _ => false
  | n + 1, a, b =>
    match a, b with
    | .bool x, .bool y => x == y
    | .int j x, .int k y => j == k && x == y
    | .string x, .string y => decide (x = y)
    | .pointer x, .pointer y => x == y
    | .slice x n1 c1, .slice y n2 c2 => x == y && n1 == n2 && c1 == c2
    | .map x, .map y => x == y
    | .nilFunc, .nilFunc => true
    | .nilIface, .nilIface => true
    | .chan x, .chan y => x == y
    | .func f p q, .func g p' q' => f == g && veqs (veq n) p.toList p'.toList && veqs (veq n) q.toList q'.toList
    | .iface t x, .iface u y => t == u && veq n x y
    | .agg x, .agg y => veqs (veq n) x.toList y.toList
    | .tuple x, .tuple y => veqs (veq n) x.toList y.toList
    | _, _ => false

/- The same value is the same value. -/
theorem veqs_ok {f : Value → Value → Bool} : ∀ {xs ys : List Value}, veqs f xs ys = true → (∀ x y, x ∈ xs → f x y = true → x = y) → xs = ys := by
  intro xs
  induction xs with
  | nil => intro ys h _; cases ys with
    | nil => rfl
    | cons => simp [veqs] at h
  | cons x xs ih =>
    intro ys h hf
    cases ys with
    | nil => simp [veqs] at h
    | cons y ys =>
      simp only [veqs, Bool.and_eq_true] at h
      rw [hf x y (by simp) h.1, ih h.2 (fun a b ha hb => hf a b (by simp [ha]) hb)]

theorem veq_ok : ∀ (n : Nat) (x y : Value), veq n x y = true → x = y := by
  intro n
  induction n with
  | zero => intro x y h; simp [veq] at h
  | succ n ih =>
    intro x y h
    have hs : ∀ {p q : Array Value}, veqs (veq n) p.toList q.toList = true → p = q := fun h => Array.ext' (veqs_ok h (fun a b _ hb => ih a b hb))
    unfold veq at h
    split at h
    · rw [beq_iff_eq] at h; rw [h]
    · rw [Bool.and_eq_true, beq_iff_eq, beq_iff_eq] at h; rw [h.1, h.2]
    · rw [decide_eq_true_eq] at h; rw [h]
    · rw [beq_iff_eq] at h; rw [h]
    · rw [Bool.and_eq_true, Bool.and_eq_true, beq_iff_eq, beq_iff_eq, beq_iff_eq] at h; rw [h.1.1, h.1.2, h.2]
    · rw [beq_iff_eq] at h; rw [h]
    · rfl
    · rfl
    · rw [beq_iff_eq] at h; rw [h]
    · rw [Bool.and_eq_true, Bool.and_eq_true, beq_iff_eq] at h; rw [h.1.1, hs h.1.2, hs h.2]
    · rw [Bool.and_eq_true, beq_iff_eq] at h; rw [h.1, ih _ _ h.2]
    · rw [hs h]
    · rw [hs h]
    · cases h

/- A structure is replaced, at its place. -/
theorem Adv.putAbs {r : Ren σ} {h : Hp} {w : World} (hr : Rel r h w) {i k k' : Nat} {p : List Nat} {d d' : List Value} (hi : h.get i = some (.abs k p d)) {c m : Nat} (hri : r i = some (c, m))
    {w' : World} {obj' : Obj} (hat : w'.heap[c]? = some obj') (hother : ∀ b, b ≠ c → w'.heap[b]? = w.heap[b]?) (hsize : w'.heap.size = w.heap.size) (hown : ownA σ k' r.f p d' w' c (r.F i))
    (ho : outer w' = outer w) (hp : w'.output = w.output) : Adv r h w r (h.put i (.abs k' p d')) w' := by
  have hg : ∀ {j o}, (h.put i (.abs k' p d')).get j = some o → j ≠ i → h.get j = some o := by
    intro j o hj hne
    rw [Hp.get_put, if_neg (fun e => hne e.symm)] at hj; exact hj
  have hs : ∀ {j}, ((h.put i (.abs k' p d')).get j).isSome = true → (h.get j).isSome = true := by
    intro j hj
    rw [Hp.get_put] at hj
    split at hj
    · subst_vars; simp [hi]
    · exact hj
  have hspk : ∀ b, Spk r (h.put i (.abs k' p d')) b → Spk r h b := by
    intro b hb
    rcases hb with ⟨j, m', hj, h1⟩ | ⟨j, k1, p1, d1, hj, h1⟩
    · exact .inl ⟨j, m', hs hj, h1⟩
    · by_cases e : j = i
      · subst e; exact .inr ⟨j, k, p, d, hi, h1⟩
      · exact .inr ⟨j, k1, p1, d1, hg hj e, h1⟩
  have hF : ∀ {j k1 p1 d1}, (h.put i (.abs k' p d')).get j = some (.abs k1 p1 d1) → ∃ k2 d2, h.get j = some (.abs k2 p1 d2) := by
    intro j k1 p1 d1 hj
    by_cases e : j = i
    · subst e
      rw [Hp.get_put, if_pos rfl] at hj
      cases hj
      exact ⟨k, d, hi⟩
    · exact ⟨k1, d1, hg hj e⟩
  have hrel : Rel r (h.put i (.abs k' p d')) w' := by
    refine ⟨hr.dom, fun j o hj => ?_, fun j j' b m' m'' hj hj' => hr.inj j j' b m' m'' (hs hj) (hs hj'), fun j k1 p1 d1 hj => ?_, fun j k1 p1 d1 hj => ?_, fun j k1 p1 d1 hj b hb j' hj' m' => ?_, fun j j' k1 p1 d1 k2 p2 d2 hne hj hj' b hb => ?_, fun b ob hb => ?_⟩
    · by_cases e : j = i
      · subst e
        rw [Hp.get_put, if_pos rfl] at hj
        cases hj
        exact ⟨c, m, obj', hri, hat, by cases obj' <;> trivial⟩
      · obtain ⟨c1, m1, ob1, h1, h2, h3⟩ := hr.live j o (hg hj e)
        refine ⟨c1, m1, ob1, h1, ?_, h3⟩
        rw [hother c1 (fun e' => e ?_)]
        · exact h2
        · subst e'; exact hr.inj j i c1 m1 m (by simp [hg hj e]) (by simp [hi]) h1 hri
    · by_cases e : j = i
      · subst e
        rw [Hp.get_put, if_pos rfl] at hj
        cases hj
        obtain ⟨c1, m1, h1, h2, h3⟩ := hr.abs j k p d hi
        rw [hri] at h1
        cases h1
        exact ⟨c, m, hri, hown, by rw [hsize]; exact h3⟩
      · have hj' := hg hj e
        obtain ⟨c1, m1, h1, h2, h3⟩ := hr.abs j k1 p1 d1 hj'
        refine ⟨c1, m1, h1, ownA_frame h2 (fun b hb => hother b (fun e' => ?_)), by rw [hsize]; exact h3⟩
        subst e'
        rcases hb with hb | hb | ⟨i', hi', m', hb⟩
        · subst hb; exact e (hr.inj j i b m1 m (by simp [hj']) (by simp [hi]) h1 hri)
        · exact hr.sepN j k1 p1 d1 hj' b hb i (by simp [hi]) m hri
        · obtain ⟨es, hes⟩ := (hr.pin j k1 p1 d1 hj').2 i' hi'
          have := hr.inj i' i b m' m (by simp [hes]) (by simp [hi]) hb hri
          subst this
          rw [hi] at hes; cases hes
    · obtain ⟨k2, d2, h2⟩ := hF hj
      obtain ⟨q1, q2⟩ := hr.pin j k2 p1 d2 h2
      refine ⟨q1, fun j' hj' => ?_⟩
      obtain ⟨es, hes⟩ := q2 j' hj'
      refine ⟨es, ?_⟩
      rw [Hp.get_put, if_neg (fun e => by subst e; rw [hi] at hes; cases hes)]
      exact hes
    · obtain ⟨k2, d2, h2⟩ := hF hj
      exact hr.sepN j k2 p1 d2 h2 b hb j' (hs hj') m'
    · obtain ⟨k3, d3, h3⟩ := hF hj
      obtain ⟨k4, d4, h4⟩ := hF hj'
      exact hr.sepF j j' k3 p1 d3 k4 p2 d4 hne h3 h4 b hb
    · obtain ⟨h1, h2⟩ := hr.ro b ob hb
      exact ⟨by rw [hother b (fun e => h2 (.inl ⟨i, m, by simp [hi], e ▸ hri⟩))]; exact h1, fun hs' => h2 (hspk b hs')⟩
  exact ⟨hrel, Ren.le_refl r, Nat.le_refl _, by omega, fun b _ hn => hother b (fun e => hn (.inl ⟨i, m, by simp [hi], e ▸ hri⟩)), fun b hb => .inr (hspk b hb), ho, hp, fun _ _ => rfl⟩

def Hp.newAbs (h : Hp) (o : AObj) : Hp := { t := h.t.set h.nx (some o), nx := h.nx + 1, ab := h.nx :: h.ab }
def Ren.addF (r : Ren σ) (i : Nat) (x : Nat × Nat) (F0 : Nat → Prop) : Ren σ := ⟨fun j => if j = i then some x else r j, fun j => if j = i then F0 else r.F j⟩

theorem Hp.get_newAbs (h : Hp) (j : Nat) (o : AObj) : (h.newAbs o).get j = if h.nx = j then some o else h.get j := Tr.get_set _ _ _ _

/- A new structure, of new blocks. -/
theorem Adv.newAbs {r : Ren σ} {h : Hp} {w w' : World} (hr : Rel r h w) (k : Nat) (p : List Nat) (d : List Value) (c m : Nat) (F0 : Nat → Prop) {ob : Obj} (hat : w'.heap[c]? = some ob) (hsize : w.heap.size ≤ w'.heap.size)
    (hkeep : ∀ b, b < w.heap.size → w'.heap[b]? = w.heap[b]?) (hc : w.heap.size ≤ c) (hF : ∀ b, F0 b → w.heap.size ≤ b ∧ b ≠ c ∧ b < w'.heap.size) (hpin : ∀ j ∈ p, ∃ es, h.get j = some (.map es))
    (hown : ownA σ k (r.addF h.nx (c, m) F0).f p d w' c F0) (ho : outer w' = outer w) (hp : w'.output = w.output) : Adv r h w (r.addF h.nx (c, m) F0) (h.newAbs (.abs k p d)) w' := by
  have hne : ∀ {j o}, h.get j = some o → j ≠ h.nx := fun hj => by have := hr.bound hj; omega
  have hold : ∀ {j}, j ≠ h.nx → (r.addF h.nx (c, m) F0) j = r j := fun hj => if_neg hj
  have hself : (r.addF h.nx (c, m) F0) h.nx = some (c, m) := if_pos rfl
  have hFold : ∀ {j}, j ≠ h.nx → (r.addF h.nx (c, m) F0).F j = r.F j := fun hj => if_neg hj
  have hFself : (r.addF h.nx (c, m) F0).F h.nx = F0 := if_pos rfl
  have hle : r.le (r.addF h.nx (c, m) F0) := fun i x hx => by rw [hold (fun e => by subst e; rw [hr.nx_none] at hx; cases hx)]; exact hx
  have hg : ∀ {j o}, (h.newAbs (.abs k p d)).get j = some o → (j = h.nx ∧ o = .abs k p d) ∨ (j ≠ h.nx ∧ h.get j = some o) := by
    intro j o hj
    rw [Hp.get_newAbs] at hj
    split at hj
    · subst_vars; cases hj; exact .inl ⟨rfl, rfl⟩
    · exact .inr ⟨fun e => by subst e; contradiction, hj⟩
  have hlt : ∀ {j o b m'}, h.get j = some o → r j = some (b, m') → b < w.heap.size := by
    intro j o b m' hj h1
    obtain ⟨c2, m2, ob2, e1, e2, _⟩ := hr.live j o hj
    rw [h1] at e1; cases e1
    exact (Array.getElem?_eq_some_iff.1 e2).1
  have hFlt : ∀ {j k p d b}, h.get j = some (.abs k p d) → r.F j b → b < w.heap.size := fun hj hb => let ⟨_, _, _, _, h3⟩ := hr.abs _ _ _ _ hj; h3 _ hb
  have horig : ∀ b, Spk (r.addF h.nx (c, m) F0) (h.newAbs (.abs k p d)) b → w.heap.size ≤ b ∨ Spk r h b := by
    intro b hb
    rcases hb with ⟨j, m', hj, h1⟩ | ⟨j, k1, p1, d1, hj, h1⟩
    · obtain ⟨o, ho'⟩ := Option.isSome_iff_exists.1 hj
      rcases hg ho' with ⟨rfl, _⟩ | ⟨h2, h3⟩
      · rw [hself] at h1; cases h1; exact .inl hc
      · rw [hold h2] at h1; exact .inr (.inl ⟨j, m', by simp [h3], h1⟩)
    · rcases hg hj with ⟨rfl, _⟩ | ⟨h2, h3⟩
      · rw [hFself] at h1; exact .inl (hF b h1).1
      · rw [hFold h2] at h1; exact .inr (.inr ⟨j, k1, p1, d1, h3, h1⟩)
  refine ⟨⟨fun i x hx => ?_, fun j o hj => ?_, fun i j b m1 m2 hi hj h1 h2 => ?_, fun j k1 p1 d1 hj => ?_, fun j k1 p1 d1 hj => ?_, fun j k1 p1 d1 hj b hb j' hj' m' h1 => ?_, fun i j k1 p1 d1 k2 p2 d2 hne' hi hj b hb => ?_, fun b ob' hb => ?_⟩,
    hle, Nat.le_succ _, hsize, fun b hb _ => hkeep b hb, horig, ho, hp, fun i hi => hold (by omega)⟩
  · show i < h.nx + 1
    by_cases e : i = h.nx
    · omega
    · rw [hold e] at hx; have := hr.dom i x hx; omega
  · rcases hg hj with ⟨rfl, rfl⟩ | ⟨h2, h3⟩
    · exact ⟨c, m, ob, hself, hat, by cases ob <;> trivial⟩
    · obtain ⟨c1, m1, ob1, q1, q2, q3⟩ := hr.live j o h3
      exact ⟨c1, m1, ob1, hle _ _ q1, by rw [hkeep c1 (hlt h3 q1)]; exact q2, q3.mono hle⟩
  · obtain ⟨o1, ho1⟩ := Option.isSome_iff_exists.1 hi
    obtain ⟨o2, ho2⟩ := Option.isSome_iff_exists.1 hj
    rcases hg ho1 with ⟨rfl, _⟩ | ⟨e1, g1⟩ <;> rcases hg ho2 with ⟨rfl, _⟩ | ⟨e2, g2⟩
    · rfl
    · rw [hself] at h1; rw [hold e2] at h2
      cases h1
      have := hlt g2 h2; omega
    · rw [hself] at h2; rw [hold e1] at h1
      cases h2
      have := hlt g1 h1; omega
    · rw [hold e1] at h1; rw [hold e2] at h2
      exact hr.inj i j b m1 m2 (by simp [g1]) (by simp [g2]) h1 h2
  · rcases hg hj with ⟨rfl, e⟩ | ⟨h2, h3⟩
    · cases e
      exact ⟨c, m, hself, by rw [hFself]; exact hown, fun b hb => (hF b (by rw [hFself] at hb; exact hb)).2.2⟩
    · obtain ⟨c1, m1, q1, q2, q3⟩ := hr.abs j k1 p1 d1 h3
      refine ⟨c1, m1, hle _ _ q1, ?_, fun b hb => Nat.lt_of_lt_of_le (q3 b (by rw [hFold h2] at hb; exact hb)) hsize⟩
      rw [hFold h2]
      refine ownA_more (ownA_frame q2 (fun b hb => hkeep b ?_)) hle
      rcases hb with hb | hb | ⟨i', hi', m', hb⟩
      · subst hb; exact hlt h3 q1
      · exact q3 b hb
      · obtain ⟨es, hes⟩ := (hr.pin j k1 p1 d1 h3).2 i' hi'
        exact hlt hes hb
  · have hget : ∀ {j' es}, h.get j' = some (.map es) → (h.newAbs (.abs k p d)).get j' = some (.map es) := fun hes => by
      rw [Hp.get_newAbs, if_neg (fun e => hne hes e.symm)]; exact hes
    rcases hg hj with ⟨rfl, e⟩ | ⟨h2, h3⟩
    · cases e
      exact ⟨by show h.nx ∈ h.nx :: h.ab; simp, fun j' hj' => let ⟨es, hes⟩ := hpin j' hj'; ⟨es, hget hes⟩⟩
    · obtain ⟨q1, q2⟩ := hr.pin j k1 p1 d1 h3
      exact ⟨by show j ∈ h.nx :: h.ab; simp [q1], fun j' hj' => let ⟨es, hes⟩ := q2 j' hj'; ⟨es, hget hes⟩⟩
  · obtain ⟨o2, ho2⟩ := Option.isSome_iff_exists.1 hj'
    rcases hg hj with ⟨rfl, e⟩ | ⟨h2, h3⟩
    · rw [hFself] at hb
      obtain ⟨f1, f2, f3⟩ := hF b hb
      rcases hg ho2 with ⟨rfl, _⟩ | ⟨e2, g2⟩
      · rw [hself] at h1; cases h1; exact f2 rfl
      · rw [hold e2] at h1; have := hlt g2 h1; omega
    · rw [hFold h2] at hb
      rcases hg ho2 with ⟨rfl, _⟩ | ⟨e2, g2⟩
      · rw [hself] at h1; cases h1
        have := hFlt h3 hb; omega
      · rw [hold e2] at h1
        exact hr.sepN j k1 p1 d1 h3 b hb j' (by simp [g2]) m' h1
  · rcases hg hi with ⟨rfl, e⟩ | ⟨h2, h3⟩
    · rcases hg hj with ⟨rfl, _⟩ | ⟨e2, g2⟩
      · exact absurd rfl hne'
      · rw [hFself] at hb; rw [hFold e2]
        intro hb'
        have := hFlt g2 hb'
        have := (hF b hb).1
        omega
    · rw [hFold h2] at hb
      rcases hg hj with ⟨rfl, _⟩ | ⟨e2, g2⟩
      · rw [hFself]
        intro hb'
        have := hFlt h3 hb
        have := (hF b hb').1
        omega
      · rw [hFold e2]
        exact hr.sepF i j k1 p1 d1 k2 p2 d2 hne' h3 g2 b hb
  · obtain ⟨h1, h2⟩ := hr.ro b ob' hb
    have hb' := (Array.getElem?_eq_some_iff.1 h1).1
    refine ⟨by rw [hkeep b hb']; exact h1, fun hs => ?_⟩
    rcases horig b hs with h3 | h3
    · omega
    · exact h2 h3

end Go.Eng
