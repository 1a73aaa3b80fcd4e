/- The engine, part 27: a state under other names and other values for what is not known. -/
import Derived.Test.YtbohihkmakpbbaaGreatE26
namespace Go.Eng

namespace Tr
variable {α : Type}

def listP (a b : Nat) : Tr α → List (Nat × α)
  | leaf => []
  | node l v r => (match v with | some x => [(b, x)] | none => []) ++ listP (2 * a) (a + b) l ++ listP (2 * a) (2 * a + b) r

theorem mem_listP : ∀ (t : Tr α) (a b : Nat) (p : List Bool) (x : α), t.getP p = some x → (a * unpath p + b, x) ∈ listP a b t := by
  intro t
  induction t with
  | leaf => intro a b p x h; rw [getP_leaf] at h; cases h
  | node l v r ihl ihr =>
    intro a b p x h
    cases p with
    | nil =>
      simp only [getP] at h
      subst h
      simp [listP, unpath]
    | cons q p =>
      cases q with
      | true =>
        have h1 := ihl (2 * a) (a + b) p x h
        simp only [listP, unpath, List.mem_append]
        refine .inl (.inr ?_)
        have : a * (2 * unpath p + 1) + b = 2 * a * unpath p + (a + b) := by
          rw [Nat.mul_add, Nat.mul_one, ← Nat.mul_assoc, Nat.mul_comm a 2]; omega
        rw [this]; exact h1
      | false =>
        have h1 := ihr (2 * a) (2 * a + b) p x h
        simp only [listP, unpath, List.mem_append]
        refine .inr ?_
        have : a * (2 * unpath p + 2) + b = 2 * a * unpath p + (2 * a + b) := by
          rw [Nat.mul_add, ← Nat.mul_assoc, Nat.mul_comm a 2]; omega
        rw [this]; exact h1

def toList (t : Tr α) : List (Nat × α) := listP 1 0 t

theorem mem_toList {t : Tr α} {n : Nat} {x : α} (h : t.get n = some x) : (n, x) ∈ t.toList := by
  have := mem_listP t 1 0 (key n) x h
  rwa [Nat.one_mul, Nat.add_zero, unpath_key] at this

end Tr

/- What a value that is not known is: a number stands for it, or it is known. -/
def tden (σ : Interp) : Value → Value
  | .chan (some t) => σ.val t
  | v => v

def asc (τ : List (Nat × Value)) (t : Nat) : Value := (τ.lookup t).getD (.chan (some t))
def asn (ρ : List (Nat × Nat)) (i : Nat) : Nat := (ρ.lookup i).getD i

/- σ' reads the pattern's values as σ reads what they stand for. -/
structure Sub (τ : List (Nat × Value)) (σ σ' : Interp) : Prop where
  val : ∀ t, σ'.val t = tden σ (asc τ t)
  ro : σ'.ro = σ.ro
  own : ∀ k f f' p p' d d' w c F, p.map f' = p'.map f → d' = d.map (fun v => match v with | .chan (some t) => asc τ t | v => v) → σ.own k f p' d' w c F → σ'.own k f' p d w c F

def mvs (f : Value → Value → Bool) : List Value → List Value → Bool
  | [], [] => true
  | x :: xs, y :: ys => f x y && mvs f xs ys
  | _, _ => false

/- Does a value fit a pattern? -/
def mv (τ : List (Nat × Value)) (ρ : List (Nat × Nat)) (nx : Nat) : Nat → Value → Value → Bool
  | 0, _, _ => false
  | n + 1, p, v =>
    let nm := fun (i j : Nat) => decide (i < nx) && decide (asn ρ i = j)
    match p, v with
    | .chan (some t), .chan (some u) => veq 9 (asc τ t) (.chan (some u))
    | .chan (some t), v => veq 9 (asc τ t) v && gnd 8 v && v.oneCell'
    | .pointer (some ⟨i, o, none⟩), .pointer (some ⟨j, q, none⟩) => nm i j && decide (o = q)
    | .complex .f32 i t, .pointer (some ⟨j, o, none⟩) => nm i j && veq 9 (asc τ t) (.int .i64 o)
    | .complex .f32 i t, .complex .f32 j u => nm i j && veq 9 (asc τ t) (.chan (some u))
    | .slice (some ⟨i, o, none⟩) n k, .slice (some ⟨j, q, none⟩) m l => nm i j && decide (o = q) && decide (n = m) && decide (k = l)
    | .complex .f64 i t, .slice (some ⟨j, o, none⟩) n k => nm i j && decide (o ≠ slack) && decide (k ≠ slack) && veq 9 (asc τ t) (.tuple #[.int .i64 o, .int .i64 n, .int .i64 k])
    | .complex .f64 i t, .complex .f64 j u => nm i j && veq 9 (asc τ t) (.chan (some u))
    | .map (some i), .map (some j) => nm i j
    | .func (.func f) a b, .func (.func g) c d => decide (f = g) && mvs (mv τ ρ nx n) a.toList c.toList && mvs (mv τ ρ nx n) b.toList d.toList
    | .func (.yield i) ⟨[]⟩ ⟨[]⟩, .func (.yield j) ⟨[]⟩ ⟨[]⟩ => nm i j
    | .iface t a, .iface u b => decide (t = u) && mv τ ρ nx n a b
    | .agg a, .agg b => mvs (mv τ ρ nx n) a.toList b.toList
    | .tuple a, .tuple b => mvs (mv τ ρ nx n) a.toList b.toList
    | p, v => veq 9 p v && gnd 8 p

section
variable {σ σ' : Interp} {τ : List (Nat × Value)} {ρ : List (Nat × Nat)} {nx : Nat}

/- The pattern's names. -/
def Ren.back (r : Ren σ) (σ' : Interp) (ρ : List (Nat × Nat)) (nx : Nat) : Ren σ' := ⟨fun i => if i < nx then r (asn ρ i) else none, fun i => r.F (asn ρ i)⟩

theorem back_at {r : Ren σ} {i j : Nat} {x : Nat × Nat} (h : (decide (i < nx) && decide (asn ρ i = j)) = true) (hr : r j = some x) : r.back σ' ρ nx i = some x := by
  rw [Bool.and_eq_true, decide_eq_true_eq, decide_eq_true_eq] at h
  show (if i < nx then r (asn ρ i) else none) = _
  rw [if_pos h.1, h.2, hr]

theorem mvs_ok {f : Value → Value → Bool} {r : Ren σ} {r' : Ren σ'} : ∀ {ps vs : List Value}, mvs f ps vs = true → (∀ p v, p ∈ ps → f p v = true → ∀ y, VRel r v y → VRel r' p y) → ∀ ys, VRels r vs ys → VRels r' ps ys := by
  intro ps
  induction ps with
  | nil =>
    intro vs h _ ys hy
    cases vs with
    | nil => cases hy; exact .nil
    | cons => simp [mvs] at h
  | cons p ps ih =>
    intro vs h hf ys hy
    cases vs with
    | nil => simp [mvs] at h
    | cons v vs =>
      simp only [mvs, Bool.and_eq_true] at h
      cases hy with
      | cons h1 h2 => exact .cons (hf p v (by simp) h.1 _ h1) (ih h.2 (fun q u hq => hf q u (by simp [hq])) _ h2)

theorem mv_ok (hS : Sub τ σ σ') (r : Ren σ) : ∀ (n : Nat) (p v : Value), mv τ ρ nx n p v = true → ∀ y, VRel r v y → VRel (r.back σ' ρ nx) p y := by
  intro n
  induction n with
  | zero => intro p v h; simp [mv] at h
  | succ n ih =>
    intro p v h y hy
    have hls : ∀ {a b : List Value}, mvs (mv τ ρ nx n) a b = true → ∀ ys, VRels r b ys → VRels (r.back σ' ρ nx) a ys := fun h1 ys h2 => mvs_ok h1 (fun q u _ h3 z hz => ih q u h3 z hz) ys h2
    unfold mv at h
    split at h
    · rename_i t u
      have e := veq_ok _ _ _ h
      have hv := hS.val t
      rw [e] at hv
      cases hy with
      | tok _ h1 =>
        have h2 : σ'.val t = σ.val u := hv
        rw [← h2] at h1 ⊢
        exact .tok t h1
    · rename_i t hne
      rw [Bool.and_eq_true, Bool.and_eq_true] at h
      obtain ⟨⟨h1, h2⟩, h3⟩ := h
      have e := veq_ok _ _ _ h1
      have hv := hS.val t
      rw [e] at hv
      have hy' := (gnd_spec r 8 v h2).1 y hy
      subst hy'
      have hd : tden σ y = y := by
        cases y with
        | chan o => cases o with
          | none => rfl
          | some u => exact absurd rfl (hne u)
        | _ => rfl
      rw [hd] at hv
      have : VRel (r.back σ' ρ nx) (.chan (some t)) (σ'.val t) := .tok t (by rw [hv]; exact h3)
      rwa [hv] at this
    · rw [Bool.and_eq_true, decide_eq_true_eq] at h
      obtain ⟨h1, rfl⟩ := h
      cases hy with
      | ptr hi => exact .ptr (back_at h1 hi)
    · rename_i i t j o
      rw [Bool.and_eq_true] at h
      have e := veq_ok _ _ _ h.2
      have hv := hS.val t
      rw [e] at hv
      cases hy with
      | ptr hi => exact .sptr (back_at h.1 hi) hv
    · rename_i i t j u
      rw [Bool.and_eq_true] at h
      have e := veq_ok _ _ _ h.2
      have hv := hS.val t
      rw [e] at hv
      cases hy with
      | sptr hi h1 => exact .sptr (back_at h.1 hi) (hv.trans h1)
    · rw [Bool.and_eq_true, Bool.and_eq_true, Bool.and_eq_true, decide_eq_true_eq, decide_eq_true_eq, decide_eq_true_eq] at h
      obtain ⟨⟨⟨h1, rfl⟩, rfl⟩, rfl⟩ := h
      cases hy with
      | slice hi hk => exact .slice (back_at h1 hi) hk
      | sliceSlack hi hn ho => exact .sliceSlack (back_at h1 hi) hn ho
      | sliceAmb a hk => exact .sliceAmb a hk
    · rename_i i t j o m k
      rw [Bool.and_eq_true, Bool.and_eq_true, Bool.and_eq_true, decide_eq_true_eq, decide_eq_true_eq] at h
      obtain ⟨⟨⟨h1, h2⟩, h3⟩, h4⟩ := h
      have e := veq_ok _ _ _ h4
      have hv := hS.val t
      rw [e] at hv
      cases hy with
      | slice hi hk => exact .sslice (back_at h1 hi) hv
      | sliceSlack hi hn ho => exact absurd rfl h3
      | sliceAmb a hk => exact absurd rfl h2
    · rename_i i t j u
      rw [Bool.and_eq_true] at h
      have e := veq_ok _ _ _ h.2
      have hv := hS.val t
      rw [e] at hv
      cases hy with
      | sslice hi h1 => exact .sslice (back_at h.1 hi) (hv.trans h1)
    · cases hy with
      | map hi => exact .map (back_at h hi)
    · rename_i f a b g c d
      obtain ⟨a⟩ := a; obtain ⟨b⟩ := b; obtain ⟨c⟩ := c; obtain ⟨d⟩ := d
      rw [Bool.and_eq_true, Bool.and_eq_true, decide_eq_true_eq] at h
      obtain ⟨⟨rfl, h2⟩, h3⟩ := h
      cases hy with
      | func _ g1 g2 => exact .func _ (hls h2 _ g1) (hls h3 _ g2)
    · cases hy with
      | yield hi => exact .yield (back_at h hi)
    · rw [Bool.and_eq_true, decide_eq_true_eq] at h
      obtain ⟨rfl, h2⟩ := h
      cases hy with
      | iface _ g1 => exact .iface _ (ih _ _ h2 _ g1)
    · rename_i a b
      obtain ⟨a⟩ := a; obtain ⟨b⟩ := b
      cases hy with
      | agg g1 => exact .agg (hls h _ g1)
    · rename_i a b
      obtain ⟨a⟩ := a; obtain ⟨b⟩ := b
      cases hy with
      | tuple g1 => exact .tuple (hls h _ g1)
    · rw [Bool.and_eq_true] at h
      have e := veq_ok _ _ _ h.1
      subst e
      rw [(gnd_spec r 8 _ h.2).1 y hy]
      exact (gnd_spec _ 8 _ h.2).2

end

end Go.Eng
