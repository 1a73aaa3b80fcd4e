/- The engine, part 10, continued: ranging over a map, on the small side. -/
import Derived.Test.YtbohihkmakpbbaaGreatE10J
namespace Go.Eng
variable {σ : Interp}

def pairV (p : Value × Value) : Value := .tuple ⟨[p.1, p.2]⟩

theorem pairsOf_map : ∀ (es : List (Value × Value)), pairsOf (es.map pairV) = some es := by
  intro es
  induction es with
  | nil => rfl
  | cons p es ih => simp only [List.map_cons, pairV, pairsOf, ih]; rfl

theorem pairsOf_eq : ∀ {ls : List Value} {es : List (Value × Value)}, pairsOf ls = some es → ls = es.map pairV := by
  intro ls
  induction ls with
  | nil => intro es h; cases h; rfl
  | cons v ls ih =>
    intro es h
    unfold pairsOf at h
    split at h
    · cases h
      contradiction
    · rename_i hv
      cases hv
      rw [Option.map_eq_some_iff] at h
      obtain ⟨es', h1, h2⟩ := h
      subst h2
      rw [List.map_cons, ← ih h1]; rfl
    · cases h

def opRange (E : Env) (tm : Tr Value) (h : Hp) (t : TypeId) (x : Operand) : Option (Value × Hp) :=
  match opv tm x, E.und t with
  | some (.map (some m)), some (.map _ _) =>
    match h.get m with
    | some (.map es) => some (ptr h.nx 0, h.newAbs (.abs 0 [m] (.nilFunc :: es.map pairV)))
    | _ => none
  | _, _ => none

def iterOf (tm : Tr Value) (h : Hp) (x : Operand) : Option (Nat × Nat × List Value) :=
  match opv tm x with
  | some (.pointer (some ⟨i, 0, none⟩)) =>
    match h.get i with
    | some (.abs 0 [m] (_ :: ls)) => some (i, m, ls)
    | _ => none
  | _ => none

def nextAt (h : Hp) (i m : Nat) (ls : List Value) (k : Nat) : Option (Value × Hp) :=
  match ls[k]? with
  | some (.tuple ⟨[a, b]⟩) => some (.tuple ⟨[.bool true, a, b]⟩, h.put i (.abs 0 [m] (.tuple ⟨[a, b]⟩ :: ls.eraseIdx k)))
  | _ => none

def opNext (tm : Tr Value) (h : Hp) (x : Operand) : Option (Value × Hp) :=
  match iterOf tm h x with
  | some (_, _, []) => some (.tuple ⟨[.bool false]⟩, h)
  | some (i, m, [v]) => nextAt h i m [v] 0
  | _ => none

def opEntry (tm : Tr Value) (h : Hp) (x : Operand) : Option Value :=
  match opv tm x with
  | some (.pointer (some ⟨i, 0, none⟩)) =>
    match h.get i with
    | some (.abs 0 [_] (.tuple ⟨[a, b]⟩ :: _)) => some (.tuple ⟨[a, b]⟩)
    | _ => none
  | _ => none

theorem VRel.bare {r : Ren σ} {a c : Value} (h : VRel r a c) : VRel (⟨r.f, fun _ _ => False⟩ : Ren σ) a c := VRel.mono (r := r) (s := ⟨r.f, fun _ _ => False⟩) (fun _ _ h => h) h
theorem VRel.full {r : Ren σ} {a c : Value} (h : VRel (⟨r.f, fun _ _ => False⟩ : Ren σ) a c) : VRel r a c := VRel.mono (r := ⟨r.f, fun _ _ => False⟩) (s := r) (fun _ _ h => h) h

theorem opRange_ok {E : Env} (hE : EnvOk E σ) {tm : Tr Value} {h h' : Hp} {t : TypeId} {x : Operand} {v : Value} (he : opRange E tm h t x = some (v, h')) {r : Ren σ} {w : World} {a : Act} (ht : TmRel r tm a.tmps) (hr : Rel r h w) :
    ∃ r' v' w', (Instr.range t (a.eval x)).run E.P w = .ok v' w' ∧ Adv r h w r' h' w' ∧ VRel r' v v' := by
  unfold opRange at he
  split at he
  · rename_i m kt et hx hu
    have hv := opv_ok ht hx
    generalize a.eval x = p at hv ⊢
    split at he
    · rename_i es hm
      cases he
      cases hv with
      | @map _ b mm hri =>
        obtain ⟨ms, k, hb, hmr, hstp⟩ := hr.map hm hri
        obtain ⟨ps, q1, q2⟩ := hmr
        have hlt : b < w.heap.size := (Array.getElem?_eq_some_iff.1 hb).1
        have hle : (r : Ren σ).le ⟨(r.addF h.nx (w.heap.size, 0) (fun _ => False)).f, fun _ _ => False⟩ := fun i y hy => by
          show (if i = h.nx then _ else r i) = _
          rw [if_neg (fun e => by subst e; rw [hr.nx_none] at hy; cases hy)]; exact hy
        refine ⟨r.addF h.nx (w.heap.size, 0) (fun _ => False), .pointer (some ⟨w.heap.size, 0, none⟩), { w with heap := w.heap.push (.mapIter (some b) k #[] k) }, ?_, ?_, .ptr (m := 0) (if_pos rfl)⟩
        · simp only [Instr.range, Sem.run_bind, run_underlying (Env.und_ok hE hu), Result.andThen_ok, getObj, Sem.run, hb]
          simp [newObj, Sem.run, Result.andThen]
        · refine Adv.newAbs hr 0 [m] _ w.heap.size 0 _ (ob := .mapIter (some b) k #[] k) (by simp) (by simp) (fun c hc => by simp [Array.getElem?_push, Nat.ne_of_lt hc]) (Nat.le_refl _) (fun b hb => hb.elim)
            (fun j hj => by simp at hj; subst hj; exact ⟨es, hm⟩) ?_ rfl rfl
          unfold ownA
          rw [if_pos rfl]
          refine ⟨m, .nilFunc, es.map pairV, es, b, mm, k, #[], k, ms, k, rfl, rfl, pairsOf_map es, hle _ _ hri, by simp, by simp [Array.getElem?_push, Nat.ne_of_lt hlt, hb], by omega, hstp.1, Nat.le_refl _, Nat.le_refl _, hstp.2, ⟨ps, ?_, q2.mono hle⟩, fun hc => absurd rfl hc⟩
          unfold leftOf
          rw [List.filter_eq_self.2 (fun e _ => by simp)]
          exact q1
    · cases he
  · cases he

theorem PRels.split {r : Ren σ} : ∀ {as c1 c2 : List (Value × Value)} {k v : Value}, PRels r as (c1 ++ (k, v) :: c2) → ∃ a1 u a2 n, as = a1 ++ (k, u) :: a2 ∧ a1.length = c1.length ∧ gnd n k = true ∧ VRel r u v ∧ PRels r (a1 ++ a2) (c1 ++ c2) := by
  intro as c1
  induction c1 generalizing as with
  | nil =>
    intro c2 k v h
    cases h with
    | @cons _ u _ n as' _ h1 h2 h3 => exact ⟨[], u, as', n, rfl, rfl, h1, h2, h3⟩
  | cons c c1 ih =>
    intro c2 k v h
    cases h with
    | @cons k0 u0 v0 n0 as' _ h1 h2 h3 =>
      obtain ⟨a1, u, a2, n, e1, e2, e3, e4, e5⟩ := ih h3
      exact ⟨(k0, u0) :: a1, u, a2, n, by rw [e1]; rfl, by simp [e2], e3, e4, .cons h1 h2 e5⟩

/- A step, whichever entry it takes. -/
theorem next_ok {P : Program} {tm : Tr Value} {h : Hp} {x : Operand} {i m : Nat} {ls : List Value} (hi : iterOf tm h x = some (i, m, ls)) {r : Ren σ} {w : World} {a : Act} (ht : TmRel r tm a.tmps) (hr : Rel r h w) (t : TypeId) :
    (ls = [] → (Instr.next (a.eval x) false t).run P w = .ok (.tuple ⟨[.bool false]⟩) w) ∧
    (ls ≠ [] → ∃ k v h' v' w', k < ls.length ∧ nextAt h i m ls k = some (v, h') ∧ (Instr.next (a.eval x) false t).run P w = .ok v' w' ∧ Adv r h w r h' w' ∧ VRel r v v') := by
  unfold iterOf at hi
  split at hi
  · rename_i i0 hx
    have hv := opv_ok ht hx
    generalize a.eval x = p at hv ⊢
    split at hi
    · rename_i m0 cur ls0 hg
      cases hi
      cases hv with
      | @ptr _ _ c mc hri =>
        obtain ⟨c', mc', h1, h2, h3⟩ := hr.abs _ _ _ _ hg
        rw [hri] at h1
        cases h1
        unfold ownA at h2
        rw [if_pos rfl] at h2
        obtain ⟨m', cur', ls', lefts, cm, mm, since, seen, stepped, ms, clock, e1, e2, e3, e4⟩ := h2
        cases e1
        cases e2
        obtain ⟨ps, q1, q2⟩ := e4.left
        have hlsl := pairsOf_eq e3
        refine ⟨fun hnil => ?_, fun hne => ?_⟩
        · subst hnil
          have : lefts = [] := by
            cases lefts with
            | nil => rfl
            | cons => simp at hlsl
          subst this
          cases q2
          exact run_next_over e4.it e4.mp e4.old e4.st (List.perm_nil.1 q1.symm) t
        · have hl : leftOf ms seen ≠ [] := by
            intro h0
            rw [h0] at q1
            have hps0 : ps = [] := List.perm_nil.1 q1
            subst hps0
            cases q2
            exact hne hlsl
          obtain ⟨e, w', f1, f2, f3, f4, f5⟩ := run_next_some (P := P) e4.it e4.mp e4.old e4.st hl t
          obtain ⟨la, lb, g1, g2⟩ := filter_nodup e4.nd f1
          have hmem : (e.key, e.val) ∈ ps := by
            refine q1.symm.subset ?_
            unfold leftOf
            rw [g1]; simp
          obtain ⟨p1, p2, hps⟩ := List.append_of_mem hmem
          subst hps
          have hperm : (p1 ++ p2).Perm (leftOf ms (seen.push e.born)) := by
            unfold leftOf at q1 ⊢
            rw [g2]
            rw [g1] at q1
            simp only [List.map_append, List.map_cons] at q1 ⊢
            have a1 : ((e.key, e.val) :: (p1 ++ p2)).Perm (p1 ++ (e.key, e.val) :: p2) := List.perm_middle.symm
            have a2 := (a1.trans q1).trans List.perm_middle
            exact List.Perm.cons_inv a2
          obtain ⟨l1, u, l2, n, hl1, hl2, hl3, hl4, hl5⟩ := q2.split
          subst hl1
          have hk : ls[l1.length]? = some (pairV (e.key, u)) := by
            rw [hlsl]; simp
          have hera : ls.eraseIdx l1.length = (l1 ++ l2).map pairV := by
            rw [hlsl]
            simp only [List.map_append, List.map_cons]
            rw [List.eraseIdx_append_of_length_le (by simp)]
            simp
          have hkey : ∀ r' : Ren σ, VRel r' e.key e.key := fun r' => (gnd_spec r' n _ hl3).2
          have hclt : c < w.heap.size := (Array.getElem?_eq_some_iff.1 e4.it).1
          have hcm : cm ≠ c := fun h => e4.ne h.symm
          have hown : ownA σ 0 r.f [m] (.tuple ⟨[e.key, u]⟩ :: (l1 ++ l2).map pairV) w' c (r.F i) := by
            unfold ownA
            rw [if_pos rfl]
            refine ⟨m, .tuple ⟨[e.key, u]⟩, (l1 ++ l2).map pairV, l1 ++ l2, cm, mm, since, seen.push e.born, clock, ms, clock, rfl, rfl, pairsOf_map _, e4.at_, by rw [f3]; simp [hclt], by rw [f3, Array.getElem?_setIfInBounds_ne (Ne.symm hcm)]; exact e4.mp,
              e4.ne, e4.old, e4.le, e4.le, e4.nd, ⟨p1 ++ p2, hperm, hl5⟩, fun _ => ⟨rfl, e.born, e, by simp, find_born e4.nd (List.mem_filter.1 f1).1, .tuple (.cons (hkey _) (.cons hl4 .nil))⟩⟩
          refine ⟨l1.length, _, _, _, w', ?_, by unfold nextAt; rw [hk]; rfl, f2, ?_, .tuple (.cons (.bool _) (.cons (hkey r) (.cons hl4.full .nil)))⟩
          · rw [hlsl]; simp
          · rw [hera]
            exact Adv.putAbs hr hg hri (by rw [f3]; simp [hclt]; rfl) (fun b hb => by rw [f3, Array.getElem?_setIfInBounds_ne (Ne.symm hb)]) (by rw [f3]; simp) hown f4 f5
    · cases hi
  · cases hi

theorem opNext_ok {P : Program} {tm : Tr Value} {h h' : Hp} {x : Operand} {v : Value} (he : opNext tm h x = some (v, h')) {r : Ren σ} {w : World} {a : Act} (ht : TmRel r tm a.tmps) (hr : Rel r h w) (t : TypeId) :
    ∃ v' w', (Instr.next (a.eval x) false t).run P w = .ok v' w' ∧ Adv r h w r h' w' ∧ VRel r v v' := by
  unfold opNext at he
  split at he
  · rename_i hi
    cases he
    exact ⟨_, w, (next_ok hi ht hr t).1 rfl, .refl hr, .tuple (.cons (.bool _) .nil)⟩
  · rename_i i m u hi
    obtain ⟨k, v1, h1, v', w', g1, g2, g3, g4, g5⟩ := (next_ok (P := P) hi ht hr t).2 (by simp)
    have : k = 0 := by simpa using g1
    subst this
    rw [he] at g2
    cases g2
    exact ⟨v', w', g3, g4, g5⟩
  · cases he

theorem opEntry_ok {P : Program} {tm : Tr Value} {h : Hp} {x : Operand} {v : Value} (he : opEntry tm h x = some v) {r : Ren σ} {w : World} {a : Act} (ht : TmRel r tm a.tmps) (hr : Rel r h w) :
    ∃ v', (Instr.entry (a.eval x)).run P w = .ok v' w ∧ VRel r v v' := by
  unfold opEntry at he
  split at he
  · rename_i i hx
    have hv := opv_ok ht hx
    generalize a.eval x = p at hv ⊢
    split at he
    · rename_i m ka vb ls hg
      cases he
      cases hv with
      | @ptr _ _ c mc hri =>
        obtain ⟨c', mc', h1, h2, h3⟩ := hr.abs _ _ _ _ hg
        rw [hri] at h1
        cases h1
        unfold ownA at h2
        rw [if_pos rfl] at h2
        obtain ⟨m', cur', ls', lefts, cm, mm, since, seen, stepped, ms, clock, e1, e2, e3, e4⟩ := h2
        cases e2
        obtain ⟨rfl, stamp, e, q2, q3, q4⟩ := e4.cur (by intro hc; cases hc)
        refine ⟨.tuple #[e.key, e.val], ?_, q4.full⟩
        simp only [Instr.entry, Sem.run_bind, getObj, Sem.run, e4.it, Result.andThen_ok, q2, e4.mp]
        simp [q3]
    · cases he
  · cases he

end Go.Eng
