/- The engine, part 15: what only reads; what is the same. -/
import Derived.Test.YtbohihkmakpbbaaGreatE14
namespace Go.Eng
variable {σ : Interp}

/- What only reads leaves the memory as it is; what does not look into it hangs on nothing there. -/
theorem kdr_same0 {E : Env} {rec : Rec} {rd : Option Nat} {tm : Tr Value} {h h1 : Hp} {o : Oper} {v : Value} (hk : kd E o = .r) (he : evOp0 E rec rd tm h o = some (.val v h1)) : h1 = h := by
  obtain ⟨dst, op, type, pos, after, guard⟩ := o
  have lem : ∀ {α : Type} {x : Option α} {f : α → Value × Hp}, (∀ y, (f y).2 = h) → (x.map f).map (fun (p : Value × Hp) => OpOut.val p.1 p.2) = some (.val v h1) → h1 = h := by
    intro α x f hf hm
    cases x with
    | none => simp at hm
    | some y => simp at hm; rw [← hm.2]; exact hf y
  have lemO : ∀ {x : Option Value} {q : Option (Value × Hp)}, (∀ p, q = some p → p.2 = h) → ((match x with | some u => some (u, h) | none => q).map (fun (p : Value × Hp) => OpOut.val p.1 p.2)) = some (.val v h1) → h1 = h := by
    intro x q hq hm
    cases x with
    | none =>
      simp only [Option.map_eq_some_iff] at hm
      obtain ⟨p, hp, e⟩ := hm
      simp at e
      rw [← e.2]; exact hq p hp
    | some u => simp at hm; exact hm.2.symm
  have lemM : ∀ {x : Option Value} (p : Value × Hp), x.map (·, h) = some p → p.2 = h := by
    intro x p hp
    cases x with
    | none => simp at hp
    | some u => simp at hp; rw [← hp]
  cases op <;> simp only [evOp0, opMem] at he <;> (try (simp [kd] at hk; done))
  case move x => exact lem (fun _ => rfl) he
  case assign x => exact lem (fun _ => rfl) he
  case pick c x y =>
    split at he
    · exact lem (fun _ => rfl) he
    · simp at he
  case build t parts => exact lem (fun _ => rfl) he
  case load t x => exact lem (fun _ => rfl) he
  case nilCheck x => split at he <;> simp at he <;> exact he.2.symm
  case binOp op t x y yt => exact lemO (fun p hp => lemM p hp) he
  case unOp op t x => exact lem (fun _ => rfl) he
  case convert s d x =>
    refine lemO (fun p hp => ?_) he
    unfold opConv at hp
    split at hp
    · split at hp
      · split at hp
        · simp at hp; rw [← hp]
        · split at hp
          · cases hp
          · split at hp
            · split at hp
              · split at hp
                · simp at hp; rw [← hp]
                · cases hp
              · cases hp
            · cases hp
      · cases hp
    · rename_i el _ _ hd
      simp [kd, hd] at hk
    · rename_i hd
      simp [kd, hd] at hk
    · cases hp
  case makeInterface t x =>
    split at he
    · split at he
      · simp at he; exact he.2.symm
      · simp at he
    · simp at he
  case makeFunc fn p q =>
    cases fn <;> simp only [] at he <;> try (simp at he; done)
    split at he
    · simp at he; exact he.2.symm
    · simp at he
  case slice t x lo hi mx => exact lemO (fun p hp => lemM p hp) he
  case fieldAddr s x f => exact lem (fun _ => rfl) he
  case field t x f => exact lem (fun _ => rfl) he
  case indexAddr t x y => exact lem (fun _ => rfl) he
  case index t x y => exact lemO (fun p hp => lemM p hp) he
  case lookup t x y ok => exact lem (fun _ => rfl) he
  case typeAssert x xT t ok => exact lemO (fun p hp => lemM p hp) he
  case extract x i =>
    split at he
    · exact lem (fun _ => rfl) he
    · simp at he
  case call c =>
    obtain ⟨callee, args, argTypes⟩ := c
    cases callee with
    | builtin b =>
      simp only [Option.map_eq_some_iff] at he
      obtain ⟨p, hp, e⟩ := he
      simp at e
      rw [← e.2]
      cases b <;> simp only [opBuiltin] at hp <;> try (cases hp; done)
      · simp [kd] at hk
      · simp [kd] at hk
      · simp [kd] at hk
      · split at hp
        · split at hp
          · simp at hp; rw [← hp]
          · exact lemM p hp
        · cases hp
      · exact lemM p hp
      · exact lemM p hp
    | _ => simp [kd] at hk

theorem kdr_blind0 {E : Env} {rec : Rec} {rd : Option Nat} {tm : Tr Value} {h h1 : Hp} {o : Oper} {v : Value} (hk : kd E o = .r) (hl : looksIn o = false) (he : evOp0 E rec rd tm h o = some (.val v h1)) (h' : Hp) :
    evOp0 E rec rd tm h' o = some (.val v h') := by
  obtain ⟨dst, op, type, pos, after, guard⟩ := o
  have lem : ∀ {x : Option Value}, (x.map (·, h)).map (fun (p : Value × Hp) => OpOut.val p.1 p.2) = some (.val v h1) → (x.map (·, h')).map (fun (p : Value × Hp) => OpOut.val p.1 p.2) = some (.val v h') := by
    intro x hm
    cases x with
    | none => simp at hm
    | some y => simp at hm ⊢; exact hm.1
  have lemO : ∀ {x y : Option Value}, ((match x with | some u => some (u, h) | none => y.map (·, h)).map (fun (p : Value × Hp) => OpOut.val p.1 p.2)) = some (.val v h1) →
      ((match x with | some u => some (u, h') | none => y.map (·, h')).map (fun (p : Value × Hp) => OpOut.val p.1 p.2)) = some (.val v h') := by
    intro x y hm
    cases x with
    | none => exact lem hm
    | some u => simp at hm ⊢; exact hm.1
  cases op <;> simp only [evOp0, opMem] at he ⊢ <;> (try (simp [kd] at hk; done)) <;> (try (simp [looksIn] at hl; done))
  case move x => exact lem he
  case assign x => exact lem he
  case pick c x y =>
    split at he
    · exact lem he
    · simp at he
  case build t parts => exact lem he
  case nilCheck x => split at he <;> simp at he ⊢ <;> exact he.1
  case binOp op t x y yt => exact lemO he
  case unOp op t x => exact lem he
  case makeInterface t x =>
    split at he
    · split at he
      · rename_i hn; rw [if_pos hn]; simp at he ⊢; exact he.1
      · simp at he
    · simp at he
  case makeFunc fn p q =>
    cases fn <;> simp only [] at he ⊢ <;> try (simp at he; done)
    split at he
    · simp at he ⊢; exact he.1
    · simp at he
  case slice t x lo hi mx => exact lemO he
  case fieldAddr s x f => exact lem he
  case field t x f => exact lem he
  case indexAddr t x y => exact lem he
  case index t x y => exact lemO he
  case typeAssert x xT t ok => exact lemO he
  case extract x i =>
    split at he
    · exact lem he
    · simp at he

theorem kdr_same {E : Env} {rec : Rec} {rd : Option Nat} {tm : Tr Value} {h h1 : Hp} {o : Oper} {v : Value} (hk : kd E o = .r) (he : evOp E rec rd tm h o = some (.val v h1)) : h1 = h := by
  unfold evOp at he
  split at he
  · rename_i x hx
    cases he
    exact kdr_same0 hk hx
  · split at he
    · cases he; rfl
    · unfold hookOp at he
      split at he
      · cases he
      · rw [if_pos hk] at he
        split at he
        · rw [Option.map_eq_some_iff] at he
          obtain ⟨u, _, h2⟩ := he
          cases h2; rfl
        · cases he
      · cases he

/- What only reads panics in no run that is told. -/
theorem kdr_val {E : Env} {rec : Rec} {rd : Option Nat} {tm : Tr Value} {h : Hp} {o : Oper} {out : OpOut} (hk : kd E o = .r) (he : evOp0 E rec rd tm h o = some out) : ∃ v h1, out = .val v h1 := by
  obtain ⟨dst, op, type, pos, after, guard⟩ := o
  have lem : ∀ {x : Option (Value × Hp)}, x.map (fun (p : Value × Hp) => OpOut.val p.1 p.2) = some out → ∃ v h1, out = .val v h1 := by
    intro x hx
    rw [Option.map_eq_some_iff] at hx
    obtain ⟨p, _, e⟩ := hx
    exact ⟨_, _, e.symm⟩
  cases op <;> (try (simp [kd] at hk; done)) <;> (try (simp only [evOp0] at he; exact lem he))
  case call c =>
    obtain ⟨callee, args, argTypes⟩ := c
    cases callee with
    | builtin b => simp only [evOp0] at he; exact lem he
    | _ => simp [kd] at hk

theorem kdr_blind {E : Env} {rec : Rec} {rd : Option Nat} {tm : Tr Value} {h h1 : Hp} {o : Oper} {v : Value} (hk : kd E o = .r) (hl : looksIn o = false) (he : evOp E rec rd tm h o = some (.val v h1)) (h' : Hp) :
    evOp E rec rd tm h' o = some (.val v h') := by
  unfold evOp at he ⊢
  split at he
  · rename_i x hx
    cases he
    rw [kdr_blind0 hk hl hx h']
  · rename_i hn
    cases hx : evOp0 E rec rd tm h' o with
    | some out =>
      obtain ⟨u, h2, e⟩ := kdr_val hk hx
      subst e
      rw [kdr_blind0 hk hl hx h] at hn
      cases hn
    | none =>
      simp only [] at he ⊢
      split at he
      · rename_i u h2
        cases he
        rfl
      · unfold hookOp at he
        split at he
        · cases he
        · rw [if_pos hk, if_neg (by rw [hl]; simp)] at he
          cases he
        · cases he

end Go.Eng
