/- The engine, part 24: how a law uses it. -/
import Derived.Test.YtbohihkmakpbbaaGreatE23
import Derived.Below
namespace Go.Eng
open Go.RowKit
variable {σ : Interp}

/- No name is given; nothing is known of the memory. -/
def nada (σ : Interp) : Ren σ := ⟨fun _ => none, fun _ _ => False⟩
def hp0 : Hp := ⟨.leaf, 1, []⟩

theorem hp0_get (i : Nat) : hp0.get i = none := Tr.get_leaf i

theorem hp0_spk {r : Ren σ} {c : Nat} (hs : Spk r hp0 c) : False := by
  rcases hs with ⟨i, m, hi, _⟩ | ⟨i, k, p, d, hi, _⟩
  · rw [hp0_get] at hi; cases hi
  · rw [hp0_get] at hi; cases hi

theorem nada_rel (w : World) (hro : ∀ c o, σ.ro c = some o → w.heap[c]? = some o := by intro c o h; cases h) : Rel (nada σ) hp0 w :=
  ⟨fun i x h => by simp [nada] at h, fun i o h => (by rw [hp0_get] at h; cases h), fun i j c m m' h => (by rw [hp0_get] at h; cases h), fun i k p d h => (by rw [hp0_get] at h; cases h), fun i k p d h => (by rw [hp0_get] at h; cases h),
    fun i k p d h => (by rw [hp0_get] at h; cases h), fun i j k p d k' p' d' _ h => (by rw [hp0_get] at h; cases h), fun c o hc => ⟨hro c o hc, hp0_spk⟩⟩

theorem below_of {r r' : Ren σ} {h' : Hp} {w w' : World} (ha : Adv r hp0 w r' h' w') : Below w.heap.size w w' where
  os := congrArg Prod.fst ha.os
  tape := congrArg Prod.snd ha.os
  output := ha.output
  size := ha.size
  block := fun k hk => ha.keep k hk hp0_spk

def yes : Option (End × Hp) → Bool
  | some (.ret (.bool true), _) => true
  | _ => false

theorem yes_of {x : Option (End × Hp)} (h : yes x = true) : ∃ h', x = some (.ret (.bool true), h') := by
  unfold yes at h
  split at h
  · exact ⟨_, rfl⟩
  · cases h

/- A run that is told from nothing and answers true. -/
theorem ev_yes {E : Env} (hE : EnvOk E σ) {fuel : Nat} {f : FuncId} {args : List Value} (he : yes ((ev E fuel).call f args hp0) = true) {args' : List Value} (hargs : VRels (nada σ) args args') (w : World) (hro : ∀ c o, σ.ro c = some o → w.heap[c]? = some o := by intro c o h; cases h) :
    Calls E.P f ⟨args'⟩ w fun e w' => e = .returned (.bool true) ∧ Below w.heap.size w w' := by
  obtain ⟨h', he⟩ := yes_of he
  refine (ev_sound hE he hargs (nada_rel w hro)).mono fun e w' ⟨r', ha, hend⟩ => ⟨?_, below_of ha⟩
  cases e with
  | returned v => cases hend; rfl
  | panicked ch => exact hend.elim
  | outgrown => exact hend.elim

/- Facts on the length of a list that is not known. -/
theorem len_fact {P : Program} {o : Oper} {t el : TypeId} {x : Array Operand} (ho : o.op = .call ⟨.builtin .len, x, #[t]⟩) (hu : P.underlying t = some (.slice el)) {ρ : Operand → Value} {a : Option Addr} {n k : Nat}
    (hx : x.toList.map ρ = [.slice a n k]) (w : World) : (execOp ρ o).run P w = .ok (.value (.int .i64 n)) w := by
  obtain ⟨dst, op, type, pos, after, guard⟩ := o
  simp only at ho
  subst ho
  obtain ⟨x⟩ := x
  cases x with
  | nil => cases hx
  | cons y l =>
    cases l with
    | cons z l => simp at hx
    | nil =>
      simp only [List.map_cons, List.map_nil, List.cons.injEq, and_true] at hx
      simp [execOp, resolve, invoke, builtin, hx, Builtin.len_, run_underlying hu, goInt]

end Go.Eng
