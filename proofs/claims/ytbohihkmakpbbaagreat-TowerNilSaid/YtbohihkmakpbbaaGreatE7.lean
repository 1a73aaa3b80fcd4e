/- The engine, part 7: append, copy, lengths, strings and bytes, comparisons with nil, assertions. -/
import Derived.Test.YtbohihkmakpbbaaGreatE6
namespace Go.Eng
variable {σ : Interp}

/- What a second argument of append or copy yields. -/
def srcOf (h : Hp) (s : Nat) (str : Bool) : Value → Option (Nat × List Value)
  | .slice none 0 _ => if str then none else some (0, [])
  | .slice (some ⟨i, o, none⟩) n _ =>
    if str then none
    else if n = 0 then some (0, [])
    else if o = slack then none
    else
      match h.get i with
      | some (.cells c _) => if o + n * s ≤ c.length ∧ ((c.drop o).take (n * s)).all (·.oneCell') = true then some (n, (c.drop o).take (n * s)) else none
      | _ => none
  | .string b => if str ∧ s = 1 then some (b.size, byteCells b) else none
  | _ => none

theorem byteCells_rel (r : Ren σ) (b : ByteArray) : VRels r (byteCells b) (byteCells b) := by
  unfold byteCells
  generalize b.data.toList = l
  induction l with
  | nil => exact .nil
  | cons x l ih => exact .cons (.int _ _) ih

theorem run_firstCells_zero {P : Program} (w : World) (size : Nat) (a : Option Addr) (k : Nat) : (Builtin.firstCells size 0 (.slice a 0 k)).run P w = .ok #[] w := by
  cases a with
  | none => rfl
  | some a => simp [Builtin.firstCells, loadCells, loadCellsFrom]

theorem srcOf_ok {E : Env} {h : Hp} {s : Nat} {tx e' : TypeId} {str : Bool} {x : Value} {n : Nat} {news : List Value} (hs : srcOf h s str x = some (n, news))
    (hk : if str = true then E.P.underlying tx = some .string else E.P.underlying tx = some (.slice e')) {r : Ren σ} {w : World} (hr : Rel r h w) {x' : Value} (hx : VRel r x x') :
    ∃ news', Src E.P s tx x' n news' w ∧ VRels r news news' := by
  cases x with
  | slice ad len cap =>
    have hk' : str = false → E.P.underlying tx = some (.slice e') := fun e => by rw [e] at hk; exact hk
    have zero : ∀ ad' k', (x' = .slice ad' 0 k') → str = false → n = 0 → news = [] → ∃ news', Src E.P s tx x' n news' w ∧ VRels r news news' := by
      intro ad' k' hx0 hst hn hnews
      subst hx0 hn hnews
      exact ⟨[], ⟨.inl ⟨e', hk' hst⟩, fun _ => rfl, run_firstCells_zero w s ad' k', run_firstCells_zero w.drew s ad' k', by simp, fun _ h => by cases h⟩, .nil⟩
    cases ad with
    | none =>
      cases len with
      | zero =>
        simp only [srcOf] at hs
        split at hs
        · cases hs
        · rename_i hst
          cases hs
          cases hx
          exact zero none cap rfl (by simpa using hst) rfl rfl
      | succ len => simp [srcOf] at hs
    | some ad =>
      obtain ⟨i, o, sp⟩ := ad
      cases sp with
      | some sp => simp [srcOf] at hs
      | none =>
        simp only [srcOf] at hs
        split at hs
        · cases hs
        · rename_i hst
          have hst' : str = false := by simpa using hst
          split at hs
          · rename_i hn0
            cases hs
            subst hn0
            cases hx with
            | slice hri hk => exact zero _ _ rfl hst' rfl rfl
            | sliceSlack hri hnk ho => exact zero _ _ rfl hst' rfl rfl
            | sliceAmb a hk => exact zero _ _ rfl hst' rfl rfl
          · rename_i hn0
            split at hs
            · cases hs
            · rename_i ho
              split at hs
              · rename_i c sl hi
                split at hs
                · rename_i hc
                  obtain ⟨hc1, hc2⟩ := hc
                  cases hs
                  have main : ∀ b m k', r i = some (b, m) → x' = .slice (some ⟨b, o, none⟩) n k' → ∃ news', Src E.P s tx x' n news' w ∧ VRels r ((c.drop o).take (n * s)) news' := by
                    intro b m k' hri hx0
                    subst hx0
                    obtain ⟨cs, e1, e2, e3⟩ := hr.range hi hri o (n * s) hc1
                    refine ⟨cs, Src.ofSlice w (hk' hst') ⟨b, o, none⟩ n k' cs e2 (fun j u hj => ?_) (e3.one hc2), e3⟩
                    rw [addr_add]; exact e1 j u hj
                  cases hx with
                  | slice hri hk => exact main _ _ _ hri rfl
                  | sliceSlack hri hnk ho => exact main _ _ _ hri rfl
                  | sliceAmb a hk => exact absurd rfl ho
                · cases hs
              · cases hs
  | string b =>
    simp only [srcOf] at hs
    split at hs
    · rename_i hc
      obtain ⟨hc1, hc2⟩ := hc
      cases hs
      cases hx
      rw [hc1] at hk
      subst hc2
      exact ⟨byteCells b, Src.ofString w (by simpa using hk) b, byteCells_rel r b⟩
    · cases hs
  | _ => simp [srcOf] at hs

def isStr (E : Env) (t : TypeId) : Option Bool :=
  match E.und t with
  | some .string => some true
  | some (.slice _) => some false
  | _ => none

theorem isStr_ok {E : Env} (hE : EnvOk E σ) {t : TypeId} {b : Bool} (h : isStr E t = some b) : ∃ e', if b = true then E.P.underlying t = some .string else E.P.underlying t = some (.slice e') := by
  unfold isStr at h
  split at h
  · rename_i hu; cases h; exact ⟨0, by simpa using Env.und_ok hE hu⟩
  · rename_i e hu; cases h; exact ⟨e, by simpa using Env.und_ok hE hu⟩
  · cases h

def opAppend (E : Env) (tm : Tr Value) (h : Hp) (t tx : TypeId) (x y : Operand) : Option (Value × Hp) :=
  match opv tm x, opv tm y, E.und t, isStr E tx with
  | some (.slice base len cap), some yv, some (.slice el), some str =>
    match E.ts.get el, E.zero el with
    | some i, some z0 =>
      match srcOf h i.size str yv with
      | some (n, news) =>
        if n = 0 ∧ (len ≤ cap) then some (.slice base len cap, h)
        else if 2 * (len + n) * i.bytes ≤ 281474976710656 ∧ len + n ≤ 1000000000 ∧ z0.length = i.size then
          if cap ≠ slack ∧ len + n ≤ cap then
            match base with
            | some ⟨b, o, none⟩ =>
              match h.get b with
              | some (.cells c sl) => if o + (len + n) * i.size ≤ c.length ∧ o ≠ slack then some (.slice base (len + n) cap, h.put b (.cells (setsAt c (o + len * i.size) news) sl)) else none
              | _ => none
            | _ => none
          else if cap ≠ slack then
            match base with
            | none => if len = 0 then some (.slice (some ⟨h.nx, 0, none⟩) n slack, h.new (.cells news (some i.size))) else none
            | some ⟨b, o, none⟩ =>
              if len = 0 then some (.slice (some ⟨h.nx, 0, none⟩) n slack, h.new (.cells news (some i.size)))
              else if o = slack then none
              else
                match h.get b with
                | some (.cells c _) => if o + len * i.size ≤ c.length then some (.slice (some ⟨h.nx, 0, none⟩) (len + n) slack, h.new (.cells ((c.drop o).take (len * i.size) ++ news) (some i.size))) else none
                | _ => none
            | _ => none
          else
            match base with
            | some ⟨b, 0, none⟩ =>
              match h.get b with
              | some (.cells c (some s)) =>
                if s = i.size ∧ c.length = len * i.size then some (.slice (some ⟨h.nx, 0, none⟩) (len + n) slack, (h.kill b).new (.cells (c ++ news) (some i.size))) else none
              | _ => none
            | _ => none
        else none
      | none => none
    | _, _ => none
  | _, _, _, _ => none

theorem le_grownCap (w : World) (need old : Nat) (e : TypeId) : need ≤ grownCap w need old e := by
  simp only [grownCap, Question.cut]; omega

theorem zeroCells_size (z : Array Value) (n : Nat) : (Builtin.zeroCells z n).size = n * z.size := by simp [Builtin.zeroCells]

theorem drew_heap (w : World) : w.drew.heap = w.heap := rfl

/- A row that has grown: a new block. -/
theorem Adv.grown {r : Ren σ} {h : Hp} {w : World} (hr : Rel r h w) {l news' : List Value} {cells : List Value} (dead : Option Nat) (hd : ∀ j, dead = some j → ∃ c sl, h.get j = some (.cells c sl))
    (hc : VRels r cells (l ++ news')) {el : TypeId} {z : Array Value} {s need cap : Nat} (hz : z.size = s) (hlen : (l ++ news').length = need * s) (hcap : need ≤ cap) :
    ∃ r', Adv r h w r' ((match dead with | some j => h.kill j | none => h).new (.cells cells (some s))) (w.drew.alloc (.cells ((l ++ news').toArray ++ Builtin.zeroCells z (cap - need)) el)) ∧
      r' h.nx = some (w.heap.size, cap) := by
  have hsz : ((l ++ news').toArray ++ Builtin.zeroCells z (cap - need)).size = cap * s := by
    rw [Array.size_append, zeroCells_size, List.size_toArray, hlen, hz, Nat.sub_mul]
    have := Nat.mul_le_mul_right s hcap
    omega
  have hrel : ObjRel (r.add h.nx (w.heap.size, cap)) cap (.cells cells (some s)) (.cells ((l ++ news').toArray ++ Builtin.zeroCells z (cap - need)) el (0, 0)) := by
    refine ⟨?_, .inl rfl, fun es he => by cases he; exact hsz⟩
    intro j u hj
    obtain ⟨u', h1, h2⟩ := (VRels.mono (Ren.le_add hr.nx_none) hc).get hj
    refine ⟨u', ?_, h2⟩
    have hlt := (List.getElem?_eq_some_iff.1 h1).1
    rw [Array.getElem?_append_left (by simpa using hlt)]
    simpa using h1
  refine ⟨r.add h.nx (w.heap.size, cap), ?_, by simp [Ren.add]⟩
  have key := Adv.name (w' := w.drew.alloc (.cells ((l ++ news').toArray ++ Builtin.zeroCells z (cap - need)) el)) hr (.cells cells (some s)) w.heap.size cap none (obj := _) (by simp [World.alloc, drew_heap]) hrel
    (fun d hd' hne => by simp [World.alloc, drew_heap, Array.getElem?_push, hne]) (by simp [World.alloc, drew_heap]) (.inl (Nat.le_refl _)) rfl rfl
  cases dead with
  | none => exact key
  | some j =>
    obtain ⟨oj, hj⟩ : ∃ oj, h.get j = some oj := let ⟨c, sl, h1⟩ := hd j rfl; ⟨_, h1⟩
    -- a name may die at any time
    have hne : h.nx ≠ j := fun e => by have := hr.bound hj; omega
    have hl : (h.new (.cells cells (some s))).loose j := by
      refine key.rel.loose_not (o := oj) (by rw [Hp.get_new, if_neg hne]; exact hj) (fun es e => ?_)
      obtain ⟨c, sl, hc⟩ := hd j rfl
      rw [hj] at hc
      cases hc
      cases e
    have hs : ((h.new (.cells cells (some s))).kill j).same ((h.kill j).new (.cells cells (some s))) := by
      refine ⟨fun i => ?_, rfl, rfl⟩
      rw [Hp.get_new, Hp.get_kill, Hp.get_kill, Hp.get_new]
      show (if h.nx = i then _ else _) = _
      by_cases e : h.nx = i
      · rw [if_pos e, if_neg (fun e' => hne (by omega)), if_pos e]
      · rw [if_neg e, if_neg e]
    exact Adv.same hs (key.kill hl)

end Go.Eng
