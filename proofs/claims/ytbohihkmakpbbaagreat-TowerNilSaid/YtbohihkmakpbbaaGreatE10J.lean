/- The engine, part 10, continued: an iterator's step; what stands there; delete. -/
import Derived.Test.YtbohihkmakpbbaaGreatE10I
namespace Go.Eng
variable {σ : Interp}

theorem filter_nodup {ms : List MapEntry} {seen : Array Nat} {e : MapEntry} (hn : (ms.map (·.born)).Nodup) (he : e ∈ ms.filter fun e => !seen.contains e.born) :
    ∃ a b, (ms.filter fun e => !seen.contains e.born) = a ++ e :: b ∧ (ms.filter fun x => !(seen.push e.born).contains x.born) = a ++ b := by
  induction ms with
  | nil => simp at he
  | cons x ms ih =>
    simp only [List.map_cons, List.nodup_cons, List.mem_map] at hn
    have hkeep : ∀ y ∈ ms, y.born = e.born → x = e → False := fun y hy h1 h2 => hn.1 ⟨y, hy, by rw [h2]; exact h1⟩
    by_cases hx : x = e
    · subst hx
      have hc : (!seen.contains x.born) = true := (List.mem_filter.1 he).2
      refine ⟨[], ms.filter fun e => !seen.contains e.born, ?_, ?_⟩
      · rw [List.filter_cons, if_pos hc]; rfl
      · rw [List.filter_cons, if_neg (by simp)]
        simp only [List.nil_append]
        refine List.filter_congr fun y hy => ?_
        have : y.born ≠ x.born := fun h1 => hkeep y hy h1 rfl
        simp [this]
    · have he' : e ∈ ms.filter fun e => !seen.contains e.born := by
        rw [List.filter_cons] at he
        split at he
        · rcases List.mem_cons.1 he with h | h
          · exact absurd h.symm hx
          · exact h
        · exact he
      obtain ⟨a, b, h1, h2⟩ := ih hn.2 he'
      have hne : x.born ≠ e.born := fun h => hn.1 ⟨e, (List.mem_filter.1 he').1, h.symm⟩
      by_cases hc : (!seen.contains x.born) = true
      · refine ⟨x :: a, b, ?_, ?_⟩
        · rw [List.filter_cons, if_pos hc, h1]; rfl
        · rw [List.filter_cons, if_pos (by simp at hc ⊢; exact ⟨hc, hne⟩), h2]; rfl
      · refine ⟨a, b, ?_, ?_⟩
        · rw [List.filter_cons, if_neg hc, h1]
        · rw [List.filter_cons, if_neg (by simp at hc ⊢; exact fun h => absurd hc h), h2]

theorem find_born {ms : Array MapEntry} {e : MapEntry} (hn : (ms.toList.map (·.born)).Nodup) (he : e ∈ ms.toList) : ms.find? (·.born == e.born) = some e := by
  rw [← Array.find?_toList]
  generalize ms.toList = l at hn he
  induction l with
  | nil => cases he
  | cons x l ih =>
    simp only [List.map_cons, List.nodup_cons, List.mem_map] at hn
    rw [List.find?_cons]
    rcases List.mem_cons.1 he with h | h
    · subst h; simp
    · have : ¬ x.born = e.born := fun hb => hn.1 ⟨e, h, hb.symm⟩
      have hf : (x.born == e.born) = false := by simpa using this
      rw [hf]
      exact ih hn.2 h

/- What the step does. -/
theorem stale_not {ms : Array MapEntry} {seen : Array Nat} {since stepped : Nat} (hold : ∀ e ∈ ms.toList, e.born < since) (hst : since ≤ stepped) : (!seen.isEmpty && !ms.isEmpty && ms.all fun x => decide (x.born ≥ stepped)) = false := by
  cases hm : ms.toList with
  | nil =>
    have : ms = #[] := Array.ext' (by simpa using hm)
    simp [this]
  | cons e l =>
    have : (ms.all fun x => decide (x.born ≥ stepped)) = false := by
      rw [Array.all_eq_false']
      refine ⟨e, ?_, ?_⟩
      · rw [← Array.mem_toList_iff, hm]; simp
      · have := hold e (by rw [hm]; simp)
        simp; omega
    rw [this]; simp

theorem run_next_over {P : Program} {w : World} {c cm since stepped clock : Nat} {seen : Array Nat} {ms : Array MapEntry} (hit : w.heap[c]? = some (.mapIter (some cm) since seen stepped)) (hmp : w.heap[cm]? = some (.map ms clock))
    (hold : ∀ e ∈ ms.toList, e.born < since) (hst : since ≤ stepped) (hl : leftOf ms seen = []) (t : TypeId) : (Instr.next (.pointer (some ⟨c, 0, none⟩)) false t).run P w = .ok (.tuple #[.bool false]) w := by
  have hfil : ms.filter (fun e => !seen.contains e.born) = #[] := by
    apply Array.ext'
    rw [Array.toList_filter]
    unfold leftOf at hl
    simpa using hl
  simp only [Instr.next, Sem.run_bind, getObj, Sem.run, hit, Result.andThen_ok, hmp]
  rw [if_neg (by rw [stale_not hold hst]; simp), hfil]
  simp [choose, Sem.run, Question.forced, Result.andThen]

theorem run_next_some {P : Program} {w : World} {c cm since stepped clock : Nat} {seen : Array Nat} {ms : Array MapEntry} (hit : w.heap[c]? = some (.mapIter (some cm) since seen stepped)) (hmp : w.heap[cm]? = some (.map ms clock))
    (hold : ∀ e ∈ ms.toList, e.born < since) (hst : since ≤ stepped) (hl : leftOf ms seen ≠ []) (t : TypeId) :
    ∃ e w', e ∈ ms.toList.filter (fun e => !seen.contains e.born) ∧ (Instr.next (.pointer (some ⟨c, 0, none⟩)) false t).run P w = .ok (.tuple #[.bool true, e.key, e.val]) w' ∧
      w'.heap = w.heap.setIfInBounds c (.mapIter (some cm) since (seen.push e.born) clock) ∧ outer w' = outer w ∧ w'.output = w.output := by
  generalize hL : ms.filter (fun e => !seen.contains e.born) = L
  have hLl : L.toList = ms.toList.filter (fun e => !seen.contains e.born) := by rw [← hL, Array.toList_filter]
  have hmem : ∀ e ∈ L.toList, e.born < since := fun e he => by rw [hLl] at he; exact hold e (List.mem_filter.1 he).1
  have hnew : L.filter (fun x => decide (x.born ≥ since)) = #[] := by
    apply Array.ext'
    rw [Array.toList_filter, List.filter_eq_nil_iff.2 (fun e he => by have := hmem e he; simp; omega)]
  have hold' : L.filter (fun x => decide (x.born < since)) = L := by
    apply Array.ext'
    rw [Array.toList_filter, List.filter_eq_self.2 (fun e he => by have := hmem e he; simp; omega)]
  have hne : L.isEmpty = false := by
    unfold leftOf at hl
    rw [← hLl] at hl
    cases hq : L.toList with
    | nil => rw [hq] at hl; exact absurd rfl hl
    | cons x l =>
      have : L ≠ #[] := fun h => by rw [h] at hq; simp at hq
      simpa using this
  have hpos : 0 < L.size := by
    rcases Nat.eq_zero_or_pos L.size with h | h
    · have : L = #[] := Array.eq_empty_of_size_eq_zero h
      rw [this] at hne; simp at hne
    · exact h
  have hlt : c < w.heap.size := (Array.getElem?_eq_some_iff.1 hit).1
  -- the draw
  have main : ∀ (j : Nat) (w1 : World), j < L.size → w1.heap = w.heap → outer w1 = outer w → w1.output = w.output →
      (choose (.mapNext L.size)).run P w = .ok j w1 →
      ∃ e w', e ∈ ms.toList.filter (fun e => !seen.contains e.born) ∧ (Instr.next (.pointer (some ⟨c, 0, none⟩)) false t).run P w = .ok (.tuple #[.bool true, e.key, e.val]) w' ∧
        w'.heap = w.heap.setIfInBounds c (.mapIter (some cm) since (seen.push e.born) clock) ∧ outer w' = outer w ∧ w'.output = w.output := by
    intro j w1 hj hw1 ho hp hch
    refine ⟨L[j], { w1 with heap := w1.heap.setIfInBounds c (.mapIter (some cm) since (seen.push L[j].born) clock) }, ?_, ?_, by rw [hw1], ho, hp⟩
    · rw [← hLl]; simp
    · simp only [Instr.next, Sem.run_bind, getObj, Sem.run, hit, Result.andThen_ok, hmp]
      rw [if_neg (by rw [stale_not hold hst]; simp), hL, hold', hnew, hne]
      simp only [Bool.false_eq_true, if_false, Array.append_empty, Array.empty_append, Array.size_map, Sem.run_bind, hch, Result.andThen_ok]
      have hget : (L.map some)[j]? = some (some L[j]) := by simp [hj]
      rw [hget]
      have hit1 : w1.heap[c]? = some (.mapIter (some cm) since seen stepped) := by rw [hw1]; exact hit
      simp [setObj, Sem.run, hit1, Result.andThen]
  by_cases h1 : L.size ≤ 1
  · exact main 0 w hpos rfl rfl rfl (by simp [choose, Sem.run, Question.forced, h1])
  · exact main _ { w with drawn := w.drawn + 1 } (Nat.mod_lt (w.tape w.drawn (.mapNext L.size)) hpos) rfl rfl rfl (by simp [choose, Sem.run, Question.forced, h1, Question.cut])

end Go.Eng
