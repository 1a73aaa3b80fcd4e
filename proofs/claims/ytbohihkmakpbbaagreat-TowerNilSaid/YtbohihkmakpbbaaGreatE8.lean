/- The engine, part 8: append. -/
import Derived.Test.YtbohihkmakpbbaaGreatE7
namespace Go.Eng
variable {σ : Interp}

theorem fits {a b c : Nat} (hab : a < b) (h : 2 * b * c ≤ 281474976710656) : Builtin.nextslicecap b a * c ≤ 281474976710656 :=
  Nat.le_trans (Nat.mul_le_mul_right c (nextslicecap_le hab)) h

theorem opAppend_ok {E : Env} (hE : EnvOk E σ) {tm : Tr Value} {h h' : Hp} {t tx ty : TypeId} {x y : Operand} {v : Value} (he : opAppend E tm h t tx x y = some (v, h')) {r : Ren σ} {w : World} {a : Act}
    (ht : TmRel r tm a.tmps) (hr : Rel r h w) : ∃ r' v' w', (Builtin.append_ #[t, tx] ty #[a.eval x, a.eval y]).run E.P w = .ok v' w' ∧ Adv r h w r' h' w' ∧ VRel r' v v' := by
  unfold opAppend at he
  split at he
  · rename_i base len cap yv el str hx hy hu hstr
    have hv := opv_ok ht hx
    have hy' := opv_ok ht hy
    have hu' := Env.und_ok hE hu
    obtain ⟨e', hk⟩ := isStr_ok hE hstr
    split at he
    · rename_i i z0 hi hz
      have hi' := hE.ts _ _ hi
      obtain ⟨iz, zz, h1, h2, h3, h4⟩ := Env.zero_ok hE hz
      rw [hi'] at h1; cases h1
      split at he
      · rename_i n news hsrc
        obtain ⟨news', hS, hnews⟩ := srcOf_ok hsrc hk hr hy'
        generalize a.eval x = p at hv ⊢
        generalize a.eval y = q at hy' hS ⊢
        have hlen' := hS.newsLen
        have hlenn := hnews.length
        split at he
        · rename_i hn
          obtain ⟨hn, hlc⟩ := hn
          subst hn
          cases he
          have hnil : news' = [] := by
            have : news'.length = 0 := by rw [hlen']; simp
            exact List.eq_nil_of_length_eq_zero this
          subst hnil
          cases hv with
          | sliceNil => exact ⟨r, _, w, run_append_nothing w t tx ty el i hu' hi' none len cap hlc q hS, .refl hr, .sliceNil _ _⟩
          | slice hri hk' => exact ⟨r, _, w, run_append_nothing w t tx ty el i hu' hi' _ len cap hlc q hS, .refl hr, .slice hri hk'⟩
          | sliceSlack hri hnk ho => exact ⟨r, _, w, run_append_nothing w t tx ty el i hu' hi' _ len _ hnk q hS, .refl hr, .sliceSlack hri hnk ho⟩
          | sliceAmb ad hk' => exact ⟨r, _, w, run_append_nothing w t tx ty el i hu' hi' _ 0 _ (Nat.zero_le _) q hS, .refl hr, .sliceAmb ad hk'⟩
        · rename_i hn
          split at he
          · rename_i hfit
            obtain ⟨hfit, hbil, hzsz⟩ := hfit
            have hzs : zz.cells.size = i.size := by rw [← hzsz, ← h3, Array.length_toList]
            split at he
            · -- there is room, and that is known
              rename_i hroom
              obtain ⟨hcap, hroom⟩ := hroom
              split at he
              · rename_i b o
                split at he
                · rename_i c sl hb
                  split at he
                  · rename_i hc
                    obtain ⟨hc1, hc2⟩ := hc
                    cases he
                    cases hv with
                    | @slice _ _ b' mm _ _ hri hk' =>
                      have hle : o + len * i.size + news.length ≤ c.length := by
                        rw [hlenn, hlen']; rw [Nat.add_mul] at hc1; omega
                      obtain ⟨s1, s2⟩ := Adv.setCells hri news news' hnews h w c sl (o + len * i.size) hr hb hle
                      refine ⟨r, _, _, run_append_room_src w t tx ty el i hu' hi' b' o len cap q n news' hS hroom (fun j hj => (s1 j (by omega)).1) (fun j hj => (s1 j (by omega)).2), s2, .slice hri hk'⟩
                    | sliceSlack => exact absurd rfl hcap
                    | sliceAmb ad hk' => exact absurd rfl hc2
                  · cases he
                · cases he
              · cases he
            · rename_i hroom
              split at he
              · -- there is none, and that is known
                rename_i hcap
                have hgrow : cap < len + n := by
                  rcases Nat.lt_or_ge cap (len + n) with hlt | hge
                  · exact hlt
                  · exact absurd ⟨hcap, hge⟩ hroom
                split at he
                · split at he
                  · rename_i hl0
                    subst hl0
                    cases he
                    cases hv with
                    | sliceNil =>
                      have hold : (Builtin.firstCells i.size 0 (.slice none 0 cap)).run E.P w.drew = .ok ([] : List Value).toArray w.drew := run_firstCells_zero _ _ _ _
                      have hrun := run_append_grow_src w t tx ty el i zz hu' hi' h2 none 0 cap [] hold q n news' hS hgrow (by omega) (fits hgrow hfit)
                      obtain ⟨r', ha, hrn⟩ := Adv.grown hr (l := []) (news' := news') none (fun j hj => by cases hj) (by simpa using hnews) (el := el) (z := zz.cells) (s := i.size) (need := 0 + n) hzs (by simpa using hlen') (le_grownCap w (0 + n) cap el)
                      rw [Nat.zero_add] at hrun ha
                      rw [Nat.zero_add] at hrn
                      refine ⟨r', _, _, hrun, ha, .sliceSlack hrn (le_grownCap w n cap el) (fun _ => rfl)⟩
                  · cases he
                · rename_i b o
                  split at he
                  · rename_i hl0
                    subst hl0
                    cases he
                    have main : ∀ ad cap', p = .slice (some ad) 0 cap' → cap' = cap → ∃ r' v' w', (Builtin.append_ #[t, tx] ty #[p, q]).run E.P w = .ok v' w' ∧ Adv r h w r' (h.new (.cells news (some i.size))) w' ∧ VRel r' (.slice (some ⟨h.nx, 0, none⟩) n slack) v' := by
                      intro ad cap' hp hcc
                      subst hp hcc
                      have hold : (Builtin.firstCells i.size 0 (.slice (some ad) 0 cap')).run E.P w.drew = .ok ([] : List Value).toArray w.drew := run_firstCells_zero _ _ _ _
                      have hrun := run_append_grow_src w t tx ty el i zz hu' hi' h2 (some ad) 0 cap' [] hold q n news' hS hgrow (by omega) (fits hgrow hfit)
                      obtain ⟨r', ha, hrn⟩ := Adv.grown hr (l := []) (news' := news') none (fun j hj => by cases hj) (by simpa using hnews) (el := el) (z := zz.cells) (s := i.size) (need := 0 + n) hzs (by simpa using hlen') (le_grownCap w (0 + n) cap' el)
                      rw [Nat.zero_add] at hrun ha
                      rw [Nat.zero_add] at hrn
                      refine ⟨r', _, _, hrun, ha, .sliceSlack hrn (le_grownCap w n cap' el) (fun _ => rfl)⟩
                    cases hv with
                    | slice hri hk' => exact main _ _ rfl rfl
                    | sliceSlack => exact absurd rfl hcap
                    | sliceAmb ad hk' =>
                      rcases hk' with hk' | hk'
                      · exact absurd hk' hcap
                      · exact main _ _ rfl hk'
                  · split at he
                    · cases he
                    · rename_i ho
                      split at he
                      · rename_i c sl hb
                        split at he
                        · rename_i hc
                          cases he
                          cases hv with
                          | @slice _ _ b' mm _ _ hri hk' =>
                            obtain ⟨cs, e1, e2, e3⟩ := hr.range hb hri o (len * i.size) hc
                            have hold : (Builtin.firstCells i.size len (.slice (some ⟨b', o, none⟩) len cap)).run E.P w.drew = .ok cs.toArray w.drew :=
                              run_firstCells_some w.drew i.size len ⟨b', o, none⟩ len cap cs e2 (fun j u hj => by rw [addr_add]; exact e1 j u hj)
                            have hrun := run_append_grow_src w t tx ty el i zz hu' hi' h2 _ len cap cs hold q n news' hS hgrow (by omega) (fits hgrow hfit)
                            obtain ⟨r', ha, hrn⟩ := Adv.grown hr (l := cs) (news' := news') none (fun j hj => by cases hj) (e3.append hnews) (el := el) (z := zz.cells) (s := i.size) (need := len + n) hzs
                              (by rw [List.length_append, e2, hlen', Nat.add_mul]) (le_grownCap w (len + n) cap el)
                            exact ⟨r', _, _, hrun, ha, .sliceSlack hrn (le_grownCap w (len + n) cap el) (fun _ => rfl)⟩
                          | sliceSlack => exact absurd rfl hcap
                          | sliceAmb ad hk' => exact absurd rfl ho
                        · cases he
                      · cases he
                · cases he
              · -- the capacity is not known
                rename_i hcap
                have hcap' : cap = slack := by simpa using hcap
                subst hcap'
                split at he
                · rename_i b
                  split at he
                  · rename_i c s hb
                    split at he
                    · rename_i hc
                      obtain ⟨hc1, hc2⟩ := hc
                      subst hc1
                      cases he
                      cases hv with
                      | slice hri hk' => exact absurd rfl hk'
                      | @sliceSlack _ _ b' mm _ k' hri hnk ho =>
                        have hkm := ho rfl
                        subst hkm
                        by_cases hroom' : len + n ≤ k'
                        · -- in place: the old name dies, the new one bears its block
                          obtain ⟨c', el', fz, f1, f2, f3, f4⟩ := hr.cells hb hri
                          have hsz := f4 i.size rfl
                          have hmul : len * i.size + news'.length ≤ c'.size := by
                            rw [hsz, hlen', ← Nat.add_mul]; exact Nat.mul_le_mul_right _ hroom'
                          have hcell : ∀ j, j < news'.length → (w.cell? ⟨b', 0 + len * i.size + j, none⟩).isSome = true := by
                            intro j hj
                            rw [cell_cells f1, Nat.zero_add]
                            have : len * i.size + j < c'.size := by omega
                            simp [this]
                          have hfro : ∀ j, j < news'.length → w.frozen? ⟨b', 0 + len * i.size + j, none⟩ = false := by
                            intro j hj
                            simp only [World.frozen?, f1, Nat.zero_add]
                            have := f3
                            have hlt : len * i.size + j < c'.size := by omega
                            obtain ⟨lo, hi1⟩ := fz
                            simp only [Bool.and_eq_false_iff, decide_eq_false_iff_not]
                            simp only [] at this
                            omega
                          have hrun := run_append_room_src w t tx ty el i hu' hi' b' 0 len k' q n news' hS hroom' hcell hfro
                          rw [Nat.zero_add] at hrun
                          have hset : ∀ (vs : List Value) (o : Nat) (w : World) (cc : Array Value), w.heap[b']? = some (.cells cc el' fz) →
                              (w.setCells b' o vs).heap[b']? = some (.cells ⟨setsAt cc.toList o vs⟩ el' fz) ∧ (∀ d, d ≠ b' → (w.setCells b' o vs).heap[d]? = w.heap[d]?) ∧ (w.setCells b' o vs).heap.size = w.heap.size ∧
                                outer (w.setCells b' o vs) = outer w ∧ (w.setCells b' o vs).output = w.output := by
                            intro vs
                            induction vs with
                            | nil => intro o w cc hcc; exact ⟨hcc, fun _ _ => rfl, rfl, rfl, rfl⟩
                            | cons u vs ih =>
                              intro o w cc hcc
                              have hh : (w.setCell ⟨b', o, none⟩ u).heap[b']? = some (.cells (cc.setIfInBounds o u) el' fz) := by
                                simp [World.setCell, Array.getElem?_modify, hcc]
                              obtain ⟨g1, g2, g3, g4, g5⟩ := ih (o + 1) (w.setCell ⟨b', o, none⟩ u) (cc.setIfInBounds o u) hh
                              refine ⟨?_, fun d hd => ?_, ?_, g4, g5⟩
                              · rw [show w.setCells b' o (u :: vs) = (w.setCell ⟨b', o, none⟩ u).setCells b' (o + 1) vs from rfl, g1]
                                simp [setsAt, Array.toList_setIfInBounds]
                              · rw [show w.setCells b' o (u :: vs) = (w.setCell ⟨b', o, none⟩ u).setCells b' (o + 1) vs from rfl, g2 d hd]
                                simp [World.setCell, Array.getElem?_modify, Ne.symm hd]
                              · rw [show w.setCells b' o (u :: vs) = (w.setCell ⟨b', o, none⟩ u).setCells b' (o + 1) vs from rfl, g3]
                                simp [World.setCell]
                          obtain ⟨g1, g2, g3, g4, g5⟩ := hset news' (len * i.size) w c' f1
                          have hlist : ∀ (vs : List Value) (o : Nat) (cc : List Value) (j : Nat), o + vs.length ≤ cc.length → (setsAt cc o vs)[j]? = if j < o then cc[j]? else if j < o + vs.length then vs[j - o]? else cc[j]? := by
                            intro vs
                            induction vs with
                            | nil =>
                              intro o cc j _
                              simp only [setsAt, List.length_nil, Nat.add_zero]
                              split <;> simp_all
                            | cons u vs ih =>
                              intro o cc j ho
                              simp only [setsAt, List.length_cons] at ho ⊢
                              rw [ih (o + 1) (cc.set o u) j (by simp; omega), List.getElem?_set]
                              by_cases h1 : j < o
                              · rw [if_pos (by omega), if_neg (by omega), if_pos h1]
                              · by_cases h2 : j = o
                                · subst h2; rw [if_pos (by omega), if_pos rfl, if_pos (by omega), if_neg (by omega), if_pos (by omega)]; simp
                                · rw [if_neg (by omega), if_neg h1]
                                  by_cases h3 : j < o + 1 + vs.length
                                  · rw [if_pos h3, if_pos (by omega)]
                                    rw [show j - o = (j - (o + 1)) + 1 from by omega, List.getElem?_cons_succ]
                                  · rw [if_neg h3, if_neg (by omega), if_neg (by omega)]
                          have hrel : ObjRel (r.add h.nx (b', k')) k' (.cells (c ++ news) (some i.size)) (.cells ⟨setsAt c'.toList (len * i.size) news'⟩ el' fz) := by
                            refine ⟨?_, ?_, ?_⟩
                            · intro j u hj
                              have hget := hlist news' (len * i.size) c'.toList j (by simpa using hmul)
                              rw [List.getElem?_append] at hj
                              split at hj
                              · rename_i hlt
                                obtain ⟨u', q1, q2⟩ := f2 j u hj
                                refine ⟨u', ?_, q2.mono (Ren.le_add hr.nx_none)⟩
                                rw [show (⟨setsAt c'.toList (len * i.size) news'⟩ : Array Value)[j]? = (setsAt c'.toList (len * i.size) news')[j]? from by simp, hget, if_pos (by omega)]
                                simpa using q1
                              · rename_i hge
                                obtain ⟨u', q1, q2⟩ := hnews.get hj
                                refine ⟨u', ?_, q2.mono (Ren.le_add hr.nx_none)⟩
                                have hltn := (List.getElem?_eq_some_iff.1 q1).1
                                rw [show (⟨setsAt c'.toList (len * i.size) news'⟩ : Array Value)[j]? = (setsAt c'.toList (len * i.size) news')[j]? from by simp, hget, if_neg (by omega), if_pos (by omega), ← hc2]
                                exact q1
                            · simp only [setsAt_length, List.size_toArray, Array.length_toList]
                              exact f3
                            · intro es he'
                              cases he'
                              simp only [List.size_toArray, setsAt_length, Array.length_toList]
                              exact hsz
                          have hadv := Adv.name (w' := w.setCells b' (len * i.size) news') hr (.cells (c ++ news) (some i.size)) b' k' (some b) g1 hrel (fun d _ hne => g2 d hne) (by omega) (.inr ⟨b, k', _, rfl, hb, hri⟩) g4 g5
                            (hdead := fun j e => by cases e; exact ⟨hr.loose_not hb (by intro es e; cases e), fun oj ho => by rw [hb] at ho; cases ho; intro k p d e; cases e⟩)
                          exact ⟨_, _, _, hrun, hadv, .sliceSlack (show (r.add h.nx (b', k')) h.nx = some (b', k') by simp [Ren.add]) hroom' (fun _ => rfl)⟩
                        · have hgrow : k' < len + n := by omega
                          obtain ⟨cs, e1, e2, e3⟩ := hr.range hb hri 0 (len * i.size) (by omega)
                          have hold : (Builtin.firstCells i.size len (.slice (some ⟨b', 0, none⟩) len k')).run E.P w.drew = .ok cs.toArray w.drew :=
                            run_firstCells_some w.drew i.size len ⟨b', 0, none⟩ len k' cs e2 (fun j u hj => by rw [addr_add]; exact e1 j u hj)
                          have hrun := run_append_grow_src w t tx ty el i zz hu' hi' h2 _ len k' cs hold q n news' hS hgrow (by omega) (fits hgrow hfit)
                          have hcc : (c.drop 0).take (len * i.size) = c := by rw [List.drop_zero, ← hc2, List.take_length]
                          rw [hcc] at e3
                          obtain ⟨r', ha, hrn⟩ := Adv.grown hr (l := cs) (news' := news') (some b) (fun j hj => by cases hj; exact ⟨_, _, hb⟩) (e3.append hnews) (el := el) (z := zz.cells) (s := i.size) (need := len + n) hzs
                            (by rw [List.length_append, e2, hlen', Nat.add_mul]) (le_grownCap w (len + n) k' el)
                          exact ⟨r', _, _, hrun, ha, .sliceSlack hrn (le_grownCap w (len + n) k' el) (fun _ => rfl)⟩
                    · cases he
                  · cases he
                · cases he
          · cases he
      · cases he
    · cases he
  · cases he

end Go.Eng
