/- The engine, part 19: one operation of a region that draws its order, whenever it comes up. -/
import Derived.Test.YtbohihkmakpbbaaGreatE18
namespace Go.Eng
variable {σ : Interp}

theorem PFact.lt {r : Ren σ} {h : Hp} {w0 w : World} {id cb : Nat} {cs : List Value} (hp : PFact r h w0 w id cs cb) : cb < w.heap.size := by
  obtain ⟨ob, h1, _⟩ := hp.obj
  exact (Array.getElem?_eq_some_iff.1 h1).1

theorem PFact.adv {r r' : Ren σ} {h h' : Hp} {w0 w w' : World} {id cb : Nat} {cs : List Value} (hp : PFact r h w0 w id cs cb) (ha : Adv r h w r' h' w') : PFact r' h' w0 w' id cs cb where
  at_ := ha.le _ _ hp.at_
  obj := by
    obtain ⟨ob, h1, h2⟩ := hp.obj
    exact ⟨ob, by rw [ha.keep cb hp.lt hp.free]; exact h1, h2.mono ha.le⟩
  late := hp.late
  free := fun hs => by
    rcases ha.orig cb hs with h2 | h2
    · have := hp.lt; omega
    · exact hp.free h2
  nro := hp.nro

theorem Act.put_get {a : Act} {dst : Option Tmp} {v : Value} {t : Tmp} (h : dst ≠ some t) : (a.put dst v).tmps[t]? = a.tmps[t]? := by
  cases dst with
  | none => rfl
  | some x =>
    have : x ≠ t := fun e => h (by rw [e])
    simp [Act.put, Array.getElem?_setIfInBounds_ne this]

theorem Act.put_same {a : Act} {t : Tmp} {v : Value} (h : t < a.tmps.size) : (a.put (some t) v).tmps[t]? = some v := by
  simp [Act.put, h]

theorem Act.put_df (a : Act) (dst : Option Tmp) (v : Value) : (a.put dst v).defers = a.defers := by cases dst <;> rfl

section
variable {E : Env} {rec : Rec} {c : Ctx} {ops : List Oper} {bs : List Nat} {s : St} {d : DRun} {r0 : Ren σ} {w0 : World}

theorem DInv.next (st : Stat E c.nt ops bs) (hnum : Num E ops s.hp.nx d ops.length) {done : Nat → Bool} {k : Nat} {r : Ren σ} {h : Hp} {a : Act} {w : World} (hinv : DInv E c ops bs s d r0 w0 done k r h a w)
    (hents : ∀ k, k < ops.length → ∃ e, d.es.reverse[k]? = some e ∧ EntOk E rec c ops s.tm s.hp.nx bs d k e)
    {i : Nat} {e : Ent} (he : d.es.reverse[i]? = some e) (hok : EntOk E rec c ops s.tm s.hp.nx bs d i e) (hnd : done i = false) (hbits : ∀ j, e.b.testBit j = true → done j = true)
    {k' : Nat} {r' : Ren σ} {h' : Hp} {w' : World} {v' : Value} (hhk : d.hs.reverse[k']? = some h') (hadv : Adv r0 s.hp w0 r' h' w') (hle : r.le r') (hnx : h.nx ≤ h'.nx) (hsz : w.heap.size ≤ w'.heap.size)
    (hold : ∀ j, j < h.nx → (∀ cs, e.new ≠ some (j, cs)) → r' j = r j)
    (hacts : (e.act = none ∧ k' = k) ∨ (e.act = some k ∧ k' = k + 1)) (hnp : ∀ ch h0, d.pan ≠ some (i, ch, h0))
    (hpf : ∀ (i1 : Nat) (e1 : Ent) (id : Nat) (cs : List Value) (cb : Nat), d.es.reverse[i1]? = some e1 → e1.new = some (id, cs) → done i1 = true → (∀ (i' : Nat) (e' : Ent) (q : Nat), d.es.reverse[i']? = some e' → e'.act = some q → q < k' → e'.b.testBit i1 = false) →
      PFact r h w0 w id cs cb → PFact r' h' w0 w' id cs cb)
    (hnew : ∀ id cs, e.new = some (id, cs) → ∃ cb, PFact r' h' w0 w' id cs cb ∧ w.heap.size ≤ cb)
    (hval : VRel r' e.v v') :
    DInv E c ops bs s d r0 w0 (fun j => decide (j = i) || done j) k' r' h' (a.put e.o.dst v') w' := by
  have hkk : k ≤ k' := by rcases hacts with ⟨_, h1⟩ | ⟨_, h1⟩ <;> omega
  have hor : ∀ j, (decide (j = i) || done j) = true ↔ j = i ∨ done j = true := fun j => by simp
  have hlen : ∀ {j : Nat} {e1 : Ent}, d.es.reverse[j]? = some e1 → j < ops.length := fun h1 => by
    have := (List.getElem?_eq_some_iff.1 h1).1
    rw [List.length_reverse, hnum.len] at this; exact this
  have same : ∀ {j : Nat} {e1 : Ent}, d.es.reverse[j]? = some e1 → j = i → e1 = e := fun h1 h2 => by subst h2; rw [he] at h1; cases h1; rfl
  have hidlt : ∀ {j : Nat} {e1 : Ent} {id : Nat} {cs : List Value}, d.es.reverse[j]? = some e1 → e1.new = some (id, cs) → id < h.nx := fun h1 h2 => by
    have h3 := (hnum.ids _ _ _ _ h1 h2).2
    have h4 := hnum.na
    rw [List.take_length] at h4
    have h5 := hinv.nx
    omega
  have hne : ∀ {j : Nat} {e1 : Ent} {id : Nat} {cs : List Value}, d.es.reverse[j]? = some e1 → e1.new = some (id, cs) → j ≠ i → ∀ cs', e.new ≠ some (id, cs') := by
    intro j e1 id cs h1 h2 h3 cs' h4
    rcases Nat.lt_or_gt_of_ne h3 with h5 | h5
    · exact hnum.one j i e1 e id cs cs' h5 h1 he h2 h4
    · exact hnum.one i j e e1 id cs' cs h5 he h1 h4 h2
  refine ⟨?_, hhk, hadv, Nat.le_trans hinv.nx hnx, ?_, ?_, ?_, ?_, ?_, ?_, ?_, ?_, by rw [Act.put_size]; exact hinv.nt, by rw [Act.put_df]; exact hinv.df.mono hle⟩
  · intro j j' bi hj hb hbit
    rw [hor] at hj ⊢
    rcases hj with rfl | hj
    · have := hok.b
      rw [hb] at this; cases this
      exact .inr (hbits j' hbit)
    · exact .inr (hinv.down j j' bi hj hb hbit)
  · intro j e1 q h1 h2
    rw [hor]
    by_cases hji : j = i
    · have := same h1 hji
      subst this
      rcases hacts with ⟨h3, _⟩ | ⟨h3, h4⟩
      · rw [h3] at h2; cases h2
      · rw [h3] at h2; cases h2
        exact ⟨fun _ => by omega, fun _ => .inl hji⟩
    · have hold2 := hinv.acts j e1 q h1 h2
      rcases hacts with ⟨h3, h4⟩ | ⟨h3, h4⟩
      · subst h4
        exact ⟨fun h5 => hold2.1 (h5.resolve_left hji), fun h5 => .inr (hold2.2 h5)⟩
      · have hq : q ≠ k := by
          rcases Nat.lt_or_gt_of_ne hji with h5 | h5
          · have := hnum.ord j i e1 e q k h5 h1 he h2 h3; omega
          · have := hnum.ord i j e e1 k q h5 he h1 h3 h2; omega
        exact ⟨fun h5 => by have := hold2.1 (h5.resolve_left hji); omega, fun h5 => .inr (hold2.2 (by omega))⟩
  · intro j ch h0 hp
    have h1 := hinv.nopan j ch h0 hp
    have h2 : j ≠ i := fun e => hnp ch h0 (by rw [← e]; exact hp)
    simp [h1, h2]
  · intro j e1 id cs h1 h2 h3
    simp only [Bool.or_eq_false_iff, decide_eq_false_iff_not] at h3
    rw [hold id (hidlt h1 h2) (hne h1 h2 h3.1)]
    exact hinv.new1 j e1 id cs h1 h2 h3.2
  · intro j e1 id cs h1 h2 h3 h4
    rw [hor] at h3
    by_cases hji : j = i
    · have := same h1 hji
      subst this
      obtain ⟨cb, h5, _⟩ := hnew id cs h2
      exact ⟨cb, h5⟩
    · have h3' := h3.resolve_left hji
      obtain ⟨cb, h5⟩ := hinv.new2 j e1 id cs h1 h2 h3' (fun i' e' q g1 g2 g3 => h4 i' e' q g1 g2 (by omega))
      exact ⟨cb, hpf j e1 id cs cb h1 h2 h3' h4 h5⟩
  · intro j j' e1 e2 id id' cs cs' cb hjj h1 h2 h3 h4 h5 h6 h7
    rw [hor] at h5 h6
    have back : ∀ {j : Nat} {e1 : Ent} {id : Nat} {cs : List Value}, d.es.reverse[j]? = some e1 → e1.new = some (id, cs) → j ≠ i → r' id = r id := fun g1 g2 g3 => hold _ (hidlt g1 g2) (hne g1 g2 g3)
    have small : ∀ {j : Nat} {e1 : Ent} {id : Nat} {cs : List Value} {cb : Nat}, d.es.reverse[j]? = some e1 → e1.new = some (id, cs) → j ≠ i → done j = true → r' id = some (cb, 0) → cb < w.heap.size := by
      intro j e1 id cs cb g1 g2 g3 g4 g5
      obtain ⟨cb', f1, f2⟩ := hinv.new4 j e1 id cs g1 g2 g4
      rw [back g1 g2 g3, f1] at g5
      cases g5; exact f2
    have big : ∀ {j : Nat} {e1 : Ent} {id : Nat} {cs : List Value} {cb : Nat}, d.es.reverse[j]? = some e1 → e1.new = some (id, cs) → j = i → r' id = some (cb, 0) → w.heap.size ≤ cb := by
      intro j e1 id cs cb g1 g2 g3 g5
      have := same g1 g3
      subst this
      obtain ⟨cb', f1, f2⟩ := hnew id cs g2
      rw [f1.at_] at g5
      cases g5; exact f2
    intro h8
    by_cases hji : j = i
    · have hji' : j' ≠ i := fun e => hjj (by rw [hji, e])
      have g1 := big h1 h3 hji h7
      have g2 := small h2 h4 hji' (h6.resolve_left hji') h8
      omega
    · by_cases hji' : j' = i
      · have g1 := big h2 h4 hji' h8
        have g2 := small h1 h3 hji (h5.resolve_left hji) h7
        omega
      · rw [back h1 h3 hji] at h7
        rw [back h2 h4 hji'] at h8
        exact hinv.new3 j j' e1 e2 id id' cs cs' cb hjj h1 h2 h3 h4 (h5.resolve_left hji) (h6.resolve_left hji') h7 h8
  · intro j e1 id cs h1 h2 h3
    rw [hor] at h3
    by_cases hji : j = i
    · have := same h1 hji
      subst this
      obtain ⟨cb, h5, _⟩ := hnew id cs h2
      exact ⟨cb, h5.at_, h5.lt⟩
    · obtain ⟨cb, f1, f2⟩ := hinv.new4 j e1 id cs h1 h2 (h3.resolve_left hji)
      exact ⟨cb, hle _ _ f1, by omega⟩
  · intro j e1 t h1 h2 h3
    rw [hor] at h2
    by_cases hji : j = i
    · have := same h1 hji
      subst this
      have hlt := st.dst i e1.o t hok.o h3
      rw [h3]
      exact ⟨v', Act.put_same (by rw [hinv.nt]; exact hlt), hval⟩
    · obtain ⟨u, g1, g2⟩ := hinv.tmps1 j e1 t h1 (h2.resolve_left hji) h3
      refine ⟨u, ?_, g2.mono hle⟩
      rw [Act.put_get ?_]; exact g1
      intro hc
      obtain ⟨e1', f1, f2⟩ := hents j (hlen h1)
      rw [h1] at f1; cases f1
      have hp := st.pair i j e.o e1.o e.b e1.b (fun e => hji e.symm) hok.o f2.o hok.b f2.b
      simp [pairOk, hc, h3] at hp
  · intro t v h1 h2
    obtain ⟨u, g1, g2⟩ := hinv.tmps0 t v h1 (fun j e1 f1 f2 => h2 j e1 f1 (by simp [f2]))
    refine ⟨u, ?_, g2.mono hle⟩
    rw [Act.put_get (h2 i e he (by simp))]; exact g1

end
end Go.Eng
