/- The engine, part 21: a region that draws its order, whole. -/
import Derived.Test.YtbohihkmakpbbaaGreatE20
namespace Go.Eng
variable {σ : Interp}

theorem putAll_get {nt : Nat} : ∀ (l : List Ent) (tm : Tr Value) (t : Tmp) (v : Value), (putAll nt l tm).get t = some v → (∃ (i : Nat) (e : Ent), l[i]? = some e ∧ e.o.dst = some t ∧ v = e.v) ∨ ((∀ e ∈ l, e.o.dst ≠ some t) ∧ tm.get t = some v) := by
  intro l
  induction l with
  | nil => intro tm t v h; exact .inr ⟨fun e he => (by cases he), h⟩
  | cons e l ih =>
    intro tm t v h
    rcases ih _ t v h with ⟨i, e', h1, h2⟩ | ⟨h1, h2⟩
    · exact .inl ⟨i + 1, e', by simpa using h1, h2⟩
    · cases hd : e.o.dst with
      | none =>
        rw [hd] at h2
        refine .inr ⟨fun e' he' => ?_, h2⟩
        cases he' with
        | head => rw [hd]; simp
        | tail _ hm => exact h1 e' hm
      | some x =>
        rw [hd] at h2
        simp only [Tr.get_set] at h2
        split at h2
        · rename_i hx
          cases h2
          exact .inl ⟨0, e, rfl, by rw [hd, hx], rfl⟩
        · rename_i hne
          refine .inr ⟨fun e' he' => ?_, h2⟩
          cases he' with
          | head => rw [hd]; simpa using hne
          | tail _ hm => exact h1 e' hm

theorem before_all {d : DRun} : before d d.es.length = d.es := by
  unfold before
  rw [List.take_of_length_le (by simp), List.reverse_reverse]

def unlisted : List Bool → Nat
  | [] => 0
  | b :: l => (if b then 0 else 1) + unlisted l

theorem unlisted_set : ∀ (l : List Bool) (i : Nat), l[i]? = some false → unlisted (l.set i true) + 1 = unlisted l := by
  intro l
  induction l with
  | nil => intro i h; simp at h
  | cons b l ih =>
    intro i h
    cases i with
    | zero => simp at h; subst h; simp [unlisted]; omega
    | succ i =>
      simp only [List.set_cons_succ, unlisted]
      have := ih i (by simpa using h)
      omega

theorem unlisted_zero : ∀ (l : List Bool), unlisted l = 0 → ∀ (i : Nat) (b : Bool), l[i]? = some b → b = true := by
  intro l
  induction l with
  | nil => intro _ i b h; simp at h
  | cons x l ih =>
    intro h i b hb
    simp only [unlisted] at h
    cases i with
    | zero =>
      simp at hb; subst hb
      cases x with
      | true => rfl
      | false => simp at h
    | succ i => exact ih (by omega) i b (by simpa using hb)

theorem unlisted_rep : ∀ (n : Nat), unlisted (List.replicate n false) = n := by
  intro n
  induction n with
  | zero => rfl
  | succ n ih => simp only [List.replicate_succ, unlisted, ih]; simp; omega

section
variable {E : Env} {rec : Rec} {c : Ctx} {ops : List Oper} {bs : List Nat} {s : St} {d : DRun} {r0 : Ren σ} {w0 : World}

/- All operations are done. -/
theorem DInv.whole (T : Told E rec c ops bs s d) {done : Nat → Bool} {k : Nat} {r : Ren σ} {h : Hp} {a : Act} {w : World} (hinv : DInv E c ops bs s d r0 w0 done k r h a w) (hall : ∀ i, i < ops.length → done i = true) :
    d.pan = none ∧ d.hs.head? = some h ∧ Adv r0 s.hp w0 r (adopt d.es none d.es h) w ∧ StRel r c { s with tm := putAll c.nt d.es.reverse s.tm, hp := adopt d.es none d.es h } a w := by
  have hpan : d.pan = none := by
    cases hp : d.pan with
    | none => rfl
    | some x =>
      obtain ⟨j, ch, h0⟩ := x
      obtain ⟨e, q, h1, h2⟩ := T.num.pan j ch h0 hp
      have := hinv.nopan j ch h0 hp
      rw [hall j (T.lt h1)] at this; cases this
  have hklt := (List.getElem?_eq_some_iff.1 hinv.hk).1
  rw [List.length_reverse] at hklt
  have hk : k + 1 = d.hs.length := by
    rcases Nat.lt_or_ge (k + 1) d.hs.length with g | g
    · obtain ⟨p, e, h1, h2⟩ := T.num.all k g
      have := (hinv.acts p e k h1 h2).1 (hall p (T.lt h1)); omega
    · omega
  have hhead : d.hs.head? = some h := by
    have := hinv.hk
    rw [List.getElem?_reverse (by omega)] at this
    rw [show d.hs.length - 1 - k = 0 by omega] at this
    rw [List.head?_eq_getElem?]; exact this
  have hb : before d ops.length = d.es := by rw [← T.num.len]; exact before_all
  obtain ⟨a1, a2, a3⟩ := hinv.adopts T ops.length none (fun j e h1 _ _ => hall j (T.lt h1)) (fun j e q h1 _ _ => T.lt h1)
  rw [hb] at a1
  refine ⟨hpan, hhead, a1, ⟨fun t v hv => ?_, hinv.nt, hinv.df, a1.rel⟩⟩
  rcases putAll_get _ _ _ _ hv with ⟨i, e, h1, h2, h3⟩ | ⟨h1, h2⟩
  · subst h3
    exact hinv.tmps1 i e t h1 (hall i (T.lt h1)) h2
  · exact hinv.tmps0 t v h2 (fun i e g1 _ => h1 e (List.mem_of_getElem? g1))

theorem DInv.run (hE : EnvOk E σ) (hcall : CallOk E rec.call) (hround : RoundOk E rec.round) (T : Told E rec c ops bs s d) {rdc : Option Nat} (hrd : RdRel r0 c.rd rdc) {n : Nat} {Q : Exit → Act → World → Prop}
    (hpan : ∀ i ch hp, d.pan = some (i, ch, hp) → ∀ r' a' w' ch', Adv r0 s.hp w0 r' hp w' → StRel r' c { s with tm := dropAll d.es s.tm, hp := hp } a' w' → ChRel r' ch ch' → Q (.panic ch') a' w')
    (hend : d.pan = none → ∀ r' h' a' w', d.hs.head? = some h' → Adv r0 s.hp w0 r' (adopt d.es none d.es h') w' → StRel r' c { s with tm := putAll c.nt d.es.reverse s.tm, hp := adopt d.es none d.es h' } a' w' → Q .normal a' w') :
    ∀ (fuel : Nat) (listed : Array Bool) (k : Nat) (r : Ren σ) (h : Hp) (a : Act) (w : World), listed.size = ops.length → unlisted listed.toList ≤ fuel →
      DInv E c ops bs s d r0 w0 (fun j => listed.getD j false) k r h a w → wpAnyIn (fen rdc) n E.P .any ⟨ops⟩ Q fuel listed a w := by
  have hready : ∀ (listed : Array Bool) (k : Nat) (r : Ren σ) (h : Hp) (a : Act) (w : World), listed.size = ops.length → DInv E c ops bs s d r0 w0 (fun j => listed.getD j false) k r h a w → Region.ready .any ⟨ops⟩ listed = [] → Q .normal a w := by
    intro listed k r h a w hsize hinv hr
    have hall : ∀ m, ∀ i, i < m → i < ops.length → listed.getD i false = true := by
      intro m
      induction m with
      | zero => intro i hi; omega
      | succ m ih =>
        intro i hi hlt
        by_cases hc : listed.getD i false = true
        · exact hc
        · exfalso
          have hin : i ∈ Region.ready .any (⟨ops⟩ : Array Oper) listed := by
            rw [mem_ready]
            refine ⟨?_, ops[i], by simp [hlt], fun e he hb => ?_⟩
            · rw [Bool.not_eq_true] at hc
              simp only [Array.getD_eq_getD_getElem?] at hc ⊢
              rw [Array.getElem?_eq_getElem (by omega)] at hc ⊢
              exact hc
            · have hbl : i < bs.length := by rw [T.st.len]; exact hlt
              have hbi : bs[i]? = some bs[i] := List.getElem?_eq_getElem (by rw [T.st.len]; exact hlt)
              have hbit := T.st.up i ops[i] bs[i] e (by simp [hlt]) hbi he hb
              have := T.st.low i bs[i] e.on hbi hbit
              exact ih e.on (by omega) (by omega)
          rw [hr] at hin; cases hin
    obtain ⟨g1, g2, g3, g4⟩ := hinv.whole T (fun i hi => hall (i + 1) i (by omega) hi)
    exact hend g1 r h a w g2 g3 g4
  intro fuel
  induction fuel with
  | zero =>
    intro listed k r h a w hsize hun hinv
    have hr : Region.ready .any (⟨ops⟩ : Array Oper) listed = [] := by
      rw [List.eq_nil_iff_forall_not_mem]
      intro i hi
      rw [mem_ready] at hi
      obtain ⟨h1, o, h2, _⟩ := hi
      have hlt : i < listed.size := by
        have := (Array.getElem?_eq_some_iff.1 h2).1
        simp at this; omega
      have := unlisted_zero listed.toList (by omega) i listed[i] (by simp [hlt])
      simp only [Array.getD_eq_getD_getElem?] at h1
      rw [Array.getElem?_eq_getElem hlt] at h1
      simp at h1
      rw [this] at h1; cases h1
    exact ⟨hr, hready listed k r h a w hsize hinv hr⟩
  | succ fuel ih =>
    intro listed k r h a w hsize hun hinv
    refine ⟨hready listed k r h a w hsize hinv, fun i hi => ?_⟩
    rw [mem_ready] at hi
    obtain ⟨h1, o, h2, h3⟩ := hi
    have h2' : ops[i]? = some o := by simpa using h2
    have hio : i < ops.length := (List.getElem?_eq_some_iff.1 h2').1
    have hlt : i < listed.size := by omega
    have h1' : listed[i] = false := by
      simp only [Array.getD_eq_getD_getElem?] at h1
      rw [Array.getElem?_eq_getElem hlt] at h1
      simpa using h1
    refine hinv.step hE hcall hround T hrd hpan hio ?_ ?_ ?_
    · show listed.getD i false = false
      simp only [Array.getD_eq_getD_getElem?]
      rw [Array.getElem?_eq_getElem hlt]
      simpa using h1'
    · intro b j hb hj
      obtain ⟨e, g1, g2, g3⟩ := T.st.dn i o b j h2' hb hj
      have g4 := h3 e g1 g2
      rcases g3 with g3 | ⟨be, g5, g6⟩
      · rw [g3] at g4; exact g4
      · exact hinv.down e.on j be g4 g5 g6
    · intro k' r' h' a' w' hinv'
      refine ih (listed.setIfInBounds i true) k' r' h' a' w' (by simp [hsize]) ?_ ?_
      · have := unlisted_set listed.toList i (by simp [hlt, h1'])
        rw [Array.toList_setIfInBounds]
        omega
      · have hfun : (fun j => (listed.setIfInBounds i true).getD j false) = fun j => decide (j = i) || listed.getD j false := by
          funext j
          simp only [Array.getD_eq_getD_getElem?]
          by_cases hj : j = i
          · subst hj; simp [hlt]
          · rw [Array.getElem?_setIfInBounds_ne (fun x => hj x.symm)]; simp [hj]
        rw [hfun]; exact hinv'

end

theorem evRegionDraw_ok {E : Env} (hE : EnvOk E σ) {rec : Rec} (hcall : CallOk E rec.call) (hround : RoundOk E rec.round) {c : Ctx} {ops : List Oper} {s : St} {e : AEx} {s' : St} (he : evRegionDraw E rec c ops s = some (e, s'))
    {r : Ren σ} {w : World} {a : Act} {rdc : Option Nat} {n id : Nat} {Q : Exit → Act → World → Prop} (hs : StRel r c s a w) (hrd : RdRel r c.rd rdc)
    (hQ : ∀ r' a' w' e', Adv r s.hp w r' s'.hp w' → StRel r' c s' a' w' → ExRel r' e e' → Q e' a' w') : (Code.region id ⟨ops⟩ true).wpIn (fen rdc) n E.P Q a w := by
  unfold evRegionDraw at he
  split at he
  · rename_i hstat
    split at he
    · rename_i d hd
      split at he
      · rename_i hstill
        have st := stat_of hstat
        have hz : (ops.zip (befs ops [])).length = ops.length := by rw [List.length_zip, st.len]; omega
        have hzip : ∀ j o b, (ops.zip (befs ops []))[j]? = some (o, b) → ops[0 + j]? = some o ∧ (befs ops [])[0 + j]? = some b := fun j o b h => by
          rw [Nat.zero_add]; exact List.getElem?_zip_eq_some.1 h
        have hnum := evDraw_num _ 0 _ d hd (fun j o b h => (hzip j o b h).1)
          ⟨rfl, by simp, fun p e q h => by simp at h, fun p p' e e' q q' _ h => by simp at h, fun k hk => by simp at hk, fun p e q h => by simp at h, fun p e id cs h => by simp at h, fun p p' e e' id cs cs' _ h => by simp at h, Nat.zero_le _, fun p ch h hp => by cases hp⟩
        rw [Nat.zero_add, hz] at hnum
        have hext := evDraw_ext _ 0 _ d hd
        have T : Told E rec c ops (befs ops []) s d := ⟨st, hnum, fun k hk => evDraw_ents (bs := befs ops []) _ 0 _ d hd rfl hzip k (Nat.zero_le _) (by omega), hstill⟩
        obtain ⟨hs', hhs⟩ := hext.hs
        have hadv0 : Adv r s.hp w r { s.hp with nx := s.hp.nx + nAlloc E ops } { w with drawn := w.drawn + 1 } :=
          ⟨⟨fun i x hx => Nat.lt_of_lt_of_le (hs.rel.dom i x hx) (Nat.le_add_right _ _), fun i o hi => hs.rel.live i o hi, fun i j => hs.rel.inj i j, fun i k p d hi => let ⟨c, m, h1, h2, h3⟩ := hs.rel.abs i k p d hi; ⟨c, m, h1, ownA_frame h2 (fun _ _ => rfl), h3⟩, hs.rel.pin, hs.rel.sepN, hs.rel.sepF, hs.rel.ro⟩, Ren.le_refl r, Nat.le_add_right _ _, Nat.le_refl _, fun _ _ _ => rfl, fun _ hi => .inr hi, rfl, rfl, fun _ _ => rfl⟩
        refine wpIn_region_any hE.mixed ?_
        have hinv : DInv E c ops (befs ops []) s d r w (fun j => (Array.replicate (⟨ops⟩ : Array Oper).size false).getD j false) 0 r { s.hp with nx := s.hp.nx + nAlloc E ops } a { w with drawn := w.drawn + 1 } := by
          have hf : (fun j => (Array.replicate (⟨ops⟩ : Array Oper).size false).getD j false) = fun _ => false := by
            funext j
            simp only [Array.getD_eq_getD_getElem?, Array.getElem?_replicate]
            split <;> rfl
          rw [hf]
          refine ⟨fun i j bi h => (by cases h), (by rw [hhs]; simp), hadv0, Nat.le_refl _, fun i e q _ _ => ⟨fun h => (by cases h), fun h => (by omega)⟩, fun _ _ _ _ => rfl, fun i e id cs h1 h2 _ => ?_, fun i e id cs _ _ h => (by cases h), fun i i' e e' id id' cs cs' cb _ _ _ _ _ h => (by cases h),
            fun i e id cs _ _ h => (by cases h), fun i e t _ h => (by cases h), fun t v hv _ => hs.tm t v hv, hs.nt, hs.df⟩
          cases hr : r id with
          | none => rfl
          | some x =>
            have := hs.rel.dom id x hr
            have := (hnum.ids i e id cs h1 h2).1
            omega
        refine DInv.run hE hcall hround T hrd ?_ ?_ _ _ 0 r _ a _ (by simp) (by simp [unlisted_rep]) hinv
        · intro i ch hp hpan r' a' w' ch' ha hst hch
          rw [hpan] at he
          simp only [Option.some.injEq, Prod.mk.injEq] at he
          obtain ⟨rfl, rfl⟩ := he
          exact hQ r' a' w' _ ha hst (.pan hch)
        · intro hpan r' h' a' w' hhead ha hst
          cases hdh : d.hs with
          | nil => rw [hdh] at hhead; cases hhead
          | cons x l =>
            rw [hdh] at hhead
            cases hhead
            rw [hpan, hdh] at he
            simp only [Option.some.injEq, Prod.mk.injEq] at he
            obtain ⟨rfl, rfl⟩ := he
            exact hQ r' a' w' _ ha hst .normal
      · cases he
    · cases he
  · cases he

end Go.Eng
