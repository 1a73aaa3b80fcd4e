/- The engine, part 6: slices, appends, copies, strings and bytes, function values. -/
import Derived.Test.YtbohihkmakpbbaaGreatE5
import Derived.Deep.Upon
import Derived.Laws.AppendOwn
import Derived.Laws.Build
namespace Go.Eng
variable {σ : Interp}

/- makeSlice, buildSlice -/
def reps (z : List Value) (n : Nat) : List Value := (List.range n).map fun i => z[i % z.length]!

theorem reps_ok {r : Ren σ} {z : List Value} (hz : VRels r z z) (h0 : z ≠ []) (n : Nat) : VRels r (reps z n) (reps z n) := by
  unfold reps
  generalize List.range n = l
  induction l with
  | nil => exact .nil
  | cons i l ih =>
    refine .cons ?_ ih
    have hlt : i % z.length < z.length := Nat.mod_lt _ (by cases z; exact absurd rfl h0; simp)
    have h1 : z[i % z.length]! = z[i % z.length] := by simp [hlt]
    show VRel r z[i % z.length]! z[i % z.length]!
    rw [h1]
    obtain ⟨c, e1, e2⟩ := hz.get (show z[i % z.length]? = some z[i % z.length] by simp [hlt])
    rw [List.getElem?_eq_getElem hlt] at e1
    cases e1; exact e2

def opMakeSlice (E : Env) (tm : Tr Value) (h : Hp) (t : TypeId) (x y : Operand) : Option (Value × Hp) :=
  match (opv tm x).bind intOf?, (opv tm y).bind intOf?, E.und t with
  | some l, some c, some (.slice el) =>
    match E.ts.get el, E.zero el with
    | some i, some z =>
      if 0 ≤ l ∧ l ≤ c ∧ (i.bytes : Int) * c ≤ 281474976710656 ∧ c ≤ 1000000000 ∧ z ≠ [] ∧ z.length = i.size then
        some (.slice (some ⟨h.nx, 0, none⟩) l.toNat c.toNat, h.new (.cells (reps z (c.toNat * i.size)) none))
      else none
    | _, _ => none
  | _, _, _ => none

theorem madeCells_toList (z : Array Value) (n : Nat) : (madeCells z n).toList = reps z.toList n := by
  unfold madeCells reps
  rw [Array.toList_map, Array.toList_range]
  refine List.map_congr_left (fun i _ => ?_)
  simp only [Array.length_toList]
  cases z with | mk z => simp

theorem opMakeSlice_ok {E : Env} (hE : EnvOk E σ) {tm : Tr Value} {h h' : Hp} {t : TypeId} {x y : Operand} {v : Value} (he : opMakeSlice E tm h t x y = some (v, h')) {r : Ren σ} {w : World} {a : Act}
    (ht : TmRel r tm a.tmps) (hr : Rel r h w) : ∃ r' v' w', (Instr.makeSlice t (a.eval x) (a.eval y)).run E.P w = .ok v' w' ∧ Adv r h w r' h' w' ∧ VRel r' v v' := by
  unfold opMakeSlice at he
  split at he
  · rename_i l c el hx hy hu
    rw [Option.bind_eq_some_iff] at hx hy
    obtain ⟨u1, hu1, hj1⟩ := hx
    obtain ⟨u2, hu2, hj2⟩ := hy
    obtain ⟨k1, _, e1⟩ := intOf?_ok (opv_ok ht hu1) hj1
    obtain ⟨k2, _, e2⟩ := intOf?_ok (opv_ok ht hu2) hj2
    rw [e1, e2]
    split at he
    · rename_i i z hi hz
      split at he
      · rename_i hc
        obtain ⟨c1, c2, c3, c4, c5, c6⟩ := hc
        cases he
        obtain ⟨iz, zz, h1, h2, h3, h4⟩ := Env.zero_ok hE hz
        have hie := hE.ts _ _ hi
        rw [h1] at hie; cases hie
        subst h3
        have hrun := run_make (P := E.P) w t el i zz (Env.und_ok hE hu) h1 h2 k1 k2 l c c1 c2 c3 (by omega)
        obtain ⟨r', ha, hn⟩ := Adv.newRow hr (c' := madeCells zz.cells (c.toNat * i.size)) (by rw [madeCells_toList]; exact reps_ok (h4 r) c5 _) el
        refine ⟨r', _, _, hrun, ha, .slice hn ?_⟩
        simp only [slack]; omega
      · cases he
    · cases he
  · cases he

def opBuildSlice (E : Env) (tm : Tr Value) (h : Hp) (t : TypeId) (len : Nat) (parts : List (Nat × Operand)) : Option (Value × Hp) :=
  match opvs tm parts, E.und t with
  | some ps, some (.slice el) =>
    match E.size el, E.zero el with
    | some s, some z =>
      if len * s ≤ 16777216 ∧ z ≠ [] ∧ 0 < len * s then
        match fillA (fun i => some (i * s, s)) (reps z (len * s)) ps with
        | some c => some (.slice (some ⟨h.nx, 0, none⟩) len len, h.new (.cells c none))
        | none => none
      else if len = 0 ∧ ps.isEmpty then some (.slice (some ⟨h.nx, 0, none⟩) 0 0, h.new (.cells [] none))
      else none
    | _, _ => none
  | _, _ => none

theorem opBuildSlice_ok {E : Env} (hE : EnvOk E σ) {tm : Tr Value} {h h' : Hp} {t : TypeId} {len : Nat} {parts : Array (Nat × Operand)} {v : Value} (he : opBuildSlice E tm h t len parts.toList = some (v, h'))
    {r : Ren σ} {w : World} {a : Act} (ht : TmRel r tm a.tmps) (hr : Rel r h w) :
    ∃ r' v' w', (Instr.buildSlice t len (parts.map fun (i, x) => (i, a.eval x))).run E.P w = .ok v' w' ∧ Adv r h w r' h' w' ∧ VRel r' v v' := by
  unfold opBuildSlice at he
  split at he
  · rename_i ps el hps hu
    split at he
    · rename_i s z hs hz
      obtain ⟨inf, f1, f2⟩ := Env.size_ok hE hs
      obtain ⟨iz, zz, h1, h2, h3, h4⟩ := Env.zero_ok hE hz
      rw [h1] at f1; cases f1
      subst h3
      subst f2
      split at he
      · rename_i hc
        obtain ⟨c1, c2, c3⟩ := hc
        split at he
        · rename_i c hfill
          cases he
          obtain ⟨c', g1, g2⟩ := fillA_ok (opvs_ok ht hps) (c' := madeCells zz.cells (len * inf.size)) (by rw [madeCells_toList]; exact reps_ok (h4 r) c2 _) hfill
          obtain ⟨r', ha, hn⟩ := Adv.newRow hr (c' := c') g2 el
          refine ⟨r', _, _, ?_, ha, .slice hn (by simp only [slack]; have : len ≤ len * inf.size := Nat.le_mul_of_pos_right _ (Nat.pos_of_ne_zero (by rintro e; rw [e] at c3; simp at c3)); omega)⟩
          have n1 : ¬ (len * inf.size > 2 ^ 24) := by omega
          have n2 : ¬ (len * inf.size = 0) := by omega
          have g1' : Instr.fill (fun i => some (i * inf.size, inf.size)) ((Array.range (len * inf.size)).map (zz.cells[· % zz.cells.size]!)) (List.map (fun p => (p.1, a.eval p.2)) parts.toList) = some c' := by
            rw [← g1]; rfl
          simp only [Instr.buildSlice, Sem.run_bind, run_underlying (Env.und_ok hE hu), Result.andThen_ok, run_sizeOf_info h1, n1, n2, if_false, run_zeroValue_info h1 h2, Sem.run_pure, Array.toList_map, g1', Go.newRow, Go.newObj]
          rfl
        · cases he
      · split at he
        · rename_i hc
          obtain ⟨c1, c2⟩ := hc
          subst c1
          cases he
          obtain ⟨r', ha, hn⟩ := Adv.newRow hr (l := []) (c' := #[]) .nil el
          refine ⟨r', _, _, ?_, ha, .slice hn (by simp only [slack]; omega)⟩
          have hp : parts.toList = [] := by
            cases hpt : parts.toList with
            | nil => rfl
            | cons p l =>
              rw [hpt] at hps
              obtain ⟨i, x⟩ := p
              simp only [opvs] at hps
              split at hps
              · cases hps; simp at c2
              · cases hps
          simp [Instr.buildSlice, run_underlying (Env.und_ok hE hu), run_sizeOf_info h1, hp, Instr.fill, Go.newRow, Array.range_zero']
        · cases he
    · cases he
  · cases he

/- slices of slices -/
def optNat (tm : Tr Value) : Option Operand → Option (Option Nat)
  | none => some none
  | some x =>
    match (opv tm x).bind intOf? with
    | some n => if 0 ≤ n then some (some n.toNat) else none
    | none => none

theorem optNat_ok {r : Ren σ} {tm : Tr Value} {a : Act} (ht : TmRel r tm a.tmps) {x : Option Operand} {o : Option Nat} (h : optNat tm x = some o) :
    (x = none ∧ o = none) ∨ ∃ y k n, x = some y ∧ o = some n ∧ a.eval y = .int k (n : Int) := by
  cases x with
  | none => cases h; exact .inl ⟨rfl, rfl⟩
  | some y =>
    simp only [optNat] at h
    split at h
    · rename_i n hn
      rw [Option.bind_eq_some_iff] at hn
      obtain ⟨u, hu, hj⟩ := hn
      obtain ⟨k, _, e⟩ := intOf?_ok (opv_ok ht hu) hj
      split at h
      · rename_i h0
        cases h
        exact .inr ⟨y, k, n.toNat, rfl, rfl, by rw [e, Int.toNat_of_nonneg h0]⟩
      · cases h
    · cases h

theorem run_sliceBound {P : Program} {w : World} {k : IntKind} {n y : Nat} (h : n ≤ y) (c : BoundsCode) : (Instr.sliceBound (.int k (n : Int)) y c).run P w = .ok n w := by
  have h1 : (0 : Int) ≤ n ∧ (n : Int) ≤ y := by omega
  simp [Instr.sliceBound, asIntOf, h1]

def bnds (len cap : Nat) (lo hi mx : Option Nat) : Option (Nat × Nat × Nat) :=
  if (mx.isSome = true → hi.isSome = true) ∧ mx.getD cap ≤ cap ∧ (hi.isSome = true → hi.getD len ≤ mx.getD cap) ∧ (lo.isSome = true → lo.getD 0 ≤ hi.getD len) then
    some (lo.getD 0, hi.getD len, mx.getD cap)
  else none

theorem bnds_ok {P : Program} {r : Ren σ} {tm : Tr Value} {a : Act} (ht : TmRel r tm a.tmps) {lo hi mx : Option Operand} {l h m : Option Nat} (hl : optNat tm lo = some l) (hh : optNat tm hi = some h) (hm : optNat tm mx = some m)
    {isS : Bool} {len cap : Nat} {L H M : Nat} (hb : bnds len cap l h m = some (L, H, M)) (w : World) :
    (Instr.sliceBounds isS len cap (lo.map a.eval) (hi.map a.eval) (mx.map a.eval)).run P w = .ok (L, H, M) w := by
  unfold bnds at hb
  split at hb
  · rename_i hc
    obtain ⟨c0, c1, c2, c3⟩ := hc
    simp only [Option.some.injEq, Prod.mk.injEq] at hb
    obtain ⟨rfl, rfl, rfl⟩ := hb
    rcases optNat_ok ht hl with ⟨rfl, rfl⟩ | ⟨yl, kl, nl, rfl, rfl, el⟩ <;> rcases optNat_ok ht hh with ⟨rfl, rfl⟩ | ⟨yh, kh, nh, rfl, rfl, eh⟩ <;> rcases optNat_ok ht hm with ⟨rfl, rfl⟩ | ⟨ym, km, nm, rfl, rfl, em⟩ <;>
      simp only [Option.isSome_none, Option.isSome_some, Option.getD_none, Option.getD_some, forall_const, Bool.false_eq_true, false_implies, implies_true] at c0 c1 c2 c3 <;>
      simp [Instr.sliceBounds, *, run_sliceBound]
  · cases hb

def opSlice (E : Env) (tm : Tr Value) (t : TypeId) (x : Operand) (lo hi mx : Option Operand) : Option Value :=
  match opv tm x, E.und t, optNat tm lo, optNat tm hi, optNat tm mx with
  | some (.slice (some ⟨i, o, none⟩) len cap), some (.slice el), some l, some h, some m =>
    match E.size el with
    | some s =>
      if o = slack then
        if len = 0 ∧ l.getD 0 = 0 ∧ h.getD 0 = 0 then
          if m.isSome then (if m = some 0 ∧ h.isSome then some (.slice (some ⟨i, slack, none⟩) 0 0) else none)
          else some (.slice (some ⟨i, slack, none⟩) 0 cap)
        else none
      else if cap ≠ slack then
        match bnds len cap l h m with
        | some (L, H, M) => if M < slack then some (.slice (some ⟨i, if M = L then o else o + L * s, none⟩) (H - L) (M - L)) else none
        | none => none
      else
        match bnds len len l h m with
        | some (L, H, M) =>
          if m.isSome then (if M < slack then some (.slice (some ⟨i, if M = L then o else o + L * s, none⟩) (H - L) (M - L)) else none)
          else if L = 0 then some (.slice (some ⟨i, o, none⟩) H slack)
          else if L < len ∧ s ≠ 0 then some (.slice (some ⟨i, o + L * s, none⟩) (H - L) slack)
          else if H = L then some (.slice (some ⟨i, slack, none⟩) 0 slack)
          else none
        | none => none
    | none => none
  | some (.pointer (some ⟨i, o, none⟩)), some (.array n el), some l, some h, some m =>
    match E.size el, bnds n n l h m with
    | some s, some (L, H, M) => if M < slack then some (.slice (some ⟨i, if M = L then o else o + L * s, none⟩) (H - L) (M - L)) else none
    | _, _ => none
  | _, _, _, _, _ => none

theorem bnds_le {len cap : Nat} {l h m : Option Nat} {L H M : Nat} (hb : bnds len cap l h m = some (L, H, M)) (hlen : len ≤ cap) : L ≤ H ∧ (m = none → H ≤ M) ∧ M ≤ cap ∧ (m = none → M = cap) ∧ (m.isSome = true → H ≤ M) := by
  unfold bnds at hb
  split at hb
  · rename_i hc
    obtain ⟨c0, c1, c2, c3⟩ := hc
    simp only [Option.some.injEq, Prod.mk.injEq] at hb
    obtain ⟨rfl, rfl, rfl⟩ := hb
    cases l <;> cases h <;> cases m <;> simp_all
  · cases hb

theorem bnds_wider {len cap cap' : Nat} {l h m : Option Nat} {L H M : Nat} (hb : bnds len cap l h m = some (L, H, M)) (hc : cap ≤ cap') : bnds len cap' l h m = some (L, H, if m.isSome = true then M else cap') := by
  unfold bnds at hb ⊢
  split at hb
  · rename_i hc1
    obtain ⟨c0, c1, c2, c3⟩ := hc1
    simp only [Option.some.injEq, Prod.mk.injEq] at hb
    obtain ⟨rfl, rfl, rfl⟩ := hb
    cases l <;> cases h <;> cases m <;> simp_all <;> omega
  · cases hb

theorem run_sliceAt_sl {P : Program} {t el : TypeId} (hu : P.underlying t = some (.slice el)) {i : TypeInfo} (hi : P.info? el = some i) {w : World} {ad : Addr} {len cap : Nat} {lo hi' mx : Option Value} {L H M : Nat}
    (hb : (Instr.sliceBounds true len cap lo hi' mx).run P w = .ok (L, H, M) w) :
    (Instr.sliceAt t (.slice (some ad) len cap) lo hi' mx).run P w = .ok (.slice (some (if M = L then ad else ad.add (L * i.size))) (H - L) (M - L)) w := by
  simp only [Instr.sliceAt, Instr.slice, Sem.run_bind, run_underlying hu, Result.andThen_ok, hb, run_sizeOf_info hi, Sem.run_pure]
  split <;> rfl

theorem opSlice_ok {E : Env} (hE : EnvOk E σ) {tm : Tr Value} {t : TypeId} {x : Operand} {lo hi mx : Option Operand} {v : Value} (he : opSlice E tm t x lo hi mx = some v) {r : Ren σ} {w : World} {a : Act}
    (ht : TmRel r tm a.tmps) : ∃ v', (Instr.sliceAt t (a.eval x) (lo.map a.eval) (hi.map a.eval) (mx.map a.eval)).run E.P w = .ok v' w ∧ VRel r v v' := by
  unfold opSlice at he
  split at he
  · rename_i i o len cap el l h m hx hu hl hh hm
    have hv := opv_ok ht hx
    have hu' := Env.und_ok hE hu
    split at he
    · rename_i s hs
      obtain ⟨inf, f1, f2⟩ := Env.size_ok hE hs
      subst f2
      generalize a.eval x = p at hv ⊢
      by_cases ho : o = slack
      · subst ho
        rw [if_pos rfl] at he
        split at he
        · rename_i hc
          obtain ⟨c1, c2, c3⟩ := hc
          subst c1
          have hl0 : l.getD 0 = 0 := c2
          cases hm1 : m with
          | none =>
            rw [hm1] at he hm
            simp at he
            subst he
            have hb : ∀ cap', bnds 0 cap' l h none = some (0, 0, cap') := by
              intro cap'
              unfold bnds
              cases l <;> cases h <;> simp_all
            cases hv with
            | @slice _ _ b mm _ _ hri hk =>
              refine ⟨_, run_sliceAt_sl hu' f1 (bnds_ok ht hl hh hm (hb cap) w), ?_⟩
              simp only [Nat.zero_mul, Nat.sub_zero]
              have : (if cap = 0 then (⟨b, slack, none⟩ : Addr) else (⟨b, slack, none⟩ : Addr).add 0) = ⟨b, slack, none⟩ := by split <;> rfl
              rw [this]; exact .sliceAmb _ (.inr rfl)
            | @sliceSlack _ _ b mm _ k' hri hnk ho =>
              refine ⟨_, run_sliceAt_sl hu' f1 (bnds_ok ht hl hh hm (hb k') w), ?_⟩
              simp only [Nat.zero_mul, Nat.sub_zero]
              exact .sliceAmb _ (.inl rfl)
            | @sliceAmb _ _ k' ad hk =>
              refine ⟨_, run_sliceAt_sl hu' f1 (bnds_ok ht hl hh hm (hb k') w), ?_⟩
              simp only [Nat.zero_mul, Nat.sub_zero]
              exact .sliceAmb _ hk
          | some mm0 =>
            rw [hm1] at he hm
            simp only [Option.isSome_some, if_true] at he
            split at he
            · rename_i hc4
              obtain ⟨c4, c5⟩ := hc4
              cases c4
              cases he
              have hb : ∀ cap', bnds 0 cap' l h (some 0) = some (0, 0, 0) := by
                intro cap'
                unfold bnds
                cases l <;> cases h <;> simp_all
              cases hv with
              | @slice _ _ b mm _ _ hri hk =>
                refine ⟨_, run_sliceAt_sl hu' f1 (bnds_ok ht hl hh hm (hb cap) w), ?_⟩
                simp only [if_true, Nat.sub_zero]; exact .sliceAmb _ (.inr rfl)
              | @sliceSlack _ _ b mm _ k' hri hnk ho =>
                refine ⟨_, run_sliceAt_sl hu' f1 (bnds_ok ht hl hh hm (hb k') w), ?_⟩
                simp only [if_true, Nat.sub_zero]; exact .sliceAmb _ (.inr rfl)
              | @sliceAmb _ _ k' ad hk =>
                refine ⟨_, run_sliceAt_sl hu' f1 (bnds_ok ht hl hh hm (hb k') w), ?_⟩
                simp only [if_true, Nat.sub_zero]; exact .sliceAmb _ (.inr rfl)
            · cases he
        · cases he
      · rw [if_neg ho] at he
        split at he
        · rename_i hcap
          split at he
          · rename_i L H M hb
            split at he
            · rename_i hM
              cases he
              cases hv with
              | @slice _ _ b mm _ _ hri hk =>
                refine ⟨_, run_sliceAt_sl hu' f1 (bnds_ok ht hl hh hm hb w), ?_⟩
                have : (if M = L then (⟨b, o, none⟩ : Addr) else (⟨b, o, none⟩ : Addr).add (L * inf.size)) = ⟨b, if M = L then o else o + L * inf.size, none⟩ := by split <;> simp [addr_add]
                rw [this]
                exact .slice hri (by omega)
              | sliceSlack hri hnk ho' => exact absurd rfl hcap
              | sliceAmb ad hk => exact absurd rfl ho
            · cases he
          · cases he
        · rename_i hcap
          have hcap' : cap = slack := by simpa using hcap
          subst hcap'
          split at he
          · rename_i L H M hb
            cases hv with
            | slice hri hk => exact absurd rfl hk
            | sliceAmb ad hk => exact absurd rfl ho
            | @sliceSlack _ _ b mm _ k' hri hnk ho' =>
              have hb' := bnds_wider hb hnk
              have hrun := run_sliceAt_sl hu' f1 (ad := ⟨b, o, none⟩) (bnds_ok ht hl hh hm hb' w)
              have hle := bnds_le hb (Nat.le_refl _)
              have hadd : ∀ q, (if q = L then (⟨b, o, none⟩ : Addr) else (⟨b, o, none⟩ : Addr).add (L * inf.size)) = ⟨b, if q = L then o else o + L * inf.size, none⟩ := by intro q; split <;> simp [addr_add]
              split at he
              · rename_i hms
                split at he
                · rename_i hM
                  cases he
                  rw [if_pos hms, hadd] at hrun
                  exact ⟨_, hrun, .slice hri (by omega)⟩
                · cases he
              · rename_i hms
                have hm0 : m = none := by cases m <;> simp_all
                rw [if_neg hms, hadd] at hrun
                have hHM := hle.2.1 hm0
                have hML := hle.2.2.2.1 hm0
                split at he
                · rename_i hL
                  subst hL
                  cases he
                  have hz : (if k' = 0 then o else o + 0 * inf.size) = o := by simp
                  rw [hz, Nat.sub_zero, Nat.sub_zero] at hrun
                  exact ⟨_, hrun, .sliceSlack hri (by omega) ho'⟩
                · rename_i hL0
                  split at he
                  · rename_i hL
                    obtain ⟨hL1, hL2⟩ := hL
                    cases he
                    rw [if_neg (by omega)] at hrun
                    refine ⟨_, hrun, .sliceSlack hri (by omega) (fun e => ?_)⟩
                    exfalso
                    have : 0 < L * inf.size := Nat.mul_pos (by omega) (by omega)
                    omega
                  · split at he
                    · rename_i hHL
                      subst hHL
                      cases he
                      rw [Nat.sub_self] at hrun
                      exact ⟨_, hrun, .sliceAmb _ (.inl rfl)⟩
                    · cases he
          · cases he
    · cases he
  · rename_i i o n el l h m hx hu hl hh hm
    have hv := opv_ok ht hx
    have hu' := Env.und_ok hE hu
    split at he
    · rename_i s L H M hs hb
      obtain ⟨inf, f1, f2⟩ := Env.size_ok hE hs
      subst f2
      split at he
      · rename_i hM
        cases he
        generalize a.eval x = p at hv ⊢
        cases hv with
        | @ptr _ _ b mm hri =>
          refine ⟨.slice (some ⟨b, if M = L then o else o + L * inf.size, none⟩) (H - L) (M - L), ?_, .slice hri (by omega)⟩
          have hadd : (if M = L then (⟨b, o, none⟩ : Addr) else (⟨b, o, none⟩ : Addr).add (L * inf.size)) = ⟨b, if M = L then o else o + L * inf.size, none⟩ := by split <;> simp [addr_add]
          simp only [Instr.sliceAt, Instr.sureAddr, Sem.run_bind, run_underlying hu', Result.andThen_ok, Sem.run_pure, bnds_ok ht hl hh hm hb w, run_sizeOf_info f1, hadd]
      · cases he
    · cases he
  · cases he

end Go.Eng
