/- The engine, part 9: copy, lengths, strings and bytes, comparisons with nil, assertions, maps. -/
import Derived.Test.YtbohihkmakpbbaaGreatE8
namespace Go.Eng
variable {σ : Interp}

/- copy -/
def shorten (m : Nat) : Value → Value
  | .slice a n k => .slice a (min m n) k
  | .string b => .string (b.extract 0 m)
  | v => v

def lenA : Value → Option Nat
  | .slice _ n _ => some n
  | .string b => some b.size
  | _ => none

theorem shorten_rel {r : Ren σ} {v v' : Value} (h : VRel r v v') (m : Nat) {n : Nat} (hl : lenA v = some n) : VRel r (shorten m v) (shorten m v') := by
  cases h with
  | sliceNil n k => exact .sliceNil _ _
  | slice hri hk => exact .slice hri hk
  | sliceSlack hri hnk ho => exact .sliceSlack hri (by omega) ho
  | @sliceAmb i k k' ad hk => simp only [shorten, Nat.min_zero]; exact .sliceAmb ad hk
  | string b => exact .string _
  | bool b => exact .bool b
  | int k n => exact .int k n
  | ptrNil => exact .ptrNil
  | ptr h1 => exact .ptr h1
  | mapNil => exact .mapNil
  | map h1 => exact .map h1
  | func f h1 h2 => exact .func f h1 h2
  | yield h1 => exact .yield h1
  | nilFunc => exact .nilFunc
  | iface t h1 => exact .iface t h1
  | nilIface => exact .nilIface
  | agg h1 => exact .agg h1
  | tuple h1 => exact .tuple h1
  | tok i h1 => simp [lenA] at hl
  | sptr _ _ => simp [lenA] at hl
  | sslice _ _ => simp [lenA] at hl
  | stamp _ => simp [lenA] at hl

theorem lenA_ok {P : Program} {r : Ren σ} {v v' : Value} {n : Nat} (h : VRel r v v') (hl : lenA v = some n) (w : World) : (Builtin.lenOf v').run P w = .ok n w := by
  cases h <;> simp [lenA] at hl <;> subst hl <;> rfl

theorem firstCells_shorten {P : Program} (s m : Nat) {r : Ren σ} {v v' : Value} (h : VRel r v v') {n : Nat} (hl : lenA v = some n) (w : World) : (Builtin.firstCells s m v').run P w = (Builtin.firstCells s m (shorten m v')).run P w := by
  cases h with
  | string b =>
    have e : (b.extract 0 m).extract 0 m = b.extract 0 m := by
      apply ByteArray.ext
      simp [ByteArray.data_extract]
    simp only [shorten, Builtin.firstCells, e]
  | tok i h1 => simp [lenA] at hl
  | sptr _ _ => simp [lenA] at hl
  | sslice _ _ => simp [lenA] at hl
  | stamp _ => simp [lenA] at hl
  | _ => rfl

def opCopy (E : Env) (tm : Tr Value) (h : Hp) (t tx : TypeId) (x y : Operand) : Option (Value × Hp) :=
  match opv tm x, opv tm y, E.und t, isStr E tx with
  | some (.slice base len _), some yv, some (.slice el), some str =>
    match E.size el, lenA yv with
    | some s, some n0 =>
      if min n0 len = 0 then some (.int .i64 0, h)
      else
        match srcOf h s str (shorten (min n0 len) yv), base with
        | some (n, news), some ⟨b, o, none⟩ =>
          match h.get b with
          | some (.cells c sl) => if n = min n0 len ∧ o + news.length ≤ c.length ∧ o ≠ slack then some (.int .i64 n, h.put b (.cells (setsAt c o news) sl)) else none
          | _ => none
        | _, _ => none
    | _, _ => none
  | _, _, _, _ => none

theorem opCopy_ok {E : Env} (hE : EnvOk E σ) {tm : Tr Value} {h h' : Hp} {t tx ty : TypeId} {x y : Operand} {v : Value} (he : opCopy E tm h t tx x y = some (v, h')) {r : Ren σ} {w : World} {a : Act}
    (ht : TmRel r tm a.tmps) (hr : Rel r h w) : ∃ r' v' w', (Builtin.copy_ #[t, tx] ty #[a.eval x, a.eval y]).run E.P w = .ok v' w' ∧ Adv r h w r' h' w' ∧ VRel r' v v' := by
  unfold opCopy at he
  split at he
  · rename_i base len cap yv el str hx hy hu hstr
    have hv := opv_ok ht hx
    have hy' := opv_ok ht hy
    have hu' := Env.und_ok hE hu
    obtain ⟨e', hk⟩ := isStr_ok hE hstr
    generalize a.eval x = p at hv ⊢
    generalize a.eval y = q at hy' ⊢
    split at he
    · rename_i s n0 hs hn0
      obtain ⟨inf, f1, f2⟩ := Env.size_ok hE hs
      subst f2
      have hlen := lenA_ok (P := E.P) hy' hn0 w
      split at he
      · rename_i hz
        cases he
        have hfc : (Builtin.firstCells inf.size 0 q).run E.P w = .ok #[] w := by
          cases hy' with
          | string b => simp [Builtin.firstCells]
          | sliceNil n k => rfl
          | slice hri hk => simp [Builtin.firstCells, loadCells, loadCellsFrom]
          | sliceSlack hri hnk ho => simp [Builtin.firstCells, loadCells, loadCellsFrom]
          | sliceAmb ad hk => simp [Builtin.firstCells, loadCells, loadCellsFrom]
          | _ => simp [lenA] at hn0
        have main : ∀ ad k, p = .slice ad len k → ∃ r' v' w', (Builtin.copy_ #[t, tx] ty #[p, q]).run E.P w = .ok v' w' ∧ Adv r h w r' h w' ∧ VRel r' (.int .i64 0) v' := by
          intro ad k hp
          subst hp
          refine ⟨r, .int .i64 0, w, ?_, .refl hr, .int _ _⟩
          have hz' : Nat.min n0 len = 0 := hz
          cases ad <;> simp [Builtin.copy_, run_underlying hu', hlen, hz', run_sizeOf_info f1, hfc, storeCells, goInt]
        cases hv with
        | sliceNil => exact main _ _ rfl
        | slice hri hk => exact main _ _ rfl
        | sliceSlack hri hnk ho => exact main _ _ rfl
        | sliceAmb ad hk => exact main _ _ rfl
      · rename_i hz
        split at he
        · rename_i n news b o hsrc
          obtain ⟨news', hS, hnews⟩ := srcOf_ok hsrc hk hr (shorten_rel hy' (min n0 len) hn0)
          split at he
          · rename_i c sl hb
            split at he
            · rename_i hc
              obtain ⟨hc1, hc2, hc3⟩ := hc
              cases he
              have hfc : (Builtin.firstCells inf.size (min n0 len) q).run E.P w = .ok news'.toArray w := by
                rw [firstCells_shorten inf.size (min n0 len) hy' hn0 w]; rw [← hS.cells, hc1]
              have main : ∀ b' m k, r b = some (b', m) → p = .slice (some ⟨b', o, none⟩) len k → ∃ r' v' w', (Builtin.copy_ #[t, tx] ty #[p, q]).run E.P w = .ok v' w' ∧
                  Adv r h w r' (h.put b (.cells (setsAt c o news) sl)) w' ∧ VRel r' (.int .i64 n) v' := by
                intro b' m k hri hp
                subst hp
                obtain ⟨s1, s2⟩ := Adv.setCells hri news news' hnews h w c sl o hr hb hc2
                have hl := hnews.length
                have hst := run_storeCells_cells (P := E.P) b' o news' 0 w (by simpa using fun j hj => (s1 j (by omega)).1) (by simpa using fun j hj => (s1 j (by omega)).2) hS.one
                simp only [Nat.add_zero] at hst
                refine ⟨r, .int .i64 n, _, ?_, s2, .int _ _⟩
                have hmin : Nat.min n0 len = min n0 len := rfl
                simp [Builtin.copy_, run_underlying hu', hlen, hmin, run_sizeOf_info f1, hfc, hst, goInt, hc1]
              cases hv with
              | slice hri hk => exact main _ _ _ hri rfl
              | sliceSlack hri hnk ho => exact main _ _ _ hri rfl
              | sliceAmb ad hk => exact absurd rfl hc3
            · cases he
          · cases he
        · cases he
    · cases he
  · cases he

/- len -/
def opLen (E : Env) (tm : Tr Value) (h : Hp) (t : TypeId) (x : Operand) : Option Value :=
  match opv tm x, E.und t with
  | some (.slice _ n _), some (.slice _) => some (.int .i64 n)
  | some (.map (some i)), some (.map _ _) =>
    match h.get i with
    | some (.map es) => some (.int .i64 es.length)
    | _ => none
  | some _, some (.array n _) => some (.int .i64 n)
  | some (.pointer _), some (.pointer el) =>
    match E.und el with
    | some (.array n _) => some (.int .i64 n)
    | _ => none
  | _, _ => none

theorem PRels.length {r : Ren σ} {as cs : List (Value × Value)} (h : PRels r as cs) : as.length = cs.length := by
  induction h with
  | nil => rfl
  | cons _ _ _ ih => simp [ih]

theorem Rel.map {r : Ren σ} {h : Hp} {w : World} (hr : Rel r h w) {i : Nat} {es : List (Value × Value)} (hi : h.get i = some (.map es)) {b m : Nat} (hri : r i = some (b, m)) :
    ∃ ms k, w.heap[b]? = some (.map ms k) ∧ MapRel r es ms ∧ Stamped ms k := by
  obtain ⟨b', m', obj, h1, h2, h3⟩ := hr.live i _ hi
  rw [hri] at h1; cases h1
  cases obj with
  | map ms k => exact ⟨ms, k, h2, h3⟩
  | _ => exact absurd h3 (by simp [ObjRel])

theorem run_getObj_map {P : Program} {w : World} {b : Nat} {ms : Array MapEntry} {k : Nat} (h : w.heap[b]? = some (.map ms k)) : (getObj b).run P w = .ok (.map ms k) w := by
  simp [getObj, Sem.run, h]

theorem MapRel.length {r : Ren σ} {es : List (Value × Value)} {ms : Array MapEntry} (h : MapRel r es ms) : ms.size = es.length := by
  obtain ⟨ps, h1, h2⟩ := h
  have := h1.length_eq
  rw [h2.length, this]; simp

theorem opLen_ok {E : Env} (hE : EnvOk E σ) {tm : Tr Value} {h : Hp} {t ty : TypeId} {x : Operand} {v : Value} (he : opLen E tm h t x = some v) {r : Ren σ} {w : World} {a : Act}
    (ht : TmRel r tm a.tmps) (hr : Rel r h w) : (Builtin.len_ #[t] ty #[a.eval x]).run E.P w = .ok v w ∧ VRel r v v := by
  unfold opLen at he
  split at he
  · rename_i ad n cap el hx hu
    have hv := opv_ok ht hx
    cases he
    refine ⟨?_, .int _ _⟩
    generalize a.eval x = p at hv ⊢
    cases hv <;> simp [Builtin.len_, run_underlying (Env.und_ok hE hu), goInt]
  · rename_i i k el hx hu
    have hv := opv_ok ht hx
    split at he
    · rename_i es hi
      cases he
      refine ⟨?_, .int _ _⟩
      generalize a.eval x = p at hv ⊢
      cases hv with
      | map hri =>
        obtain ⟨ms, kk, h1, h2, _⟩ := hr.map hi hri
        simp [Builtin.len_, run_underlying (Env.und_ok hE hu), goInt, run_getObj_map h1, h2.length]
    · cases he
  · rename_i n el hx hu
    cases he
    exact ⟨by simp [Builtin.len_, run_underlying (Env.und_ok hE hu), goInt], .int _ _⟩
  · rename_i ad el hx hu
    split at he
    · rename_i n el2 hu2
      cases he
      exact ⟨by simp [Builtin.len_, run_underlying (Env.und_ok hE hu), run_underlying (Env.und_ok hE hu2), goInt], .int _ _⟩
    · cases he
  · cases he

/- bytes of a slice as a string, a string as bytes -/
def u8? : Value → Option Int
  | .int .u8 n => some n
  | _ => none

def u8s : List Value → Option (List Int)
  | [] => some []
  | v :: r =>
    match u8? v, u8s r with
    | some n, some l => some (n :: l)
    | _, _ => none

theorem u8?_ok {r : Ren σ} {v v' : Value} {n : Int} (h : u8? v = some n) (hr : VRel r v v') : v' = .int .u8 n := by
  unfold u8? at h
  split at h
  · cases h; cases hr; rfl
  · cases h

theorem u8s_ok {r : Ren σ} : ∀ {l l' : List Value} {ns : List Int}, u8s l = some ns → VRels r l l' → l' = ns.map (Value.int .u8) := by
  intro l
  induction l with
  | nil => intro l' ns h hr; cases h; cases hr; rfl
  | cons v l ih =>
    intro l' ns h hr
    cases hr with
    | cons h1 h2 =>
      simp only [u8s] at h
      split at h
      · rename_i n l0 hn hl
        cases h
        rw [u8?_ok hn h1, ih hl h2]; rfl
      · cases h

def opConv (E : Env) (tm : Tr Value) (h : Hp) (src dst : TypeId) (x : Operand) : Option (Value × Hp) :=
  match opv tm x, E.und src, E.und dst with
  | some (.slice (some ⟨i, o, none⟩) n _), some (.slice el), some .string =>
    match E.und el with
    | some (.int .u8) =>
      if n = 0 then some (.string ByteArray.empty, h)
      else if o = slack then none
      else
        match h.get i with
        | some (.cells c _) =>
          if o + n ≤ c.length then
            match u8s ((c.drop o).take n) with
            | some ns => some (.string (ns.foldl (fun r n => r.push (UInt8.ofNat n.toNat)) ByteArray.empty), h)
            | none => none
          else none
        | _ => none
    | _ => none
  | some (.string s), some .string, some (.slice el) =>
    match E.und el with
    | some (.int .u8) => some (.slice (some ⟨h.nx, 0, none⟩) s.size slack, h.new (.cells (byteCells s) (some 1)))
    | _ => none
  | some (.slice (some ⟨i, o, none⟩) n k), some (.slice _), some (.slice el) =>
    if src = dst ∧ o ≠ slack then
      match E.und el, h.get i with
      | some (.int .u8), some (.cells _ _) => some (.slice (some ⟨i, o, none⟩) n k, h)
      | _, _ => none
    else none
  | _, _, _ => none

/- The mark on bytes that came of a string: it lies behind the row's end. -/
theorem Adv.marked {r : Ren σ} {h : Hp} {w : World} (hr : Rel r h w) {i : Nat} {c : List Value} {sl : Option Nat} (hi : h.get i = some (.cells c sl)) {b m : Nat} (hri : r i = some (b, m)) (o : Nat) (P : Program) :
    ∃ w', (markStringish ⟨b, o, none⟩).run P w = .ok () w' ∧ Adv r h w r h w' := by
  obtain ⟨c', el, fz, h1, h2, h3, h4⟩ := hr.cells hi hri
  obtain ⟨lo, up⟩ := fz
  refine ⟨w.freeze { block := b, off := c'.size } 1, ?_, ?_⟩
  · simp [markStringish, shape, freeze, Sem.run, World.shape?, h1]
  · have hheap : (w.freeze { block := b, off := c'.size } 1).heap = w.heap.modify b (fun ob => match ob with
        | .cells c elem (lo, hi) => .cells c elem (if lo == hi then (c'.size, c'.size + 1) else (min lo c'.size, max hi (c'.size + 1)))
        | ob => ob) := by
      simp only [World.freeze, if_neg (by decide : ¬ (1 = 0))]
      refine congrArg (fun f => w.heap.modify b f) (funext fun ob => ?_)
      cases ob <;> rfl
    have key := Adv.put hr hi hri (w' := w.freeze { block := b, off := c'.size } 1) (obj' := .cells c' el (if lo == up then (c'.size, c'.size + 1) else (min lo c'.size, max up (c'.size + 1)))) (o' := .cells c sl)
      (by rw [hheap, Array.getElem?_modify]; simp [h1]) (fun d hd => by rw [hheap, Array.getElem?_modify]; simp [Ne.symm hd]) (by rw [hheap]; simp) ⟨h2, ?_, h4⟩ (by simp [World.freeze, outer]) (by simp [World.freeze])
    · have : h.same (h.put i (.cells c sl)) := ⟨fun j => by rw [Hp.get_put]; split <;> simp_all, rfl, rfl⟩
      have hs : (h.put i (.cells c sl)).same h := ⟨fun j => (this.get j).symm, rfl, rfl⟩
      exact Adv.same hs key
    · simp only [] at h3
      split
      · exact .inr (Nat.le_refl _)
      · rename_i hne
        rcases h3 with h3 | h3
        · exact absurd (by simpa using h3) hne
        · exact .inr (by simp only []; omega)

theorem opConv_ok {E : Env} (hE : EnvOk E σ) {tm : Tr Value} {h h' : Hp} {src dst : TypeId} {x : Operand} {v : Value} (he : opConv E tm h src dst x = some (v, h')) {r : Ren σ} {w : World} {a : Act}
    (ht : TmRel r tm a.tmps) (hr : Rel r h w) : ∃ r' v' w', (convert src dst (a.eval x)).run E.P w = .ok v' w' ∧ Adv r h w r' h' w' ∧ VRel r' v v' := by
  unfold opConv at he
  split at he
  · rename_i i o n cap el hx hs hd
    have hv := opv_ok ht hx
    split at he
    · rename_i hel
      have hs' := Env.und_ok hE hs
      have hd' := Env.und_ok hE hd
      have hel' := Env.und_ok hE hel
      generalize a.eval x = p at hv ⊢
      split at he
      · rename_i hn0
        subst hn0
        cases he
        have main : ∀ ad k, p = .slice (some ad) 0 k → ∃ r' v' w', (convert src dst p).run E.P w = .ok v' w' ∧ Adv r h w r' h w' ∧ VRel r' (.string ByteArray.empty) v' := by
          intro ad k hp
          subst hp
          refine ⟨r, .string ByteArray.empty, w, ?_, .refl hr, .string _⟩
          rw [run_convert_bytes_string w src dst el _ _ _ hs' hel' hd']
          exact run_bytesToString w ad 0 k [] (by simp [loadCells, loadCellsFrom])
        cases hv with
        | slice hri hk => exact main _ _ rfl
        | sliceSlack hri hnk ho => exact main _ _ rfl
        | sliceAmb ad hk => exact main _ _ rfl
      · rename_i hn0
        split at he
        · cases he
        · rename_i ho
          split at he
          · rename_i c sl hi
            split at he
            · rename_i hle
              split at he
              · rename_i ns hns
                cases he
                have main : ∀ b m k, r i = some (b, m) → p = .slice (some ⟨b, o, none⟩) n k → ∃ r' v' w', (convert src dst p).run E.P w = .ok v' w' ∧ Adv r h w r' h w' ∧
                    VRel r' (.string (ns.foldl (fun r n => r.push (UInt8.ofNat n.toNat)) ByteArray.empty)) v' := by
                  intro b m k hri hp
                  subst hp
                  obtain ⟨cs, e1, e2, e3⟩ := hr.range hi hri o n hle
                  refine ⟨r, _, w, ?_, .refl hr, .string _⟩
                  rw [run_convert_bytes_string w src dst el _ _ _ hs' hel' hd']
                  refine run_bytesToString w _ n k ns ?_
                  have hcs := u8s_ok hns e3
                  rw [← hcs, ← e2]
                  exact run_loadCells_list (P := E.P) w ⟨b, o, none⟩ cs (fun j u hj => by rw [addr_add]; exact e1 j u hj)
                cases hv with
                | slice hri hk => exact main _ _ _ hri rfl
                | sliceSlack hri hnk ho' => exact main _ _ _ hri rfl
                | sliceAmb ad hk => exact absurd rfl ho
              · cases he
            · cases he
          · cases he
    · cases he
  · rename_i s el hx hs hd
    have hv := opv_ok ht hx
    split at he
    · rename_i hel
      cases he
      generalize a.eval x = p at hv ⊢
      cases hv
      have hrun := run_bytes_of_string (P := E.P) w src dst el s (Env.und_ok hE hs) (Env.und_ok hE hd) (Env.und_ok hE hel)
      have hcap := le_grownCap w s.size 0 el
      have hsz : (bytesRow s (grownCap w s.size 0 el)).size = grownCap w s.size 0 el := by
        simp only [bytesRow, Array.size_append, Array.size_map, Array.size_replicate]
        have : s.data.size = s.size := rfl
        omega
      have hrel : ObjRel (r.add h.nx (w.heap.size, grownCap w s.size 0 el)) (grownCap w s.size 0 el) (.cells (byteCells s) (some 1))
          (.cells (bytesRow s (grownCap w s.size 0 el)) el ((bytesRow s (grownCap w s.size 0 el)).size, (bytesRow s (grownCap w s.size 0 el)).size + 1)) := by
        refine ⟨?_, .inr (Nat.le_refl _), fun es he' => by cases he'; rw [hsz]; omega⟩
        intro j u hj
        obtain ⟨u', h1, h2⟩ := (byteCells_rel (r.add h.nx (w.heap.size, grownCap w s.size 0 el)) s).get hj
        refine ⟨u', ?_, h2⟩
        have hlt : j < (byteCells s).length := (List.getElem?_eq_some_iff.1 h1).1
        have hlt' : j < (s.data.map fun b => Value.int .u8 b.toNat).size := by simpa [byteCells] using hlt
        unfold bytesRow
        rw [Array.getElem?_append_left hlt']
        rw [← h1, byteCells]
        simp
      have hadv := Adv.name (w' := w.drew.alloc (.cells (bytesRow s (grownCap w s.size 0 el)) el ((bytesRow s (grownCap w s.size 0 el)).size, (bytesRow s (grownCap w s.size 0 el)).size + 1))) hr
        (.cells (byteCells s) (some 1)) w.heap.size (grownCap w s.size 0 el) none (obj := _) (by simp [World.alloc, drew_heap]) hrel
        (fun d hd' hne => by simp [World.alloc, drew_heap, Array.getElem?_push, hne]) (by simp [World.alloc, drew_heap]) (.inl (Nat.le_refl _)) rfl rfl
      exact ⟨_, _, _, hrun, hadv, .sliceSlack (show (r.add h.nx (w.heap.size, grownCap w s.size 0 el)) h.nx = _ by simp [Ren.add]) hcap (fun _ => rfl)⟩
    · cases he
  · rename_i i o n k els el hx hs hd
    have hv := opv_ok ht hx
    split at he
    · rename_i hc
      obtain ⟨hsd, ho⟩ := hc
      subst hsd
      rw [hs] at hd
      cases hd
      split at he
      · rename_i c sl hel hi
        cases he
        have main : ∀ b m kk, r i = some (b, m) → VRel r (.slice (some ⟨i, o, none⟩) n k) (.slice (some ⟨b, o, none⟩) n kk) → a.eval x = .slice (some ⟨b, o, none⟩) n kk →
            ∃ r' v' w', (convert src src (a.eval x)).run E.P w = .ok v' w' ∧ Adv r h w r' h w' ∧ VRel r' (.slice (some ⟨i, o, none⟩) n k) v' := by
          intro b m kk hri hrel hp
          obtain ⟨w', h1, h2⟩ := Adv.marked hr hi hri o E.P
          refine ⟨r, .slice (some ⟨b, o, none⟩) n kk, w', ?_, h2, hrel⟩
          rw [hp]
          simp [convert, run_underlying (Env.und_ok hE hs), run_underlying (Env.und_ok hE hel), h1]
        generalize hp : a.eval x = p at hv main
        cases hv with
        | slice hri hk => exact main _ _ _ hri (.slice hri hk) rfl
        | sliceSlack hri hnk ho' => exact main _ _ _ hri (.sliceSlack hri hnk ho') rfl
        | sliceAmb ad hk => exact absurd rfl ho
      · cases he
    · cases he
  · cases he

end Go.Eng
