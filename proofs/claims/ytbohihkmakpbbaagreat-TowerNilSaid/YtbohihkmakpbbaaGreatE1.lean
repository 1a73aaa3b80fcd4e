/- The engine, part 1: tries, values up to a renaming of blocks, heaps up to a renaming of blocks. No program in it. -/
import Derived.CallsIn
import Derived.Laws.World
import Derived.Laws.Sem
namespace Go.Eng

/- TRIES: a finite map from numbers; the root is 0, odd numbers lie left, even ones right. -/
def pathF : Nat → Nat → List Bool
  | 0, _ => []
  | f + 1, n => if n = 0 then [] else if n % 2 = 1 then true :: pathF f (n / 2) else false :: pathF f (n / 2 - 1)

def unpath : List Bool → Nat
  | [] => 0
  | true :: p => 2 * unpath p + 1
  | false :: p => 2 * unpath p + 2

theorem unpath_pathF : ∀ (f n : Nat), n ≤ f → unpath (pathF f n) = n := by
  intro f
  induction f with
  | zero => intro n h; have : n = 0 := by omega
            subst this; rfl
  | succ f ih =>
    intro n h
    unfold pathF
    split
    · subst_vars; rfl
    · split
      · simp only [unpath]; rw [ih _ (by omega)]; omega
      · simp only [unpath]; rw [ih _ (by omega)]; omega

def key (n : Nat) : List Bool := pathF n n

theorem unpath_key (n : Nat) : unpath (key n) = n := unpath_pathF n n (Nat.le_refl n)

theorem key_inj {m n : Nat} : key m = key n ↔ m = n :=
  ⟨fun h => by rw [← unpath_key m, ← unpath_key n, h], fun h => by rw [h]⟩

inductive Tr (α : Type) where
  | leaf
  | node (l : Tr α) (v : Option α) (r : Tr α)

namespace Tr
variable {α : Type}

def getP : Tr α → List Bool → Option α
  | leaf, _ => none
  | node _ v _, [] => v
  | node l _ _, true :: p => l.getP p
  | node _ _ r, false :: p => r.getP p

def setP : List Bool → Option α → Tr α → Tr α
  | [], v, leaf => node leaf v leaf
  | [], v, node l _ r => node l v r
  | true :: p, v, leaf => node (setP p v leaf) none leaf
  | false :: p, v, leaf => node leaf none (setP p v leaf)
  | true :: p, v, node l x r => node (setP p v l) x r
  | false :: p, v, node l x r => node l x (setP p v r)

def get (t : Tr α) (n : Nat) : Option α := t.getP (key n)
def set (t : Tr α) (n : Nat) (v : Option α) : Tr α := setP (key n) v t

theorem getP_leaf (p : List Bool) : (leaf : Tr α).getP p = none := by cases p <;> rfl

theorem getP_setP : ∀ (p q : List Bool) (v : Option α) (t : Tr α), (setP p v t).getP q = if p = q then v else t.getP q := by
  intro p
  induction p with
  | nil => intro q v t; cases t <;> cases q <;> simp [setP, getP] <;> (rename_i b q; cases b <;> simp [getP])
  | cons b p ih =>
    intro q v t
    cases q with
    | nil => cases t <;> cases b <;> simp [setP, getP]
    | cons c q =>
      cases t <;> cases b <;> cases c <;> simp [setP, getP, ih]

theorem get_set (t : Tr α) (m n : Nat) (v : Option α) : (t.set m v).get n = if m = n then v else t.get n := by
  unfold get set
  rw [getP_setP]
  simp only [key_inj]

theorem get_set_same (t : Tr α) (n : Nat) (v : Option α) : (t.set n v).get n = v := by rw [get_set, if_pos rfl]
theorem get_set_ne (t : Tr α) {m n : Nat} (v : Option α) (h : m ≠ n) : (t.set m v).get n = t.get n := by rw [get_set, if_neg h]
theorem get_leaf (n : Nat) : (leaf : Tr α).get n = none := getP_leaf _

/- A trie of a list. -/
mutual
def evs : List α → List α
  | [] => []
  | x :: r => x :: ods r
def ods : List α → List α
  | [] => []
  | _ :: r => evs r
end

theorem evs_ods_get : ∀ (l : List α), (∀ i, (evs l)[i]? = l[2 * i]?) ∧ (∀ i, (ods l)[i]? = l[2 * i + 1]?) := by
  intro l
  induction l with
  | nil => simp [evs, ods]
  | cons x r ih =>
    refine ⟨fun i => ?_, fun i => ?_⟩
    · cases i with
      | zero => simp [evs]
      | succ i => simp only [evs, List.getElem?_cons_succ]; rw [ih.2]; rw [show 2 * (i + 1) = (2 * i + 1) + 1 from by omega, List.getElem?_cons_succ]
    · simp only [ods, List.getElem?_cons_succ]; exact ih.1 i

def ofListF : Nat → List α → Tr α
  | 0, _ => leaf
  | _ + 1, [] => leaf
  | f + 1, x :: xs => node (ofListF f (evs xs)) (some x) (ofListF f (ods xs))

theorem getP_ofListF : ∀ (f : Nat) (l : List α) (p : List Bool) (x : α), (ofListF f l).getP p = some x → l[unpath p]? = some x := by
  intro f
  induction f with
  | zero => intro l p x h; simp [ofListF, getP_leaf] at h
  | succ f ih =>
    intro l p x h
    cases l with
    | nil => simp [ofListF, getP_leaf] at h
    | cons y ys =>
      cases p with
      | nil => simpa [ofListF, getP, unpath] using h
      | cons b p =>
        cases b
        · have h1 := ih _ _ _ (show (ofListF f (ods ys)).getP p = some x from h)
          rw [(evs_ods_get ys).2] at h1
          simp only [unpath]
          rw [show 2 * unpath p + 2 = (2 * unpath p + 1) + 1 from by omega, List.getElem?_cons_succ]
          exact h1
        · have h1 := ih _ _ _ (show (ofListF f (evs ys)).getP p = some x from h)
          rw [(evs_ods_get ys).1] at h1
          simp only [unpath, List.getElem?_cons_succ]
          exact h1

def ofList (l : List α) : Tr α := ofListF 20 l

theorem get_ofList {l : List α} {n : Nat} {x : α} (h : (ofList l).get n = some x) : l[n]? = some x := by
  have := getP_ofListF _ _ _ _ h
  rwa [unpath_key] at this

end Tr

/- VALUES up to a renaming of blocks. 'slack' stands for a capacity that is not known. -/
def slack : Nat := 9223372036854775808

/- What stands for what is not known: values ('val'); blocks that are only read ('ro'); structures with memory of their own ('own': of a kind, with pins and data, at a block, with the blocks that are theirs). -/
structure Interp where
  val : Nat → Value
  ro : Nat → Option Obj
  own : Nat → (Nat → Option (Nat × Nat)) → List Nat → List Value → World → Nat → (Nat → Prop) → Prop
  frame : ∀ {k f p d w w' c F}, own k f p d w c F → (∀ b, (b = c ∨ F b ∨ ∃ i ∈ p, ∃ m, f i = some (b, m)) → w'.heap[b]? = w.heap[b]?) → own k f p d w' c F
  more : ∀ {k f g p d w c F}, own k f p d w c F → (∀ i x, f i = some x → g i = some x) → own k g p d w c F

def Interp.of (val : Nat → Value) : Interp := ⟨val, fun _ => none, fun _ _ _ _ _ _ _ => False, fun h _ => h.elim, fun h _ => h.elim⟩

structure Ren (σ : Interp) where
  f : Nat → Option (Nat × Nat)
  F : Nat → Nat → Prop

instance {σ : Interp} : CoeFun (Ren σ) (fun _ => Nat → Option (Nat × Nat)) := ⟨Ren.f⟩

variable {σ : Interp}

def Ren.le (r s : Ren σ) : Prop := ∀ i x, r i = some x → s i = some x

theorem Ren.le_refl (r : Ren σ) : r.le r := fun _ _ h => h
theorem Ren.le_trans {r s t : Ren σ} (h : r.le s) (h' : s.le t) : r.le t := fun i x hx => h' i x (h i x hx)

mutual
inductive VRel (r : Ren σ) : Value → Value → Prop
  | bool (b : Bool) : VRel r (.bool b) (.bool b)
  | int (k : IntKind) (n : Int) : VRel r (.int k n) (.int k n)
  | string (s : ByteArray) : VRel r (.string s) (.string s)
  | ptrNil : VRel r (.pointer none) (.pointer none)
  | ptr {i o c m : Nat} : r i = some (c, m) → VRel r (.pointer (some ⟨i, o, none⟩)) (.pointer (some ⟨c, o, none⟩))
  | sliceNil (n m : Nat) : VRel r (.slice none n m) (.slice none n m)
  | slice {i o c m n k : Nat} : r i = some (c, m) → k ≠ slack → VRel r (.slice (some ⟨i, o, none⟩) n k) (.slice (some ⟨c, o, none⟩) n k)
  | sliceSlack {i o c m n k : Nat} : r i = some (c, m) → n ≤ k → (o = 0 → k = m) → VRel r (.slice (some ⟨i, o, none⟩) n slack) (.slice (some ⟨c, o, none⟩) n k)
  | sliceAmb {i k k' : Nat} (a : Addr) : (k = slack ∨ k' = k) → VRel r (.slice (some ⟨i, slack, none⟩) 0 k) (.slice (some a) 0 k')
  | mapNil : VRel r (.map none) (.map none)
  | map {i c m : Nat} : r i = some (c, m) → VRel r (.map (some i)) (.map (some c))
  | func (f : FuncId) {as cs bs ds : List Value} : VRels r as cs → VRels r bs ds → VRel r (.func (.func f) ⟨as⟩ ⟨bs⟩) (.func (.func f) ⟨cs⟩ ⟨ds⟩)
  | yield {i c m : Nat} : r i = some (c, m) → VRel r (.func (.yield i) #[] #[]) (.func (.yield c) #[] #[])
  | nilFunc : VRel r .nilFunc .nilFunc
  | iface (t : TypeId) {a c : Value} : VRel r a c → VRel r (.iface t a) (.iface t c)
  | nilIface : VRel r .nilIface .nilIface
  | tok (i : Nat) : (σ.val i).oneCell' = true → VRel r (.chan (some i)) (σ.val i)
  | sptr {i c m t o : Nat} : r i = some (c, m) → σ.val t = .int .i64 (o : Int) → VRel r (.complex .f32 i t) (.pointer (some ⟨c, o, none⟩))
  | sslice {i c m t o n k : Nat} : r i = some (c, m) → σ.val t = .tuple #[.int .i64 (o : Int), .int .i64 (n : Int), .int .i64 (k : Int)] → VRel r (.complex .f64 i t) (.slice (some ⟨c, o, none⟩) n k)
  | stamp {i c n : Nat} : r i = some (c, n) → VRel r (.float .f64 i) (.int .i64 (n : Int))
  | agg {as cs : List Value} : VRels r as cs → VRel r (.agg ⟨as⟩) (.agg ⟨cs⟩)
  | tuple {as cs : List Value} : VRels r as cs → VRel r (.tuple ⟨as⟩) (.tuple ⟨cs⟩)
inductive VRels (r : Ren σ) : List Value → List Value → Prop
  | nil : VRels r [] []
  | cons {a c : Value} {as cs : List Value} : VRel r a c → VRels r as cs → VRels r (a :: as) (c :: cs)
end

mutual
theorem VRel.mono {r s : Ren σ} (h : r.le s) {a c : Value} (ha : VRel r a c) : VRel s a c := by
  cases ha with
  | bool b => exact .bool b
  | int k n => exact .int k n
  | string s => exact .string s
  | ptrNil => exact .ptrNil
  | ptr hi => exact .ptr (h _ _ hi)
  | sliceNil n m => exact .sliceNil n m
  | slice hi hk => exact .slice (h _ _ hi) hk
  | sliceSlack hi hn ho => exact .sliceSlack (h _ _ hi) hn ho
  | sliceAmb a hk => exact .sliceAmb a hk
  | mapNil => exact .mapNil
  | map hi => exact .map (h _ _ hi)
  | func f h1 h2 => exact .func f (VRels.mono h h1) (VRels.mono h h2)
  | yield hi => exact .yield (h _ _ hi)
  | nilFunc => exact .nilFunc
  | iface t h1 => exact .iface t (VRel.mono h h1)
  | nilIface => exact .nilIface
  | tok i h1 => exact .tok i h1
  | sptr hi h1 => exact .sptr (h _ _ hi) h1
  | sslice hi h1 => exact .sslice (h _ _ hi) h1
  | stamp hi => exact .stamp (h _ _ hi)
  | agg h1 => exact .agg (VRels.mono h h1)
  | tuple h1 => exact .tuple (VRels.mono h h1)
theorem VRels.mono {r s : Ren σ} (h : r.le s) {as cs : List Value} (ha : VRels r as cs) : VRels s as cs := by
  cases ha with
  | nil => exact .nil
  | cons h1 h2 => exact .cons (VRel.mono h h1) (VRels.mono h h2)
end

theorem VRels.length {r : Ren σ} {as cs : List Value} (h : VRels r as cs) : as.length = cs.length := by
  induction as generalizing cs with
  | nil => cases h; rfl
  | cons a as ih => cases h with | cons _ h2 => simp [ih h2]

theorem VRels.get {r : Ren σ} {as cs : List Value} (h : VRels r as cs) : ∀ {i : Nat} {a : Value}, as[i]? = some a → ∃ c, cs[i]? = some c ∧ VRel r a c := by
  induction as generalizing cs with
  | nil => intro i a ha; simp at ha
  | cons x as ih =>
    cases h with
    | cons h1 h2 =>
      intro i a ha
      cases i with
      | zero => simp at ha; subst ha; exact ⟨_, rfl, h1⟩
      | succ i => simp only [List.getElem?_cons_succ] at ha ⊢; exact ih h2 ha

theorem VRels.append {r : Ren σ} {as cs bs ds : List Value} (h : VRels r as cs) (h' : VRels r bs ds) : VRels r (as ++ bs) (cs ++ ds) := by
  induction as generalizing cs with
  | nil => cases h; exact h'
  | cons x as ih => cases h with | cons h1 h2 => exact .cons h1 (ih h2)

theorem VRels.take {r : Ren σ} {as cs : List Value} (h : VRels r as cs) (n : Nat) : VRels r (as.take n) (cs.take n) := by
  induction as generalizing cs n with
  | nil => cases h; simp; exact .nil
  | cons x as ih =>
    cases h with
    | cons h1 h2 =>
      cases n with
      | zero => exact .nil
      | succ n => exact .cons h1 (ih h2 n)

theorem VRels.drop {r : Ren σ} {as cs : List Value} (h : VRels r as cs) (n : Nat) : VRels r (as.drop n) (cs.drop n) := by
  induction as generalizing cs n with
  | nil => cases h; simp; exact .nil
  | cons x as ih =>
    cases h with
    | cons h1 h2 =>
      cases n with
      | zero => exact .cons h1 h2
      | succ n => exact ih h2 n

theorem VRels.set {r : Ren σ} {as cs : List Value} (h : VRels r as cs) {a c : Value} (hac : VRel r a c) (n : Nat) : VRels r (as.set n a) (cs.set n c) := by
  induction as generalizing cs n with
  | nil => cases h; exact .nil
  | cons x as ih =>
    cases h with
    | cons h1 h2 =>
      cases n with
      | zero => exact .cons hac h2
      | succ n => exact .cons h1 (ih h2 n)

/- GROUND values: no address in them. -/
def gnd : Nat → Value → Bool
  | 0, _ => false
  | n + 1, v =>
    match v with
    | .bool _ | .int _ _ | .string _ | .pointer none | .slice none _ _ | .map none | .nilFunc | .nilIface => true
    | .iface _ v => gnd n v
    | .agg as | .tuple as => as.toList.all (gnd n)
    | .func (.func _) as bs => as.toList.all (gnd n) && bs.toList.all (gnd n)
    | _ => false

theorem gnds {r : Ren σ} {n : Nat} (ih : ∀ v, gnd n v = true → (∀ c, VRel r v c → c = v) ∧ VRel r v v) :
    ∀ (as : List Value), as.all (gnd n) = true → (∀ cs, VRels r as cs → cs = as) ∧ VRels r as as := by
  intro as
  induction as with
  | nil => intro _; exact ⟨fun cs h => by cases h; rfl, .nil⟩
  | cons a as iha =>
    intro h
    simp only [List.all_cons, Bool.and_eq_true] at h
    obtain ⟨h1, h2⟩ := h
    refine ⟨fun cs hc => ?_, .cons (ih a h1).2 (iha h2).2⟩
    cases hc with
    | cons e1 e2 => rw [(ih a h1).1 _ e1, (iha h2).1 _ e2]

theorem gnd_spec (r : Ren σ) : ∀ (n : Nat) (v : Value), gnd n v = true → (∀ c, VRel r v c → c = v) ∧ VRel r v v := by
  intro n
  induction n with
  | zero => intro v h; simp [gnd] at h
  | succ n ih =>
    intro v h
    cases v with
    | bool b => exact ⟨fun c hc => by cases hc; rfl, .bool b⟩
    | int k m => exact ⟨fun c hc => by cases hc; rfl, .int k m⟩
    | string s => exact ⟨fun c hc => by cases hc; rfl, .string s⟩
    | pointer a => cases a with
      | none => exact ⟨fun c hc => by cases hc; rfl, .ptrNil⟩
      | some a => simp [gnd] at h
    | slice a n m => cases a with
      | none => exact ⟨fun c hc => by cases hc; rfl, .sliceNil n m⟩
      | some a => simp [gnd] at h
    | map a => cases a with
      | none => exact ⟨fun c hc => by cases hc; rfl, .mapNil⟩
      | some a => simp [gnd] at h
    | nilFunc => exact ⟨fun c hc => by cases hc; rfl, .nilFunc⟩
    | nilIface => exact ⟨fun c hc => by cases hc; rfl, .nilIface⟩
    | iface t v =>
      simp only [gnd] at h
      exact ⟨fun c hc => by cases hc with | iface _ h1 => rw [(ih v h).1 _ h1], .iface t (ih v h).2⟩
    | agg as =>
      cases as with | mk as =>
      simp only [gnd] at h
      exact ⟨fun c hc => by cases hc with | agg h1 => rw [(gnds ih as h).1 _ h1], .agg (gnds ih as h).2⟩
    | tuple as =>
      cases as with | mk as =>
      simp only [gnd] at h
      exact ⟨fun c hc => by cases hc with | tuple h1 => rw [(gnds ih as h).1 _ h1], .tuple (gnds ih as h).2⟩
    | func fn as bs =>
      cases as with | mk as =>
      cases bs with | mk bs =>
      cases fn with
      | func f =>
        simp only [gnd, Bool.and_eq_true] at h
        exact ⟨fun c hc => by cases hc with | func _ h1 h2 => rw [(gnds ih as h.1).1 _ h1, (gnds ih bs h.2).1 _ h2], .func f (gnds ih as h.1).2 (gnds ih bs h.2).2⟩
      | _ => simp [gnd] at h
    | _ => simp [gnd] at h

end Go.Eng
