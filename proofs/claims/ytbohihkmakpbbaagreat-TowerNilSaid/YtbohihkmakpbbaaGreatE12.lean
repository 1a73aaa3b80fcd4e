/- The engine, part 12: the evaluator. -/
import Derived.Test.YtbohihkmakpbbaaGreatE11M
namespace Go.Eng
variable {σ : Interp}

/- The mode of the caller of a deferred call. -/
inductive CM where
  | no
  | ret
  | pan (ch : List (Value × Bool))

structure Rec where
  code : Ctx → Code → St → Option (AEx × St)
  under : Ctx → Code → Code → St → Option (AEx × St)
  call : FuncId → List Value → Hp → Option (End × Hp)
  callD : FuncId → List Value → CM → Hp → Option (End × CM × Hp)
  codeD : Ctx → Code → St → CM → Option (AEx × St × CM)
  round : Nat → List Value → Hp → Option (End × Hp)

/- What an operation does. -/
inductive OpOut where
  | val (v : Value) (h : Hp)
  | dfr (d : Deferred)
  | pan (ch : List (Value × Bool)) (h : Hp)

def endOut : Option (End × Hp) → Option OpOut
  | some (.ret v, h) => some (.val v h)
  | some (.pan ch, h) => some (.pan ch h)
  | none => none

/- maps.clone, which has no body. -/
def opExt (E : Env) (g : FuncId) (args : List Value) (h : Hp) : Option (Value × Hp) :=
  if E.clone = some g then
    match args with
    | [.iface t (.map (some i))] =>
      match h.get i with
      | some (.map es) => some (.iface t (.map (some h.nx)), h.new (.map es))
      | _ => none
    | _ => none
  else none

/- A method of what stands in an interface: by its type's own row of methods. -/
def isPtrD (d : TypeDesc) : Bool := match d with | .pointer _ => true | _ => false

def opMeth (E : Env) (t : TypeId) (name : String) : Option FuncId :=
  match E.ts.get t, E.und t with
  | some i, some d =>
    match i.methods.find? (·.name == name) with
    | some m =>
      match m.path.toList, m.func with
      | [], some (f, p) => if p = isPtrD d then some f else none
      | _, _ => none
    | none => none
  | _, _ => none

def callOr (E : Env) (rec : Rec) (g : FuncId) (args : List Value) (h : Hp) : Option (End × Hp) :=
  match E.con g args h with
  | some x => some x
  | none => rec.call g args h

def evOp0 (E : Env) (rec : Rec) (rd : Option Nat) (tm : Tr Value) (h : Hp) (o : Oper) : Option OpOut :=
  match o.op with
  | .call c =>
    match c.callee with
    | .builtin b => (opBuiltin E tm h o c b).map fun p => .val p.1 p.2
    | .value f =>
      match opv tm f, opvL tm c.args.toList with
      | some (.func (.func g) first cap), some args =>
        match opExt E g (first.toList ++ args ++ cap.toList) h with
        | some (v, h') => some (.val v h')
        | none => endOut (callOr E rec g (first.toList ++ args ++ cap.toList) h)
      | some (.func (.yield l) _ _), some args => endOut (rec.round l args h)
      | _, _ => none
    | .invoke x name =>
      match opv tm x, opvL tm c.args.toList with
      | some (.iface t v), some args =>
        match opMeth E t name with
        | some g => endOut (callOr E rec g (v :: args) h)
        | none => none
      | _, _ => none
  | .defer c =>
    match rd, c.callee with
    | none, .value f =>
      match opv tm f, opvL tm c.args.toList with
      | some (.func (.func g) first cap), some args => some (.dfr { target := .fn (.func g) cap, args := ⟨first.toList ++ args⟩ })
      | _, _ => none
    | _, _ => none
  | .panic x =>
    match opv tm x with
    | some (.iface t v) => some (.pan [(.iface t v, false)] h)
    | _ => none
  | _ => (opMem E tm h o).map fun p => .val p.1 p.2

inductive Kd where
  | r | l | a | x
  deriving DecidableEq

/- Does an operation act (calls, stores, makes memory)? Or does it read at most? -/
def kd (E : Env) (o : Oper) : Kd :=
  match o.op with
  | .move _ | .assign _ | .pick .. | .extract .. | .build .. | .load .. | .nilCheck _ | .fieldAddr .. | .indexAddr .. | .field .. | .makeFunc .. | .makeInterface .. | .typeAssert .. | .index .. | .slice .. | .binOp .. | .unOp .. | .lookup .. => .r
  | .convert _ d _ => match E.und d with
    | some (.slice _) => .l
    | _ => .r
  | .call c => match c.callee with
    | .builtin .len | .builtin .min | .builtin .max => .r
    | .builtin .append | .builtin .copy | .builtin .delete => .l
    | .builtin _ => .x
    | _ => .l
  | .alloc _ | .box .. | .buildSlice .. => .a
  | .store .. | .makeSlice .. | .makeMap .. | .insert .. | .mapUpdate .. | .mapEntry .. | .entryStore .. => .l
  | _ => .x

/- Does it look into memory? -/
def looksIn (o : Oper) : Bool :=
  match o.op with
  | .load .. | .lookup .. | .convert .. => true
  | .call _ => true
  | _ => false

def symOp (E : Env) (tm : Tr Value) (o : Oper) : Option Value :=
  match o.op, opvL tm o.op.operands.toList with
  | .defer _, _ => none
  | _, some vs => E.sym o.op o.type vs
  | _, none => none

/- Operations on what the engine itself does not look into. -/
def hookOp (E : Env) (tm : Tr Value) (h : Hp) (o : Oper) : Option OpOut :=
  match o.op, opvL tm o.op.operands.toList with
  | .defer _, _ => none
  | _, some vs =>
    if kd E o = .r then
      if looksIn o = true then (E.opr o vs h).map fun v => .val v h else none
    else (E.opw o vs h).map fun p => .val p.1 p.2
  | _, none => none

def evOp (E : Env) (rec : Rec) (rd : Option Nat) (tm : Tr Value) (h : Hp) (o : Oper) : Option OpOut :=
  match evOp0 E rec rd tm h o with
  | some x => some x
  | none =>
    match symOp E tm o with
    | some v => some (.val v h)
    | none => hookOp E tm h o

def putT (nt : Nat) (tm : Tr Value) (dst : Option Tmp) (v : Value) : Option (Tr Value) :=
  match dst with
  | none => some tm
  | some d => if d < nt then some (tm.set d (some v)) else none

/- Is an operation wanted? Its guard's slot must be known. -/
def wantedA (ops : List Oper) (o : Oper) (tm : Tr Value) : Option Bool :=
  match o.guard with
  | none => some true
  | some (j, want) =>
    match (ops[j]?).bind (·.dst) with
    | some d =>
      match tm.get d with
      | some (.bool b) => some (b == want)
      | some (.tuple ⟨[]⟩) => some false
      | _ => none
    | none => none

/- Operations in the text's order. -/
def evOps (E : Env) (rec : Rec) (c : Ctx) (all : List Oper) : List Oper → St → Option (AEx × St)
  | [], s => some (.normal, s)
  | o :: rest, s =>
    match wantedA all o s.tm with
    | some true =>
      match evOp E rec c.rd s.tm s.hp o with
      | some (.val v h) =>
        match putT c.nt s.tm o.dst v with
        | some tm => evOps E rec c all rest { s with tm, hp := h }
        | none => none
      | some (.dfr d) =>
        match putT c.nt s.tm o.dst undef with
        | some tm => evOps E rec c all rest { s with tm, df := d :: s.df }
        | none => none
      | some (.pan ch h) => some (.pan ch, { s with hp := h })
      | none => none
    | some false =>
      match putT c.nt s.tm o.dst undef with
      | some tm => evOps E rec c all rest { s with tm }
      | none => none
    | none => none

/- A REGION THAT DRAWS ITS ORDER. -/
def bef1 (acc : List Nat) (o : Oper) : Nat := o.after.toList.foldl (fun s e => if Region.binds .any e then s ||| (1 <<< e.on) ||| acc.getD e.on 0 else s) 0

def befs : List Oper → List Nat → List Nat
  | [], acc => acc
  | o :: rest, acc => befs rest (acc ++ [bef1 acc o])

def looks (ops : List Oper) (o : Oper) : List Tmp :=
  (o.op.operands.toList.filterMap fun | .tmp t => some t | _ => none) ++ (match o.guard with | some (j, _) => ((ops[j]?).bind (·.dst)).toList | none => [])

/- What makes a new row, whatever the memory: its cells, and the value, by the row's name. -/
def opA (E : Env) (tm : Tr Value) (o : Oper) : Option (List Value × (Nat → Value)) :=
  match o.op with
  | .alloc el => (E.zero el).map fun z => (z, fun i => ptr i 0)
  | .box _ x => (opv tm x).map fun v => (v.cells.toList, fun i => ptr i 0)
  | .buildSlice t n parts =>
    match opBuildSlice E tm ⟨.leaf, 0, []⟩ t n parts.toList with
    | some (_, h) =>
      match h.get 0 with
      | some (.cells c _) => some (c, fun i => .slice (some ⟨i, 0, none⟩) n n)
      | _ => none
    | none => none
  | _ => none

/- What is known of each operation of such a region: its place, which ones stand ahead of it, what its slots hold, whether it is wanted, its value; its number, if it acts; the row that it makes; whether it is behind a panic. -/
structure Ent where
  o : Oper
  ix : Nat
  b : Nat
  tm : Tr Value
  w : Bool
  v : Value
  act : Option Nat
  new : Option (Nat × List Value)
  dead : Bool

def dlook (T0 : Tr Value) : List Ent → Tmp → Option Value
  | [], t => T0.get t
  | e :: es, t => if e.o.dst = some t then (if e.dead then none else some e.v) else dlook T0 es t

def dtm (T0 : Tr Value) (es : List Ent) : List Tmp → Tr Value
  | [] => .leaf
  | t :: ts => (dtm T0 es ts).set t (dlook T0 es t)

/- The run in the text's order; what is behind stands first: the entries, the small heaps behind what acts, how many rows were made, a panic (which operation, its chain, the heap). -/
structure DRun where
  es : List Ent
  hs : List Hp
  na : Nat
  pan : Option (Nat × List (Value × Bool) × Hp)

/- The rows that were made and that no operation which acted has seen; with 'b': those ahead of an operation. -/
def unseen (es : List Ent) (ix : Nat) : Bool := es.all fun e => !(e.act.isSome && e.b.testBit ix)

def adopts (es : List Ent) (b : Option Nat) (e : Ent) : Bool := (match b with | some m => m.testBit e.ix | none => true) && unseen es e.ix

def adopt (es : List Ent) (b : Option Nat) : List Ent → Hp → Hp
  | [], h => h
  | e :: rest, h =>
    match e.new with
    | some (id, c) => if adopts es b e = true then adopt es b rest (h.put id (.cells c none)) else adopt es b rest h
    | none => adopt es b rest h

def behind (d : DRun) (b : Nat) : Bool :=
  match d.pan with
  | some (j, _) => b.testBit j
  | none => false

def evDraw1 (E : Env) (rec : Rec) (c : Ctx) (ops : List Oper) (T0 : Tr Value) (id0 : Nat) (o : Oper) (b i : Nat) (d : DRun) : Option DRun :=
  if behind d b = true then
    some { d with es := ⟨o, i, b, .leaf, false, undef, none, none, true⟩ :: d.es }
  else
    match wantedA ops o (dtm T0 d.es (looks ops o)), d.hs with
    | some false, _ => some { d with es := ⟨o, i, b, dtm T0 d.es (looks ops o), false, undef, none, none, false⟩ :: d.es }
    | some true, h :: hs =>
      match kd E o with
      | .r =>
        match evOp E rec c.rd (dtm T0 d.es (looks ops o)) h o with
        | some (.val v _) => some { d with es := ⟨o, i, b, dtm T0 d.es (looks ops o), true, v, none, none, false⟩ :: d.es }
        | _ => none
      | .a =>
        match opA E (dtm T0 d.es (looks ops o)) o with
        | some (cs, mk) => some { d with es := ⟨o, i, b, dtm T0 d.es (looks ops o), true, mk (id0 + d.na), none, some (id0 + d.na, cs), false⟩ :: d.es, na := d.na + 1 }
        | none => none
      | .l =>
        match d.pan, evOp E rec c.rd (dtm T0 d.es (looks ops o)) (adopt d.es (some b) d.es h) o with
        | none, some (.val v h') => some { d with es := ⟨o, i, b, dtm T0 d.es (looks ops o), true, v, some hs.length, none, false⟩ :: d.es, hs := h' :: h :: hs }
        | none, some (.pan ch h') => some { d with es := ⟨o, i, b, dtm T0 d.es (looks ops o), true, undef, some hs.length, none, false⟩ :: d.es, pan := some (i, ch, h') }
        | _, _ => none
      | .x => none
    | _, _ => none

def evDraw (E : Env) (rec : Rec) (c : Ctx) (ops : List Oper) (T0 : Tr Value) (id0 : Nat) : List (Oper × Nat) → Nat → DRun → Option DRun
  | [], _, d => some d
  | (o, b) :: rest, i, d =>
    match evDraw1 E rec c ops T0 id0 o b i d with
    | some d1 => evDraw E rec c ops T0 id0 rest (i + 1) d1
    | none => none

/- What is asked of the operations' text alone: nothing that a slot is read for stands in no order to what writes it; what acts stands in one order. -/
def pairOk (E : Env) (ops : List Oper) (i j : Nat) (oi oj : Oper) (bi bj : Nat) : Bool :=
  (match oj.dst with
   | some t => !((looks ops oi).contains t) || bi.testBit j || bj.testBit i
   | none => true) &&
  (match oi.dst, oj.dst with
   | some t, some u => t != u
   | _, _ => true) &&
  (!(kd E oi == .l && kd E oj == .l) || bi.testBit j || bj.testBit i)

def rowOk (E : Env) (ops : List Oper) (i : Nat) (oi : Oper) (bi : Nat) : List (Oper × Nat) → Nat → Bool
  | [], _ => true
  | (oj, bj) :: rest, j => (i == j || pairOk E ops i j oi oj bi bj) && rowOk E ops i oi bi rest (j + 1)

def allOk (E : Env) (ops : List Oper) (nt : Nat) (all : List (Oper × Nat)) : List (Oper × Nat) → Nat → Bool
  | [], _ => true
  | (o, b) :: rest, i => rowOk E ops i o b all 0 && (b >>> i == 0) && (match o.dst with | some d => decide (d < nt) | none => true) && allOk E ops nt all rest (i + 1)

def drawStat (E : Env) (nt : Nat) (ops : List Oper) : Bool := allOk E ops nt (ops.zip (befs ops [])) (ops.zip (befs ops [])) 0 && decide ((befs ops []).length = ops.length)

/- What reads memory reads the same wherever it may stand. -/
def mayStand (i : Nat) (b : Nat) (k : Nat) : List Ent → Nat → Bool
  | [], _ => true
  | e :: es, j => (match e.act with | some q => (!(b.testBit j) || decide (q < k)) && (!(e.b.testBit i) || decide (k ≤ q)) | none => true) && mayStand i b k es (j + 1)

def stillAt (E : Env) (rec : Rec) (rd : Option Nat) (ents : List Ent) (i : Nat) (e : Ent) : List Hp → Nat → Bool
  | [], _ => true
  | h :: hs, k => (!(mayStand i e.b k ents 0) || (match evOp E rec rd e.tm h e.o with | some (.val v _) => veq 12 v e.v | _ => false)) && stillAt E rec rd ents i e hs (k + 1)

def stillOk (E : Env) (rec : Rec) (rd : Option Nat) (ents : List Ent) (heaps : List Hp) : List Ent → Nat → Bool
  | [], _ => true
  | e :: es, i => (!(e.w && e.act.isNone && e.new.isNone && looksIn e.o && decide (1 < heaps.length)) || stillAt E rec rd ents i e heaps 0) && stillOk E rec rd ents heaps es (i + 1)

def putAll (nt : Nat) : List Ent → Tr Value → Tr Value
  | [], tm => tm
  | e :: es, tm => putAll nt es (match e.o.dst with | some d => tm.set d (some e.v) | none => tm)

def dropAll : List Ent → Tr Value → Tr Value
  | [], tm => tm
  | e :: es, tm => dropAll es (match e.o.dst with | some d => tm.set d none | none => tm)

def nAlloc (E : Env) : List Oper → Nat
  | [] => 0
  | o :: rest => (if kd E o = .a then 1 else 0) + nAlloc E rest

def evRegionDraw (E : Env) (rec : Rec) (c : Ctx) (ops : List Oper) (s : St) : Option (AEx × St) :=
  if drawStat E c.nt ops = true then
    match evDraw E rec c ops s.tm s.hp.nx (ops.zip (befs ops [])) 0 ⟨[], [{ s.hp with nx := s.hp.nx + nAlloc E ops }], 0, none⟩ with
    | some d =>
      if stillOk E rec c.rd d.es.reverse d.hs.reverse d.es.reverse 0 = true then
        match d.pan, d.hs with
        | none, h :: _ => some (.normal, { s with tm := putAll c.nt d.es.reverse s.tm, hp := adopt d.es none d.es h })
        | some (_, ch, h), _ => some (.pan ch, { s with tm := dropAll d.es s.tm, hp := h })
        | none, [] => none
      else none
    | none => none
  else none

/- The evaluator. -/
def setArgs : List Value → Nat → Tr Value → Tr Value
  | [], _, tm => tm
  | v :: vs, i, tm => setArgs vs (i + 1) (tm.set i (some v))

def evResults (E : Env) (h : Hp) (tm : Tr Value) : List ResultVar → Option (List Value)
  | [] => some []
  | .tmp t :: rs =>
    match tm.get t, evResults E h tm rs with
    | some v, some l => some (v :: l)
    | _, _ => none
  | .cell a t :: rs =>
    match opLoad E tm h t (.tmp a), evResults E h tm rs with
    | some v, some l => some (v :: l)
    | _, _ => none

def oneOf : List Value → Value
  | [v] => v
  | vs => .tuple ⟨vs⟩

def settleA : CM → CM
  | .pan ((_, true) :: _) => .ret
  | m => m

def raisedA (u : CM) (ch : List (Value × Bool)) : CM :=
  match u with
  | .pan old => .pan (ch ++ old)
  | _ => .pan ch

def evLeave (E : Env) (rec : Rec) (fn : Func) (tm : Tr Value) : List Deferred → CM → Hp → Option (End × Hp)
  | [], .ret, h => (evResults E h tm fn.results.toList).map fun vs => (.ret (oneOf vs), h)
  | [], .pan ch, h => some (.pan ch, h)
  | [], .no, _ => none
  | d :: ds, u, h =>
    match d.target with
    | .collected i =>
      match h.get i with
      | some (.defs false) => evLeave E rec fn tm ds u (h.put i (.defs true))
      | _ => none
    | .fn (.func f) cap =>
      match rec.callD f (d.args.toList ++ cap.toList) u h with
      | some (.ret _, u', h') => evLeave E rec fn tm ds (settleA u') h'
      | some (.pan ch, u', h') => evLeave E rec fn tm ds (raisedA u' ch) h'
      | none => none
    | _ => none

/- A loop whose round begins with a step over a map of which several entries are left: whichever the step takes, what all ways have in common. -/
def stepLoop (b : Code) (s : St) : Option (Oper × List Oper × Code × Nat × Nat × List Value) :=
  match b with
  | .seq (.region _ ⟨o :: os⟩ false) rest =>
    match o.op, o.guard with
    | .next x false, none =>
      match iterOf s.tm s.hp x with
      | some (i, m, u :: v :: ls) => some (o, os, rest, i, m, u :: v :: ls)
      | _ => none
    | _, _ => none
  | _ => none

def stepTo (E : Env) (rec : Rec) (c : Ctx) (b : Code) (s : St) (o : Oper) (os : List Oper) (rest : Code) (i m : Nat) (ls : List Value) (k : Nat) : Option (AEx × St) :=
  match nextAt s.hp i m ls k with
  | some (v, h) =>
    match putT c.nt s.tm o.dst v with
    | some tm =>
      match evOps E rec c (o :: os) os { s with tm, hp := h } with
      | some (.normal, s1) =>
        match rec.code c rest s1 with
        | some (.normal, s2) => rec.code c (.loop b) s2
        | q => q
      | _ => none
    | none => none
  | none => none

def evCode (E : Env) (rec : Rec) (c : Ctx) (k : Code) (s : St) : Option (AEx × St) :=
  match k with
  | .skip | .label _ => some (.normal, s)
  | .region _ ops draw => if draw = true then evRegionDraw E rec c ops.toList s else evOps E rec c ops.toList ops.toList s
  | .seq x y => match rec.code c x s with
    | some (.normal, s') => rec.code c y s'
    | q => q
  | .cond x p q => match opv s.tm x with
    | some (.bool b) => rec.code c (if b = true then p else q) s
    | _ => none
  | .block id b => match rec.code c b s with
    | some (.exit id', s') => if id' = id then some (.normal, s') else some (.exit id', s')
    | q => q
  | .loop b =>
    match E.lp c b s with
    | some x => some x
    | none =>
      match stepLoop b s with
      | some (o, os, rest, i, m, ls) => meets ((List.range ls.length).map (stepTo E rec c b s o os rest i m ls))
      | none =>
        match rec.code c b s with
        | some (.normal, s') => rec.code c (.loop b) s'
        | q => q
  | .scope b => rec.under c b b s
  | .exit id => some (.exit id, s)
  | .goto l => some (.goto l, s)
  | .ret => some (.ret, s)
  | .rangeFunc f params assign body =>
    match opv s.tm f with
    | some (.func (.func g) first cap) =>
      match (match c.rd with
        | none => some (s.hp.new (.defs false), s.hp.nx, [({ target := .collected s.hp.nx, args := #[] } : Deferred)])
        | some l => match s.hp.get l with
          | some (.loop r) => some (s.hp, r.defers, [])
          | _ => none) with
      | some (h1, db, mark) =>
        let l := h1.nx
        match callOr E rec g (first.toList ++ [.func (.yield l) #[] #[]] ++ cap.toList) (h1.new (.loop ⟨.ready, none, c.nt, s.tm, params, assign, body, db⟩)) with
        | some (.ret _, h2) =>
          match h2.get l with
          | some (.loop r) =>
            if r.state = .busy then none
            else
              match r.pending with
              | none => some (.normal, { s with df := mark ++ s.df, hp := h2.put l (.loop { r with state := .exhausted }) })
              | some j => rec.code c j { s with df := mark ++ s.df, hp := h2.put l (.loop { r with state := .exhausted }) }
          | _ => none
        | some (.pan ch, h2) => some (.pan ch, { s with df := mark ++ s.df, hp := h2 })
        | none => none
      | none => none
    | _ => none
  | .refuse _ => none

def evUnder (rec : Rec) (c : Ctx) (b k : Code) (s : St) : Option (AEx × St) :=
  match rec.code c k s with
  | some (.goto l, s') => match findLabel b l with
    | some rest => rec.under c b rest s'
    | none => some (.goto l, s')
  | q => q

def evCall (E : Env) (rec : Rec) (f : FuncId) (args : List Value) (h : Hp) : Option (End × Hp) :=
  match E.fs.get f with
  | some fn =>
    match fn.body with
    | some body =>
      if args.length ≤ fn.ntmps then
        match rec.code ⟨fn.ntmps, none⟩ body ⟨setArgs args 0 .leaf, [], h⟩ with
        | some (.normal, s) | some (.ret, s) => evLeave E rec fn s.tm s.df .ret s.hp
        | some (.pan ch, s) => evLeave E rec fn s.tm s.df (.pan ch) s.hp
        | _ => none
      else none
    | none => none
  | none => none

/- Deferred functions: a region with recover in it; no call of a function stands there. -/
def evOpsD (E : Env) (c : Ctx) (all : List Oper) : List Oper → St → CM → Option (AEx × St × CM)
  | [], s, u => some (.normal, s, u)
  | o :: rest, s, u =>
    match wantedA all o s.tm with
    | some true =>
      match o.op with
      | .call ⟨.builtin .recover, _, _⟩ =>
        match u with
        | .pan ((v, false) :: older) =>
          match putT c.nt s.tm o.dst v with
          | some tm => evOpsD E c all rest { s with tm } (.pan ((v, true) :: older))
          | none => none
        | _ =>
          match putT c.nt s.tm o.dst .nilIface with
          | some tm => evOpsD E c all rest { s with tm } u
          | none => none
      | _ =>
        match opMem E s.tm s.hp o with
        | some (v, h) =>
          match putT c.nt s.tm o.dst v with
          | some tm => evOpsD E c all rest { s with tm, hp := h } u
          | none => none
        | none => none
    | some false =>
      match putT c.nt s.tm o.dst undef with
      | some tm => evOpsD E c all rest { s with tm } u
      | none => none
    | none => none

def recovers : List Oper → Bool
  | [] => false
  | o :: rest => (match o.op with | .call ⟨.builtin .recover, _, _⟩ => true | _ => false) || recovers rest

def evCodeD (E : Env) (rec : Rec) (c : Ctx) (k : Code) (s : St) (u : CM) : Option (AEx × St × CM) :=
  match k with
  | .seq x y => match rec.codeD c x s u with
    | some (.normal, s', u') => rec.codeD c y s' u'
    | q => q
  | .cond x p q => match opv s.tm x with
    | some (.bool b) => rec.codeD c (if b = true then p else q) s u
    | _ => none
  | .region i ops draw =>
    if draw = false ∧ recovers ops.toList = true then evOpsD E c ops.toList ops.toList s u
    else (rec.code c (.region i ops draw) s).map fun p => (p.1, p.2, u)
  | k => (rec.code c k s).map fun p => (p.1, p.2, u)

def evCallD (E : Env) (rec : Rec) (f : FuncId) (args : List Value) (u : CM) (h : Hp) : Option (End × CM × Hp) :=
  match E.fs.get f with
  | some fn =>
    match fn.body with
    | some body =>
      if args.length ≤ fn.ntmps then
        match rec.codeD ⟨fn.ntmps, none⟩ body ⟨setArgs args 0 .leaf, [], h⟩ u with
        | some (.normal, s, u') | some (.ret, s, u') =>
          match s.df with
          | [] => (evResults E s.hp s.tm fn.results.toList).map fun vs => (.ret (oneOf vs), u', s.hp)
          | _ => none
        | some (.pan ch, s, u') =>
          match s.df with
          | [] => some (.pan ch, u', s.hp)
          | _ => none
        | _ => none
      else none
    | none => none
  | none => none

def setParams : List Tmp → List Value → Tr Value → Tr Value
  | t :: ts, v :: vs, tm => setParams ts vs (tm.set t (some v))
  | _, _, tm => tm

def evRound (_E : Env) (rec : Rec) (l : Nat) (args : List Value) (h : Hp) : Option (End × Hp) :=
  match h.get l with
  | some (.loop r) =>
    if args.length = r.params.size ∧ r.state = .ready ∧ r.params.toList.all (fun t => decide (t < r.nt)) = true then
      match rec.code ⟨r.nt, some l⟩ r.assign ⟨setParams r.params.toList args r.tm, [], h⟩ with
      | some (.normal, s) =>
        match s.df, s.hp.get l with
        | [], some (.loop r1) =>
          if r1.state = .ready then
            match rec.code ⟨r.nt, some l⟩ r.body { s with hp := s.hp.put l (.loop { r1 with state := .busy }) } with
            | some (e, s2) =>
              match s2.df, s2.hp.get l with
              | [], some (.loop r2) =>
                match e with
                | .normal => some (.ret (.bool true), s2.hp.put l (.loop { r2 with state := .ready, pending := none }))
                | .ret => some (.ret (.bool false), s2.hp.put l (.loop { r2 with state := .done, pending := some .ret }))
                | .exit id => some (.ret (.bool false), s2.hp.put l (.loop { r2 with state := .done, pending := some (.exit id) }))
                | .goto t => some (.ret (.bool false), s2.hp.put l (.loop { r2 with state := .done, pending := some (.goto t) }))
                | .pan _ => none
              | _, _ => none
            | none => none
          else none
        | _, _ => none
      | _ => none
    else none
  | _ => none

def Rec.none : Rec := ⟨fun _ _ _ => .none, fun _ _ _ _ => .none, fun _ _ _ => .none, fun _ _ _ _ => .none, fun _ _ _ _ => .none, fun _ _ _ => .none⟩

def step (E : Env) (rec : Rec) : Rec where
  code := evCode E rec
  under := evUnder rec
  call := evCall E rec
  callD := evCallD E rec
  codeD := evCodeD E rec
  round := evRound E rec

def ev (E : Env) : Nat → Rec
  | 0 => Rec.none
  | n + 1 => step E (ev E n)

end Go.Eng
