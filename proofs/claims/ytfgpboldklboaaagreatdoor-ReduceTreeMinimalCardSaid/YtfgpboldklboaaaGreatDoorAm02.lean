/-
  PROVED here: steps on the way to the card of 'sleuthlaw06.ReduceTreeMinimal' (an abstract machine, its soundness, what each function computes). No conditions beyond those that each theorem states.
-/
import Derived.Test.YtfgpboldklboaaaGreatDoorAm01
namespace Go.Am
def beqV : Nat → Value → Value → Bool
 | _, .bool a, .bool b => a == b
 | _, .int j a, .int k b => decide (j = k) && decide (a = b)
 | _, .string a, .string b => a.data.toList == b.data.toList
 | _, .pointer a, .pointer b => decide (a = b)
 | _, .slice a l c, .slice b k d => decide (a = b) && decide (l = k) && decide (c = d)
 | _, .map a, .map b => decide (a = b)
 | _, .nilFunc, .nilFunc => true
 | _, .nilIface, .nilIface => true
 | _, .chan a, .chan b => decide (a = b)
 | n + 1, .iface t v, .iface u w => decide (t = u) && beqV n v w
 | n + 1, .agg a, .agg b => a.toList.length == b.toList.length && (a.toList.zip b.toList).all fun p => beqV n p.1 p.2
 | n + 1, .func f a c, .func g b d => decide (f = g) && a.toList.length == b.toList.length && (a.toList.zip b.toList).all (fun p => beqV n p.1 p.2) &&
  c.toList.length == d.toList.length && (c.toList.zip d.toList).all (fun p => beqV n p.1 p.2)
 | _, _, _ => false
structure Cfg extends Env where
 idf : FuncId → Bool
 ng : Nat
 kf : FuncId → Option Bool := fun _ => none
section
variable (G : Cfg)
def callV (f : FuncId) (args : List Value) (m : Mem) : ORes :=
 match G.P.funcs[f]? with
 | none => .fail
 | some fn =>
  if fn.name == "runtime.NumGoroutine" then .fail else
  match fn.body with
  | some _ => .enter f args m
  | none => if G.idf f then match args with
   | [x] => .value x m
   | _ => .fail
   else .fail
def opLen (t : TypeId) (x : Value) (m : Mem) : ORes := match lenV G.toEnv m t x with
 | some n => .value (goInt n) m
 | none => .fail
def opSliceData (x : Value) (m : Mem) : ORes := match x with
 | .slice none _ _ => .value (.pointer none) m
 | .slice (some a) _ c => if capOf c = 0 then .fail else .value (.pointer (some a)) m
 | _ => .fail
def opUnsafeString (pt : TypeId) (p n : Value) (m : Mem) : ORes := match p, n with
 | .pointer none, .int _ n => if n = 0 then .value (.string .empty) m else .fail
 | .pointer (some a), .int _ n =>
  if n = 0 then .value (.string .empty) m else
  if n < 0 || n > 1048576 then .fail else
  match und G.toEnv pt, m.live a.block with
  | some (.pointer u), some c =>
   if c.str || !(G.P.cellsOf c.elem == 1) || !sameLayout G.P G.P.depth c.elem u || a.spot.isSome || c.n < a.off + n.toNat then .fail else
   match m.loadN G.toEnv a.block a.off n.toNat with
   | some vs => match cutB vs with
    | some bs => .value (.string ⟨⟨bs⟩⟩) (m.setB (a.block / 2) (.cells { c with
     lo := if c.lo < c.hi then min c.lo a.off else a.off
     hi := if c.lo < c.hi then max c.hi (a.off + n.toNat) else a.off + n.toNat }))
    | none => .fail
   | none => .fail
  | _, _ => .fail
 | _, _ => .fail
def opBuiltin (b : Builtin) (argTypes : Array TypeId) (type : TypeId) (args : Array Value) (m : Mem) : ORes :=
 match b with
 | .append => match argTypes[0]? with
  | some t => if args.size = 2 then opAppend G.toEnv t argTypes[1]? (args.getD 0 undef') (args.getD 1 undef') m else .fail
  | none => .fail
 | .len => match argTypes[0]? with
  | some t => if args.size = 1 then opLen G t (args.getD 0 undef') m else .fail
  | none => .fail
 | .min => if args.toList.all (flat 9) then rp (pureRun G.P (Builtin.min_ argTypes type args)) m else .fail
 | .max => if args.toList.all (flat 9) then rp (pureRun G.P (Builtin.max_ argTypes type args)) m else .fail
 | .recover => .recover m
 | .panic => match args.getD 0 undef' with
  | .iface t v => .panic (.iface t v) m
  | _ => .fail
 | .unsafeSliceData => if args.size = 1 then opSliceData (args.getD 0 undef') m else .fail
 | .unsafeString => match argTypes[0]? with
  | some t => if args.size = 2 then opUnsafeString G t (args.getD 0 undef') (args.getD 1 undef') m else .fail
  | none => .fail
 | _ => .fail
 where
 undef' : Value := .tuple #[]
def invokeV (t : Target) (args : Array Value) (m : Mem) : ORes :=
 match t with
 | .builtin b argTypes type _ => opBuiltin G b argTypes type args m
 | .fn (.func f) captured => callV G f (args.toList ++ captured.toList) m
 | .fn (.yield l) _ => .round l args.toList m
 | _ => .fail
def resolveV (ev : Operand → Value) (c : Call) (type : TypeId) : Option Deferred :=
 match c.callee with
 | .builtin b => some { target := .builtin b c.argTypes type (c.args.map fun | .const _ => true | _ => false), args := c.args.map ev }
 | .invoke _ _ => none
 | .value f => match ev f with
  | .func fn first captured => some { target := .fn fn captured, args := first ++ c.args.map ev }
  | _ => none
def opV (ev : Operand → Value) (o : Oper) (m : Mem) : ORes :=
 match o.op with
 | .move x => .value (ev x) m
 | .assign x => .value (ev x) m
 | .pick c a b => opPick (ev c) (ev a) (ev b) m
 | .alloc t => opAlloc G.toEnv t m
 | .box t x => opBox t (ev x) m
 | .build t parts => opBuild G.toEnv t (parts.toList.map fun p => (p.1, ev p.2)) m
 | .buildSlice t len parts => opBuildSlice G.toEnv t len (parts.toList.map fun p => (p.1, ev p.2)) m
 | .load t a => opLoad G.toEnv t (ev a) m
 | .store t a x => opStore G.toEnv t (ev a) (ev x) m
 | .nilCheck x => opNilCheck (ev x) m
 | .binOp op t x y _ => opBin G.toEnv op t x y (ev x) (ev y) m
 | .unOp op _ x => opUn G.toEnv op (ev x) m
 | .convert s d x => opConvert G.toEnv s d (ev x) m
 | .makeInterface t x => opMakeInterface G.toEnv t (ev x) m
 | .makeFunc fn first captured => opMakeFunc fn (first.map ev) (captured.map ev) m
 | .makeMap t r => opMakeMap G.toEnv t (r.map ev) m
 | .makeSlice t l c => opMakeSlice G.toEnv t (ev l) (ev c) m
 | .slice t x lo hi mx => if mx.isSome && hi.isNone then .fail else opSlice G.toEnv t (ev x) (lo.map ev) (hi.map ev) (mx.map ev) m
 | .fieldAddr s x f => opFieldAddr G.toEnv s (ev x) f m
 | .field t x f => opField G.toEnv t (ev x) f m
 | .indexAddr t x i => opIndexAddr G.toEnv t (ev x) (ev i) m
 | .index t x i => opIndex G.toEnv t (ev x) (ev i) m
 | .lookup t x k ok => opLookup G.toEnv t (ev x) (ev k) ok m
 | .mapUpdate t mp k x => opUpdate G.toEnv t (ev mp) (ev k) (ev x) m
 | .insert t mp k x => opUpdate G.toEnv t (ev mp) (ev k) (ev x) m
 | .typeAssert x _ a ok => opAssert G.toEnv (ev x) a ok m
 | .extract t i => opExtract (ev t) i m
 | .call c => match resolveV ev c o.type with
  | some d => invokeV G d.target d.args m
  | none => .fail
 | .defer c => match resolveV ev c o.type with
  | some d => .defer d m
  | none => .fail
 | .panic x => match ev x with
  | .iface t v => .panic (.iface t v) m
  | _ => .fail
 | _ => .fail
structure St where
 tmps : Tr Value
 defers : List Deferred
 cm : Option (List PanicEntry)
 m : Mem
def evalT (ng : Nat) (t : Tr Value) : Operand → Value
 | .tmp i => (t.get i).getD undef
 | .const v => if flat 9 v then v else undef
 | .global g => if g < ng then .pointer (some ⟨2 * g, 0, none⟩) else undef
 | .func f => .func (.func f) #[] #[]
structure Ctx where
 fn : FuncId
 deferred : Bool
 round : Option Nat
 nt : Nat
def St.put (x : Ctx) (s : St) (dst : Option Tmp) (v : Value) : Option St := match dst with
 | some d => if d < x.nt then some { s with tmps := s.tmps.set d v } else none
 | none => some s
inductive Ex where
 | normal
 | exit (id : Nat)
 | ret
 | panic (ch : List PanicEntry)
def St.next (x : Ctx) (s : St) (dst : Option Tmp) (v : Value) : Option (Ex × St) := match s.put x dst v with
 | some s => some (.normal, s)
 | none => none
inductive Out where
 | returned (v : Value)
 | panicked (ch : List PanicEntry)
def wantedV (o : Oper) (ops : Array Oper) (t : Tr Value) : Bool :=
 match o.guard with
 | none => true
 | some (j, want) => match (ops[j]?).bind (·.dst) with
  | some d => match t.get d with
   | some (.bool b) => b == want
   | _ => false
  | none => false
def guardOk (o : Oper) (ops : Array Oper) (t : Tr Value) : Bool :=
 match o.guard with
 | none => true
 | some (j, _) => match (ops[j]?).bind (·.dst) with
  | some d => match t.get d with
   | some (.bool _) => true
   | some (.chan none) => true
   | _ => false
  | none => true
def getLoop (m : Mem) (l : Nat) : Option ALoop := if l % 2 = 1 then match m.blks.get (l / 2) with
 | some (.loop r) => some r
 | _ => none
 else none
def zipSet (nt : Nat) (t : Tr Value) : List Tmp → List Value → Option (Tr Value)
 | [], [] => some t
 | d :: ds, v :: vs => if d < nt then zipSet nt (t.set d v) ds vs else none
 | _, _ => none
def quiet (o : Op) : Bool := match o with
 | .move _ | .assign _ | .pick .. | .build .. | .load .. | .nilCheck _ | .binOp .. | .unOp .. | .makeInterface .. | .makeFunc .. | .slice .. | .fieldAddr .. | .field ..
 | .indexAddr .. | .index .. | .lookup .. | .typeAssert .. | .extract .. => true
 | .convert s d _ => match und G.toEnv s, und G.toEnv d with
  | some .string, some (.slice _) => false
  | _, _ => true
 | .call c => match c.callee with
  | .builtin b => match b with
   | .len | .min | .max | .unsafeSliceData => true
   | _ => false
  | _ => false
 | _ => false
def befGo : List Oper → Nat → Tr Nat → Tr Nat
 | [], _, acc => acc
 | o :: rest, j, acc => befGo rest (j + 1) (acc.set j (o.after.toList.foldl (fun s e => if Region.binds .any e then s ||| 2 ^ e.on ||| (acc.get e.on).getD 0 else s) 0))
def before (ops : Array Oper) : Tr Nat := befGo ops.toList 0 .leaf
def prec (bf : Tr Nat) (i j : Nat) : Bool := ((bf.get j).getD 0).testBit i
def readsOf (ops : Array Oper) (o : Oper) : List Tmp :=
 (o.op.operands.toList.filterMap fun | .tmp t => some t | _ => none) ++ (match o.guard with
  | some (j, _) => ((ops[j]?).bind (·.dst)).toList
  | none => [])
def apartT (ops : Array Oper) (x y : Oper) : Bool :=
 match x.dst, y.dst with
 | some d, some e => d != e && !(readsOf ops y).contains d && !(readsOf ops x).contains e
 | some d, none => !(readsOf ops y).contains d
 | none, some e => !(readsOf ops x).contains e
 | none, none => true
def regOk (ops : Array Oper) (bf : Tr Nat) (a : Nat) : Bool :=
 (List.range ops.size).all fun j => match ops[j]? with
  | none => false
  | some y => y.after.toList.all (fun e => !Region.binds .any e || decide (e.on < j)) &&
   (List.range j).all fun i => match ops[i]? with
    | none => false
    | some x => prec bf i j || (apartT ops x y && (quiet G x.op || quiet G y.op || decide (j = a)))
def isFloat (ops : Array Oper) (bf : Tr Nat) (a : Nat) : Bool := match ops[a]? with
 | none => false
 | some o => (match o.op with | .alloc _ => true | _ => false) && o.guard.isNone && o.dst.isSome &&
  (List.range ops.size).all (fun j => decide (j ≤ a) || (prec bf a j && (List.range a).all fun k => match ops[k]? with
   | some y => quiet G y.op || prec bf k j
   | none => false)) &&
  (List.range a).any (fun i => !prec bf i a && match ops[i]? with
   | some y => !quiet G y.op
   | none => false)
def floatAt (ops : Array Oper) (bf : Tr Nat) : Nat := ((List.range ops.size).find? (isFloat G ops bf)).getD ops.size
def still (o : Op) : Bool := match o with
 | .move _ | .assign _ | .pick .. | .nilCheck _ | .unOp .. | .makeInterface .. | .makeFunc .. | .fieldAddr .. | .indexAddr .. | .extract .. | .field .. | .index .. | .build .. => true
 | _ => false
def againOk (ops : Array Oper) (q : Nat) (s : St) (m : Mem) : Bool :=
 match ops[q]? with
 | none => true
 | some o =>
  if wantedV o ops s.tmps && quiet G o.op && !still o.op then
   match opV G (evalT G.ng s.tmps) o s.m, opV G (evalT G.ng s.tmps) o m with
   | .value v _, .value u _ => beqV 9 v u
   | _, _ => false
  else true
def actsAt (ops : Array Oper) (k : Nat) (s : St) : Bool := match ops[k]? with
 | none => false
 | some o => wantedV o ops s.tmps && !quiet G o.op
def drawOk (ops : Array Oper) (tr : List St) (upto : Nat) : Bool :=
 let bf := before ops
 regOk G ops bf (floatAt G ops bf) && (List.range upto).all fun k => match tr[k]? with
  | none => false
  | some sk =>
   if actsAt G ops k sk then
    (List.range upto).all fun q =>
     if q < k then prec bf q k || (match tr[q]?, tr[k + 1]? with
      | some sq, some s1 => againOk G ops q sq s1.m
      | _, _ => false)
     else if k < q then prec bf k q || (match tr[q]? with
      | some sq => againOk G ops q sq sk.m
      | none => false)
     else true
   else true
def forget (x : Ctx) (ops : List Oper) (s : St) : Option St := match ops with
 | [] => some s
 | o :: rest => match s.put x o.dst undef with
  | some s => forget x rest s
  | none => none
mutual
def exec (fuel : Nat) (x : Ctx) (c : Code) (s : St) : Option (Ex × St) :=
 match fuel with
 | 0 => none
 | n + 1 =>
  match c with
  | .skip => some (.normal, s)
  | .label _ => some (.normal, s)
  | .seq a b => match exec n x a s with
   | some (.normal, s) => exec n x b s
   | r => r
  | .cond c a b => match evalT G.ng s.tmps c with
   | .bool t => exec n x (if t then a else b) s
   | _ => none
  | .block id b => match exec n x b s with
   | some (.exit i, s) => if i = id then some (.normal, s) else some (.exit i, s)
   | r => r
  | .loop b => match exec n x b s with
   | some (.normal, s) => exec n x (.loop b) s
   | r => r
  | .scope b => exec n x b s
  | .exit id => some (.exit id, s)
  | .ret => some (.ret, s)
  | .region _ ops draw =>
   match execOps n x ops ops.toList s [] with
   | some (.normal, s', tr) =>
    if draw then (if drawOk G ops (s' :: tr).reverse ops.size then some (.normal, s') else none) else some (.normal, s')
   | some (.panic ch, s', tr) =>
    if draw then
     let bf := before ops
     let p := tr.length - 1
     if drawOk G ops (s' :: tr).reverse p && (List.range ops.size).all (fun j => decide (j ≤ p) || prec bf p j) then
      match forget x ops.toList s' with
      | some s'' => some (.panic ch, s'')
      | none => none
     else none
    else some (.panic ch, s')
   | _ => none
  | .rangeFunc f params assign body =>
   let loopOf (db : Nat) : Blk := .loop { state := .ready, pending := none, fn := x.fn, tmps := s.tmps, params := params.toList, assign, body, defers := db, nt := x.nt }
   match (match x.round with
    | some l => match getLoop s.m l with
     | some r => some (r.defers, ([] : List Deferred), s.m)
     | none => none
    | none => some (s.m.nb, [{ target := .collected s.m.nb, args := #[] }], s.m.new (.deferred (some [])))) with
   | none => none
   | some (db, mark, m1) =>
    let l := m1.nb
    let m2 := m1.new (loopOf db)
    match evalT G.ng s.tmps f with
    | .func (.func g0) first captured =>
     match callV G g0 (first.toList ++ [.func (.yield l) #[] #[]] ++ captured.toList) m2 with
     | .enter g args m3 => match call n g args false none m3 with
      | some (.returned _, _, m4) => match getLoop m4 l with
       | some r =>
        if r.state == .busy then none else
        let s' : St := { s with m := m4.setB (l / 2) (.loop { r with state := .exhausted }), defers := mark ++ s.defers }
        match r.pending with
        | none => some (.normal, s')
        | some (.exit id) => some (.exit id, s')
        | some .ret => some (.ret, s')
        | _ => none
       | none => none
      | some (.panicked ch, _, m4) => some (.panic ch, { s with m := m4, defers := mark ++ s.defers })
      | none => none
     | _ => none
    | _ => none
  | .goto _ => none
  | .refuse _ => none
def execOp1 (fuel : Nat) (x : Ctx) (ops : Array Oper) (o : Oper) (s : St) : Option (Ex × St) :=
 match fuel with
 | 0 => none
 | n + 1 =>
  if guardOk o ops s.tmps then
   if wantedV o ops s.tmps then
    match opV G (evalT G.ng s.tmps) o s.m with
    | .value v m => St.next x { s with m } o.dst v
    | .skip m => St.next x { s with m } o.dst undef
    | .enter f args m => match call n f args false none m with
     | some (.returned v, _, m) => St.next x { s with m } o.dst v
     | some (.panicked ch, _, m) => some (.panic ch, { s with m })
     | none => none
    | .round l args m => match callRound n l args m with
     | some (.returned v, m) => St.next x { s with m } o.dst v
     | some (.panicked ch, m) => some (.panic ch, { s with m })
     | none => none
    | .defer d m => if x.round.isSome then none else St.next x { s with m, defers := d :: s.defers } o.dst undef
    | .recover m =>
     if x.round.isSome then none else
     match x.deferred, s.cm with
     | true, some ({ v, recovered := false, goexit := false } :: older) => St.next x { s with m, cm := some ({ v, recovered := true } :: older) } o.dst v
     | true, some _ => none
     | _, _ => St.next x { s with m } o.dst .nilIface
    | .panic v m => some (.panic [{ v, recovered := false }], { s with m })
    | .fail => none
   else St.next x s o.dst ku
  else none
def execOps (fuel : Nat) (x : Ctx) (ops : Array Oper) (l : List Oper) (s : St) (tr : List St) : Option (Ex × St × List St) :=
 match fuel with
 | 0 => none
 | n + 1 =>
  match l with
  | [] => some (.normal, s, tr)
  | o :: rest => match execOp1 n x ops o s with
   | some (.normal, s') => execOps n x ops rest s' (s :: tr)
   | some (.panic ch, s') => some (.panic ch, s', s :: tr)
   | _ => none
def callRound (fuel : Nat) (l : Nat) (args : List Value) (m : Mem) : Option (Out × Mem) :=
 match fuel with
 | 0 => none
 | n + 1 =>
  match getLoop m l with
  | none => none
  | some r => match G.P.funcs[r.fn]?, zipSet r.nt r.tmps r.params args with
   | none, _ => none
   | _, none => none
   | some _, some t =>
    let x : Ctx := { fn := r.fn, deferred := false, round := some l, nt := r.nt }
    match exec n x r.assign { tmps := t, defers := [], cm := none, m } with
    | some (.normal, s) => match getLoop s.m l with
     | some r1 =>
      if r1.state == .ready then
       match exec n x r.body { s with m := s.m.setB (l / 2) (.loop { r1 with state := .busy }) } with
       | some (.panic ch, s) => if s.defers.isEmpty then some (.panicked ch, s.m) else none
       | some (.normal, s) => match getLoop s.m l with
        | some r2 => some (.returned (.bool true), s.m.setB (l / 2) (.loop { r2 with state := .ready, pending := none }))
        | none => none
       | some (.exit id, s) => match getLoop s.m l with
        | some r2 => some (.returned (.bool false), s.m.setB (l / 2) (.loop { r2 with state := .done, pending := some (.exit id) }))
        | none => none
       | some (.ret, s) => match getLoop s.m l with
        | some r2 => some (.returned (.bool false), s.m.setB (l / 2) (.loop { r2 with state := .done, pending := some .ret }))
        | none => none
       | none => none
      else none
     | none => none
    | _ => none
def call (fuel : Nat) (f : FuncId) (args : List Value) (deferred : Bool) (cm : Option (List PanicEntry)) (m : Mem) : Option (Out × Option (List PanicEntry) × Mem) :=
 match fuel with
 | 0 => none
 | n + 1 =>
  match G.kf f with
  | some b => if args.isEmpty && !deferred then some (.returned (.bool b), cm, m) else none
  | none =>
  match G.P.funcs[f]? with
  | none => none
  | some fn => match fn.body with
   | none => none
   | some c =>
    match exec n { fn := f, deferred, round := none, nt := fn.ntmps } c { tmps := Tr.putAll .leaf 0 args, defers := [], cm, m } with
    | some (.normal, s) => unwind n fn none s.defers s
    | some (.ret, s) => unwind n fn none s.defers s
    | some (.panic ch, s) => unwind n fn (some ch) s.defers s
    | _ => none
def unwind (fuel : Nat) (fn : Func) (mode : Option (List PanicEntry)) (defers : List Deferred) (s : St) : Option (Out × Option (List PanicEntry) × Mem) :=
 match fuel with
 | 0 => none
 | n + 1 =>
  match defers with
  | [] => match mode with
   | some ch => some (.panicked ch, s.cm, s.m)
   | none => match results fn.results.toList s with
    | some [v] => some (.returned v, s.cm, s.m)
    | some vs => some (.returned (.tuple ⟨vs⟩), s.cm, s.m)
    | none => none
  | d :: ds => match d.target with
   | .collected b => if b % 2 = 1 then match s.m.blks.get (b / 2) with
    | some (.deferred (some calls)) => unwind n fn mode (calls ++ ds) { s with m := s.m.setB (b / 2) (.deferred none) }
    | _ => none
    else none
   | .fn (.func f0) cap => match callV G f0 (d.args.toList ++ cap.toList) s.m with
    | .enter f args m => match call n f args true mode m with
     | some (.returned _, cm, m) =>
      match mode with
      | none => unwind n fn none ds { s with m }
      | some _ => match cm with
       | some (e :: older) => if e.recovered then (match older with
        | [] => unwind n fn none ds { s with m }
        | _ => none) else unwind n fn (some (e :: older)) ds { s with m }
       | _ => none
     | some (.panicked ch, cm, m) =>
      match mode with
      | none => unwind n fn (some ch) ds { s with m }
      | some _ => match cm with
       | some c => unwind n fn (some (ch ++ c)) ds { s with m }
       | none => none
     | none => none
    | _ => none
   | _ => none
 where
 results : List ResultVar → St → Option (List Value)
  | [], _ => some []
  | .tmp t :: rest, s => match results rest s with
   | some vs => some ((s.tmps.get t).getD undef :: vs)
   | none => none
  | .cell a t :: rest, s => match addrOf ((s.tmps.get a).getD undef) with
   | some (b, o) => match loadV G.toEnv s.m t b o, results rest s with
    | some v, some vs => some (v :: vs)
    | _, _ => none
   | none => none
end
end
end Go.Am
namespace Go.Am
structure Loc where
 b : Nat
 s : Nat
 d : Nat
 n : Nat
 es : Nat
abbrev Emb := Nat → Option Loc
def Emb.at (ρ : Emb) (B : Nat) (b : Nat) : Option (Nat × Nat) :=
 if b % 2 = 1 then (ρ (b / 2)).map fun L => (L.b, L.s) else if b / 2 < B then some (b / 2, 0) else none
def Emb.le (ρ ρ' : Emb) : Prop := ∀ k L, ρ k = some L → ρ' k = some L
theorem Emb.le_refl (ρ : Emb) : ρ.le ρ := fun _ _ h => h
theorem Emb.le_trans {a b c : Emb} (h : a.le b) (h' : b.le c) : a.le c := fun k L e => h' k L (h k L e)
theorem Emb.at_mono {ρ ρ' : Emb} {B b : Nat} {x : Nat × Nat} (h : ρ.le ρ') (e : ρ.at B b = some x) : ρ'.at B b = some x := by
 unfold Emb.at at *
 by_cases hb : b % 2 = 1
 · rw [if_pos hb] at *
   cases hr : ρ (b / 2) with
   | none => rw [hr] at e; simp at e
   | some L => rw [hr] at e; rw [h _ _ hr]; exact e
 rw [if_neg hb] at *; exact e
def CapR (ρ : Emb) (b o c cap : Nat) : Prop :=
 (exact c = true ∧ cap = capOf c) ∨
 (exact c = false ∧ b % 2 = 1 ∧ ∃ L, ρ (b / 2) = some L ∧ cap = capOf c + L.d ∧ o + capOf c * L.es = L.n)
inductive FnR (ρ : Emb) (B : Nat) : Fn → Fn → Prop where
 | func (f : FuncId) : FnR ρ B (.func f) (.func f)
 | method (n : String) : FnR ρ B (.method n) (.method n)
 | methodOf (t : TypeId) (n : String) : FnR ρ B (.methodOf t n) (.methodOf t n)
 | via (t : TypeId) (p : Array FieldStep) (f : FuncId) (q : Bool) : FnR ρ B (.via t p f q) (.via t p f q)
 | yield {l l' : Nat} (h : ρ.at B l = some (l', 0)) (hl : l % 2 = 1) : FnR ρ B (.yield l) (.yield l')
inductive VR (ρ : Emb) (B : Nat) : Value → Value → Prop where
 | undef (x : Value) : VR ρ B undef x
 | ku : VR ρ B (.chan none) (.tuple #[])
 | bool (b : Bool) : VR ρ B (.bool b) (.bool b)
 | int (k : IntKind) (n : Int) : VR ρ B (.int k n) (.int k n)
 | string (s : ByteArray) : VR ρ B (.string s) (.string s)
 | pnil : VR ρ B (.pointer none) (.pointer none)
 | ptr {b o b' s : Nat} (h : ρ.at B b = some (b', s)) : VR ρ B (.pointer (some ⟨b, o, none⟩)) (.pointer (some ⟨b', s + o, none⟩))
 | snil : VR ρ B (.slice none 0 0) (.slice none 0 0)
 | slice {b o b' s o' len c cap : Nat} (h : ρ.at B b = some (b', s)) (hc : CapR ρ b o c cap) (ho : cap ≠ 0 ∨ exact c = true → o' = s + o) (hl : len ≤ cap) :
  VR ρ B (.slice (some ⟨b, o, none⟩) len c) (.slice (some ⟨b', o', none⟩) len cap)
 | slice0 (a : Addr) : VR ρ B (.slice (some ⟨0, 0, none⟩) 0 1) (.slice (some a) 0 0)
 | mnil : VR ρ B (.map none) (.map none)
 | map {r r' : Nat} (h : ρ.at B r = some (r', 0)) (hr : r % 2 = 1) : VR ρ B (.map (some r)) (.map (some r'))
 | func {fn fn' : Fn} {a a' c c' : Array Value} (hf : FnR ρ B fn fn') (hs : a.size = a'.size) (h : ∀ i : Nat, VR ρ B (a.getD i undef) (a'.getD i undef))
  (hs2 : c.size = c'.size) (h2 : ∀ i : Nat, VR ρ B (c.getD i undef) (c'.getD i undef)) : VR ρ B (.func fn a c) (.func fn' a' c')
 | nilFunc : VR ρ B .nilFunc .nilFunc
 | nilIface : VR ρ B .nilIface .nilIface
 | iface (t : TypeId) {v v' : Value} (h : VR ρ B v v') : VR ρ B (.iface t v) (.iface t v')
 | agg {cs cs' : Array Value} (hs : cs.size = cs'.size) (h : ∀ i : Nat, VR ρ B (cs.getD i undef) (cs'.getD i undef)) : VR ρ B (.agg cs) (.agg cs')
 | tuple {cs cs' : Array Value} (hs : cs.size = cs'.size) (h : ∀ i : Nat, VR ρ B (cs.getD i undef) (cs'.getD i undef)) : VR ρ B (.tuple cs) (.tuple cs')
def OptVR (ρ : Emb) (B : Nat) : Option Value → Option Value → Prop
 | none, none => True
 | some a, some b => VR ρ B a b
 | _, _ => False
def VL (ρ : Emb) (B : Nat) (l l' : List Value) : Prop := l.length = l'.length ∧ ∀ i : Nat, VR ρ B (l.getD i undef) (l'.getD i undef)
variable {ρ ρ' : Emb} {B : Nat}
theorem CapR.mono (h : ρ.le ρ') {b o c cap : Nat} (hc : CapR ρ b o c cap) : CapR ρ' b o c cap := by
 rcases hc with hc | ⟨h1, h2, L, h3, h4, h5⟩
 · exact .inl hc
 exact .inr ⟨h1, h2, L, h _ _ h3, h4, h5⟩
theorem FnR.mono (h : ρ.le ρ') {f f' : Fn} (hf : FnR ρ B f f') : FnR ρ' B f f' := by
 cases hf with
 | func f => exact .func f
 | method n => exact .method n
 | methodOf t n => exact .methodOf t n
 | via t p f q => exact .via t p f q
 | yield e hl => exact .yield (Emb.at_mono h e) hl
theorem VR.mono (h : ρ.le ρ') {v v' : Value} (hv : VR ρ B v v') : VR ρ' B v v' := by
 induction hv with
 | undef x => exact .undef x
 | ku => exact .ku
 | bool b => exact .bool b
 | int k n => exact .int k n
 | string s => exact .string s
 | pnil => exact .pnil
 | ptr e => exact .ptr (Emb.at_mono h e)
 | snil => exact .snil
 | slice e hc ho hl => exact .slice (Emb.at_mono h e) (hc.mono h) ho hl
 | slice0 a => exact .slice0 a
 | mnil => exact .mnil
 | map e hr => exact .map (Emb.at_mono h e) hr
 | func hf hs _ hs2 _ ih ih2 => exact .func (hf.mono h) hs ih hs2 ih2
 | nilFunc => exact .nilFunc
 | nilIface => exact .nilIface
 | iface t _ ih => exact .iface t ih
 | agg hs _ ih => exact .agg hs ih
 | tuple hs _ ih => exact .tuple hs ih
theorem VL.mono (h : ρ.le ρ') {l l' : List Value} (hv : VL ρ B l l') : VL ρ' B l l' := ⟨hv.1, fun i => (hv.2 i).mono h⟩
theorem VL.nil : VL ρ B [] [] := ⟨rfl, fun i => by simp [List.getD]; exact .undef _⟩
theorem VL.cons {v v' : Value} {l l' : List Value} (h : VR ρ B v v') (hl : VL ρ B l l') : VL ρ B (v :: l) (v' :: l') := by
 refine ⟨by simp [hl.1], fun i => ?_⟩
 cases i with
 | zero => simpa using h
 | succ i => simpa using hl.2 i
theorem VL.append {a a' b b' : List Value} (h : VL ρ B a a') (h' : VL ρ B b b') : VL ρ B (a ++ b) (a' ++ b') := by
 refine ⟨by simp [h.1, h'.1], fun i => ?_⟩
 by_cases hi : i < a.length
 · have e1 : (a ++ b).getD i undef = a.getD i undef := by simp [List.getD, List.getElem?_append_left hi]
   have e2 : (a' ++ b').getD i undef = a'.getD i undef := by simp [List.getD, List.getElem?_append_left (h.1 ▸ hi)]
   rw [e1, e2]; exact h.2 i
 have e1 : (a ++ b).getD i undef = b.getD (i - a.length) undef := by simp [List.getD, List.getElem?_append_right (by omega : a.length ≤ i)]
 have e2 : (a' ++ b').getD i undef = b'.getD (i - a.length) undef := by
  simp [List.getD, List.getElem?_append_right (by rw [← h.1]; omega : a'.length ≤ i), h.1]
 rw [e1, e2]; exact h'.2 _
theorem VL.get {l l' : List Value} (h : VL ρ B l l') {i : Nat} {v : Value} (e : l[i]? = some v) : ∃ v', l'[i]? = some v' ∧ VR ρ B v v' := by
 have hi : i < l.length := by
  rcases Nat.lt_or_ge i l.length with h | h
  · exact h
  rw [List.getElem?_eq_none h] at e; cases e
 have hi' : i < l'.length := h.1 ▸ hi
 have := h.2 i
 rw [List.getD, e] at this
 refine ⟨l'[i], List.getElem?_eq_getElem hi', ?_⟩
 simpa [List.getD, List.getElem?_eq_getElem hi'] using this
theorem arr_getD (cs : Array Value) (i : Nat) : cs.getD i undef = cs.toList.getD i undef := by
 rw [Array.getD_eq_getD_getElem?, List.getD, ← Array.getElem?_toList]
theorem VL.of_arr {cs cs' : Array Value} (hs : cs.size = cs'.size) (h : ∀ i : Nat, VR ρ B (cs.getD i undef) (cs'.getD i undef)) : VL ρ B cs.toList cs'.toList :=
 ⟨by simpa using hs, fun i => by rw [← arr_getD, ← arr_getD]; exact h i⟩
theorem VL.to_arr {cs cs' : Array Value} (h : VL ρ B cs.toList cs'.toList) : cs.size = cs'.size ∧ ∀ i : Nat, VR ρ B (cs.getD i undef) (cs'.getD i undef) :=
 ⟨by simpa using h.1, fun i => by rw [arr_getD, arr_getD]; exact h.2 i⟩
theorem VR.agg_of {cs cs' : Array Value} (h : VL ρ B cs.toList cs'.toList) : VR ρ B (.agg cs) (.agg cs') := .agg h.to_arr.1 h.to_arr.2
theorem VR.tuple_of {cs cs' : Array Value} (h : VL ρ B cs.toList cs'.toList) : VR ρ B (.tuple cs) (.tuple cs') := .tuple h.to_arr.1 h.to_arr.2
theorem VR.func_of {fn fn' : Fn} {a a' c c' : Array Value} (hf : FnR ρ B fn fn') (h : VL ρ B a.toList a'.toList) (h2 : VL ρ B c.toList c'.toList) : VR ρ B (.func fn a c) (.func fn' a' c') :=
 .func hf h.to_arr.1 h.to_arr.2 h2.to_arr.1 h2.to_arr.2
theorem list_ext_getD {l l' : List Value} (hl : l.length = l'.length) (h : ∀ i, i < l.length → l.getD i undef = l'.getD i undef) : l = l' := by
 apply List.ext_getElem hl
 intro i h1 h2
 have := h i h1
 simpa [List.getD, List.getElem?_eq_getElem h1, List.getElem?_eq_getElem h2] using this
theorem arr_ext_getD {l l' : Array Value} (hl : l.size = l'.size) (h : ∀ i, i < l.size → l.getD i undef = l'.getD i undef) : l = l' := by
 apply Array.ext'
 exact list_ext_getD (by simpa using hl) (fun i hi => by rw [← arr_getD, ← arr_getD]; exact h i (by simpa using hi))
theorem flat_mem {n : Nat} {cs : Array Value} (h : cs.toList.all (flat n) = true) {i : Nat} (hi : i < cs.size) : flat n (cs.getD i undef) = true := by
 rw [List.all_eq_true] at h
 have : cs.getD i undef = cs[i] := by simp [Array.getD, hi]
 rw [this]
 exact h _ (by simp)
theorem flat_eq : ∀ (n : Nat) {v v' : Value}, flat n v = true → VR ρ B v v' → v' = v := by
 intro n
 induction n with
 | zero =>
  intro v v' h hv
  cases hv with
  | undef x => simp [flat, undef] at h
  | ku => simp [flat] at h
  | agg hs hh => simp [flat] at h
  | iface t hh => simp [flat] at h
  | tuple hs hh => simp [flat] at h
  | func hf hs hh hs2 hh2 =>
   rename_i fn fn' a a' c c'
   cases hf with
   | func f =>
    rcases a with ⟨_ | ⟨_, _⟩⟩ <;> rcases c with ⟨_ | ⟨_, _⟩⟩ <;> simp [flat] at h
    have e1 : a' = #[] := by apply Array.eq_empty_of_size_eq_zero; rw [← hs]; rfl
    have e2 : c' = #[] := by apply Array.eq_empty_of_size_eq_zero; rw [← hs2]; rfl
    rw [e1, e2]
   | _ => simp [flat] at h
  | ptr e => simp [flat] at h
  | slice e hc ho hl => simp [flat] at h
  | slice0 a => simp [flat] at h
  | map e hr => simp [flat] at h
  | _ => rfl
 | succ n ih =>
  intro v v' h hv
  cases hv with
  | undef x => simp [flat, undef] at h
  | ku => simp [flat] at h
  | agg hs hh =>
   simp only [flat] at h
   congr 1
   exact arr_ext_getD hs.symm (fun i hi => ih (flat_mem h (hs ▸ hi)) (hh i))
  | iface t hh => simp only [flat] at h; rw [ih h hh]
  | tuple hs hh => simp [flat] at h
  | func hf hs hh hs2 hh2 =>
   rename_i fn fn' a a' c c'
   cases hf with
   | func f =>
    rcases a with ⟨_ | ⟨_, _⟩⟩ <;> rcases c with ⟨_ | ⟨_, _⟩⟩ <;> simp [flat] at h
    have e1 : a' = #[] := by apply Array.eq_empty_of_size_eq_zero; rw [← hs]; rfl
    have e2 : c' = #[] := by apply Array.eq_empty_of_size_eq_zero; rw [← hs2]; rfl
    rw [e1, e2]
   | _ => simp [flat] at h
  | ptr e => simp [flat] at h
  | slice e hc ho hl => simp [flat] at h
  | slice0 a => simp [flat] at h
  | map e hr => simp [flat] at h
  | _ => rfl
theorem flat_refl : ∀ (n : Nat) {v : Value}, flat n v = true → VR ρ B v v := by
 intro n
 induction n with
 | zero =>
  intro v h
  cases v with
  | bool b => exact .bool b
  | int k n => exact .int k n
  | string s => exact .string s
  | pointer a => cases a with
   | none => exact .pnil
   | some a => simp [flat] at h
  | slice a l c =>
   rcases a with _ | a
   · rcases l with _ | l
     · rcases c with _ | c
       · exact .snil
       simp [flat] at h
     simp [flat] at h
   simp [flat] at h
  | map r => cases r with
   | none => exact .mnil
   | some a => simp [flat] at h
  | func fn a c =>
   cases fn with
   | func f =>
    rcases a with ⟨_ | ⟨_, _⟩⟩ <;> rcases c with ⟨_ | ⟨_, _⟩⟩ <;> simp [flat] at h
    exact .func (.func _) rfl (fun i => by simp; exact .undef _) rfl (fun i => by simp; exact .undef _)
   | _ => simp [flat] at h
  | nilFunc => exact .nilFunc
  | nilIface => exact .nilIface
  | _ => simp [flat] at h
 | succ n ih =>
  intro v h
  cases v with
  | bool b => exact .bool b
  | int k n => exact .int k n
  | string s => exact .string s
  | pointer a => cases a with
   | none => exact .pnil
   | some a => simp [flat] at h
  | slice a l c =>
   rcases a with _ | a
   · rcases l with _ | l
     · rcases c with _ | c
       · exact .snil
       simp [flat] at h
     simp [flat] at h
   simp [flat] at h
  | map r => cases r with
   | none => exact .mnil
   | some a => simp [flat] at h
  | func fn a c =>
   cases fn with
   | func f =>
    rcases a with ⟨_ | ⟨_, _⟩⟩ <;> rcases c with ⟨_ | ⟨_, _⟩⟩ <;> simp [flat] at h
    exact .func (.func _) rfl (fun i => by simp; exact .undef _) rfl (fun i => by simp; exact .undef _)
   | _ => simp [flat] at h
  | nilFunc => exact .nilFunc
  | nilIface => exact .nilIface
  | iface t v => exact .iface t (ih (by simpa [flat] using h))
  | agg cs =>
   simp only [flat] at h
   refine .agg rfl (fun i => ?_)
   by_cases hi : i < cs.size
   · exact ih (flat_mem h hi)
   simp [Array.getD, hi]; exact .undef _
  | _ => simp [flat] at h
theorem plain_cell {v v' : Value} (h : plainV v = true) (hv : VR ρ B v v') : v'.oneCell' = true ∧ plainV v' = true := by
 cases hv <;> simp_all [plainV, Value.oneCell', undef]
theorem vr_cells {v v' : Value} (h : defd v = true) (hv : VR ρ B v v') : VL ρ B v.cells.toList v'.cells.toList := by
 cases hv with
 | undef x => simp [defd, undef] at h
 | ku => simp [defd] at h
 | agg hs hh => exact VL.of_arr hs hh
 | tuple hs hh => simp [defd] at h
 | bool b => exact VL.cons (.bool b) VL.nil
 | int k n => exact VL.cons (.int k n) VL.nil
 | string s => exact VL.cons (.string s) VL.nil
 | pnil => exact VL.cons .pnil VL.nil
 | ptr e => exact VL.cons (.ptr e) VL.nil
 | snil => exact VL.cons .snil VL.nil
 | slice e hc ho hl => exact VL.cons (.slice e hc ho hl) VL.nil
 | slice0 a => exact VL.cons (.slice0 a) VL.nil
 | mnil => exact VL.cons .mnil VL.nil
 | map e hr => exact VL.cons (.map e hr) VL.nil
 | func hf hs hh hs2 hh2 => exact VL.cons (.func hf hs hh hs2 hh2) VL.nil
 | nilFunc => exact VL.cons .nilFunc VL.nil
 | nilIface => exact VL.cons .nilIface VL.nil
 | iface t hh => exact VL.cons (.iface t hh) VL.nil
end Go.Am
