/-
  PROVED here: steps on the way to the card of 'sleuthlaw06.ReduceTreeMinimal' (an abstract machine, its soundness, what each function computes). No conditions beyond those that each theorem states.
-/
import Derived.WalkKit
import GoSem.Dispatch
namespace Go.Am
inductive Tr (α : Type) where
 | leaf
 | node (l : Tr α) (v : Option α) (r : Tr α)
def Tr.get {α : Type} : Tr α → Nat → Option α
 | .leaf, _ => none
 | .node l v r, k => if k = 0 then v else if k % 2 = 1 then l.get (k / 2) else r.get (k / 2 - 1)
def Tr.setF {α : Type} (x : α) : Nat → Tr α → Nat → Tr α
 | 0, t, _ => t
 | f + 1, .leaf, k =>
  if k = 0 then .node .leaf (some x) .leaf
  else if k % 2 = 1 then .node (Tr.setF x f .leaf (k / 2)) none .leaf else .node .leaf none (Tr.setF x f .leaf (k / 2 - 1))
 | f + 1, .node l v r, k =>
  if k = 0 then .node l (some x) r
  else if k % 2 = 1 then .node (Tr.setF x f l (k / 2)) v r else .node l v (Tr.setF x f r (k / 2 - 1))
def Tr.set {α : Type} (t : Tr α) (k : Nat) (x : α) : Tr α := Tr.setF x (k + 1) t k
theorem Tr.get_setF {α : Type} (x : α) : ∀ (f : Nat) (t : Tr α) (k j : Nat), k < f → (Tr.setF x f t k).get j = if j = k then some x else t.get j := by
 intro f
 induction f with
 | zero => intro t k j h; omega
 | succ f ih =>
  intro t k j h
  cases t with
  | leaf =>
   simp only [Tr.setF]
   by_cases h0 : k = 0
   · subst h0
     simp only [if_true, Tr.get]
     by_cases hj : j = 0 <;> simp [hj, Tr.get]
   rw [if_neg h0]
   by_cases h1 : k % 2 = 1
   ·
    rw [if_pos h1]
    simp only [Tr.get]
    by_cases hj : j = 0
    · rw [if_pos hj, if_neg (by omega)]
    rw [if_neg hj]
    by_cases hj1 : j % 2 = 1
    · rw [if_pos hj1, ih _ _ _ (by omega)]
      by_cases e : j = k
      · subst e; simp
      rw [if_neg (by omega), if_neg e]; simp [Tr.get]
    rw [if_neg hj1, if_neg (by omega)]
   rw [if_neg h1]
   simp only [Tr.get]
   by_cases hj : j = 0
   · rw [if_pos hj, if_neg (by omega)]
   rw [if_neg hj]
   by_cases hj1 : j % 2 = 1
   · rw [if_pos hj1, if_neg (by omega)]
   rw [if_neg hj1, ih _ _ _ (by omega)]
   by_cases e : j = k
   · subst e; simp
   rw [if_neg (by omega), if_neg e]; simp [Tr.get]
  | node l v r =>
   simp only [Tr.setF]
   by_cases h0 : k = 0
   · subst h0
     simp only [if_true, Tr.get]
     by_cases hj : j = 0 <;> simp [hj]
   rw [if_neg h0]
   by_cases h1 : k % 2 = 1
   ·
    rw [if_pos h1]
    simp only [Tr.get]
    by_cases hj : j = 0
    · rw [if_pos hj, if_neg (by omega), if_pos hj]
    rw [if_neg hj]
    by_cases hj1 : j % 2 = 1
    · rw [if_pos hj1, ih _ _ _ (by omega)]
      by_cases e : j = k
      · subst e; simp
      rw [if_neg (by omega), if_neg e, if_neg hj, if_pos hj1]
    rw [if_neg hj1, if_neg (by omega), if_neg hj, if_neg hj1]
   rw [if_neg h1]
   simp only [Tr.get]
   by_cases hj : j = 0
   · rw [if_pos hj, if_neg (by omega), if_pos hj]
   rw [if_neg hj]
   by_cases hj1 : j % 2 = 1
   · rw [if_pos hj1, if_neg (by omega), if_neg hj, if_pos hj1]
   rw [if_neg hj1, ih _ _ _ (by omega)]
   by_cases e : j = k
   · subst e; simp
   rw [if_neg (by omega), if_neg e, if_neg hj, if_neg hj1]
theorem Tr.get_set {α : Type} (t : Tr α) (k : Nat) (x : α) (j : Nat) : (t.set k x).get j = if j = k then some x else t.get j :=
 Tr.get_setF x (k + 1) t k j (Nat.lt_succ_self k)
theorem Tr.get_set_same {α : Type} (t : Tr α) (k : Nat) (x : α) : (t.set k x).get k = some x := by rw [Tr.get_set, if_pos rfl]
theorem Tr.get_set_ne {α : Type} (t : Tr α) {k j : Nat} (x : α) (h : j ≠ k) : (t.set k x).get j = t.get j := by rw [Tr.get_set, if_neg h]
def Tr.putAll {α : Type} (t : Tr α) (i : Nat) : List α → Tr α
 | [] => t
 | x :: xs => (t.set i x).putAll (i + 1) xs
theorem Tr.get_putAll {α : Type} : ∀ (l : List α) (t : Tr α) (i j : Nat), (t.putAll i l).get j = if i ≤ j ∧ j < i + l.length then l[j - i]? else t.get j
 | [], t, i, j => by simp only [Tr.putAll, List.length_nil, Nat.add_zero]; rw [if_neg (by omega)]
 | x :: xs, t, i, j => by
  simp only [Tr.putAll]
  rw [Tr.get_putAll xs, Tr.get_set]
  by_cases h : i ≤ j ∧ j < i + (x :: xs).length
  ·
   rw [if_pos h]
   simp only [List.length_cons] at h
   by_cases e : j = i
   · subst e
     rw [if_neg (by omega), if_pos rfl]; simp
   rw [if_pos (by omega)]
   have : j - i = (j - (i + 1)) + 1 := by omega
   rw [this]; simp
  rw [if_neg h]
  simp only [List.length_cons] at h
  rw [if_neg (by omega), if_neg (by omega)]
end Go.Am
namespace Go.Am
def pureRun {α : Type} (P : Program) : Sem α → Option α
 | .pure a => some a
 | .program k => pureRun P (k P)
 | .mark _ k => pureRun P k
 | _ => none
def flat : Nat → Value → Bool
 | _, .bool _ => true
 | _, .int _ _ => true
 | _, .string _ => true
 | _, .pointer none => true
 | _, .slice none 0 0 => true
 | _, .map none => true
 | _, .nilFunc => true
 | _, .nilIface => true
 | _, .func (.func _) ⟨[]⟩ ⟨[]⟩ => true
 | n + 1, .iface _ v => flat n v
 | n + 1, .agg cs => cs.toList.all (flat n)
 | _, _ => false
structure Cells where
 c : Tr Value
 n : Nat
 elem : TypeId
 lo : Nat := 0
 hi : Nat := 0
 slk : Bool := false
 str : Bool := false
 dead : Bool := false
structure ALoop where
 state : LoopState
 pending : Option Code
 fn : FuncId
 tmps : Tr Value
 params : List Tmp
 assign : Code
 body : Code
 defers : Nat
 nt : Nat
inductive Blk where
 | cells (c : Cells)
 | map (es : List MapEntry) (clock : Nat)
 | strIter (s : ByteArray) (pos : Nat)
 | loop (l : ALoop)
 | deferred (ds : Option (List Deferred))
structure Mem where
 blks : Tr Blk
 nxt : Nat
inductive ORes where
 | value (v : Value) (m : Mem)
 | skip (m : Mem)
 | enter (f : FuncId) (args : List Value) (m : Mem)
 | round (l : Nat) (args : List Value) (m : Mem)
 | defer (d : Deferred) (m : Mem)
 | recover (m : Mem)
 | panic (v : Value) (m : Mem)
 | fail
structure Env where
 P : Program
 glob : Nat → Nat → Option Value
def plainV : Value → Bool
 | .agg _ => false
 | .tuple _ => false
 | .chan _ => false
 | _ => true
def defd : Value → Bool
 | .tuple _ => false
 | .chan _ => false
 | _ => true
def ku : Value := .chan none
section
variable (E : Env)
def und (t : TypeId) : Option TypeDesc := E.P.underlying t
def szOf (t : TypeId) : Nat := E.P.cellsOf t
def isAgg (t : TypeId) : Option Bool := match und E t with
 | some (.struct _) => some true
 | some (.array _ _) => some true
 | some _ => some false
 | none => none
def Mem.live (m : Mem) (b : Nat) : Option Cells :=
 if b % 2 = 1 then match m.blks.get (b / 2) with
  | some (.cells c) => if c.dead then none else some c
  | _ => none
 else none
def Mem.load (m : Mem) (b off : Nat) : Option Value :=
 if b % 2 = 1 then match m.blks.get (b / 2) with
  | some (.cells c) => if c.dead then none else if off < c.n then c.c.get off else none
  | _ => none
 else E.glob (b / 2) off
def Mem.loadN (m : Mem) (b : Nat) : Nat → Nat → Option (List Value)
 | _, 0 => some []
 | off, n + 1 => match m.load E b off, Mem.loadN m b (off + 1) n with
  | some v, some vs => some (v :: vs)
  | _, _ => none
def loadV (m : Mem) (t : TypeId) (b off : Nat) : Option Value :=
 match isAgg E t with
 | some true => match m.loadN E b off (szOf E t) with
  | some vs => some (.agg ⟨vs⟩)
  | none => none
 | some false => m.load E b off
 | none => none
def Mem.new (m : Mem) (b : Blk) : Mem := { blks := m.blks.set m.nxt b, nxt := m.nxt + 1 }
def Mem.nb (m : Mem) : Nat := 2 * m.nxt + 1
def Mem.setB (m : Mem) (k : Nat) (b : Blk) : Mem := { blks := m.blks.set k b, nxt := m.nxt }
def cellsOf (vs : List Value) (elem : TypeId) : Cells := { c := Tr.putAll .leaf 0 vs, n := vs.length, elem }
def Mem.newCells (m : Mem) (vs : List Value) (elem : TypeId) : Option Mem :=
 if vs.all plainV then some (m.new (.cells (cellsOf vs elem))) else none
def Mem.write (m : Mem) (b off : Nat) (vs : List Value) : Option Mem :=
 if vs.isEmpty then some m else
 if b % 2 = 1 then match m.blks.get (b / 2) with
  | some (.cells c) =>
   if c.dead then none else
   if off + vs.length ≤ c.n && vs.all plainV && (c.hi ≤ off || off + vs.length ≤ c.lo) then
    some (m.setB (b / 2) (.cells { c with c := c.c.putAll off vs }))
   else none
  | _ => none
 else none
def addrOf : Value → Option (Nat × Nat)
 | .pointer (some ⟨b, o, none⟩) => some (b, o)
 | _ => none
def ptr (b o : Nat) : Value := .pointer (some ⟨b, o, none⟩)
def partV (t : TypeId) (cs : Array Value) (off : Nat) : Option Value :=
 match isAgg E t with
 | some true => some (.agg (cs.extract off (off + szOf E t)))
 | some false => cs[off]?
 | none => none
def zeroOf (t : TypeId) : Option Value := match E.P.info? t with
 | some i => match i.zero with
  | some z => if flat 9 z then some z else none
  | none => none
 | none => none
def capOf (c : Nat) : Nat := c / 2
def exact (c : Nat) : Bool := c % 2 == 1
def mkCap (c : Nat) (ex : Bool) : Nat := 2 * c + (if ex then 1 else 0)
def cutB : List Value → Option (List UInt8)
 | [] => some []
 | .int .u8 n :: r => match cutB r with
  | some l => some (UInt8.ofNat n.toNat :: l)
  | none => none
 | _ => none
def bytesV (s : ByteArray) : List Value := s.data.toList.map fun b => .int .u8 b.toNat
def rv (r : Option Value) (m : Mem) : ORes := match r with
 | some v => .value v m
 | none => .fail
def rp (r : Option Value) (m : Mem) : ORes := match r with
 | some v => if flat 9 v then .value v m else .fail
 | none => .fail
def ru (r : Option Mem) : ORes := match r with
 | some m => .skip m
 | none => .fail
def opPick (c a b : Value) (m : Mem) : ORes := match c with
 | .bool t => .value (if t then a else b) m
 | _ => .fail
def opAlloc (t : TypeId) (m : Mem) : ORes := match zeroOf E t with
 | some z => match m.newCells z.cells.toList t with
  | some m' => .value (ptr m.nb 0) m'
  | none => .fail
 | none => .fail
def opBox (t : TypeId) (x : Value) (m : Mem) : ORes := match m.newCells x.cells.toList t with
 | some m' => .value (ptr m.nb 0) m'
 | none => .fail
def opBuild (t : TypeId) (parts : List (Nat × Value)) (m : Mem) : ORes :=
 if parts.all (fun p => defd p.2) then
  match zeroOf E t, und E t with
  | some z, some (.struct fs) => match Instr.fill (fun i => (fs[i]?).map fun f => (f.offset, szOf E f.type)) z.cells parts with
   | some cs => if fs.all (fun f => (E.P.info? f.type).isSome) then .value (.agg cs) m else .fail
   | none => .fail
  | some z, some (.array _ e) => match Instr.fill (fun i => some (i * szOf E e, szOf E e)) z.cells parts with
   | some cs => if (E.P.info? e).isSome then .value (.agg cs) m else .fail
   | none => .fail
  | _, _ => .fail
 else .fail
def opBuildSlice (t : TypeId) (len : Nat) (parts : List (Nat × Value)) (m : Mem) : ORes :=
 match und E t with
 | some (.slice e) =>
  if parts.all (fun p => defd p.2) && (E.P.info? e).isSome && len * szOf E e ≤ 2 ^ 24 then
   match (if len * szOf E e = 0 then some (.agg ⟨[]⟩) else zeroOf E e) with
   | some z =>
    match Instr.fill (fun i => some (i * szOf E e, szOf E e)) ((Array.range (len * szOf E e)).map (z.cells[· % z.cells.size]!)) parts with
    | some cs => match m.newCells cs.toList e with
     | some m' => .value (.slice (some ⟨m.nb, 0, none⟩) len (mkCap len true)) m'
     | none => .fail
    | none => .fail
   | none => .fail
  else .fail
 | _ => .fail
def opLoad (t : TypeId) (a : Value) (m : Mem) : ORes := match addrOf a with
 | some (b, off) => rv (loadV E m t b off) m
 | none => .fail
def opStore (t : TypeId) (a x : Value) (m : Mem) : ORes := match addrOf a with
 | some (b, off) => if (E.P.info? t).isSome && x.cells.size == szOf E t && defd x then ru (m.write b off x.cells.toList) else .fail
 | none => .fail
def opNilCheck (x : Value) (m : Mem) : ORes := match x with
 | .pointer (some a) => .value (.pointer (some a)) m
 | .func (.func f) a b => .value (.func (.func f) a b) m
 | .iface t v => .value (.iface t v) m
 | _ => .fail
def eqOk (op : BinOp) (t : TypeId) (x y : Operand) (a b : Value) : Bool :=
 match op with
 | .eql | .neq => match a, b with
  | .nilIface, .nilIface => match x, y with
   | .const _, _ => true
   | _, .const _ => true
   | _, _ => false
  | .agg _, .agg _ => !E.P.eqGuardType E.P.depth t
  | _, _ => true
 | _ => true
def eqV (t : TypeId) (m : Mem) (x y : Value) : Option Bool :=
 match und E t, x, y with
 | some (.pointer _), .pointer none, .pointer b => some b.isNone
 | some (.pointer _), .pointer (some _), .pointer none => some false
 | some (.pointer e), .pointer (some a), .pointer (some b) =>
  match E.P.info? e with
  | some i =>
   if i.size = 0 then none else
   if a.block = b.block then some (a.off == b.off) else
   match m.live a.block, m.live b.block with
   | some c, some c' => if c.str || c'.str || c.lo < c.hi || c'.lo < c'.hi then none else some false
   | _, _ => none
  | none => none
 | some (.interface _), .nilIface, .iface _ _ => some false
 | some (.interface _), .iface _ _, .nilIface => some false
 | some (.interface _), .iface tx _, .iface ty _ => if tx ≠ ty then some false else none
 | some (.slice _), .slice none _ _, .slice b _ _ => some b.isNone
 | some (.slice _), .slice (some _) _ _, .slice none _ _ => some false
 | some (.map _ _), .map none, .map b => some b.isNone
 | some (.map _ _), .map (some _), .map none => some false
 | some (.func _ _ _), .nilFunc, .func _ _ _ => some false
 | some (.func _ _ _), .func _ _ _, .nilFunc => some false
 | _, _, _ => none
def opBin (op : BinOp) (t : TypeId) (xo yo : Operand) (x y : Value) (m : Mem) : ORes :=
 if flat 9 x && flat 9 y then
  rp (pureRun E.P (do eqGuard op t xo yo x y; binOp op t x y)) m
 else if eqOk E op t xo yo x y then
  match op with
  | .eql => match eqV E t m x y with
   | some b => .value (.bool b) m
   | none => .fail
  | .neq => match eqV E t m x y with
   | some b => .value (.bool (!b)) m
   | none => .fail
  | _ => .fail
 else .fail
def opUn (op : UnOp) (x : Value) (m : Mem) : ORes := if flat 9 x then rp (pureRun E.P (Op.unary op x)) m else .fail
def opConvert (src dst : TypeId) (x : Value) (m : Mem) : ORes :=
 match und E src, und E dst, x with
 | some (.int _), some (.int _), .int k n => rp (pureRun E.P (convert src dst (.int k n))) m
 | some (.int _), some .string, .int k n => rp (pureRun E.P (convert src dst (.int k n))) m
 | some .string, some .string, .string s => .value (.string s) m
 | some .string, some (.slice e), .string s =>
  match und E e with
  | some (.int .u8) =>
   if szOf E e == 1 && s.size ≤ 1048576 then .value (.slice (some ⟨m.nb, 0, none⟩) s.size (mkCap s.size false)) (m.new (.cells { cellsOf (bytesV s) e with slk := true, str := true })) else .fail
  | _ => .fail
 | some (.slice e), some .string, .slice none _ _ => match und E e with
  | some (.int .u8) => .value (.string .empty) m
  | _ => .fail
 | some (.slice e), some .string, .slice (some a) len _ => match und E e with
  | some (.int .u8) => match m.loadN E a.block a.off len with
   | some vs => match cutB vs with
    | some bs => .value (.string ⟨⟨bs⟩⟩) m
    | none => .fail
   | none => .fail
  | _ => .fail
 | some (.pointer t), some .unsafePointer, .pointer (some a) =>
  match m.live a.block with
  | some c => if szOf E t = 0 || a.off ≥ c.n || a.spot.isSome || !(E.P.info? t).isSome then .fail else .value (.pointer (some a)) m
  | none => .fail
 | some .unsafePointer, some (.pointer u), .pointer (some a) =>
  match m.live a.block with
  | some c => if !c.slk && a.spot.isNone && (E.P.info? u).isSome && liesAt E.P E.P.depth c.elem (c.n / E.P.cellsOf c.elem) a.off u 1 then .value (.pointer (some a)) m else .fail
  | none => .fail
 | _, _, _ => .fail
def opMakeInterface (t : TypeId) (x : Value) (m : Mem) : ORes := match und E t with
 | some (.interface _) => .fail
 | some _ => .value (.iface t x) m
 | none => .fail
def opMakeFunc (fn : Fn) (first captured : Array Value) (m : Mem) : ORes := match fn with
 | .yield _ => .fail
 | _ => .value (.func fn first captured) m
def opMakeMap (t : TypeId) (r : Option Value) (m : Mem) : ORes :=
 match r with
 | none => .value (.map (some m.nb)) (m.new (.map [] 0))
 | some r => match und E t, r with
  | some (.map _ _), .int _ _ => .value (.map (some m.nb)) (m.new (.map [] 0))
  | _, _ => .fail
def opMakeSlice (t : TypeId) (l c : Value) (m : Mem) : ORes := match und E t, l, c with
 | some (.slice e), .int _ l, .int _ c =>
  match E.P.info? e with
  | some i =>
   if 0 ≤ l && l ≤ c && c ≤ 1048576 && i.bytes ≤ 1048576 then
    match (if c.toNat * i.size = 0 then some (.agg ⟨[]⟩) else zeroOf E e) with
    | some z => match m.newCells ((Array.range (c.toNat * i.size)).map (z.cells[· % z.cells.size]!)).toList e with
     | some m' => .value (.slice (some ⟨m.nb, 0, none⟩) l.toNat (mkCap c.toNat true)) m'
     | none => .fail
    | none => .fail
   else .fail
  | none => .fail
 | _, _, _ => .fail
def bnd (v : Option Value) (dflt : Nat) : Option Nat := match v with
 | none => some dflt
 | some (.int _ i) => if 0 ≤ i then some i.toNat else none
 | some _ => none
def cutOk (m : Mem) (e : TypeId) (b c : Nat) : Bool :=
 exact c || match m.live b with
  | some k => k.slk && szOf E k.elem == szOf E e
  | none => false
def sliceV (m : Mem) (t : TypeId) (x : Value) (lo hi mx : Option Value) : Option Value :=
 match und E t, x with
 | some .string, .string s =>
  match bnd lo 0, bnd hi s.size, mx with
  | some l, some h, none => if l ≤ h && h ≤ s.size then some (.string (s.extract l h)) else none
  | _, _, _ => none
 | some (.slice e), .slice (some a) len c =>
  if (E.P.info? e).isSome && cutOk E m e a.block c then
   match bnd lo 0, bnd hi len, mx with
   | some l, some h, none =>
    if l ≤ h && h ≤ capOf c then
     some (.slice (some (if exact c && l == capOf c then a else a.add (l * szOf E e))) (h - l) (mkCap (capOf c - l) (exact c)))
    else none
   | some l, some h, some (.int _ k) =>
    if l ≤ h && (h : Int) ≤ k && k ≤ (capOf c : Int) && (exact c || 0 < capOf c) then
     some (.slice (some (if (l : Int) = k then a else a.add (l * szOf E e))) (h - l) (mkCap (k.toNat - l) true))
    else none
   | _, _, _ => none
  else none
 | some (.slice e), .slice none 0 0 =>
  if (E.P.info? e).isSome then
   match bnd lo 0, bnd hi 0, mx with
   | some 0, some 0, none => some (.slice none 0 0)
   | _, _, _ => none
  else none
 | some (.array n e), .pointer (some a) =>
  if (E.P.info? e).isSome then
   match bnd lo 0, bnd hi n, mx with
   | some l, some h, none => if l ≤ h && h ≤ n then some (.slice (some (if l = n then a else a.add (l * szOf E e))) (h - l) (mkCap (n - l) true)) else none
   | _, _, _ => none
  else none
 | _, _ => none
def opSlice (t : TypeId) (x : Value) (lo hi mx : Option Value) (m : Mem) : ORes := rv (sliceV E m t x lo hi mx) m
def opFieldAddr (s : TypeId) (x : Value) (f : Nat) (m : Mem) : ORes := match und E s, addrOf x with
 | some (.struct fs), some (b, off) => match fs[f]? with
  | some f => if szOf E f.type = 0 then .fail else .value (ptr b (off + f.offset)) m
  | none => .fail
 | _, _ => .fail
def opField (t : TypeId) (x : Value) (f : Nat) (m : Mem) : ORes := match und E t, x with
 | some (.struct fs), .agg cs => match fs[f]? with
  | some f => rv (partV E f.type cs f.offset) m
  | none => .fail
 | _, _ => .fail
def opIndexAddr (t : TypeId) (x i : Value) (m : Mem) : ORes := match und E t, x, i with
 | some (.array n e), .pointer (some a), .int _ i => if 0 ≤ i && i < (n : Int) && (E.P.info? e).isSome then .value (.pointer (some (a.add (i.toNat * szOf E e)))) m else .fail
 | some (.slice e), .slice (some a) n _, .int _ i => if 0 ≤ i && i < (n : Int) && (E.P.info? e).isSome then .value (.pointer (some (a.add (i.toNat * szOf E e)))) m else .fail
 | _, _, _ => .fail
def opIndex (t : TypeId) (x i : Value) (m : Mem) : ORes := match und E t, x, i with
 | some (.array n e), .agg cs, .int _ i => if 0 ≤ i && i < (n : Int) && (E.P.info? e).isSome then rv (partV E e cs (i.toNat * szOf E e)) m else .fail
 | some .string, .string s, .int k i => rp (pureRun E.P (Instr.index t (.string s) (.int k i))) m
 | _, _, _ => .fail
def opAssert (x : Value) (asserted : TypeId) (ok : Bool) (m : Mem) : ORes :=
 match und E asserted, x with
 | some (.interface _), .nilIface => fails m
 | some (.interface want), .iface t v => match E.P.info? t with
  | some i => match Instr.missingMethod want i.methods with
   | none => holds (.iface t v) m
   | some _ => fails m
  | none => .fail
 | some _, .nilIface => fails m
 | some _, .iface t v => if t = asserted then holds v m else fails m
 | _, _ => .fail
 where
 holds (v : Value) (m : Mem) : ORes := .value (if ok then .tuple #[v, .bool true] else v) m
 fails (m : Mem) : ORes := if ok then match zeroOf E asserted with
  | some z => .value (.tuple #[z, .bool false]) m
  | none => .fail
  else .fail
def opExtract (t : Value) (i : Nat) (m : Mem) : ORes := match t with
 | .tuple vs => rv vs[i]? m
 | _ => .fail
def Mem.map? (m : Mem) (r : Nat) : Option (List MapEntry × Nat) :=
 if r % 2 = 1 then match m.blks.get (r / 2) with
  | some (.map es c) => some (es, c)
  | _ => none
 else none
def keyOk : Value → Bool
 | .int _ _ => true
 | .string _ => true
 | .bool _ => true
 | _ => false
def sameK : Value → Value → Option Bool
 | .int k a, .int k' b => if k = k' then some (a == b) else none
 | .string a, .string b => some (a == b)
 | .bool a, .bool b => some (a == b)
 | _, _ => none
def findK (k : Value) : List MapEntry → Nat → Option (Option (Nat × Value))
 | [], _ => some none
 | e :: es, i => match sameK k e.key with
  | some true => some (some (i, e.val))
  | some false => findK k es (i + 1)
  | none => none
def keyFits (t : TypeId) (k : Value) : Bool := match und E t, k with
 | some (.int _), .int _ _ => true
 | some .string, .string _ => true
 | some .bool, .bool _ => true
 | _, _ => false
def opLookup (t : TypeId) (x k : Value) (ok : Bool) (m : Mem) : ORes := match und E t with
 | some (.map kt et) =>
  if keyFits E kt k then
   match x with
   | .map none => miss et m
   | .map (some r) => match m.map? r with
    | some (es, _) => match findK k es 0 with
     | some (some (_, v)) => .value (if ok then .tuple #[v, .bool true] else v) m
     | some none => miss et m
     | none => .fail
    | none => .fail
   | _ => .fail
  else .fail
 | _ => .fail
 where
 miss (et : TypeId) (m : Mem) : ORes := match zeroOf E et with
  | some z => .value (if ok then .tuple #[z, .bool false] else z) m
  | none => .fail
def setAt (l : List MapEntry) (i : Nat) (f : MapEntry → MapEntry) : List MapEntry := match l, i with
 | [], _ => []
 | x :: xs, 0 => f x :: xs
 | x :: xs, i + 1 => x :: setAt xs i f
def opUpdate (t : TypeId) (x k v : Value) (m : Mem) : ORes := match und E t, x with
 | some (.map kt _), .map (some r) =>
  if keyFits E kt k && defd v then
   match m.map? r with
   | some (es, c) => match findK k es 0 with
    | some (some (i, _)) => .skip (m.setB (r / 2) (.map (setAt es i fun e => { e with key := k, val := v }) c))
    | some none => .skip (m.setB (r / 2) (.map (es ++ [{ key := k, val := v, born := c }]) (c + 1)))
    | none => .fail
   | none => .fail
  else .fail
 | _, _ => .fail
def lenV (m : Mem) (t : TypeId) (x : Value) : Option Int :=
 match und E t, x with
 | some .string, .string s => some s.size
 | some (.array n _), _ => some n
 | some (.slice _), .slice _ n _ => some n
 | some (.map _ _), .map none => some 0
 | some (.map _ _), .map (some r) => match m.map? r with
  | some (es, _) => some es.length
  | none => none
 | _, _ => none
def lenSrc : Value → Option Nat
 | .slice _ n _ => some n
 | .string s => some s.size
 | _ => none
def readSrc (m : Mem) (size n : Nat) : Value → Option (List Value)
 | .slice (some a) _ _ => m.loadN E a.block a.off (n * size)
 | .slice none _ _ => some []
 | .string s => some (bytesV (s.extract 0 n))
 | _ => none
def isInt (t : Option TypeId) : Bool := match t with
 | some t => match und E t with
  | some (.int _) => true
  | _ => false
 | none => false
def elemOk (e : TypeId) (i : TypeInfo) : Bool := match zeroOf E e with
 | some z => z.cells.size == i.size && decide (0 < i.size) && decide (i.bytes ≤ 1048576)
 | none => false
def srcOk (xt : Option TypeId) : Bool := match xt with
 | some u => match und E u with
  | some (.slice _) => true
  | some .string => true
  | _ => false
 | none => false
def opAppend (t : TypeId) (xt : Option TypeId) (s x : Value) (m : Mem) : ORes :=
 match und E t, s, lenSrc x with
 | some (.slice e), .slice base len c, some n =>
  match E.P.info? e with
  | some i =>
   if elemOk E e i && srcOk E xt && decide (len + n ≤ 1048576) then
    match readSrc E m i.size n x with
    | some new =>
     if new.length = n * i.size then
      if len + n ≤ capOf c then
       match base with
       | none => if new.isEmpty && c == 0 && len == 0 then .value (.slice none 0 0) m else .fail
       | some a => match m.write a.block (a.off + len * i.size) new with
        | some m' => .value (.slice (some a) (len + n) c) m'
        | none => .fail
      else
       match base with
       | none => if c == 0 && len == 0 then .value (.slice (some ⟨m.nb, 0, none⟩) (len + n) (mkCap (len + n) false)) (m.new (.cells { cellsOf new e with slk := true })) else .fail
       | some a =>
        match m.loadN E a.block a.off (len * i.size) with
        | some old =>
         if exact c then .value (.slice (some ⟨m.nb, 0, none⟩) (len + n) (mkCap (len + n) false)) (m.new (.cells { cellsOf (old ++ new) e with slk := true }))
         else match m.live a.block with
          | some pc =>
           if pc.slk && pc.elem == e && decide (pc.hi ≤ a.off + len * i.size) then
            .value (.slice (some ⟨m.nb, 0, none⟩) (len + n) (mkCap (len + n) false))
             ((m.setB (a.block / 2) (.cells { pc with dead := true })).new (.cells { cellsOf (old ++ new) e with slk := true, str := pc.str || decide (pc.lo < pc.hi), lo := pc.lo - a.off, hi := pc.hi - a.off }))
           else .fail
          | none => .fail
        | none => .fail
     else .fail
    | none => .fail
   else .fail
  | none => .fail
 | _, _, _ => .fail
end
end Go.Am
