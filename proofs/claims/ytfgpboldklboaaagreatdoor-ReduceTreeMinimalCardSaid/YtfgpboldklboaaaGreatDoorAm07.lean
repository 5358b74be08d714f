/-
  PROVED here: steps on the way to the card of 'sleuthlaw06.ReduceTreeMinimal' (an abstract machine, its soundness, what each function computes). No conditions beyond those that each theorem states.
-/
import Derived.Test.YtfgpboldklboaaaGreatDoorAm06
import Derived.Calls
import Derived.Orders
namespace Go.Am
structure Fr where
 kind : CallKind
 rd : Option Nat
def F (x : Ctx) (c : Fr) (tm : Array Value) (df : List Deferred) (md : FrameMode) (todo : List Item) : Frame :=
 { fn := x.fn, tmps := tm, todo, defers := df, mode := md, kind := c.kind, roundOf := c.rd }
def reMode (d : Bool) (cs : List Frame) (md : FrameMode) : List Frame := if d then match cs with
 | c :: r => { c with mode := md } :: r
 | [] => []
 else cs
inductive ChR (ρ : Emb) (B : Nat) : List PanicEntry → List PanicEntry → Prop where
 | nil : ChR ρ B [] []
 | cons {v v' : Value} {r g : Bool} {l l' : List PanicEntry} (h : VR ρ B v v') (hl : ChR ρ B l l') : ChR ρ B (⟨v, r, g⟩ :: l) (⟨v', r, g⟩ :: l')
theorem ChR.mono {ρ ρ' : Emb} {B : Nat} (h : ρ.le ρ') {l l' : List PanicEntry} (hl : ChR ρ B l l') : ChR ρ' B l l' := by
 induction hl with
 | nil => exact .nil
 | cons hv _ ih => exact .cons (hv.mono h) ih
theorem ChR.append {ρ : Emb} {B : Nat} {a a' b b' : List PanicEntry} (h : ChR ρ B a a') (h' : ChR ρ B b b') : ChR ρ B (a ++ b) (a' ++ b') := by
 induction h with
 | nil => exact h'
 | cons hv _ ih => exact .cons hv ih
def ModeR (ρ : Emb) (B : Nat) (cm : Option (List PanicEntry)) (md : FrameMode) : Prop := match cm with
 | none => md = .returning
 | some ch => ∃ ch', md = .panicking ch' ∧ ChR ρ B ch ch'
theorem ModeR.mono {ρ ρ' : Emb} {B : Nat} (h : ρ.le ρ') {cm : Option (List PanicEntry)} {md : FrameMode} (hm : ModeR ρ B cm md) : ModeR ρ' B cm md := by
 cases cm with
 | none => exact hm
 | some ch => obtain ⟨ch', e, hc⟩ := hm; exact ⟨ch', e, hc.mono h⟩
structure CtxOk (P : Program) (ρ : Emb) (B : Nat) (x : Ctx) (c : Fr) : Prop where
 fn : ∃ fn, P.funcs[x.fn]? = some fn
 kind : c.kind = if x.deferred then .deferred else .normal
 rd : match x.round, c.rd with
  | none, none => True
  | some l, some l' => ρ.at B l = some (l', 0) ∧ l % 2 = 1
  | _, _ => False
 nd : x.round.isSome = true → x.deferred = false
theorem CtxOk.mono {P : Program} {ρ ρ' : Emb} {B : Nat} {x : Ctx} {c : Fr} (h : ρ.le ρ') (hc : CtxOk P ρ B x c) : CtxOk P ρ' B x c := by
 refine ⟨hc.fn, hc.kind, ?_, hc.nd⟩
 have := hc.rd
 cases h1 : x.round <;> cases h2 : c.rd <;> rw [h1, h2] at this <;> simp only at this ⊢
 exact ⟨Emb.at_mono h this.1, this.2⟩
structure SR (G : Cfg) (w0 : World) (ρ : Emb) (x : Ctx) (s : St) (tm : Array Value) (df : List Deferred) (cs : List Frame) (md : FrameMode) (w : World) : Prop where
 mem : MR G.toEnv w0 ρ s.m w
 defers : DefsR ρ w0.heap.size s.defers df
 cm : x.deferred = true → ModeR ρ w0.heap.size s.cm md
 size : x.nt ≤ tm.size
 cs : x.deferred = true → cs ≠ []
def Arr (P : Program) (ρ : Emb) (B : Nat) (x : Ctx) (c : Fr) (k : List Item) (cs : List Frame) (m0 : Machine) (tm : Array Value) (df : List Deferred) (md : FrameMode) (w : World) : Ex → Prop
 | .normal => Steps P m0 (lone (F x c tm df .run k) (reMode x.deferred cs md) w)
 | .exit id => ∃ kk, exitTo id kk = exitTo id k ∧ Steps P m0 (lone (F x c tm df .run (.code (.exit id) :: kk)) (reMode x.deferred cs md) w)
 | .ret => ∃ kk, Steps P m0 (lone (F x c tm df .run (.code .ret :: kk)) (reMode x.deferred cs md) w)
 | .panic ch => ∃ ch' todo, ChR ρ B ch ch' ∧ Steps P m0 (lone (F x c tm df (.panicking ch') todo) (reMode x.deferred cs md) w)
theorem Arr.of_steps {P : Program} {ρ : Emb} {B : Nat} {x : Ctx} {c : Fr} {k : List Item} {cs : List Frame} {m0 m1 : Machine} {tm : Array Value} {df : List Deferred} {md : FrameMode} {w : World} {e : Ex}
 (h : Steps P m0 m1) (h' : Arr P ρ B x c k cs m1 tm df md w e) : Arr P ρ B x c k cs m0 tm df md w e := by
 cases e with
 | normal => exact h.trans h'
 | exit id => obtain ⟨kk, e, h1⟩ := h'; exact ⟨kk, e, h.trans h1⟩
 | ret => obtain ⟨kk, h1⟩ := h'; exact ⟨kk, h.trans h1⟩
 | panic ch => obtain ⟨ch', t, e, h1⟩ := h'; exact ⟨ch', t, e, h.trans h1⟩
theorem Arr.pass {P : Program} {ρ : Emb} {B : Nat} {x : Ctx} {c : Fr} {i : Item} {k : List Item} {cs : List Frame} {m0 : Machine} {tm : Array Value} {df : List Deferred} {md : FrameMode} {w : World} {e : Ex}
 (hi : ∀ id, i ≠ .inBlock id) (he : e ≠ .normal) (h : Arr P ρ B x c (i :: k) cs m0 tm df md w e) : Arr P ρ B x c k cs m0 tm df md w e := by
 cases e with
 | normal => exact absurd rfl he
 | exit id =>
  obtain ⟨kk, e, h1⟩ := h
  refine ⟨kk, e.trans ?_, h1⟩
  cases i with
  | inBlock id' => exact absurd rfl (hi id')
  | _ => rfl
 | ret => exact h
 | panic ch => exact h
section moves
variable {P : Program} {x : Ctx} {c : Fr} {tm : Array Value} {df : List Deferred} {k : List Item} {cs : List Frame} {w : World}
theorem mv_skip : step P (lone (F x c tm df .run (.code .skip :: k)) cs w) = .next (lone (F x c tm df .run k) cs w) := step_lone_go (by simp [stepG, stepG.exec, F])
theorem mv_label {l : Nat} : step P (lone (F x c tm df .run (.code (.label l) :: k)) cs w) = .next (lone (F x c tm df .run k) cs w) := step_lone_go (by simp [stepG, stepG.exec, F])
theorem mv_inBlock {id : Nat} : step P (lone (F x c tm df .run (.inBlock id :: k)) cs w) = .next (lone (F x c tm df .run k) cs w) := step_lone_go (by simp [stepG, stepG.exec, F])
theorem mv_inScope {b : Code} : step P (lone (F x c tm df .run (.inScope b :: k)) cs w) = .next (lone (F x c tm df .run k) cs w) := step_lone_go (by simp [stepG, stepG.exec, F])
theorem mv_seq {a b : Code} : step P (lone (F x c tm df .run (.code (.seq a b) :: k)) cs w) = .next (lone (F x c tm df .run (.code a :: .code b :: k)) cs w) :=
 step_lone_go (by simp [stepG, stepG.exec, F])
theorem mv_block {id : Nat} {b : Code} : step P (lone (F x c tm df .run (.code (.block id b) :: k)) cs w) = .next (lone (F x c tm df .run (.code b :: .inBlock id :: k)) cs w) :=
 step_lone_go (by simp [stepG, stepG.exec, F])
theorem mv_loop {b : Code} : step P (lone (F x c tm df .run (.code (.loop b) :: k)) cs w) = .next (lone (F x c tm df .run (.code b :: .inLoop b :: k)) cs w) :=
 step_lone_go (by simp [stepG, stepG.exec, F])
theorem mv_inLoop {b : Code} : step P (lone (F x c tm df .run (.inLoop b :: k)) cs w) = .next (lone (F x c tm df .run (.code b :: .inLoop b :: k)) cs w) :=
 step_lone_go (by simp [stepG, stepG.exec, F])
theorem mv_scope {b : Code} : step P (lone (F x c tm df .run (.code (.scope b) :: k)) cs w) = .next (lone (F x c tm df .run (.code b :: .inScope b :: k)) cs w) :=
 step_lone_go (by simp [stepG, stepG.exec, F])
theorem mv_exit {id : Nat} {k' : List Item} (h : exitTo id k = some k') : step P (lone (F x c tm df .run (.code (.exit id) :: k)) cs w) = .next (lone (F x c tm df .run k') cs w) :=
 step_lone_go (by simp [stepG, stepG.exec, F, h])
def evA (tm : Array Value) : Operand → Value
 | .tmp t => tm.getD t undef
 | .const v => v
 | .global g => .pointer (some ⟨g, 0, none⟩)
 | .func f => .func (.func f) #[] #[]
theorem eval_F {md : FrameMode} {todo : List Item} : (F x c tm df md todo).eval = evA tm := by
 funext o; cases o <;> rfl
theorem mv_cond {o : Operand} {a b : Code} {t : Bool} (h : evA tm o = .bool t) :
 step P (lone (F x c tm df .run (.code (.cond o a b) :: k)) cs w) = .next (lone (F x c tm df .run (.code (if t then a else b) :: k)) cs w) :=
 step_lone_go (by
  have e : (F x c tm df .run (.code (.cond o a b) :: k)).eval o = .bool t := by rw [eval_F]; exact h
  simp only [F] at e
  simp [stepG, stepG.exec, F, e])
theorem mv_region {id : Nat} {ops : Array Oper} :
 step P (lone (F x c tm df .run (.code (.region id ops false) :: k)) cs w) = .next (lone (F x c tm df .run (.inRegion ops (List.range ops.size) :: k)) cs w) :=
 step_lone_go (by simp [stepG, stepG.exec, F])
theorem mv_draw {id : Nat} {ops : Array Oper} :
 step P (lone (F x c tm df .run (.code (.region id ops true) :: k)) cs w) =
  .next (lone (F x c tm df .run (.inRegion ops (Region.schedule (P.follows .mixedOrders) ops (w.tape w.drawn (.order x.fn id))) :: k)) cs { w with drawn := w.drawn + 1 }) :=
 step_lone_go (by simp [stepG, stepG.exec, F, choose, Sem.run, Question.forced, Question.cut])
theorem mv_end {ops : Array Oper} : step P (lone (F x c tm df .run (.inRegion ops [] :: k)) cs w) = .next (lone (F x c tm df .run k) cs w) :=
 step_lone_go (by simp [stepG, stepG.exec, F])
def putA (tm : Array Value) (dst : Option Tmp) (v : Value) : Array Value := match dst with
 | some d => tm.setIfInBounds d v
 | none => tm
theorem size_putA {dst : Option Tmp} {v : Value} : (putA tm dst v).size = tm.size := by cases dst <;> simp [putA]
theorem finish_F {ops : Array Oper} {i : Nat} {rest : List Nat} {v : Value} :
 (F x c tm df .run (.inRegion ops (i :: rest) :: k)).finish v = F x c (putA tm ((ops[i]?).bind (·.dst)) v) df .run (.inRegion ops rest :: k) := by
 cases h : (ops[i]?).bind (·.dst) <;> simp [Frame.finish, F, putA, h]
theorem mv_skipOp {ops : Array Oper} {i : Nat} {rest : List Nat} (h : ((ops[i]?).map (Region.wanted · (yielded ops tm))).getD false = false) :
 step P (lone (F x c tm df .run (.inRegion ops (i :: rest) :: k)) cs w) = .next (lone (F x c (putA tm ((ops[i]?).bind (·.dst)) undef) df .run (.inRegion ops rest :: k)) cs w) := by
 rw [← finish_F]
 exact step_lone_go (by
  have h' := h
  simp only [F] at *
  simp [stepG, stepG.exec, h'])
theorem stepG_op {ops : Array Oper} {i : Nat} {rest : List Nat} {o : Oper} (ho : ops[i]? = some o) (hw : Region.wanted o (yielded ops tm) = true) (hd : c.rd = none ∨ ∀ d, o.op ≠ .defer d) :
 stepG P true { frame := F x c tm df .run (.inRegion ops (i :: rest) :: k), callers := cs, status := .running, dying := none } w =
  stepG.apply P true (F x c tm df .run (.inRegion ops (i :: rest) :: k)) cs none (execOp (evA tm) o) w := by
 have he := eval_F (x := x) (c := c) (tm := tm) (df := df) (md := .run) (todo := .inRegion ops (i :: rest) :: k)
 simp only [F] at he
 have key : stepG P true { frame := F x c tm df .run (.inRegion ops (i :: rest) :: k), callers := cs, status := .running, dying := none } w =
  stepG.oper P true (F x c tm df .run (.inRegion ops (i :: rest) :: k)) cs none w := by
  simp [stepG, stepG.exec, F, ho, hw]
 rw [key]
 unfold stepG.oper
 have h1 : (F x c tm df .run (.inRegion ops (i :: rest) :: k)).oper? = some o := by simp [Frame.oper?, F, ho]
 rw [h1]
 simp only
 rcases hd with hd | hd
 · have : (F x c tm df .run (.inRegion ops (i :: rest) :: k)).roundOf = none := hd
   rw [this, eval_F]
 rw [eval_F]
 split
 · rename_i l cc h2 h3
   exact absurd h3 (hd cc)
 rfl
end moves
end Go.Am
namespace Go.Am
variable {G : Cfg} {w0 w : World} {ρ : Emb} {m : Mem}
def KnownAt (P : Program) (f : FuncId) (v : Value) : Prop := ∀ (w : World) (cs : List Frame), ∃ w' fr', (∀ b, b < w.heap.size → w'.heap[b]? = w.heap[b]?) ∧ w.heap.size ≤ w'.heap.size ∧ w'.os = w.os ∧ w'.tape = w.tape ∧ w'.output = w.output ∧
 Steps P (lone (Frame.enter P f #[] .normal) cs w) (lone fr' cs w') ∧ fr'.fn = f ∧ fr'.defers = [] ∧ fr'.kind = .normal ∧ fr'.roundOf = none ∧ ∃ fn, P.funcs[f]? = some fn ∧ fr'.mode = .returning ∧ (results fn fr'.tmps).run P w' = .ok v w'
structure Base (G : Cfg) (w0 : World) : Prop where
 cfg : CfgOk G
 ng : G.ng ≤ w0.heap.size
 known : ∀ f b, G.kf f = some b → KnownAt G.P f (.bool b)
theorem resolveV_congr {ev ev' : Operand → Value} (c : Call) (t : TypeId) (h : ∀ x ∈ c.operands, ev x = ev' x) : resolveV ev c t = resolveV ev' c t := by
 have ha : c.args.map ev = c.args.map ev' := Array.map_congr_left fun x hx => h x (by
  unfold Call.operands
  cases c.callee <;> simp [hx])
 unfold resolveV
 cases hc : c.callee with
 | builtin b => simp only [ha]
 | invoke r n => rfl
 | value f =>
  have hf : ev f = ev' f := h f (by unfold Call.operands; rw [hc]; simp)
  simp only [hf, ha]
theorem opV_congr {ev ev' : Operand → Value} (o : Oper) (h : ∀ x ∈ o.op.operands, ev x = ev' x) (m : Mem) : opV G ev o m = opV G ev' o m := by
 obtain ⟨dst, op, type, pos, after, guard⟩ := o
 have pairs : ∀ ps : Array (Nat × Operand), (∀ x ∈ ps.map (·.2), ev x = ev' x) → (ps.toList.map fun p => (p.1, ev p.2)) = (ps.toList.map fun p => (p.1, ev' p.2)) := fun ps hp =>
  List.map_congr_left fun p hm => by
   obtain ⟨i, x⟩ := p
   simp only [hp x (Array.mem_map.2 ⟨(i, x), by simpa using hm, rfl⟩)]
 cases op <;> simp only [Op.operands] at h <;> simp only [opV]
 case build t ps => rw [pairs ps fun x hx => h x (by simpa using hx)]
 case buildSlice t n ps => rw [pairs ps fun x hx => h x (by simpa using hx)]
 case makeFunc fn first captured =>
  rw [Array.map_congr_left (xs := first) fun x hx => h x (by simp [hx]), Array.map_congr_left (xs := captured) fun x hx => h x (by simp [hx])]
 case call c => rw [resolveV_congr c _ h]
 case defer c => rw [resolveV_congr c _ h]
 case makeMap t r => cases r <;> simp_all
 case slice t x lo hi mx => cases lo <;> cases hi <;> cases mx <;> simp_all
 all_goals (first | rfl | (simp_all; done))
open Classical in
theorem opV_ok2 (hG : CfgOk G) (h : MR G.toEnv w0 ρ m w) {ev ev' : Operand → Value} (o : Oper) (hev : ∀ x ∈ o.op.operands, VR ρ w0.heap.size (ev x) (ev' x)) :
 OpOk G w0 ρ m w (execOp ev' o) (opV G ev o m) := by
 have := opV_ok hG h (ev := fun x => if x ∈ o.op.operands then ev x else undef) (ev' := ev') (fun x => by
  split
  · exact hev x (by assumption)
  exact .undef _) o
 rwa [opV_congr (ev' := ev) o (fun x hx => by rw [if_pos hx])] at this
theorem evalT_ok (hb : Base G w0) {t : Tr Value} {tm : Array Value} (x : Operand) (h : ∀ i, x = .tmp i → VR ρ w0.heap.size ((t.get i).getD undef) (tm.getD i undef)) :
 VR ρ w0.heap.size (evalT G.ng t x) (evA tm x) := by
 cases x with
 | tmp i => exact h i rfl
 | const v =>
  simp only [evalT, evA]
  split
  · rename_i hf; exact flat_refl 9 hf
  exact .undef _
 | global g =>
  simp only [evalT, evA]
  split
  ·
   rename_i hg
   have := VR.ptr (ρ := ρ) (B := w0.heap.size) (b := 2 * g) (o := 0) (b' := g) (s := 0) (by
    unfold Emb.at
    have := hb.ng
    rw [if_neg (by omega), show 2 * g / 2 = g by omega, if_pos (by omega)])
   simpa using this
  exact .undef _
 | func f =>
  simp only [evalT, evA]
  exact .func (.func f) rfl (fun i => by simp; exact .undef _) rfl (fun i => by simp; exact .undef _)
theorem mem_reads {ops : Array Oper} {o : Oper} {t : Tmp} (h : Operand.tmp t ∈ o.op.operands) : t ∈ readsOf ops o := by
 unfold readsOf
 refine List.mem_append_left _ (List.mem_filterMap.2 ⟨.tmp t, by simpa using h, rfl⟩)
theorem ops_ok (hb : Base G w0) {ops : Array Oper} {o : Oper} {t : Tr Value} {tm : Array Value} (h : ∀ i ∈ readsOf ops o, VR ρ w0.heap.size ((t.get i).getD undef) (tm.getD i undef)) :
 ∀ x ∈ o.op.operands, VR ρ w0.heap.size (evalT G.ng t x) (evA tm x) := by
 intro x hx
 exact evalT_ok hb x (fun i e => h i (mem_reads (e ▸ hx)))
theorem wanted_ok {ops : Array Oper} {o : Oper} {t : Tr Value} {tm : Array Value} {B : Nat} (h : ∀ i ∈ readsOf ops o, VR ρ B ((t.get i).getD undef) (tm.getD i undef)) (hg : guardOk o ops t = true) :
 Region.wanted o (yielded ops tm) = wantedV o ops t := by
 unfold Region.wanted wantedV
 unfold guardOk at hg
 cases hgd : o.guard with
 | none => rfl
 | some p =>
  obtain ⟨j, want⟩ := p
  rw [hgd] at hg
  simp only at hg ⊢
  cases hd : (ops[j]?).bind (·.dst) with
  | none => simp [yielded, hd]
  | some d =>
   rw [hd] at hg
   simp only at hg ⊢
   have hr := h d (by unfold readsOf; rw [hgd]; simp only; rw [hd]; simp)
   cases ht : t.get d with
   | none => rw [ht] at hg; cases hg
   | some v =>
    rw [ht] at hg hr
    cases v with
    | bool b =>
     simp only [Option.getD_some] at hr
     generalize hx : tm.getD d undef = u at hr
     cases hr with
     | bool =>
      have : tm[d]? = some (.bool b) := by
       rw [Array.getD_eq_getD_getElem?] at hx
       cases h0 : tm[d]? with
       | none => rw [h0] at hx; simp [undef] at hx
       | some y => rw [h0] at hx; simpa using hx
      simp only [yielded, hd, Option.bind_some, this]
      rfl
    | chan c =>
     cases c with
     | none =>
      simp only [Option.getD_some] at hr
      generalize hx : tm.getD d undef = u at hr
      cases hr with
      | ku =>
       have : yielded ops tm j = none := by
        rw [Array.getD_eq_getD_getElem?] at hx
        simp only [yielded, hd, Option.bind_some]
        cases h0 : tm[d]? with
        | none => rfl
        | some y => rw [h0] at hx; simp only [Option.getD_some] at hx; subst hx; rfl
       rw [this]
       rfl
     | some c => simp at hg
    | _ => simp at hg
def putT (t : Tr Value) (dst : Option Tmp) (v : Value) : Tr Value := match dst with
 | some d => t.set d v
 | none => t
theorem next_spec {x : Ctx} {s s' : St} {dst : Option Tmp} {v : Value} {e : Ex} (h : St.next x s dst v = some (e, s')) :
 e = .normal ∧ s' = { s with tmps := putT s.tmps dst v } ∧ ∀ d, dst = some d → d < x.nt := by
 unfold St.next St.put at h
 cases dst with
 | none => simp at h; obtain ⟨rfl, rfl⟩ := h; exact ⟨rfl, rfl, fun d e => by cases e⟩
 | some d =>
  simp only at h
  by_cases hd : d < x.nt
  · rw [if_pos hd] at h
    simp at h
    obtain ⟨rfl, rfl⟩ := h
    exact ⟨rfl, rfl, fun d' e => by cases e; exact hd⟩
  rw [if_neg hd] at h; cases h
structure Post (G : Cfg) (w0 : World) (ρ : Emb) (x : Ctx) (s s' : St) (tm' : Array Value) (cs : List Frame) (w : World) (ρ' : Emb) (df' : List Deferred) (md' : FrameMode) (w' : World) : Prop where
 sr : SR G w0 ρ' x s' tm' df' cs md' w'
 ext : Ext w0 ρ ρ' s.m s'.m w w'
 cm : s.cm = none → s'.cm = none
def kindOf (d : Bool) : CallKind := if d then .deferred else .normal
def CallOk (G : Cfg) (n : Nat) : Prop := ∀ (f : FuncId) (args : List Value) (deferred : Bool) (cm : Option (List PanicEntry)) (m : Mem) (out : Out) (cm' : Option (List PanicEntry)) (m' : Mem),
 call G n f args deferred cm m = some (out, cm', m') → ∀ (w0 : World), Base G w0 → ∀ (ρ : Emb) (cs : List Frame) (md : FrameMode) (w : World) (args' : Array Value),
 MR G.toEnv w0 ρ m w → VL ρ w0.heap.size args args'.toList → (deferred = true → ModeR ρ w0.heap.size cm md ∧ cs ≠ []) →
 ∃ ρ' md' w' fr', MR G.toEnv w0 ρ' m' w' ∧ Ext w0 ρ ρ' m m' w w' ∧ (deferred = true → ModeR ρ' w0.heap.size cm' md') ∧ (cm = none → cm' = none) ∧
  Steps G.P (lone (Frame.enter G.P f args' (kindOf deferred)) (reMode deferred cs md) w) (lone fr' (reMode deferred cs md') w') ∧
  fr'.fn = f ∧ fr'.defers = [] ∧ fr'.kind = kindOf deferred ∧ fr'.roundOf = none ∧ (∃ fn, G.P.funcs[f]? = some fn ∧ match out with
   | .returned v => fr'.mode = .returning ∧ ∃ v', VR ρ' w0.heap.size v v' ∧ (results fn fr'.tmps).run G.P w' = .ok v' w'
   | .panicked ch => ∃ ch', ChR ρ' w0.heap.size ch ch' ∧ fr'.mode = .panicking ch')
def RoundOk (G : Cfg) (n : Nat) : Prop := ∀ (l : Nat) (args : List Value) (m : Mem) (out : Out) (m' : Mem),
 callRound G n l args m = some (out, m') → ∀ (w0 : World), Base G w0 → ∀ (ρ : Emb) (caller : Frame) (rest : List Frame) (w : World) (l' : Nat) (args' : Array Value),
 MR G.toEnv w0 ρ m w → VL ρ w0.heap.size args args'.toList → ρ.at w0.heap.size l = some (l', 0) → l % 2 = 1 →
 ∃ f tmps assign body, (Instr.yield l' args').run G.P w = .ok (.round l' f tmps assign body) w ∧
 ∃ ρ' w', MR G.toEnv w0 ρ' m' w' ∧ Ext w0 ρ ρ' m m' w w' ∧ match out with
  | .returned v => ∃ v', VR ρ' w0.heap.size v v' ∧ Steps G.P (lone (Frame.round l' f tmps assign body .normal) (caller :: rest) w) (lone (caller.finish v') rest w')
  | .panicked ch => ∃ ch', ChR ρ' w0.heap.size ch ch' ∧ Steps G.P (lone (Frame.round l' f tmps assign body .normal) (caller :: rest) w) (lone (caller.raise ch') rest w')
def Op1Res (G : Cfg) (w0 : World) (ρ : Emb) (x : Ctx) (c : Fr) (k : List Item) (cs : List Frame) (tm : Array Value) (df : List Deferred) (md : FrameMode) (w : World) (ops : Array Oper) (i : Nat) (rest : List Nat)
 (o : Oper) (s : St) (e : Ex) (s' : St) : Prop :=
 ∃ ρ' df' md' w', Post G w0 ρ x s s' tm cs w ρ' df' md' w' ∧ match e with
  | .normal => ∃ v v', s'.tmps = putT s.tmps o.dst v ∧ (∀ d, o.dst = some d → d < x.nt) ∧ VR ρ' w0.heap.size v v' ∧
   Steps G.P (lone (F x c tm df .run (.inRegion ops (i :: rest) :: k)) (reMode x.deferred cs md) w) (lone (F x c (putA tm o.dst v') df' .run (.inRegion ops rest :: k)) (reMode x.deferred cs md') w')
  | .panic ch => s'.tmps = s.tmps ∧ ∃ ch' todo, ChR ρ' w0.heap.size ch ch' ∧
   Steps G.P (lone (F x c tm df .run (.inRegion ops (i :: rest) :: k)) (reMode x.deferred cs md) w) (lone (F x c tm df' (.panicking ch') todo) (reMode x.deferred cs md') w')
  | _ => False
def Op1Ok (G : Cfg) (n : Nat) : Prop := ∀ (x : Ctx) (ops : Array Oper) (o : Oper) (s : St) (e : Ex) (s' : St), execOp1 G n x ops o s = some (e, s') →
 ∀ (w0 : World), Base G w0 → ∀ (ρ : Emb) (c : Fr) (k : List Item) (cs : List Frame) (tm : Array Value) (df : List Deferred) (md : FrameMode) (w : World) (i : Nat) (rest : List Nat),
 ops[i]? = some o → CtxOk G.P ρ w0.heap.size x c → SR G w0 ρ x s tm df cs md w → (∀ t ∈ readsOf ops o, VR ρ w0.heap.size ((s.tmps.get t).getD undef) (tm.getD t undef)) →
 Op1Res G w0 ρ x c k cs tm df md w ops i rest o s e s'
end Go.Am
namespace Go.Am
variable {G : Cfg}
theorem reMode_false (cs : List Frame) (md : FrameMode) : reMode false cs md = cs := rfl
theorem finish_at {x : Ctx} {c : Fr} {tm : Array Value} {df : List Deferred} {k : List Item} {ops : Array Oper} {i : Nat} {rest : List Nat} {o : Oper} {v : Value} (ho : ops[i]? = some o) :
 (F x c tm df .run (.inRegion ops (i :: rest) :: k)).finish v = F x c (putA tm o.dst v) df .run (.inRegion ops rest :: k) := by
 rw [finish_F, ho]; rfl
theorem mv_apply {P : Program} {x : Ctx} {c : Fr} {tm : Array Value} {df : List Deferred} {k : List Item} {cs cs' : List Frame} {w w' : World} {ops : Array Oper} {i : Nat} {rest : List Nat} {o : Oper} {fr' : Frame}
 (ho : ops[i]? = some o) (hw : Region.wanted o (yielded ops tm) = true) (hd : c.rd = none ∨ ∀ d, o.op ≠ .defer d)
 (h : (stepG.apply P true (F x c tm df .run (.inRegion ops (i :: rest) :: k)) cs none (execOp (evA tm) o) w).bare = .go { frame := fr', callers := cs', status := .running, dying := none } w') :
 step P (lone (F x c tm df .run (.inRegion ops (i :: rest) :: k)) cs w) = .next (lone fr' cs' w') :=
 step_lone_go (by rw [stepG_op ho hw hd]; exact h)
theorem op1_ok {n : Nat} (hc : CallOk G n) (hr : RoundOk G n) : Op1Ok G (n + 1) := by
 intro x ops o s e s' he w0 hb ρ c k cs tm df md w i rest ho hx hs ht
 unfold execOp1 at he
 by_cases hg : guardOk o ops s.tmps = true
 ·
  rw [if_pos hg] at he
  have hw := wanted_ok ht hg
  by_cases hwt : wantedV o ops s.tmps = true
  ·
   rw [if_pos hwt] at he
   rw [hwt] at hw
   have hop := opV_ok2 hb.cfg hs.mem o (ops_ok hb ht)
   have hdef : ∀ d, o.op = .defer d → (∃ d' m', opV G (evalT G.ng s.tmps) o s.m = .defer d' m') ∨ opV G (evalT G.ng s.tmps) o s.m = .fail := by
    intro d e
    unfold opV
    rw [e]
    simp only
    cases resolveV (evalT G.ng s.tmps) d o.type <;> simp
   generalize opV G (evalT G.ng s.tmps) o s.m = r at hop he hdef
   have hrd : x.round.isSome = false → c.rd = none := by
    intro h
    have := hx.rd
    cases h1 : x.round <;> cases h2 : c.rd <;> rw [h1, h2] at this <;> simp_all
   cases r with
   | value v m =>
    obtain ⟨ρ', w', v', h1, h2, h3, h4⟩ := hop
    obtain ⟨rfl, rfl, hlt⟩ := next_spec he
    have hdf : c.rd = none ∨ ∀ d, o.op ≠ .defer d := .inr (fun d e => by rcases hdef d e with ⟨_, _, h⟩ | h <;> cases h)
    refine ⟨ρ', df, md, w', ⟨⟨h3, hs.defers.mono h4.le, fun h => (hs.cm h).mono h4.le, hs.size, hs.cs⟩, h4, fun h => h⟩, v, v', rfl, hlt, h2, .one ?_⟩
    refine mv_apply ho hw hdf ?_
    simp [stepG.apply, h1, finish_at ho]
   | skip m =>
    obtain ⟨ρ', w', h1, h3, h4⟩ := hop
    obtain ⟨rfl, rfl, hlt⟩ := next_spec he
    have hdf : c.rd = none ∨ ∀ d, o.op ≠ .defer d := .inr (fun d e => by rcases hdef d e with ⟨_, _, h⟩ | h <;> cases h)
    refine ⟨ρ', df, md, w', ⟨⟨h3, hs.defers.mono h4.le, fun h => (hs.cm h).mono h4.le, hs.size, hs.cs⟩, h4, fun h => h⟩, undef, undef, rfl, hlt, .undef _, .one ?_⟩
    refine mv_apply ho hw hdf ?_
    simp [stepG.apply, h1, finish_at ho]
   | enter f args m =>
    obtain ⟨rfl, args', h1, h2⟩ := hop
    simp only at he
    have hdf : c.rd = none ∨ ∀ d, o.op ≠ .defer d := .inr (fun d e => by rcases hdef d e with ⟨_, _, h⟩ | h <;> cases h)
    cases hcall : call G n f args false none s.m with
    | none => rw [hcall] at he; cases he
    | some q =>
     obtain ⟨out, cm', m'⟩ := q
     rw [hcall] at he
     obtain ⟨ρ', md', w', fr', e1, e2, e3, e4, e5, e6, e7, e8, e9, fn, e10, e11⟩ := hc f args false none s.m out cm' m' hcall w0 hb ρ (F x c tm df .run (.inRegion ops (i :: rest) :: k) :: reMode x.deferred cs md) md w args' hs.mem h2 (fun h => by cases h)
     have hstep : step G.P (lone (F x c tm df .run (.inRegion ops (i :: rest) :: k)) (reMode x.deferred cs md) w) =
      .next (lone (Frame.enter G.P f args' (kindOf false)) (reMode false (F x c tm df .run (.inRegion ops (i :: rest) :: k) :: reMode x.deferred cs md) md) w) := by
      refine mv_apply ho hw hdf ?_
      simp [stepG.apply, h1, reMode, kindOf, F]
     cases out with
     | returned v =>
      simp only at he e11
      obtain ⟨rfl, rfl, hlt⟩ := next_spec he
      obtain ⟨f1, v', f2, f3⟩ := e11
      have hl : fr'.leaving G.P w' (.returned v') := ⟨f1, e7, e8, fn, by rw [e6]; exact e10, f3⟩
      refine ⟨ρ', df, md, w', ⟨⟨e1, hs.defers.mono e2.le, fun h => (hs.cm h).mono e2.le, hs.size, hs.cs⟩, e2, fun h => h⟩, v, v', rfl, hlt, f2, .head hstep (e5.trans (.one ?_))⟩
      rw [reMode_false]
      rw [step_leave_returned hl, finish_at ho]
     | panicked ch =>
      simp only [Option.some.injEq, Prod.mk.injEq] at he
      obtain ⟨rfl, rfl⟩ := he
      obtain ⟨ch', f1, f2⟩ := e11
      have hl : fr'.leaving G.P w' (.panicked ch') := ⟨f2, e7, fn, by rw [e6]; exact e10⟩
      refine ⟨ρ', df, md, w', ⟨⟨e1, hs.defers.mono e2.le, fun h => (hs.cm h).mono e2.le, hs.size, hs.cs⟩, e2, fun h => h⟩, rfl, ch', .inRegion ops (i :: rest) :: k, f1, .head hstep (e5.trans (.one ?_))⟩
      rw [reMode_false, step_leave_panicked hl]
      rfl
   | round l args m =>
    obtain ⟨rfl, l', args', h1, h2, h3, h4⟩ := hop
    simp only at he
    have hdf : c.rd = none ∨ ∀ d, o.op ≠ .defer d := .inr (fun d e => by rcases hdef d e with ⟨_, _, h⟩ | h <;> cases h)
    cases hcall : callRound G n l args s.m with
    | none => rw [hcall] at he; cases he
    | some q =>
     obtain ⟨out, m'⟩ := q
     rw [hcall] at he
     obtain ⟨f, tmps, asg, body, e1, ρ', w', e2, e3, e4⟩ := hr l args s.m out m' hcall w0 hb ρ (F x c tm df .run (.inRegion ops (i :: rest) :: k)) (reMode x.deferred cs md) w l' args' hs.mem h3 h1 h2
     have hstep : step G.P (lone (F x c tm df .run (.inRegion ops (i :: rest) :: k)) (reMode x.deferred cs md) w) =
      .next (lone (Frame.round l' f tmps asg body .normal) (F x c tm df .run (.inRegion ops (i :: rest) :: k) :: reMode x.deferred cs md) w) := by
      refine mv_apply ho hw hdf ?_
      simp [stepG.apply, h4, e1]
     cases out with
     | returned v =>
      simp only at he e4
      obtain ⟨rfl, rfl, hlt⟩ := next_spec he
      obtain ⟨v', f2, f3⟩ := e4
      refine ⟨ρ', df, md, w', ⟨⟨e2, hs.defers.mono e3.le, fun h => (hs.cm h).mono e3.le, hs.size, hs.cs⟩, e3, fun h => h⟩, v, v', rfl, hlt, f2, .head hstep ?_⟩
      rw [finish_at ho] at f3
      exact f3
     | panicked ch =>
      simp only [Option.some.injEq, Prod.mk.injEq] at he
      obtain ⟨rfl, rfl⟩ := he
      obtain ⟨ch', f1, f2⟩ := e4
      exact ⟨ρ', df, md, w', ⟨⟨e2, hs.defers.mono e3.le, fun h => (hs.cm h).mono e3.le, hs.size, hs.cs⟩, e3, fun h => h⟩, rfl, ch', _, f1, .head hstep f2⟩
   | defer d m =>
    obtain ⟨rfl, d', h1, h2⟩ := hop
    simp only at he
    cases hxr : x.round.isSome with
    | true => rw [hxr] at he; simp at he
    | false =>
     rw [hxr] at he
     simp only [Bool.false_eq_true, if_false] at he
     obtain ⟨rfl, rfl, hlt⟩ := next_spec he
     refine ⟨ρ, d' :: df, md, w, ⟨⟨hs.mem, .cons h2 hs.defers, hs.cm, hs.size, hs.cs⟩, Ext.refl .., fun h => h⟩, undef, undef, rfl, hlt, .undef _, .one ?_⟩
     refine mv_apply ho hw (.inl (hrd hxr)) ?_
     have := finish_at (x := x) (c := c) (tm := tm) (df := d' :: df) (k := k) (rest := rest) (v := undef) ho
     simp only [F] at this
     simp [stepG.apply, h1, F, this]
   | recover m =>
    obtain ⟨rfl, h1⟩ := hop
    simp only at he
    cases hxr : x.round.isSome with
    | true => rw [hxr] at he; simp at he
    | false =>
     rw [hxr] at he
     simp only [Bool.false_eq_true, if_false] at he
     have hrn := hrd hxr
     have hk := hx.kind
     have hnil : St.next x s o.dst .nilIface = some (e, s') → tryRecover (F x c tm df .run (.inRegion ops (i :: rest) :: k)) (reMode x.deferred cs md) = none →
      Op1Res G w0 ρ x c k cs tm df md w ops i rest o s e s' := by
      intro he2 htr
      obtain ⟨rfl, rfl, hlt⟩ := next_spec he2
      refine ⟨ρ, df, md, w, ⟨⟨hs.mem, hs.defers, hs.cm, hs.size, hs.cs⟩, Ext.refl .., fun h => h⟩, .nilIface, .nilIface, rfl, hlt, .nilIface, .one ?_⟩
      refine mv_apply ho hw (.inl hrn) ?_
      have h0 : (F x c tm df .run (.inRegion ops (i :: rest) :: k)).roundOf = none := hrn
      simp [stepG.apply, h1, h0, htr, finish_at ho]
     obtain ⟨st, sd, sc, sm⟩ := s
     simp only at he
     rcases Bool.eq_false_or_eq_true x.deferred with hxd | hxd
     ·
      rw [hxd] at he
      have hk : c.kind = .deferred := by rw [hk, hxd]; rfl
      obtain ⟨caller, r, rfl⟩ : ∃ caller r, cs = caller :: r := by
       cases cs with
       | nil => exact absurd rfl (hs.cs hxd)
       | cons a b => exact ⟨a, b, rfl⟩
      have hmd := hs.cm hxd
      cases sc with
      | none =>
       refine hnil (by simpa using he) ?_
       simp only [ModeR] at hmd
       rw [hxd, hmd]
       simp [tryRecover, F, hk, reMode]
      | some ch =>
       obtain ⟨ch', rfl, hch⟩ := hmd
       cases hch with
       | nil => simp at he
       | cons hv hl =>
        rename_i v v' rc g l l'
        cases rc with
        | true => simp at he
        | false =>
         cases g with
         | true => simp at he
         | false =>
          simp only at he
          obtain ⟨rfl, rfl, hlt⟩ := next_spec he
          refine ⟨ρ, df, .panicking (⟨v', true, false⟩ :: l'), w, ⟨⟨hs.mem, hs.defers, fun _ => ⟨_, rfl, .cons hv hl⟩, hs.size, hs.cs⟩, Ext.refl .., fun h => by cases h⟩, v, v', rfl, hlt, hv, .one ?_⟩
          refine mv_apply ho hw (.inl hrn) ?_
          have h0 : (F x c tm df .run (.inRegion ops (i :: rest) :: k)).roundOf = none := hrn
          have htr : tryRecover (F x c tm df .run (.inRegion ops (i :: rest) :: k)) ({ caller with mode := .panicking (⟨v', false, false⟩ :: l') } :: r) =
           some (v', { caller with mode := .panicking (⟨v', true, false⟩ :: l') } :: r) := by
           simp [tryRecover, F, hk]
          simp [stepG.apply, h1, h0, hxd, reMode, htr, finish_at ho]
     rw [hxd] at he
     have hk : c.kind = .normal := by rw [hk, hxd]; rfl
     refine hnil (by simpa using he) ?_
     rw [hxd]
     simp [tryRecover, F, hk]
   | panic v m =>
    obtain ⟨rfl, v', h1, h2⟩ := hop
    simp only [Option.some.injEq, Prod.mk.injEq] at he
    obtain ⟨rfl, rfl⟩ := he
    have hdf : c.rd = none ∨ ∀ d, o.op ≠ .defer d := .inr (fun d e => by rcases hdef d e with ⟨_, _, h⟩ | h <;> cases h)
    refine ⟨ρ, df, md, w, ⟨⟨hs.mem, hs.defers, hs.cm, hs.size, hs.cs⟩, Ext.refl .., fun h => h⟩, rfl, [⟨v', false, false⟩], .inRegion ops (i :: rest) :: k, .cons h2 .nil, .one ?_⟩
    refine mv_apply ho hw hdf ?_
    simp [stepG.apply, h1]
    rfl
   | fail => cases he
  rw [if_neg hwt] at he
  obtain ⟨rfl, rfl, hlt⟩ := next_spec he
  refine ⟨ρ, df, md, w, ⟨⟨hs.mem, hs.defers, hs.cm, hs.size, hs.cs⟩, Ext.refl .., fun h => h⟩, ku, undef, rfl, hlt, .ku, .one ?_⟩
  have := mv_skipOp (P := G.P) (x := x) (c := c) (tm := tm) (df := df) (k := k) (cs := reMode x.deferred cs md) (w := w) (ops := ops) (i := i) (rest := rest) (by simp [ho, hw, hwt])
  rw [this, ho]; rfl
 rw [if_neg hg] at he; cases he
end Go.Am
namespace Go.Am
variable {G : Cfg}
theorem all_zip_eq {f : Value → Value → Bool} (hf : ∀ a b, f a b = true → a = b) : ∀ (l l' : List Value), l.length = l'.length → ((l.zip l').all fun p => f p.1 p.2) = true → l = l' := by
 intro l
 induction l with
 | nil => intro l' hl _; cases l' with | nil => rfl | cons a b => simp at hl
 | cons x xs ih =>
  intro l' hl h
  cases l' with
  | nil => simp at hl
  | cons y ys =>
   simp only [List.zip_cons_cons, List.all_cons, Bool.and_eq_true] at h
   rw [hf _ _ h.1, ih ys (by simpa using hl) h.2]
theorem beqV_eq : ∀ (n : Nat) (a b : Value), beqV n a b = true → a = b := by
 intro n
 induction n with
 | zero =>
  intro a b h
  cases a <;> cases b <;> simp [beqV] at h <;> first | (subst h; rfl) | (obtain ⟨rfl, rfl⟩ := h; rfl) | (obtain ⟨⟨rfl, rfl⟩, rfl⟩ := h; rfl) | (obtain ⟨rfl, rfl, rfl⟩ := h; rfl) | skip
  all_goals first | rfl | (congr 1; exact ByteArray.ext (Array.ext' (by simpa using h)))
 | succ n ih =>
  intro a b h
  cases a <;> cases b <;> simp only [beqV, Bool.and_eq_true, decide_eq_true_eq, beq_iff_eq, Bool.false_eq_true] at h
  all_goals first
   | (subst h; rfl)
   | (obtain ⟨rfl, rfl⟩ := h; rfl)
   | (obtain ⟨⟨rfl, rfl⟩, rfl⟩ := h; rfl)
   | rfl
   | (congr 1; exact ByteArray.ext (Array.ext' h))
   | (obtain ⟨rfl, h2⟩ := h; rw [ih _ _ h2])
   | (obtain ⟨h1, h2⟩ := h; congr 1; exact Array.ext' (all_zip_eq ih _ _ h1 h2))
   | (obtain ⟨⟨⟨⟨rfl, h1⟩, h2⟩, h3⟩, h4⟩ := h; congr 1; exact Array.ext' (all_zip_eq ih _ _ h1 h2); exact Array.ext' (all_zip_eq ih _ _ h3 h4))
theorem exists_max (P : Nat → Prop) : ∀ N : Nat, (∀ i, i < N → ¬ P i) ∨ ∃ i, i < N ∧ P i ∧ ∀ j, j < N → P j → j ≤ i := by
 intro N
 induction N with
 | zero => exact .inl (fun i h => by omega)
 | succ N ih =>
  by_cases hN : P N
  · exact .inr ⟨N, by omega, hN, fun j hj _ => by omega⟩
  rcases ih with h | ⟨i, h1, h2, h3⟩
  · exact .inl (fun i hi hp => by
     by_cases e : i = N
     · subst e; exact hN hp
     exact h i (by omega) hp)
  exact .inr ⟨i, by omega, h2, fun j hj hp => by
   by_cases e : j = N
   · subst e; exact absurd hp hN
   exact h3 j (by omega) hp⟩
theorem exists_min (P : Nat → Prop) (a : Nat) : ∀ N : Nat, (∀ i, a ≤ i → i < N → ¬ P i) ∨ ∃ i, a ≤ i ∧ i < N ∧ P i ∧ ∀ j, a ≤ j → j < i → ¬ P j := by
 intro N
 induction N with
 | zero => exact .inl (fun i _ h => by omega)
 | succ N ih =>
  rcases ih with h | ⟨i, h1, h2, h3, h4⟩
  ·
   by_cases hN : P N ∧ a ≤ N
   · exact .inr ⟨N, hN.2, by omega, hN.1, fun j h1 h2 => h j h1 h2⟩
   exact .inl (fun i h1 h2 hp => by
    by_cases e : i = N
    · subst e; exact hN ⟨hp, h1⟩
    exact h i h1 (by omega) hp)
  exact .inr ⟨i, h1, by omega, h3, h4⟩
theorem quiet_opV {ev : Operand → Value} {o : Oper} (h : quiet G o.op = true) (m : Mem) : (∃ v, opV G ev o m = .value v m) ∨ opV G ev o m = .fail := by
 obtain ⟨dst, op, type, pos, after, guard⟩ := o
 have hrp : ∀ r, (∃ v, rp r m = .value v m) ∨ rp r m = .fail := by
  intro r; unfold rp; split
  · split
    · exact .inl ⟨_, rfl⟩
    exact .inr rfl
  exact .inr rfl
 have hrv : ∀ r, (∃ v, rv r m = .value v m) ∨ rv r m = .fail := by
  intro r; unfold rv; split
  · exact .inl ⟨_, rfl⟩
  exact .inr rfl
 cases op <;> simp only [quiet] at h <;> simp only [opV]
 case move => exact .inl ⟨_, rfl⟩
 case assign => exact .inl ⟨_, rfl⟩
 case pick => unfold opPick; split <;> simp
 case build =>
  unfold opBuild; repeat' split
  all_goals simp
 case load => unfold opLoad; split <;> first | exact hrv _ | simp
 case nilCheck => unfold opNilCheck; split <;> simp
 case binOp =>
  unfold opBin
  split
  · exact hrp _
  split
  · split
    · split <;> simp
    · split <;> simp
    simp
  simp
 case unOp => unfold opUn; split; exact hrp _; simp
 case convert s d x =>
  unfold opConvert
  repeat' split
  all_goals first | (simp; done) | exact hrp _ | skip
  all_goals simp_all
 case makeInterface => unfold opMakeInterface; split <;> simp
 case makeFunc => unfold opMakeFunc; split <;> simp
 case slice => split; simp; exact hrv _
 case fieldAddr =>
  unfold opFieldAddr; repeat' split
  all_goals simp
 case field =>
  unfold opField; repeat' split
  all_goals first | simp | exact hrv _
 case indexAddr =>
  unfold opIndexAddr; repeat' split
  all_goals simp
 case index =>
  unfold opIndex; repeat' split
  all_goals first | simp; done | exact hrv _ | exact hrp _
 case lookup =>
  have hmiss : ∀ ok et, (∃ v, opLookup.miss G.toEnv ok et m = .value v m) ∨ opLookup.miss G.toEnv ok et m = .fail := by
   intro ok et; unfold opLookup.miss; repeat' split
   all_goals simp
  unfold opLookup; repeat' split
  all_goals first | simp; done | exact hrv _ | exact hmiss _ _
 case typeAssert a b c =>
  have h1 : ∀ v, (∃ u, opAssert.holds c v m = .value u m) ∨ opAssert.holds c v m = .fail := fun v => .inl ⟨_, rfl⟩
  have h2 : ∀ b, (∃ u, opAssert.fails G.toEnv b c m = .value u m) ∨ opAssert.fails G.toEnv b c m = .fail := by
   intro b; unfold opAssert.fails; repeat' split
   all_goals simp
  unfold opAssert; repeat' split
  all_goals first | exact h1 _ | exact h2 _ | simp
 case extract =>
  unfold opExtract; repeat' split
  all_goals first | simp | exact hrv _
 case call c =>
  unfold resolveV
  cases hc : c.callee with
  | builtin b =>
   rw [hc] at h
   simp only at h ⊢
   unfold invokeV
   simp only
   unfold opBuiltin
   cases b <;> simp only [Bool.false_eq_true] at h
   case len =>
    simp only
    repeat' split
    all_goals first | (unfold opLen; split <;> simp) | simp
   case min => simp only; split; exact hrp _; simp
   case max => simp only; split; exact hrp _; simp
   case unsafeSliceData =>
    simp only
    split
    · unfold opSliceData; repeat' split
      all_goals simp
    simp
  | invoke r n => rw [hc] at h; simp at h
  | value f => rw [hc] at h; simp at h
 all_goals cases h
def befOne (acc : Tr Nat) (o : Oper) : Nat := o.after.toList.foldl (fun s e => if Region.binds .any e then s ||| 2 ^ e.on ||| (acc.get e.on).getD 0 else s) 0
theorem befGo_cons (o : Oper) (rest : List Oper) (j : Nat) (acc : Tr Nat) : befGo (o :: rest) j acc = befGo rest (j + 1) (acc.set j (befOne acc o)) := rfl
theorem befGo_old : ∀ (l : List Oper) (j : Nat) (acc : Tr Nat) (k : Nat), k < j → (befGo l j acc).get k = acc.get k := by
 intro l
 induction l with
 | nil => intro j acc k _; rfl
 | cons o rest ih =>
  intro j acc k hk
  rw [befGo_cons, ih _ _ _ (by omega), Tr.get_set, if_neg (by omega)]
theorem befGo_at : ∀ (l : List Oper) (j : Nat) (acc : Tr Nat) (i : Nat) (o : Oper), l[i]? = some o →
 ∃ acc', (befGo l j acc).get (j + i) = some (befOne acc' o) ∧ ∀ k, k < j + i → acc'.get k = (befGo l j acc).get k := by
 intro l
 induction l with
 | nil => intro j acc i o h; simp at h
 | cons x rest ih =>
  intro j acc i o h
  rw [befGo_cons]
  cases i with
  | zero =>
   simp only [List.getElem?_cons_zero, Option.some.injEq] at h
   subst h
   refine ⟨acc, ?_, fun k hk => ?_⟩
   · rw [befGo_old _ _ _ _ (by omega), Tr.get_set, if_pos (Nat.add_zero j)]
   rw [befGo_old _ _ _ _ (by omega), Tr.get_set, if_neg (by omega)]
  | succ i =>
   simp only [List.getElem?_cons_succ] at h
   obtain ⟨acc', h1, h2⟩ := ih (j + 1) (acc.set j (befOne acc x)) i o h
   rw [show j + (i + 1) = j + 1 + i by omega]
   exact ⟨acc', h1, h2⟩
theorem befOne_bit (acc : Tr Nat) (i : Nat) : ∀ (l : List Edge) (s : Nat),
 (l.foldl (fun s e => if Region.binds .any e then s ||| 2 ^ e.on ||| (acc.get e.on).getD 0 else s) s).testBit i = true →
 s.testBit i = true ∨ ∃ e ∈ l, Region.binds .any e = true ∧ (i = e.on ∨ ((acc.get e.on).getD 0).testBit i = true) := by
 intro l
 induction l with
 | nil => intro s h; exact .inl h
 | cons e rest ih =>
  intro s h
  simp only [List.foldl_cons] at h
  rcases ih _ h with h1 | ⟨e', h1, h2, h3⟩
  ·
   by_cases hb : Region.binds .any e = true
   ·
    rw [if_pos hb] at h1
    rw [Nat.testBit_or, Nat.testBit_or, Bool.or_eq_true, Bool.or_eq_true] at h1
    rcases h1 with (h1 | h1) | h1
    · exact .inl h1
    · rw [Nat.testBit_two_pow] at h1
      exact .inr ⟨e, by simp, hb, .inl (by simpa using h1.symm : e.on = i).symm⟩
    exact .inr ⟨e, by simp, hb, .inr h1⟩
   rw [if_neg hb] at h1; exact .inl h1
  exact .inr ⟨e', by simp [h1], h2, h3⟩
theorem regOk_spec {ops : Array Oper} {bf : Tr Nat} {a : Nat} (h : regOk G ops bf a = true) :
 (∀ j o, ops[j]? = some o → ∀ e ∈ o.after, Region.binds .any e = true → e.on < j) ∧
 (∀ i j x y, i < j → ops[i]? = some x → ops[j]? = some y → prec bf i j = true ∨ (apartT ops x y = true ∧ (quiet G x.op = true ∨ quiet G y.op = true ∨ j = a))) := by
 unfold regOk at h
 rw [List.all_eq_true] at h
 have hlt : ∀ {j : Nat} {o : Oper}, ops[j]? = some o → j < ops.size := by
  intro j o ho
  rcases Nat.lt_or_ge j ops.size with h | h
  · exact h
  rw [Array.getElem?_eq_none h] at ho; cases ho
 refine ⟨fun j o ho e he hb => ?_, fun i j x y hij hx hy => ?_⟩
 ·
  have := h j (List.mem_range.2 (hlt ho))
  rw [ho] at this
  have := (Bool.and_eq_true_iff.1 this).1
  rw [List.all_eq_true] at this
  have := this e (by simpa using he)
  rw [hb] at this
  simpa using this
 have := h j (List.mem_range.2 (hlt hy))
 rw [hy] at this
 have := (Bool.and_eq_true_iff.1 this).2
 rw [List.all_eq_true] at this
 have := this i (List.mem_range.2 hij)
 rw [hx] at this
 simpa [or_assoc] using this
def FloatOk (G : Cfg) (ops : Array Oper) (a : Nat) : Prop := ∀ o, ops[a]? = some o → ∃ t d, o.op = .alloc t ∧ o.guard = none ∧ o.dst = some d ∧
 ∀ j, a < j → j < ops.size → prec (before ops) a j = true ∧ ∀ k y, k < a → ops[k]? = some y → quiet G y.op = true ∨ prec (before ops) k j = true
theorem float_spec {ops : Array Oper} : FloatOk G ops (floatAt G ops (before ops)) := by
 intro o ho
 unfold floatAt at ho ⊢
 cases hf : (List.range ops.size).find? (isFloat G ops (before ops)) with
 | none => rw [hf] at ho; simp at ho
 | some a =>
  rw [hf] at ho
  simp only [Option.getD_some] at ho ⊢
  have h := List.find?_some hf
  unfold isFloat at h
  rw [ho] at h
  simp only [Bool.and_eq_true] at h
  obtain ⟨⟨⟨⟨h1, h2⟩, h3⟩, h4⟩, _⟩ := h
  obtain ⟨dst, op, type, pos, after, guard⟩ := o
  cases op <;> simp at h1
  case alloc t =>
   cases dst with
   | none => simp at h3
   | some d =>
    refine ⟨t, d, rfl, by simpa using h2, rfl, fun j hj hjs => ?_⟩
    rw [List.all_eq_true] at h4
    have h5 := h4 j (List.mem_range.2 hjs)
    simp only [Bool.or_eq_true, decide_eq_true_eq, Bool.and_eq_true] at h5
    rcases h5 with h5 | ⟨h5, h6⟩
    · omega
    refine ⟨h5, fun k y hk hy => ?_⟩
    rw [List.all_eq_true] at h6
    have h7 := h6 k (List.mem_range.2 hk)
    rw [hy] at h7
    simpa using h7
def Closed (ops : Array Oper) (D : Nat → Prop) (j : Nat) : Prop := ∀ o, ops[j]? = some o → ∀ e ∈ o.after, Region.binds .any e = true → D e.on
theorem prec_in {ops : Array Oper} (hr : ∀ j o, ops[j]? = some o → ∀ e ∈ o.after, Region.binds .any e = true → e.on < j) {D : Nat → Prop} (hD : ∀ j, D j → Closed ops D j) :
 ∀ j, j < ops.size → Closed ops D j → ∀ i, prec (before ops) i j = true → D i := by
 intro j
 induction j using Nat.strongRecOn with
 | _ j ih =>
  intro hj hcl i hp
  have ho : ops.toList[j]? = some ops[j] := by simp [hj]
  obtain ⟨acc, h1, h2⟩ := befGo_at ops.toList 0 .leaf j ops[j] ho
  have hb : (before ops).get j = some (befOne acc ops[j]) := by have := h1; rw [Nat.zero_add] at this; exact this
  unfold prec at hp
  rw [hb] at hp
  simp only [Option.getD_some] at hp
  have ho' : ops[j]? = some ops[j] := by simp [hj]
  rcases befOne_bit acc i _ 0 hp with h | ⟨e, he, hbd, hi⟩
  · simp at h
  have hlt := hr j _ ho' e (by simpa using he) hbd
  have hde := hcl _ ho' e (by simpa using he) hbd
  rcases hi with rfl | hi
  · exact hde
  refine ih e.on hlt (by omega) (hD _ hde) i ?_
  unfold prec
  rw [h2 e.on (by omega)] at hi
  exact hi
end Go.Am
