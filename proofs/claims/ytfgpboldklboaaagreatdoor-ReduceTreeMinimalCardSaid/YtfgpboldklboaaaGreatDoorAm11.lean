/-
  PROVED here: steps on the way to the card of 'sleuthlaw06.ReduceTreeMinimal' (an abstract machine, its soundness, what each function computes). No conditions beyond those that each theorem states.
-/
import Derived.Test.YtfgpboldklboaaaGreatDoorAm10
import Derived.KernelRfl
import Derived.Test.YtfgpboldklboaaaGreatDoorChecked
namespace Go.Am
variable (G : Cfg)
def W (x : Ctx) (c : Code) (s : St) (Q : Ex → St → Prop) : Prop := ∃ n0 e s', (∀ n, n0 ≤ n → exec G n x c s = some (e, s')) ∧ Q e s'
def C (f : FuncId) (args : List Value) (m : Mem) (Q : Out → Mem → Prop) : Prop := ∃ n0 out m', (∀ n, n0 ≤ n → call G n f args false none m = some (out, none, m')) ∧ Q out m'
def WO1 (x : Ctx) (ops : Array Oper) (o : Oper) (s : St) (Q : Ex → St → Prop) : Prop := ∃ n0 e s', (∀ n, n0 ≤ n → execOp1 G n x ops o s = some (e, s')) ∧ Q e s'
def WOs (x : Ctx) (ops : Array Oper) (l : List Oper) (s : St) (tr : List St) (Q : Ex → St → List St → Prop) : Prop :=
 ∃ n0 e s' tr', (∀ n, n0 ≤ n → execOps G n x ops l s tr = some (e, s', tr')) ∧ Q e s' tr'
variable {G} {x : Ctx} {s : St} {Q : Ex → St → Prop}
theorem W.mono {c : Code} {Q' : Ex → St → Prop} (h : W G x c s Q) (hq : ∀ e s, Q e s → Q' e s) : W G x c s Q' :=
 let ⟨n, e, s', h1, h2⟩ := h; ⟨n, e, s', h1, hq _ _ h2⟩
theorem C.mono {f : FuncId} {args : List Value} {m : Mem} {Q Q' : Out → Mem → Prop} (h : C G f args m Q) (hq : ∀ o m, Q o m → Q' o m) : C G f args m Q' :=
 let ⟨n, e, s', h1, h2⟩ := h; ⟨n, e, s', h1, hq _ _ h2⟩
theorem W.skip (h : Q .normal s) : W G x .skip s Q := ⟨1, .normal, s, fun n hn => by obtain ⟨k, rfl⟩ : ∃ k, n = k + 1 := ⟨n - 1, by omega⟩; rfl, h⟩
theorem W.exit {id : Nat} (h : Q (.exit id) s) : W G x (.exit id) s Q := ⟨1, .exit id, s, fun n hn => by obtain ⟨k, rfl⟩ : ∃ k, n = k + 1 := ⟨n - 1, by omega⟩; rfl, h⟩
theorem W.ret (h : Q .ret s) : W G x .ret s Q := ⟨1, .ret, s, fun n hn => by obtain ⟨k, rfl⟩ : ∃ k, n = k + 1 := ⟨n - 1, by omega⟩; rfl, h⟩
def Then (K : St → Prop) (Q : Ex → St → Prop) : Ex → St → Prop
 | .normal, s => K s
 | e, s => Q e s
theorem W.seq {a b : Code} (h : W G x a s (Then (fun s => W G x b s Q) Q)) : W G x (.seq a b) s Q := by
 obtain ⟨n1, e, s1, h1, h2⟩ := h
 cases e with
 | normal =>
  obtain ⟨n2, e2, s2, h3, h4⟩ := h2
  refine ⟨max n1 n2 + 1, e2, s2, fun n hn => ?_, h4⟩
  obtain ⟨k, rfl⟩ : ∃ k, n = k + 1 := ⟨n - 1, by omega⟩
  simp only [exec]
  rw [h1 k (by omega)]
  exact h3 k (by omega)
 | _ =>
  refine ⟨n1 + 1, _, s1, fun n hn => ?_, h2⟩
  obtain ⟨k, rfl⟩ : ∃ k, n = k + 1 := ⟨n - 1, by omega⟩
  simp only [exec]
  rw [h1 k (by omega)]
theorem W.cond {o : Operand} {a b : Code} {t : Bool} (ho : evalT G.ng s.tmps o = .bool t) (h : W G x (if t then a else b) s Q) : W G x (.cond o a b) s Q := by
 obtain ⟨n1, e, s1, h1, h2⟩ := h
 refine ⟨n1 + 1, e, s1, fun n hn => ?_, h2⟩
 obtain ⟨k, rfl⟩ : ∃ k, n = k + 1 := ⟨n - 1, by omega⟩
 simp only [exec]
 rw [ho]
 exact h1 k (by omega)
def InBlk (id : Nat) (Q : Ex → St → Prop) : Ex → St → Prop
 | .exit i, s => if i = id then Q .normal s else Q (.exit i) s
 | e, s => Q e s
theorem W.block {id : Nat} {b : Code} (h : W G x b s (InBlk id Q)) : W G x (.block id b) s Q := by
 obtain ⟨n1, e, s1, h1, h2⟩ := h
 cases e with
 | exit i =>
  simp only [InBlk] at h2
  by_cases hi : i = id
  ·
   rw [if_pos hi] at h2
   refine ⟨n1 + 1, _, s1, fun n hn => ?_, h2⟩
   obtain ⟨k, rfl⟩ : ∃ k, n = k + 1 := ⟨n - 1, by omega⟩
   simp only [exec]
   rw [h1 k (by omega)]
   simp [hi]
  rw [if_neg hi] at h2
  refine ⟨n1 + 1, _, s1, fun n hn => ?_, h2⟩
  obtain ⟨k, rfl⟩ : ∃ k, n = k + 1 := ⟨n - 1, by omega⟩
  simp only [exec]
  rw [h1 k (by omega)]
  simp [hi]
 | _ =>
  refine ⟨n1 + 1, _, s1, fun n hn => ?_, h2⟩
  obtain ⟨k, rfl⟩ : ∃ k, n = k + 1 := ⟨n - 1, by omega⟩
  simp only [exec]
  rw [h1 k (by omega)]
theorem W.scope {b : Code} (h : W G x b s Q) : W G x (.scope b) s Q := by
 obtain ⟨n1, e, s1, h1, h2⟩ := h
 refine ⟨n1 + 1, e, s1, fun n hn => ?_, h2⟩
 obtain ⟨k, rfl⟩ : ∃ k, n = k + 1 := ⟨n - 1, by omega⟩
 simp only [exec]
 exact h1 k (by omega)
theorem W.loop {b : Code} (I : St → Prop) (μ : St → Nat) (h0 : I s) (hr : ∀ s, I s → W G x b s (Then (fun s' => I s' ∧ μ s' < μ s) Q)) : W G x (.loop b) s Q := by
 have key : ∀ n s, μ s = n → I s → W G x (.loop b) s Q := by
  intro n
  induction n using Nat.strongRecOn with
  | _ n ih =>
   intro s hn hI
   obtain ⟨n1, e, s1, h1, h2⟩ := hr s hI
   cases e with
   | normal =>
    obtain ⟨hI1, hlt⟩ := h2
    obtain ⟨n2, e2, s2, h3, h4⟩ := ih (μ s1) (hn ▸ hlt) s1 rfl hI1
    refine ⟨max n1 n2 + 1, e2, s2, fun n hn => ?_, h4⟩
    obtain ⟨k, rfl⟩ : ∃ k, n = k + 1 := ⟨n - 1, by omega⟩
    simp only [exec]
    rw [h1 k (by omega)]
    exact h3 k (by omega)
   | _ =>
    refine ⟨n1 + 1, _, s1, fun n hn => ?_, h2⟩
    obtain ⟨k, rfl⟩ : ∃ k, n = k + 1 := ⟨n - 1, by omega⟩
    simp only [exec]
    rw [h1 k (by omega)]
 exact key _ s rfl h0
theorem WOs.nil {ops : Array Oper} {tr : List St} {Q : Ex → St → List St → Prop} (h : Q .normal s tr) : WOs G x ops [] s tr Q :=
 ⟨1, .normal, s, tr, fun n hn => by obtain ⟨k, rfl⟩ : ∃ k, n = k + 1 := ⟨n - 1, by omega⟩; rfl, h⟩
theorem WOs.cons {ops : Array Oper} {o : Oper} {l : List Oper} {tr : List St} {Q : Ex → St → List St → Prop}
 (h : WO1 G x ops o s (fun e s' => match e with
  | .normal => WOs G x ops l s' (s :: tr) Q
  | .panic ch => Q (.panic ch) s' (s :: tr)
  | _ => False)) : WOs G x ops (o :: l) s tr Q := by
 obtain ⟨n1, e, s1, h1, h2⟩ := h
 cases e with
 | normal =>
  obtain ⟨n2, e2, s2, tr2, h3, h4⟩ := h2
  refine ⟨max n1 n2 + 1, e2, s2, tr2, fun n hn => ?_, h4⟩
  obtain ⟨k, rfl⟩ : ∃ k, n = k + 1 := ⟨n - 1, by omega⟩
  simp only [execOps]
  rw [h1 k (by omega)]
  exact h3 k (by omega)
 | panic ch =>
  refine ⟨n1 + 1, _, s1, _, fun n hn => ?_, h2⟩
  obtain ⟨k, rfl⟩ : ∃ k, n = k + 1 := ⟨n - 1, by omega⟩
  simp only [execOps]
  rw [h1 k (by omega)]
 | exit id => exact h2.elim
 | ret => exact h2.elim
theorem W.region {id : Nat} {ops : Array Oper} (h : WOs G x ops ops.toList s [] (fun e s' _ => match e with | .normal => Q .normal s' | .panic ch => Q (.panic ch) s' | _ => False)) : W G x (.region id ops false) s Q := by
 obtain ⟨n1, e, s1, tr, h1, h2⟩ := h
 cases e with
 | normal =>
  refine ⟨n1 + 1, _, s1, fun n hn => ?_, h2⟩
  obtain ⟨k, rfl⟩ : ∃ k, n = k + 1 := ⟨n - 1, by omega⟩
  simp only [exec]
  rw [h1 k (by omega)]
  rfl
 | panic ch =>
  refine ⟨n1 + 1, _, s1, fun n hn => ?_, h2⟩
  obtain ⟨k, rfl⟩ : ∃ k, n = k + 1 := ⟨n - 1, by omega⟩
  simp only [exec]
  rw [h1 k (by omega)]
  rfl
 | exit id => exact h2.elim
 | ret => exact h2.elim
theorem W.draw {id : Nat} {ops : Array Oper} (h : WOs G x ops ops.toList s [] (fun e s' tr => match e with | .normal => drawOk G ops (s' :: tr).reverse ops.size = true ∧ Q .normal s' | _ => False)) : W G x (.region id ops true) s Q := by
 obtain ⟨n1, e, s1, tr, h1, h2⟩ := h
 cases e with
 | normal =>
  obtain ⟨h2, h3⟩ := h2
  refine ⟨n1 + 1, _, s1, fun n hn => ?_, h3⟩
  obtain ⟨k, rfl⟩ : ∃ k, n = k + 1 := ⟨n - 1, by omega⟩
  simp only [exec]
  rw [h1 k (by omega)]
  simp; simpa using h2
 | panic ch => exact h2.elim
 | exit id => exact h2.elim
 | ret => exact h2.elim
theorem WO1.value {ops : Array Oper} {o : Oper} {v : Value} {m : Mem} (hg : guardOk o ops s.tmps = true) (hw : wantedV o ops s.tmps = true) (hv : opV G (evalT G.ng s.tmps) o s.m = .value v m) (hd : ∀ d, o.dst = some d → d < x.nt)
 (h : Q .normal { s with m, tmps := putT s.tmps o.dst v }) : WO1 G x ops o s Q := by
 refine ⟨1, _, _, fun n hn => ?_, h⟩
 obtain ⟨k, rfl⟩ : ∃ k, n = k + 1 := ⟨n - 1, by omega⟩
 unfold execOp1
 rw [if_pos hg, if_pos hw, hv]
 exact next_of (s := { s with m }) hd
theorem WO1.skip {ops : Array Oper} {o : Oper} {m : Mem} (hg : guardOk o ops s.tmps = true) (hw : wantedV o ops s.tmps = true) (hv : opV G (evalT G.ng s.tmps) o s.m = .skip m) (hd : ∀ d, o.dst = some d → d < x.nt)
 (h : Q .normal { s with m, tmps := putT s.tmps o.dst undef }) : WO1 G x ops o s Q := by
 refine ⟨1, _, _, fun n hn => ?_, h⟩
 obtain ⟨k, rfl⟩ : ∃ k, n = k + 1 := ⟨n - 1, by omega⟩
 unfold execOp1
 rw [if_pos hg, if_pos hw, hv]
 exact next_of (s := { s with m }) hd
theorem WO1.unwanted {ops : Array Oper} {o : Oper} (hg : guardOk o ops s.tmps = true) (hw : wantedV o ops s.tmps = false) (hd : ∀ d, o.dst = some d → d < x.nt)
 (h : Q .normal { s with tmps := putT s.tmps o.dst ku }) : WO1 G x ops o s Q := by
 refine ⟨1, _, _, fun n hn => ?_, h⟩
 obtain ⟨k, rfl⟩ : ∃ k, n = k + 1 := ⟨n - 1, by omega⟩
 unfold execOp1
 rw [if_pos hg, hw]
 exact next_of hd
theorem WO1.call {ops : Array Oper} {o : Oper} {f : FuncId} {args : List Value} {m : Mem} (hg : guardOk o ops s.tmps = true) (hw : wantedV o ops s.tmps = true) (hv : opV G (evalT G.ng s.tmps) o s.m = .enter f args m) (hd : ∀ d, o.dst = some d → d < x.nt)
 (h : C G f args m (fun out m' => match out with
  | .returned v => Q .normal { s with m := m', tmps := putT s.tmps o.dst v }
  | .panicked ch => Q (.panic ch) { s with m := m' })) : WO1 G x ops o s Q := by
 obtain ⟨n1, out, m', h1, h2⟩ := h
 cases out with
 | returned v =>
  refine ⟨n1 + 1, _, _, fun n hn => ?_, h2⟩
  obtain ⟨k, rfl⟩ : ∃ k, n = k + 1 := ⟨n - 1, by omega⟩
  unfold execOp1
  rw [if_pos hg, if_pos hw, hv]
  simp only
  rw [h1 k (by omega)]
  exact next_of (s := { s with m := m' }) hd
 | panicked ch =>
  refine ⟨n1 + 1, _, _, fun n hn => ?_, h2⟩
  obtain ⟨k, rfl⟩ : ∃ k, n = k + 1 := ⟨n - 1, by omega⟩
  unfold execOp1
  rw [if_pos hg, if_pos hw, hv]
  simp only
  rw [h1 k (by omega)]
theorem C.of {f : FuncId} {args : List Value} {m : Mem} {fn : Func} {c : Code} {Q : Out → Mem → Prop} (hf : G.P.funcs[f]? = some fn) (hc : fn.body = some c)
 (h : W G { fn := f, deferred := false, round := none, nt := fn.ntmps } c { tmps := Tr.putAll .leaf 0 args, defers := [], cm := none, m } (fun e s => (e = .normal ∨ e = .ret) ∧ s.defers = [] ∧ s.cm = none ∧
  ∃ vs, unwind.results G fn.results.toList s = some vs ∧ Q (.returned (retV vs)) s.m)) (hk : G.kf f = none := by rfl) : C G f args m Q := by
 obtain ⟨n1, e, s1, h1, he, hd, hcm, vs, hr, hq⟩ := h
 have hu : ∀ k, unwind G (k + 1) fn none [] s1 = some (.returned (retV vs), none, s1.m) := by
  intro k
  unfold unwind
  simp only
  rw [hr]
  match vs with
  | [] => simp [retV, hcm]
  | [v] => simp [retV, hcm]
  | v :: u :: r => simp [retV, hcm]
 refine ⟨n1 + 2, _, _, fun n hn => ?_, hq⟩
 obtain ⟨k, rfl⟩ : ∃ k, n = k + 2 := ⟨n - 2, by omega⟩
 unfold call
 rw [hk]
 simp only
 rw [hf]
 simp only
 rw [hc]
 simp only
 rw [h1 (k + 1) (by omega)]
 rcases he with rfl | rfl
 · simp only [hd]; exact hu k
 simp only [hd]; exact hu k
end Go.Am
namespace Go.Am
variable (G : Cfg)
def upon (s : St) (dst : Option Tmp) (K : St → Prop) (P : List PanicEntry → St → Prop) : ORes → Prop
 | .value v m => K { s with m, tmps := putT s.tmps dst v }
 | .skip m => K { s with m, tmps := putT s.tmps dst undef }
 | .enter f args m => C G f args m (fun out m' => match out with
  | .returned v => K { s with m := m', tmps := putT s.tmps dst v }
  | .panicked ch => P ch { s with m := m' })
 | .panic v m => P [{ v, recovered := false }] { s with m }
 | _ => False
def dstOk (x : Ctx) (dst : Option Tmp) : Bool := match dst with
 | some d => decide (d < x.nt)
 | none => true
def wpO (x : Ctx) (ops : Array Oper) : List Oper → St → List St → (Ex → St → List St → Prop) → Prop
 | [], s, tr, Q => Q .normal s tr
 | o :: l, s, tr, Q => dstOk x o.dst = true ∧ guardOk o ops s.tmps = true ∧
  if wantedV o ops s.tmps = true then upon G s o.dst (fun s' => wpO x ops l s' (s :: tr) Q) (fun ch s' => Q (.panic ch) s' (s :: tr)) (opV G (evalT G.ng s.tmps) o s.m)
  else wpO x ops l { s with tmps := putT s.tmps o.dst ku } (s :: tr) Q
variable {G} {x : Ctx}
theorem dstOk_spec {dst : Option Tmp} (h : dstOk x dst = true) : ∀ d, dst = some d → d < x.nt := by
 intro d e; subst e; simpa [dstOk] using h
theorem WOs.of : ∀ {ops : Array Oper} {l : List Oper} {s : St} {tr : List St} {Q : Ex → St → List St → Prop}, wpO G x ops l s tr Q → WOs G x ops l s tr Q := by
 intro ops l
 induction l with
 | nil => intro s tr Q h; exact .nil h
 | cons o l ih =>
  intro s tr Q h
  simp only [wpO] at h
  obtain ⟨h1, h2, h3⟩ := h
  have hd := dstOk_spec h1
  refine .cons ?_
  by_cases hw : wantedV o ops s.tmps = true
  ·
   rw [if_pos hw] at h3
   generalize hr : opV G (evalT G.ng s.tmps) o s.m = r at h3
   cases r with
   | value v m => exact WO1.value h2 hw hr hd (ih h3)
   | skip m => exact WO1.skip h2 hw hr hd (ih h3)
   | enter f args m =>
    refine WO1.call h2 hw hr hd (C.mono h3 (fun out m' ho => ?_))
    cases out with
    | returned v => exact ih ho
    | panicked ch => exact ho
   | panic v m =>
    refine ⟨1, .panic [{ v, recovered := false }], { s with m }, fun n hn => ?_, h3⟩
    obtain ⟨k, rfl⟩ : ∃ k, n = k + 1 := ⟨n - 1, by omega⟩
    unfold execOp1
    rw [if_pos h2, if_pos hw, hr]
   | _ => exact h3.elim
  rw [if_neg hw] at h3
  exact WO1.unwanted h2 (by simpa using hw) hd (ih h3)
def EndQ (Q : Ex → St → Prop) : Ex → St → List St → Prop
 | .normal, s, _ => Q .normal s
 | .panic ch, s, _ => Q (.panic ch) s
 | _, _, _ => False
theorem W.reg {id : Nat} {ops : Array Oper} {s : St} {Q : Ex → St → Prop} (h : wpO G x ops ops.toList s [] (EndQ Q)) : W G x (.region id ops false) s Q := by
 obtain ⟨n, e, s', tr, h1, h2⟩ := WOs.of h
 refine W.region ⟨n, e, s', tr, h1, ?_⟩
 cases e <;> exact h2
end Go.Am
namespace Go.Am
variable {E : Env} {t : TypeId} {xo yo : Operand} {m : Mem} {k : IntKind} {a b : Int}
theorem pureRun_pure {α : Type} {P : Program} {v : α} : pureRun P (pure v) = some v := rfl
theorem opBin_add : opBin E .add t xo yo (.int k a) (.int k b) m = .value (.int k (k.wrap (a + b))) m := by
 simp [opBin, flat, eqGuard, binOp, Op.intArith, pureRun_pure, rp]
theorem opBin_sub : opBin E .sub t xo yo (.int k a) (.int k b) m = .value (.int k (k.wrap (a - b))) m := by
 simp [opBin, flat, eqGuard, binOp, Op.intArith, pureRun_pure, rp]
theorem opBin_mul : opBin E .mul t xo yo (.int k a) (.int k b) m = .value (.int k (k.wrap (a * b))) m := by
 simp [opBin, flat, eqGuard, binOp, Op.intArith, pureRun_pure, rp]
theorem opBin_lss : opBin E .lss t xo yo (.int k a) (.int k b) m = .value (.bool (decide (a < b))) m := by
 simp [opBin, flat, eqGuard, binOp, Op.intCmp, pureRun_pure, rp]
theorem opBin_leq : opBin E .leq t xo yo (.int k a) (.int k b) m = .value (.bool (decide (a ≤ b))) m := by
 simp [opBin, flat, eqGuard, binOp, Op.intCmp, pureRun_pure, rp]
theorem opBin_gtr : opBin E .gtr t xo yo (.int k a) (.int k b) m = .value (.bool (decide (a > b))) m := by
 simp [opBin, flat, eqGuard, binOp, Op.intCmp, pureRun_pure, rp]
theorem opBin_geq : opBin E .geq t xo yo (.int k a) (.int k b) m = .value (.bool (decide (a ≥ b))) m := by
 simp [opBin, flat, eqGuard, binOp, Op.intCmp, pureRun_pure, rp]
theorem beq_int (a b : Int) : (a == b) = decide (a = b) := by
 by_cases h : a = b <;> simp [h]
theorem opBin_eql : opBin E .eql t xo yo (.int k a) (.int k b) m = .value (.bool (decide (a = b))) m := by
 simp [opBin, flat, eqGuard, binOp, Op.intCmp, pureRun_pure, rp, beq_int]
theorem opBin_neq : opBin E .neq t xo yo (.int k a) (.int k b) m = .value (.bool (decide (a ≠ b))) m := by
 simp [opBin, flat, eqGuard, binOp, Op.intCmp, pureRun_pure, rp, bne, beq_int]
theorem wrap_i64 {n : Int} (h : -9223372036854775808 ≤ n) (h' : n ≤ 9223372036854775807) : IntKind.i64.wrap n = n := by
 unfold IntKind.wrap
 simp [IntKind.signed, IntKind.bits]
 omega
theorem opUn_not {v : Bool} : opUn E .not (.bool v) m = .value (.bool (!v)) m := by
 simp [opUn, flat, Op.unary, pureRun_pure, rp]
theorem opBin_sadd {x y : ByteArray} (h : x.size + y.size < 1048576) : opBin E .add t xo yo (.string x) (.string y) m = .value (.string (x ++ y)) m := by
 have h' : ¬ ((9223372036854775807 : Int) < (x.size : Int) + (y.size : Int)) := by omega
 simp [opBin, flat, eqGuard, binOp, Op.stringOp, rp, h', pureRun_pure]
theorem opBin_seql {x y : ByteArray} : opBin E .eql t xo yo (.string x) (.string y) m = .value (.bool (x.toList == y.toList)) m := by
 simp [opBin, flat, eqGuard, binOp, Op.stringOp, pureRun_pure, rp]
theorem opBin_sneq {x y : ByteArray} : opBin E .neq t xo yo (.string x) (.string y) m = .value (.bool (!(x.toList == y.toList))) m := by
 simp [opBin, flat, eqGuard, binOp, Op.stringOp, pureRun_pure, rp]
end Go.Am
namespace Go.Am
variable {G : Cfg} {x : Ctx} {s : St} {Q : Ex → St → Prop}
def quietAll (G : Cfg) (ops : Array Oper) : Bool := regOk G ops (before ops) (floatAt G ops (before ops)) && ops.toList.all (fun o => quiet G o.op)
theorem drawOk_quiet {ops : Array Oper} (h : quietAll G ops = true) (tr : List St) (hl : ∀ k, k < ops.size → (tr[k]?).isSome = true) : drawOk G ops tr ops.size = true := by
 unfold quietAll at h
 simp only [Bool.and_eq_true] at h
 unfold drawOk
 simp only [Bool.and_eq_true]
 refine ⟨h.1, ?_⟩
 rw [List.all_eq_true]
 intro k hk
 have hk' := List.mem_range.1 hk
 cases ht : tr[k]? with
 | none => have := hl k hk'; rw [ht] at this; cases this
 | some sk =>
  simp only
  have hno : actsAt G ops k sk = false := by
   unfold actsAt
   have : ops[k]? = some ops[k] := by simp [hk']
   rw [this]
   simp only
   have hq := h.2
   rw [List.all_eq_true] at hq
   rw [hq ops[k] (by simp)]
   simp
  rw [if_neg (by rw [hno]; simp)]
theorem wpO_len : ∀ {ops : Array Oper} {l : List Oper} {s : St} {tr : List St} {Q : Ex → St → List St → Prop}, WOs G x ops l s tr Q →
 WOs G x ops l s tr (fun e s' tr' => Q e s' tr' ∧ (e = .normal → tr'.length = tr.length + l.length)) := by
 intro ops l s tr Q h
 obtain ⟨n, e, s', tr', h1, h2⟩ := h
 refine ⟨n, e, s', tr', h1, h2, fun he => ?_⟩
 subst he
 obtain ⟨L, g1, _, g3⟩ := execOps_chain n l s tr .normal s' tr' (h1 n (Nat.le_refl _))
 rcases g3 with ⟨_, g4, _⟩ | ⟨p, ch, g4, _⟩
 · rw [g1]; simp [g4]; omega
 cases g4
theorem W.regQ {id : Nat} {ops : Array Oper} (hq : quietAll G ops = true) (h : wpO G x ops ops.toList s [] (fun e s' _ => match e with | .normal => Q .normal s' | _ => False)) : W G x (.region id ops true) s Q := by
 obtain ⟨n, e, s', tr, h1, h2, h3⟩ := wpO_len (WOs.of h)
 refine W.draw ⟨n, e, s', tr, h1, ?_⟩
 cases e with
 | normal =>
  have hl := h3 rfl
  simp at hl
  exact ⟨drawOk_quiet hq _ (fun k hk => by
   rw [Option.isSome_iff_exists]
   refine ⟨((s' :: tr).reverse)[k]'(by simp; omega), by simp⟩), h2⟩
 | panic ch => exact h2.elim
 | exit id => exact h2.elim
 | ret => exact h2.elim
def wpN (G : Cfg) (x : Ctx) (ops : Array Oper) : List Oper → St → (Ex → St → Prop) → Prop
 | [], s, Q => Q .normal s
 | o :: l, s, Q => dstOk x o.dst = true ∧ guardOk o ops s.tmps = true ∧
  if wantedV o ops s.tmps = true then upon G s o.dst (fun s' => wpN G x ops l s' Q) (fun ch s' => Q (.panic ch) s') (opV G (evalT G.ng s.tmps) o s.m)
  else wpN G x ops l { s with tmps := putT s.tmps o.dst ku } Q
theorem upon_mono {s : St} {dst : Option Tmp} {K K' : St → Prop} {P P' : List PanicEntry → St → Prop} (hk : ∀ s, K s → K' s) (hp : ∀ ch s, P ch s → P' ch s) : ∀ {r : ORes}, upon G s dst K P r → upon G s dst K' P' r
 | .value _ _, h => hk _ h
 | .skip _, h => hk _ h
 | .enter _ _ _, h => C.mono h (fun out m ho => by cases out with | returned v => exact hk _ ho | panicked ch => exact hp _ _ ho)
 | .panic _ _, h => hp _ _ h
 | .round _ _ _, h => h.elim
 | .defer _ _, h => h.elim
 | .recover _, h => h.elim
 | .fail, h => h.elim
theorem wpO_of_wpN {ops : Array Oper} : ∀ {l : List Oper} {s : St} {tr : List St} {Q : Ex → St → Prop} {Q' : Ex → St → List St → Prop}, (∀ e s tr, Q e s → Q' e s tr) → wpN G x ops l s Q → wpO G x ops l s tr Q'
 | [], s, tr, Q, Q', hq, h => hq _ _ _ h
 | o :: l, s, tr, Q, Q', hq, h => by
  simp only [wpN] at h
  simp only [wpO]
  obtain ⟨h1, h2, h3⟩ := h
  refine ⟨h1, h2, ?_⟩
  split
  · rename_i hw
    rw [if_pos hw] at h3
    exact upon_mono (fun s hs => wpO_of_wpN hq hs) (fun ch s hs => hq _ _ _ hs) h3
  rename_i hw
  rw [if_neg hw] at h3
  exact wpO_of_wpN hq h3
def EndN (Q : Ex → St → Prop) : Ex → St → Prop
 | .normal, s => Q .normal s
 | .panic ch, s => Q (.panic ch) s
 | _, _ => False
def EndD (Q : Ex → St → Prop) : Ex → St → Prop
 | .normal, s => Q .normal s
 | _, _ => False
theorem W.regN {id : Nat} {ops : Array Oper} {s : St} {Q : Ex → St → Prop} (h : wpN G x ops ops.toList s (EndN Q)) : W G x (.region id ops false) s Q :=
 W.reg (wpO_of_wpN (fun e s tr hh => by cases e <;> exact hh) h)
theorem W.regD {id : Nat} {ops : Array Oper} {s : St} {Q : Ex → St → Prop} (hq : quietAll G ops = true) (h : wpN G x ops ops.toList s (EndD Q)) : W G x (.region id ops true) s Q :=
 W.regQ hq (wpO_of_wpN (fun e s tr hh => by cases e <;> exact hh) h)
def stepN (G : Cfg) (x : Ctx) (ops : Array Oper) (l : List Oper) (s : St) (dst : Option Tmp) (Q : Ex → St → Prop) (r : ORes) : Prop :=
 upon G s dst (fun s' => wpN G x ops l s' Q) (fun ch s' => Q (.panic ch) s') r
theorem wpN_nil {ops : Array Oper} {s : St} {Q : Ex → St → Prop} : wpN G x ops [] s Q = Q .normal s := rfl
theorem wpN_cons {ops : Array Oper} {o : Oper} {l : List Oper} {s : St} {Q : Ex → St → Prop} : wpN G x ops (o :: l) s Q =
 (dstOk x o.dst = true ∧ guardOk o ops s.tmps = true ∧ stepN G x ops l s o.dst Q (if wantedV o ops s.tmps = true then opV G (evalT G.ng s.tmps) o s.m else .value ku s.m)) := by
 simp only [wpN, stepN]
 congr 2
 split <;> rfl
theorem stepN_value {ops : Array Oper} {l : List Oper} {s : St} {dst : Option Tmp} {Q : Ex → St → Prop} {v : Value} {m : Mem} : stepN G x ops l s dst Q (.value v m) = wpN G x ops l { s with m, tmps := putT s.tmps dst v } Q := rfl
theorem stepN_skip {ops : Array Oper} {l : List Oper} {s : St} {dst : Option Tmp} {Q : Ex → St → Prop} {m : Mem} : stepN G x ops l s dst Q (.skip m) = wpN G x ops l { s with m, tmps := putT s.tmps dst undef } Q := rfl
theorem stepN_enter {ops : Array Oper} {l : List Oper} {s : St} {dst : Option Tmp} {Q : Ex → St → Prop} {f : FuncId} {args : List Value} {m : Mem} : stepN G x ops l s dst Q (.enter f args m) = C G f args m (fun out m' => match out with
 | .returned v => wpN G x ops l { s with m := m', tmps := putT s.tmps dst v } Q
 | .panicked ch => Q (.panic ch) { s with m := m' }) := rfl
theorem stepN_panic {ops : Array Oper} {l : List Oper} {s : St} {dst : Option Tmp} {Q : Ex → St → Prop} {v : Value} {m : Mem} : stepN G x ops l s dst Q (.panic v m) = Q (.panic [{ v, recovered := false }]) { s with m } := rfl
end Go.Am
namespace Go.Proofs.Lw
open Go Go.Am
inductive T where
 | mk (kind : Int) (text : ByteArray) (slots : List (List T))
mutual
def nodes : T → Nat
 | .mk _ _ ss => 1 + nodesSS ss
def nodesSS : List (List T) → Nat
 | [] => 0
 | l :: r => nodesL l + nodesSS r
def nodesL : List T → Nat
 | [] => 0
 | t :: r => nodes t + nodesL r
end
def SliceAt (v : Value) (len : Nat) (b o : Nat) : Prop := (v = .slice none 0 0 ∧ len = 0) ∨ ∃ c, v = .slice (some ⟨b, o, none⟩) len c
mutual
def TreeR (E : Env) (m : Mem) : Value → T → Prop
 | v, .mk k tx ss => ∃ sv b o, v = .agg #[.int .i64 k, .string tx, sv] ∧ SliceAt sv ss.length b o ∧ SlotsAt E m b o ss
def SlotsAt (E : Env) (m : Mem) : Nat → Nat → List (List T) → Prop
 | _, _, [] => True
 | b, o, l :: r => (∃ lv b' o', m.load E b o = some lv ∧ SliceAt lv l.length b' o' ∧ TreesAt E m b' o' l) ∧ SlotsAt E m b (o + 1) r
def TreesAt (E : Env) (m : Mem) : Nat → Nat → List T → Prop
 | _, _, [] => True
 | b, o, t :: r => (∃ x y z, m.load E b o = some x ∧ m.load E b (o + 1) = some y ∧ m.load E b (o + 2) = some z ∧ TreeR E m (.agg #[x, y, z]) t) ∧ TreesAt E m b (o + 3) r
end
def Reads (E : Env) (m m' : Mem) : Prop := ∀ b o v, m.load E b o = some v → m'.load E b o = some v
mutual
theorem TreeR.keep {E : Env} {m m' : Mem} (h : Reads E m m') : ∀ {v : Value} {t : T}, TreeR E m v t → TreeR E m' v t
 | v, .mk k tx ss, ht => by
  simp only [TreeR] at ht ⊢
  obtain ⟨sv, b, o, h1, h2, h3⟩ := ht
  exact ⟨sv, b, o, h1, h2, SlotsAt.keep h h3⟩
theorem SlotsAt.keep {E : Env} {m m' : Mem} (h : Reads E m m') : ∀ {b o : Nat} {ss : List (List T)}, SlotsAt E m b o ss → SlotsAt E m' b o ss
 | b, o, [], _ => by simp only [SlotsAt]
 | b, o, l :: r, hs => by
  simp only [SlotsAt] at hs ⊢
  obtain ⟨⟨lv, b', o', h1, h2, h3⟩, h4⟩ := hs
  exact ⟨⟨lv, b', o', h _ _ _ h1, h2, TreesAt.keep h h3⟩, SlotsAt.keep h h4⟩
theorem TreesAt.keep {E : Env} {m m' : Mem} (h : Reads E m m') : ∀ {b o : Nat} {l : List T}, TreesAt E m b o l → TreesAt E m' b o l
 | b, o, [], _ => by simp only [TreesAt]
 | b, o, t :: r, hs => by
  simp only [TreesAt] at hs ⊢
  obtain ⟨⟨x, y, z, h1, h2, h3, h4⟩, h5⟩ := hs
  exact ⟨⟨x, y, z, h _ _ _ h1, h _ _ _ h2, h _ _ _ h3, TreeR.keep h h4⟩, TreesAt.keep h h5⟩
end
end Go.Proofs.Lw
namespace Go.Proofs.Lw
open Go Go.Am
def WF (m : Mem) : Prop := ∀ k, m.nxt ≤ k → m.blks.get k = none
structure Grow (m m' : Mem) : Prop where
 le : m.nxt ≤ m'.nxt
 old : ∀ k, k < m.nxt → m'.blks.get k = m.blks.get k
 wf : WF m'
theorem Grow.refl {m : Mem} (h : WF m) : Grow m m := ⟨Nat.le_refl _, fun _ _ => rfl, h⟩
theorem Grow.trans {a b c : Mem} (h : Grow a b) (h' : Grow b c) : Grow a c :=
 ⟨Nat.le_trans h.le h'.le, fun k hk => by rw [h'.old k (Nat.lt_of_lt_of_le hk h.le), h.old k hk], h'.wf⟩
theorem WF.lt {m : Mem} (h : WF m) {k : Nat} {b : Blk} (e : m.blks.get k = some b) : k < m.nxt := by
 rcases Nat.lt_or_ge k m.nxt with h1 | h1
 · exact h1
 rw [h k h1] at e; cases e
theorem Grow.reads {E : Env} {m m' : Mem} (hw : WF m) (h : Grow m m') : Reads E m m' := by
 intro b o v e
 unfold Mem.load at e ⊢
 by_cases hb : b % 2 = 1
 ·
  rw [if_pos hb] at e ⊢
  cases hg : m.blks.get (b / 2) with
  | none => rw [hg] at e; cases e
  | some bl =>
   rw [h.old _ (hw.lt hg), hg]
   rw [hg] at e
   exact e
 rw [if_neg hb] at e ⊢; exact e
theorem Grow.new {m : Mem} (h : WF m) (b : Blk) : Grow m (m.new b) := by
 refine ⟨by simp [Mem.new], fun k hk => ?_, fun k hk => ?_⟩
 · simp only [Mem.new]; rw [Tr.get_set, if_neg (by omega)]
 simp only [Mem.new] at hk ⊢
 rw [Tr.get_set, if_neg (by omega)]
 exact h k (by omega)
theorem load_new {E : Env} {m : Mem} {c : Cells} {o : Nat} (hd : c.dead = false) (ho : o < c.n) : (m.new (.cells c)).load E m.nb o = c.c.get o := by
 unfold Mem.load
 rw [if_pos (Mem.nb_odd m), Mem.nb_half]
 simp [Mem.new, Tr.get_set, hd, ho]
theorem newCells_ok {E : Env} {m : Mem} (h : WF m) {vs : List Value} {t : TypeId} (hp : vs.all plainV = true) :
 ∃ m', m.newCells vs t = some m' ∧ Grow m m' ∧ ∀ (i : Nat) (v : Value), vs[i]? = some v → m'.load E m.nb i = some v := by
 refine ⟨m.new (.cells (cellsOf vs t)), by simp only [Mem.newCells, hp, if_true], Grow.new h _, fun i v hi => ?_⟩
 have hlt : i < vs.length := by
  rcases Nat.lt_or_ge i vs.length with h | h
  · exact h
  rw [List.getElem?_eq_none h] at hi; cases hi
 rw [load_new rfl (by simpa [cellsOf] using hlt)]
 simp only [cellsOf]
 rw [Tr.get_putAll, if_pos ⟨Nat.zero_le _, by omega⟩, Nat.sub_zero]
 exact hi
theorem SlotsAt.get {E : Env} {m : Mem} {b : Nat} : ∀ {o : Nat} {ss : List (List T)}, SlotsAt E m b o ss → ∀ {i : Nat} {l : List T}, ss[i]? = some l →
 ∃ lv b' o', m.load E b (o + i) = some lv ∧ SliceAt lv l.length b' o' ∧ TreesAt E m b' o' l
 | o, [], _, i, l, hi => by simp at hi
 | o, x :: r, h, i, l, hi => by
  simp only [SlotsAt] at h
  cases i with
  | zero => simp at hi; subst hi; exact h.1
  | succ i =>
   obtain ⟨lv, b', o', h1, h2⟩ := SlotsAt.get h.2 (i := i) (l := l) (by simpa using hi)
   exact ⟨lv, b', o', by rw [show o + (i + 1) = o + 1 + i by omega]; exact h1, h2⟩
theorem TreesAt.get {E : Env} {m : Mem} {b : Nat} : ∀ {o : Nat} {l : List T}, TreesAt E m b o l → ∀ {i : Nat} {t : T}, l[i]? = some t →
 ∃ x y z, m.load E b (o + 3 * i) = some x ∧ m.load E b (o + 3 * i + 1) = some y ∧ m.load E b (o + 3 * i + 2) = some z ∧ TreeR E m (.agg #[x, y, z]) t
 | o, [], _, i, t, hi => by simp at hi
 | o, x :: r, h, i, t, hi => by
  simp only [TreesAt] at h
  cases i with
  | zero => simp at hi; subst hi; exact h.1
  | succ i =>
   have := TreesAt.get h.2 (i := i) (t := t) (by simpa using hi)
   rw [show o + 3 + 3 * i = o + 3 * (i + 1) by omega] at this
   exact this
end Go.Proofs.Lw
namespace Go.Proofs.Lw
open Go Go.Am
variable {gl : Nat → Nat → Option Value} {ng : Nat}
noncomputable def cfg (gl : Nat → Nat → Option Value) (ng : Nat) : Cfg := { P := Tryz.prog, glob := gl, ng, idf := fun f => f == 93, kf := fun f => if f = 8 then some true else none }
noncomputable abbrev env (gl : Nat → Nat → Option Value) (ng : Nat) : Env := (cfg gl ng).toEnv
variable {m : Mem} {b o : Nat}
theorem fa27_0 : opFieldAddr (cfg gl ng).toEnv 27 (.pointer (some ⟨b, o, none⟩)) 0 m = .value (.pointer (some ⟨b, o, none⟩)) m := by kernel_rfl
theorem fa27_1 : opFieldAddr (cfg gl ng).toEnv 27 (.pointer (some ⟨b, o, none⟩)) 1 m = .value (.pointer (some ⟨b, o + 1, none⟩)) m := by kernel_rfl
theorem fa27_2 : opFieldAddr (cfg gl ng).toEnv 27 (.pointer (some ⟨b, o, none⟩)) 2 m = .value (.pointer (some ⟨b, o + 2, none⟩)) m := by kernel_rfl
theorem und25 : und (cfg gl ng).toEnv 25 = some (.slice 59) := by kernel_rfl
theorem und59 : und (cfg gl ng).toEnv 59 = some (.slice 27) := by kernel_rfl
theorem und53 : und (cfg gl ng).toEnv 53 = some (.slice 3) := by kernel_rfl
theorem sz3 : szOf (cfg gl ng).toEnv 3 = 1 := by kernel_rfl
theorem sz59 : szOf (cfg gl ng).toEnv 59 = 1 := by kernel_rfl
theorem sz27 : szOf (cfg gl ng).toEnv 27 = 3 := by kernel_rfl
theorem info3 : ((cfg gl ng).toEnv.P.info? 3).isSome = true := by kernel_rfl
theorem info59 : ((cfg gl ng).toEnv.P.info? 59).isSome = true := by kernel_rfl
theorem info27 : ((cfg gl ng).toEnv.P.info? 27).isSome = true := by kernel_rfl
theorem agg3 : Am.isAgg (cfg gl ng).toEnv 3 = some false := by kernel_rfl
theorem agg9 : Am.isAgg (cfg gl ng).toEnv 9 = some false := by kernel_rfl
theorem agg25 : Am.isAgg (cfg gl ng).toEnv 25 = some false := by kernel_rfl
theorem agg59 : Am.isAgg (cfg gl ng).toEnv 59 = some false := by kernel_rfl
theorem agg27 : Am.isAgg (cfg gl ng).toEnv 27 = some true := by kernel_rfl
theorem ld3 {v : Value} (h : m.load (cfg gl ng).toEnv b o = some v) : opLoad (cfg gl ng).toEnv 3 (.pointer (some ⟨b, o, none⟩)) m = .value v m := by simp [opLoad, addrOf, loadV, agg3, h, rv]
theorem ld9 {v : Value} (h : m.load (cfg gl ng).toEnv b o = some v) : opLoad (cfg gl ng).toEnv 9 (.pointer (some ⟨b, o, none⟩)) m = .value v m := by simp [opLoad, addrOf, loadV, agg9, h, rv]
theorem ld25 {v : Value} (h : m.load (cfg gl ng).toEnv b o = some v) : opLoad (cfg gl ng).toEnv 25 (.pointer (some ⟨b, o, none⟩)) m = .value v m := by simp [opLoad, addrOf, loadV, agg25, h, rv]
theorem ld59 {v : Value} (h : m.load (cfg gl ng).toEnv b o = some v) : opLoad (cfg gl ng).toEnv 59 (.pointer (some ⟨b, o, none⟩)) m = .value v m := by simp [opLoad, addrOf, loadV, agg59, h, rv]
theorem ld27 {x y z : Value} (h : m.load (cfg gl ng).toEnv b o = some x) (h1 : m.load (cfg gl ng).toEnv b (o + 1) = some y) (h2 : m.load (cfg gl ng).toEnv b (o + 2) = some z) :
 opLoad (cfg gl ng).toEnv 27 (.pointer (some ⟨b, o, none⟩)) m = .value (.agg #[x, y, z]) m := by
 simp [opLoad, addrOf, loadV, agg27, sz27, Mem.loadN, h, h1, h2, rv]
theorem len25 {v : Value} {n : Nat} (h : SliceAt v n b o) : opLen (cfg gl ng) 25 v m = .value (.int .i64 n) m := by
 rcases h with ⟨rfl, rfl⟩ | ⟨c, rfl⟩ <;> simp [opLen, lenV, und25, goInt]
theorem len59 {v : Value} {n : Nat} (h : SliceAt v n b o) : opLen (cfg gl ng) 59 v m = .value (.int .i64 n) m := by
 rcases h with ⟨rfl, rfl⟩ | ⟨c, rfl⟩ <;> simp [opLen, lenV, und59, goInt]
theorem len53 {v : Value} {n : Nat} (h : SliceAt v n b o) : opLen (cfg gl ng) 53 v m = .value (.int .i64 n) m := by
 rcases h with ⟨rfl, rfl⟩ | ⟨c, rfl⟩ <;> simp [opLen, lenV, und53, goInt]
theorem ia25 {v : Value} {n i : Nat} (h : SliceAt v n b o) (hi : i < n) : opIndexAddr (cfg gl ng).toEnv 25 v (.int .i64 i) m = .value (.pointer (some ⟨b, o + i, none⟩)) m := by
 rcases h with ⟨rfl, rfl⟩ | ⟨c, rfl⟩
 · omega
 simp [opIndexAddr, und25, sz59, info59, hi, addr_add]
theorem ia59 {v : Value} {n i : Nat} (h : SliceAt v n b o) (hi : i < n) : opIndexAddr (cfg gl ng).toEnv 59 v (.int .i64 i) m = .value (.pointer (some ⟨b, o + 3 * i, none⟩)) m := by
 rcases h with ⟨rfl, rfl⟩ | ⟨c, rfl⟩
 · omega
 simp [opIndexAddr, und59, sz27, info27, hi, addr_add, Nat.mul_comm]
theorem ia53 {v : Value} {n i : Nat} (h : SliceAt v n b o) (hi : i < n) : opIndexAddr (cfg gl ng).toEnv 53 v (.int .i64 i) m = .value (.pointer (some ⟨b, o + i, none⟩)) m := by
 rcases h with ⟨rfl, rfl⟩ | ⟨c, rfl⟩
 · omega
 simp [opIndexAddr, und53, sz3, info3, hi, addr_add]
end Go.Proofs.Lw
namespace Go.Proofs.Lw
open Go Go.Am
variable {E : Env} {m : Mem} {b o : Nat}
def seqO : List (Option Value) → Option (List Value)
 | [] => some []
 | none :: _ => none
 | some v :: r => match seqO r with
  | some vs => some (v :: vs)
  | none => none
def agN (l : List (Option Value)) (m : Mem) : ORes := match seqO l with
 | some vs => .value (.agg ⟨vs⟩) m
 | none => .fail
theorem seqO_nil : seqO [] = some [] := rfl
theorem seqO_cons {v : Value} {r : List (Option Value)} : seqO (some v :: r) = (match seqO r with
 | some vs => some (v :: vs)
 | none => none) := rfl
theorem loadN_seq : ∀ (n o : Nat), m.loadN E b o n = seqO ((List.range n).map fun i => m.load E b (o + i)) := by
 intro n
 induction n with
 | zero => intro o; rfl
 | succ n ih =>
  intro o
  simp only [Mem.loadN]
  rw [List.range_succ_eq_map, List.map_cons, List.map_map]
  have : ((fun i => m.load E b (o + i)) ∘ Nat.succ) = fun i => m.load E b (o + 1 + i) := by
   funext i; simp only [Function.comp]; congr 1; omega
  rw [this, ih (o + 1), Nat.add_zero]
  cases h1 : m.load E b o with
  | none => rfl
  | some v =>
   simp only [seqO]
   cases seqO (List.map (fun i => m.load E b (o + 1 + i)) (List.range n)) <;> rfl
theorem ld_s {t : TypeId} (h : Am.isAgg E t = some false) : opLoad E t (.pointer (some ⟨b, o, none⟩)) m = rv (m.load E b o) m := by simp [opLoad, addrOf, loadV, h]
theorem ld_a {t : TypeId} (h : Am.isAgg E t = some true) : opLoad E t (.pointer (some ⟨b, o, none⟩)) m = agN ((List.range (szOf E t)).map fun i => m.load E b (o + i)) m := by
 simp only [opLoad, addrOf, loadV, h]
 rw [loadN_seq]
 unfold agN
 cases seqO ((List.range (szOf E t)).map fun i => m.load E b (o + i)) <;> rfl
theorem plain_defd {v : Value} (h : plainV v = true) : defd v = true := by cases v <;> simp_all [plainV, defd]
theorem plain_cells {v : Value} (h : plainV v = true) : v.cells = #[v] := by cases v <;> simp_all [plainV, Value.cells]
theorem defd_agg {vs : Array Value} : defd (.agg vs) = true := rfl
theorem agg_cells {vs : Array Value} : (Value.agg vs).cells = vs := rfl
theorem st_s {t : TypeId} {v : Value} (hi : (E.P.info? t).isSome = true) (hz : szOf E t = 1) (h : plainV v = true) : opStore E t (.pointer (some ⟨b, o, none⟩)) v m = ru (m.write b o [v]) := by
 simp [opStore, addrOf, hi, hz, plain_cells h, plain_defd h]
theorem st_a {t : TypeId} {vs : Array Value} {n : Nat} (hi : (E.P.info? t).isSome = true) (hz : szOf E t = n) (h : vs.size = n) : opStore E t (.pointer (some ⟨b, o, none⟩)) (.agg vs) m = ru (m.write b o vs.toList) := by
 simp [opStore, addrOf, hi, hz, agg_cells, defd, h]
theorem al_z {t : TypeId} {z : Value} {vs : List Value} (hz : zeroOf E t = some z) (hc : z.cells.toList = vs) (hp : vs.all plainV = true := by rfl) : opAlloc E t m = .value (.pointer (some ⟨m.nb, 0, none⟩)) (m.new (.cells (cellsOf vs t))) := by
 simp only [opAlloc, hz, Mem.newCells, hc]
 rw [if_pos hp]; rfl
theorem bx_s {t : TypeId} {v : Value} (h : plainV v = true) : opBox t v m = .value (.pointer (some ⟨m.nb, 0, none⟩)) (m.new (.cells (cellsOf [v] t))) := by
 simp [opBox, plain_cells h, Mem.newCells, h, ptr]
theorem bx_a {t : TypeId} {vs : Array Value} (h : vs.toList.all plainV = true) : opBox t (.agg vs) m = .value (.pointer (some ⟨m.nb, 0, none⟩)) (m.new (.cells (cellsOf vs.toList t))) := by
 have e : m.newCells (Value.agg vs).cells.toList t = some (m.new (.cells (cellsOf vs.toList t))) := by
  show m.newCells vs.toList t = _
  unfold Mem.newCells
  rw [if_pos h]
 unfold opBox
 rw [e]; rfl
theorem ix_s {t e : TypeId} {b0 o0 c0 n i : Nat} (hu : und E t = some (.slice e)) (hi : (E.P.info? e).isSome = true) (h : i < n) :
 opIndexAddr E t (.slice (some ⟨b0, o0, none⟩) n c0) (.int .i64 i) m = .value (.pointer (some (Addr.add ⟨b0, o0, none⟩ (i * szOf E e)))) m := by
 simp [opIndexAddr, hu, hi, h]
theorem len_s {G : Cfg} {t e : TypeId} {a : Option Addr} {n c : Nat} (hu : und G.toEnv t = some (.slice e)) : opLen G t (.slice a n c) m = .value (.int .i64 n) m := by
 simp [opLen, lenV, hu, goInt]
theorem len_t {G : Cfg} {t : TypeId} {x : ByteArray} (hu : und G.toEnv t = some .string) : opLen G t (.string x) m = .value (.int .i64 x.size) m := by
 simp [opLen, lenV, hu, goInt]
theorem callV_of {G : Cfg} {f : FuncId} {fn : Func} {c : Code} {args : List Value} (hf : G.P.funcs[f]? = some fn) (hn : (fn.name == "runtime.NumGoroutine") = false) (hb : fn.body = some c) : callV G f args m = .enter f args m := by
 simp only [callV, hf, hn, hb, Bool.false_eq_true, if_false]
def fillC (place : Nat → Option (Nat × Nat)) (cells : Array Value) : List (Nat × Array Value) → Option (Array Value)
 | [] => some cells
 | (i, v) :: rest =>
  match place i with
  | none => none
  | some (off, size) =>
   if v.size ≠ size || off + v.size > cells.size then none
   else fillC place (v.zipIdx.foldl (fun cs (c, j) => cs.setIfInBounds (off + j) c) cells) rest
theorem fill_eq (place : Nat → Option (Nat × Nat)) : ∀ (parts : List (Nat × Value)) (cells : Array Value), Instr.fill place cells parts = fillC place cells (parts.map fun p => (p.1, p.2.cells)) := by
 intro parts
 induction parts with
 | nil => intro cells; rfl
 | cons p rest ih =>
  intro cells
  obtain ⟨i, v⟩ := p
  simp only [Instr.fill, fillC, List.map_cons]
  cases place i with
  | none => rfl
  | some q => simp only [ih]
def buC (E : Env) (t : TypeId) (parts : List (Nat × Array Value)) (m : Mem) : ORes := match zeroOf E t, und E t with
 | some z, some (.struct fs) => match fillC (fun i => (fs[i]?).map fun f => (f.offset, szOf E f.type)) z.cells parts with
  | some cs => if fs.all (fun f => (E.P.info? f.type).isSome) then .value (.agg cs) m else .fail
  | none => .fail
 | _, _ => .fail
def isStr (E : Env) (t : TypeId) : Bool := match und E t with
 | some (.struct _) => true
 | _ => false
theorem bu_of {t : TypeId} {parts : List (Nat × Value)} (hd : parts.all (fun p => defd p.2) = true) (hs : isStr E t = true) : opBuild E t parts m = buC E t (parts.map fun p => (p.1, p.2.cells)) m := by
 unfold isStr at hs
 unfold opBuild buC
 rw [if_pos hd]
 cases hu : und E t with
 | none => rw [hu] at hs; cases hs
 | some d =>
  rw [hu] at hs
  cases d <;> simp at hs
  cases zeroOf E t with
  | none => rfl
  | some z => simp only [fill_eq]; rfl
end Go.Proofs.Lw
