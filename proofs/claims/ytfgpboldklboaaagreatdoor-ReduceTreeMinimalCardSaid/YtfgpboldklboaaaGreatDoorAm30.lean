/-
  PROVED here: steps on the way to the card of 'sleuthlaw06.ReduceTreeMinimal' (an abstract machine, its soundness, what each function computes). No conditions beyond those that each theorem states.
-/
import Derived.Test.YtfgpboldklboaaaGreatDoorAm29
namespace Go.Am
variable (G : Cfg)
def U (fn : Func) (mode : Option (List PanicEntry)) (ds : List Deferred) (s : St) (Q : Out → Mem → Prop) : Prop := ∃ n0 out m', (∀ n, n0 ≤ n → unwind G n fn mode ds s = some (out, none, m')) ∧ Q out m'
def CD (f : FuncId) (args : List Value) (mode : Option (List PanicEntry)) (m : Mem) (Q : Out → Option (List PanicEntry) → Mem → Prop) : Prop :=
 ∃ n0 out cm m', (∀ n, n0 ≤ n → call G n f args true mode m = some (out, cm, m')) ∧ Q out cm m'
variable {G} {x : Ctx} {s : St} {fn : Func} {ds : List Deferred} {mode : Option (List PanicEntry)} {Q : Out → Mem → Prop}
theorem U.ret {vs : List Value} (hr : unwind.results G fn.results.toList s = some vs) (hc : s.cm = none) (h : Q (.returned (retV vs)) s.m) : U G fn none [] s Q := by
 refine ⟨1, _, _, fun n hn => ?_, h⟩
 obtain ⟨k, rfl⟩ : ∃ k, n = k + 1 := ⟨n - 1, by omega⟩
 unfold unwind
 simp only
 rw [hr]
 match vs with
 | [] => simp [retV, hc]
 | [v] => simp [retV, hc]
 | v :: u :: r => simp [retV, hc]
theorem U.panic {ch : List PanicEntry} (hc : s.cm = none) (h : Q (.panicked ch) s.m) : U G fn (some ch) [] s Q := by
 refine ⟨1, _, _, fun n hn => ?_, h⟩
 obtain ⟨k, rfl⟩ : ∃ k, n = k + 1 := ⟨n - 1, by omega⟩
 unfold unwind
 simp [hc]
def markOf (b : Nat) : Deferred := { target := .collected b, args := #[] }
theorem U.mark {b : Nat} (hb : b % 2 = 1) (hg : s.m.blks.get (b / 2) = some (.deferred (some []))) (h : U G fn mode ds { s with m := s.m.setB (b / 2) (.deferred none) } Q) : U G fn mode (markOf b :: ds) s Q := by
 obtain ⟨n1, out, m', h1, h2⟩ := h
 refine ⟨n1 + 1, out, m', fun n hn => ?_, h2⟩
 obtain ⟨k, rfl⟩ : ∃ k, n = k + 1 := ⟨n - 1, by omega⟩
 unfold unwind
 simp only [markOf]
 rw [if_pos hb, hg]
 simp only [List.nil_append]
 exact h1 k (by omega)
theorem U.defer {d : Deferred} {f0 f : FuncId} {cap : Array Value} {args : List Value} {m : Mem} (ht : d.target = .fn (.func f0) cap) (hv : callV G f0 (d.args.toList ++ cap.toList) s.m = .enter f args m)
 (h : CD G f args none m (fun out _ m' => ∃ v, out = .returned v ∧ U G fn none ds { s with m := m' } Q)) : U G fn none (d :: ds) s Q := by
 obtain ⟨n1, out, cm, m1, h1, v, rfl, n2, out2, m2, h2, h3⟩ := h
 refine ⟨max n1 n2 + 1, out2, m2, fun n hn => ?_, h3⟩
 obtain ⟨k, rfl⟩ : ∃ k, n = k + 1 := ⟨n - 1, by omega⟩
 unfold unwind
 simp only [ht, hv]
 rw [h1 k (by omega)]
 exact h2 k (by omega)
theorem U.recover {d : Deferred} {f0 f : FuncId} {cap : Array Value} {args : List Value} {m : Mem} {ch : List PanicEntry} (ht : d.target = .fn (.func f0) cap) (hv : callV G f0 (d.args.toList ++ cap.toList) s.m = .enter f args m)
 (h : CD G f args (some ch) m (fun out cm m' => ∃ v e, out = .returned v ∧ cm = some [e] ∧ e.recovered = true ∧ U G fn none ds { s with m := m' } Q)) : U G fn (some ch) (d :: ds) s Q := by
 obtain ⟨n1, out, cm, m1, h1, v, e, rfl, rfl, he, n2, out2, m2, h2, h3⟩ := h
 refine ⟨max n1 n2 + 1, out2, m2, fun n hn => ?_, h3⟩
 obtain ⟨k, rfl⟩ : ∃ k, n = k + 1 := ⟨n - 1, by omega⟩
 unfold unwind
 simp only [ht, hv]
 rw [h1 k (by omega)]
 simp only [he, if_true]
 exact h2 k (by omega)
theorem C.ofU {f : FuncId} {args : List Value} {m : Mem} {fn : Func} {c : Code} {Q : Out → Mem → Prop} (hf : G.P.funcs[f]? = some fn) (hc : fn.body = some c)
 (h : W G { fn := f, deferred := false, round := none, nt := fn.ntmps } c { tmps := Tr.putAll .leaf 0 args, defers := [], cm := none, m } (fun e s => match e with
  | .normal => U G fn none s.defers s Q
  | .ret => U G fn none s.defers s Q
  | .panic ch => U G fn (some ch) s.defers s Q
  | .exit _ => False)) (hk : G.kf f = none := by rfl) : C G f args m Q := by
 obtain ⟨n1, e, s1, h1, h2⟩ := h
 have key : ∀ mode, (∀ n, n1 ≤ n → ∀ o, unwind G n fn mode s1.defers s1 = some o → call G (n + 1) f args false none m = some o) → U G fn mode s1.defers s1 Q → C G f args m Q := by
  intro mode hk hu
  obtain ⟨n2, out, m', h3, h4⟩ := hu
  refine ⟨max n1 n2 + 1, out, m', fun n hn => ?_, h4⟩
  obtain ⟨k, rfl⟩ : ∃ k, n = k + 1 := ⟨n - 1, by omega⟩
  exact hk k (by omega) _ (h3 k (by omega))
 cases e with
 | normal => exact key none (fun n hn o ho => by unfold call; rw [hk]; simp only; rw [hf]; simp only; rw [hc]; simp only; rw [h1 n hn]; exact ho) h2
 | ret => exact key none (fun n hn o ho => by unfold call; rw [hk]; simp only; rw [hf]; simp only; rw [hc]; simp only; rw [h1 n hn]; exact ho) h2
 | panic ch => exact key (some ch) (fun n hn o ho => by unfold call; rw [hk]; simp only; rw [hf]; simp only; rw [hc]; simp only; rw [h1 n hn]; exact ho) h2
 | exit id => exact h2.elim
theorem CD.of {f : FuncId} {args : List Value} {m : Mem} {fn : Func} {c : Code} {Q : Out → Option (List PanicEntry) → Mem → Prop} (hf : G.P.funcs[f]? = some fn) (hc : fn.body = some c)
 (h : W G { fn := f, deferred := true, round := none, nt := fn.ntmps } c { tmps := Tr.putAll .leaf 0 args, defers := [], cm := mode, m } (fun e s => (e = .normal ∨ e = .ret) ∧ s.defers = [] ∧
  ∃ vs, unwind.results G fn.results.toList s = some vs ∧ Q (.returned (retV vs)) s.cm s.m)) (hk : G.kf f = none := by rfl) : CD G f args mode m Q := by
 obtain ⟨n1, e, s1, h1, he, hd, vs, hr, hq⟩ := h
 have hu : ∀ k, unwind G (k + 1) fn none [] s1 = some (.returned (retV vs), s1.cm, s1.m) := by
  intro k
  unfold unwind
  simp only
  rw [hr]
  match vs with
  | [] => simp [retV]
  | [v] => simp [retV]
  | v :: u :: r => simp [retV]
 refine ⟨n1 + 2, _, _, _, fun n hn => ?_, hq⟩
 obtain ⟨k, rfl⟩ : ∃ k, n = k + 2 := ⟨n - 2, by omega⟩
 unfold call
 rw [hk]
 simp only
 rw [hf]
 simp only
 rw [hc]
 simp only
 rw [h1 (k + 1) (by omega)]
 rcases he with rfl | rfl
 · simp only [hd]; exact hu k
 simp only [hd]; exact hu k
theorem CR.of {l : Nat} {args : List Value} {m : Mem} {r : ALoop} {fn : Func} {t : Tr Value} (hr : getLoop m l = some r) (hf : G.P.funcs[r.fn]? = some fn) (hz : zipSet r.nt r.tmps r.params args = some t)
 (h : W G { fn := r.fn, deferred := false, round := some l, nt := r.nt } r.assign { tmps := t, defers := [], cm := none, m } (fun e s => e = .normal ∧ ∃ r1, getLoop s.m l = some r1 ∧ r1.state = .ready ∧
  W G { fn := r.fn, deferred := false, round := some l, nt := r.nt } r.body { s with m := s.m.setB (l / 2) (.loop { r1 with state := .busy }) } (fun e s => match e with
   | .normal => ∃ r2, getLoop s.m l = some r2 ∧ Q (.returned (.bool true)) (s.m.setB (l / 2) (.loop { r2 with state := .ready, pending := none }))
   | .exit id => ∃ r2, getLoop s.m l = some r2 ∧ Q (.returned (.bool false)) (s.m.setB (l / 2) (.loop { r2 with state := .done, pending := some (.exit id) }))
   | .ret => ∃ r2, getLoop s.m l = some r2 ∧ Q (.returned (.bool false)) (s.m.setB (l / 2) (.loop { r2 with state := .done, pending := some .ret }))
   | .panic ch => s.defers = [] ∧ Q (.panicked ch) s.m))) : CR G l args m Q := by
 obtain ⟨n1, e, s1, h1, rfl, r1, h2, h3, n2, e2, s2, h4, h5⟩ := h
 have pre : ∀ k, max n1 n2 ≤ k → callRound G (k + 1) l args m = (match exec G k { fn := r.fn, deferred := false, round := some l, nt := r.nt } r.body { s1 with m := s1.m.setB (l / 2) (.loop { r1 with state := .busy }) } with
  | some (.panic ch, s) => if s.defers.isEmpty then some (.panicked ch, s.m) else none
  | some (.normal, s) => match getLoop s.m l with
   | some r2 => some (.returned (.bool true), s.m.setB (l / 2) (.loop { r2 with state := .ready, pending := none }))
   | none => none
  | some (.exit id, s) => match getLoop s.m l with
   | some r2 => some (.returned (.bool false), s.m.setB (l / 2) (.loop { r2 with state := .done, pending := some (.exit id) }))
   | none => none
  | some (.ret, s) => match getLoop s.m l with
   | some r2 => some (.returned (.bool false), s.m.setB (l / 2) (.loop { r2 with state := .done, pending := some .ret }))
   | none => none
  | none => none) := by
  intro k hk
  unfold callRound
  simp only [hr, hf, hz]
  rw [h1 k (by omega)]
  simp only [h2, h3]
  rfl
 cases e2 with
 | normal =>
  obtain ⟨r2, h6, h7⟩ := h5
  refine ⟨max n1 n2 + 1, _, _, fun n hn => ?_, h7⟩
  obtain ⟨k, rfl⟩ : ∃ k, n = k + 1 := ⟨n - 1, by omega⟩
  rw [pre k (by omega), h4 k (by omega)]
  simp only [h6]
 | exit id =>
  obtain ⟨r2, h6, h7⟩ := h5
  refine ⟨max n1 n2 + 1, _, _, fun n hn => ?_, h7⟩
  obtain ⟨k, rfl⟩ : ∃ k, n = k + 1 := ⟨n - 1, by omega⟩
  rw [pre k (by omega), h4 k (by omega)]
  simp only [h6]
 | ret =>
  obtain ⟨r2, h6, h7⟩ := h5
  refine ⟨max n1 n2 + 1, _, _, fun n hn => ?_, h7⟩
  obtain ⟨k, rfl⟩ : ∃ k, n = k + 1 := ⟨n - 1, by omega⟩
  rw [pre k (by omega), h4 k (by omega)]
  simp only [h6]
 | panic ch =>
  obtain ⟨h6, h7⟩ := h5
  refine ⟨max n1 n2 + 1, _, _, fun n hn => ?_, h7⟩
  obtain ⟨k, rfl⟩ : ∃ k, n = k + 1 := ⟨n - 1, by omega⟩
  rw [pre k (by omega), h4 k (by omega)]
  simp [h6]
def rfM (x : Ctx) (s : St) (params : Array Tmp) (assign body : Code) : Mem :=
 (s.m.new (.deferred (some []))).new (.loop { state := .ready, pending := none, fn := x.fn, tmps := s.tmps, params := params.toList, assign, body, defers := s.m.nb, nt := x.nt })
def rfL (s : St) : Nat := (s.m.new (.deferred (some []))).nb
theorem W.rangeFunc {f : Operand} {params : Array Tmp} {assign body : Code} {Q : Ex → St → Prop} {g0 : FuncId} {first captured : Array Value} (hx : x.round = none) (hf : evalT G.ng s.tmps f = .func (.func g0) first captured)
 (hv : ∀ args m, callV G g0 args m = .enter g0 args m)
 (h : C G g0 (first.toList ++ [.func (.yield (rfL s)) #[] #[]] ++ captured.toList) (rfM x s params assign body) (fun out m4 => match out with
  | .returned _ => ∃ r, getLoop m4 (rfL s) = some r ∧ (r.state == .busy) = false ∧ (match r.pending with
   | none => Q .normal { s with m := m4.setB (rfL s / 2) (.loop { r with state := .exhausted }), defers := markOf s.m.nb :: s.defers }
   | some (.exit id) => Q (.exit id) { s with m := m4.setB (rfL s / 2) (.loop { r with state := .exhausted }), defers := markOf s.m.nb :: s.defers }
   | _ => False)
  | .panicked ch => Q (.panic ch) { s with m := m4, defers := markOf s.m.nb :: s.defers })) : W G x (.rangeFunc f params assign body) s Q := by
 obtain ⟨n1, out, m4, h1, h2⟩ := h
 have pre : ∀ k, n1 ≤ k → exec G (k + 1) x (.rangeFunc f params assign body) s = (match (some (out, (none : Option (List PanicEntry)), m4)) with
  | some (.returned _, _, m4) => match getLoop m4 (rfL s) with
   | some r =>
    if r.state == .busy then none else
    match r.pending with
    | none => some (.normal, { s with m := m4.setB (rfL s / 2) (.loop { r with state := .exhausted }), defers := markOf s.m.nb :: s.defers })
    | some (.exit id) => some (.exit id, { s with m := m4.setB (rfL s / 2) (.loop { r with state := .exhausted }), defers := markOf s.m.nb :: s.defers })
    | some .ret => some (.ret, { s with m := m4.setB (rfL s / 2) (.loop { r with state := .exhausted }), defers := markOf s.m.nb :: s.defers })
    | _ => none
   | none => none
  | some (.panicked ch, _, m4) => some (.panic ch, { s with m := m4, defers := markOf s.m.nb :: s.defers })
  | none => none) := by
  intro k hk
  have h1k := h1 k hk
  simp only [rfM, rfL] at h1k
  simp only [exec, hx, hf, hv, rfL]
  rw [h1k]
  rfl
 cases out with
 | returned v =>
  obtain ⟨r, h3, h4, h5⟩ := h2
  cases hp : r.pending with
  | none =>
   rw [hp] at h5
   refine ⟨n1 + 1, _, _, fun n hn => ?_, h5⟩
   obtain ⟨k, rfl⟩ : ∃ k, n = k + 1 := ⟨n - 1, by omega⟩
   rw [pre k (by omega)]
   simp only [h3, h4, hp, Bool.false_eq_true, if_false]
  | some c =>
   rw [hp] at h5
   cases c with
   | exit id =>
    refine ⟨n1 + 1, _, _, fun n hn => ?_, h5⟩
    obtain ⟨k, rfl⟩ : ∃ k, n = k + 1 := ⟨n - 1, by omega⟩
    rw [pre k (by omega)]
    simp only [h3, h4, hp, Bool.false_eq_true, if_false]
   | _ => exact h5.elim
 | panicked ch =>
  refine ⟨n1 + 1, _, _, fun n hn => ?_, h2⟩
  obtain ⟨k, rfl⟩ : ∃ k, n = k + 1 := ⟨n - 1, by omega⟩
  rw [pre k (by omega)]
theorem W.label {id : Nat} {Q : Ex → St → Prop} (h : Q .normal s) : W G x (.label id) s Q := ⟨1, .normal, s, fun n hn => by obtain ⟨k, rfl⟩ : ∃ k, n = k + 1 := ⟨n - 1, by omega⟩; rfl, h⟩
theorem W.downD {b : Code} {Q : Ex → St → Prop} {ws : List Nat} (hws : wrIn b ws = true) (I : Nat → Tr Value → Mem → List Deferred → Prop) (i0 : Nat) (h0 : I i0 s.tmps s.m s.defers)
 (hr : ∀ (i : Nat) (t : Tr Value) (m : Mem) (ds : List Deferred), (∀ k, ws.contains k = false → t.get k = s.tmps.get k) → I i t m ds → W G x b ⟨t, ds, s.cm, m⟩
  (Then (fun s' => s'.cm = s.cm ∧ ∃ j, j < i ∧ I j s'.tmps s'.m s'.defers) Q)) : W G x (.loop b) s Q := by
 have key : ∀ (i : Nat) (t : Tr Value) (m : Mem) (ds : List Deferred), (∀ k, ws.contains k = false → t.get k = s.tmps.get k) → I i t m ds → W G x (.loop b) ⟨t, ds, s.cm, m⟩ Q := by
  intro i
  induction i using Nat.strongRecOn with
  | _ i ih =>
   intro t m ds hk hI
   refine W.loop1 (W.mono (W.keep (hr i t m ds hk hI)) (fun e s1 h => ?_))
   obtain ⟨h1, h2⟩ := h
   cases e with
   | normal =>
    obtain ⟨h4, j, h5, h6⟩ := h1
    obtain ⟨t1, ds1, cm, m1⟩ := s1
    simp only at h4 h6
    subst h4
    exact ih j h5 t1 m1 ds1 (fun k hk' => (h2 k (wrIn_spec hws hk')).trans (hk k hk')) h6
   | _ => exact h1
 exact key i0 s.tmps s.m s.defers (fun _ _ => rfl) h0
theorem W.cutD {a : Code} {Q : Ex → St → Prop} {K : St → Prop} {ws : List Nat} (hws : wrIn a ws = true) (J : Tr Value → Mem → List Deferred → Prop) (ha : W G x a s (Then (fun s' => s'.cm = s.cm ∧ J s'.tmps s'.m s'.defers) Q))
 (hb : ∀ (t : Tr Value) (m : Mem) (ds : List Deferred), (∀ k, ws.contains k = false → t.get k = s.tmps.get k) → J t m ds → K ⟨t, ds, s.cm, m⟩) : W G x a s (Then K Q) := by
 refine W.mono (W.keep ha) (fun e s1 h => ?_)
 obtain ⟨h1, h2⟩ := h
 cases e with
 | normal =>
  obtain ⟨h4, h5⟩ := h1
  obtain ⟨t1, ds, cm, m1⟩ := s1
  simp only at h4 h5
  subst h4
  exact hb t1 m1 ds (fun k hk => h2 k (wrIn_spec hws hk)) h5
 | _ => exact h1
end Go.Am
namespace Go.Proofs.Lw
open Go Go.Am
inductive OE where
 | blk (b : Blk)
 | slk (e : TypeId)
def OE.holds (m : Mem) (k : Nat) : OE → Prop
 | .blk b => m.blks.get k = some b ∧ ∀ c, b ≠ .cells c
 | .slk e => ∃ c, m.blks.get k = some (.cells c) ∧ c.dead = false ∧ c.slk = true ∧ c.elem = e
structure OL (m0 m : Mem) (O : List (Nat × OE)) : Prop where
 at' : ∀ k e, (k, e) ∈ O → e.holds m k ∧ m0.nxt ≤ k
 nodup : (O.map (·.1)).Nodup
variable {E : Env} {σ0 σ : Kn} {m0 m m' : Mem} {L : List (Nat × Cl)} {O : List (Nat × OE)}
theorem OE.lt {k : Nat} {e : OE} (hw : WF m) (h : e.holds m k) : k < m.nxt := by
 cases e with
 | blk b => exact hw.lt h.1
 | slk t => obtain ⟨c, h1, _⟩ := h; exact hw.lt h1
theorem OE.same {k : Nat} {e : OE} (h : e.holds m k) (he : m'.blks.get k = m.blks.get k) : e.holds m' k := by
 cases e with
 | blk b => exact ⟨by rw [he]; exact h.1, h.2⟩
 | slk t => obtain ⟨c, h1, h2⟩ := h; exact ⟨c, by rw [he]; exact h1, h2⟩
theorem OL.nil : OL m0 m [] := ⟨fun k bl h => by simp at h, by simp⟩
theorem OL.grow (h : OL m0 m O) (hw : WF m) (g : Grow m m') : OL m0 m' O :=
 ⟨fun k bl hk => by obtain ⟨h1, h2⟩ := h.at' k bl hk; exact ⟨OE.same h1 (g.old k (OE.lt hw h1)), h2⟩, h.nodup⟩
theorem OL.new (h : OL m0 m O) (hw : WF m) (b : Blk) : OL m0 (m.new b) O := h.grow hw (Grow.new hw b)
theorem OL.cells (h : OL m0 m O) {j : Nat} {c c' : Cells} (hj : m.blks.get j = some (.cells c)) (hc : c'.dead = c.dead ∧ c'.slk = c.slk ∧ c'.elem = c.elem) : OL m0 (m.setB j (.cells c')) O := by
 refine ⟨fun k e hk => ?_, h.nodup⟩
 obtain ⟨h1, h3⟩ := h.at' k e hk
 refine ⟨?_, h3⟩
 by_cases hkj : k = j
 ·
  subst hkj
  cases e with
  | blk b => rw [h1.1] at hj; exact absurd (Option.some.inj hj) (h1.2 c)
  | slk t =>
   obtain ⟨d, d1, d2, d3, d4⟩ := h1
   rw [d1] at hj
   cases hj
   exact ⟨c', by simp [Mem.setB, Tr.get_set], by rw [hc.1]; exact d2, by rw [hc.2.1]; exact d3, by rw [hc.2.2]; exact d4⟩
 exact OE.same h1 (by simp only [Mem.setB]; rw [Tr.get_set, if_neg hkj])
theorem OL.write (h : OL m0 m O) {b o : Nat} {vs : List Value} (e : m.write b o vs = some m') : OL m0 m' O := by
 unfold Mem.write at e
 split at e
 · cases e; exact h
 split at e
 ·
  split at e
  ·
   rename_i c hc
   split at e
   · cases e
   split at e
   · cases e; exact h.cells hc ⟨rfl, rfl, rfl⟩
   cases e
  cases e
 cases e
theorem OL.newCells (h : OL m0 m O) (hw : WF m) {vs : List Value} {t : TypeId} (e : m.newCells vs t = some m') : OL m0 m' O := by
 unfold Mem.newCells at e
 split at e
 · cases e; exact h.new hw _
 cases e
theorem OL.box (h : OL m0 m O) (hw : WF m) {t : TypeId} {v p : Value} (e : opBox t v m = .value p m') : OL m0 m' O := by
 unfold opBox at e
 split at e
 · rename_i m1 h1
   cases e; exact h.newCells hw h1
 cases e
theorem live_cells {b : Nat} {c : Cells} (h : m.live b = some c) : m.blks.get (b / 2) = some (.cells c) := by
 unfold Mem.live at h
 split at h
 ·
  split at h
  · rename_i c' hc
    split at h
    · cases h
    cases h; exact hc
  cases h
 cases h
def AllB (O : List (Nat × OE)) : Prop := ∀ p ∈ O, ∃ b, p.2 = .blk b
theorem OL.kill (h : OL m0 m O) (ha : AllB O) {j : Nat} {c : Cells} (hj : m.blks.get j = some (.cells c)) (b : Blk) : OL m0 (m.setB j b) O := by
 refine ⟨fun k e hk => ?_, h.nodup⟩
 obtain ⟨h1, h3⟩ := h.at' k e hk
 refine ⟨?_, h3⟩
 by_cases hkj : k = j
 · subst hkj
   obtain ⟨b', rfl⟩ : ∃ b, e = .blk b := ha _ hk
   rw [h1.1] at hj; exact absurd (Option.some.inj hj) (h1.2 c)
 exact OE.same h1 (by simp only [Mem.setB]; rw [Tr.get_set, if_neg hkj])
theorem OL.app (h : OL m0 m O) (ha : AllB O) (hw : WF m) {t : TypeId} {xt : Option TypeId} {s x v : Value} (e : opAppend E t xt s x m = .value v m') : OL m0 m' O := by
 unfold opAppend at e
 repeat' split at e
 all_goals first | (cases e; done) | skip
 all_goals (have e2 := (ORes.value.inj e).2; clear e; subst e2)
 all_goals first
  | exact h
  | (rename_i hwr; exact h.write hwr)
  | exact h.new hw _
  | (
   rename_i hl _
   refine OL.new (h.kill ha (live_cells hl) _) ?_ _
   have hlt := hw.lt (live_cells hl)
   intro k hk
   simp only [Mem.setB] at hk ⊢
   rw [Tr.get_set, if_neg (by omega)]
   exact hw k hk)
theorem OL.push (h : OL m0 m O) (hw : WF m) (hle : m0.nxt ≤ m.nxt) {bl : Blk} (hb : ∀ c, bl ≠ .cells c) : OL m0 (m.new bl) ((m.nxt, .blk bl) :: O) := by
 have h1 := h.new hw bl
 refine ⟨fun k b hk => ?_, ?_⟩
 · rcases List.mem_cons.1 hk with e | hk
   · cases e; exact ⟨⟨by simp [Mem.new, Tr.get_set], hb⟩, hle⟩
   exact h1.at' k b hk
 simp only [List.map_cons, List.nodup_cons]
 refine ⟨fun hm => ?_, h.nodup⟩
 obtain ⟨⟨k, b⟩, hk, e⟩ := List.mem_map.1 hm
 have := OE.lt hw (h.at' k b hk).1
 simp only at e
 omega
theorem OL.set {k : Nat} {bl bl' : Blk} (h : OL m0 m ((k, .blk bl) :: O)) (hb : ∀ c, bl' ≠ .cells c) : OL m0 (m.setB k bl') ((k, .blk bl') :: O) := by
 have hnd := h.nodup
 simp only [List.map_cons, List.nodup_cons] at hnd
 refine ⟨fun j b hj => ?_, by simpa using h.nodup⟩
 rcases List.mem_cons.1 hj with e | hj2
 · cases e; exact ⟨⟨by simp [Mem.setB, Tr.get_set], hb⟩, (h.at' k (.blk bl) List.mem_cons_self).2⟩
 obtain ⟨h1, h2⟩ := h.at' j b (List.mem_cons_of_mem _ hj2)
 refine ⟨OE.same h1 ?_, h2⟩
 simp only [Mem.setB]
 rw [Tr.get_set, if_neg]
 intro e; subst e; exact hnd.1 (List.mem_map.2 ⟨(j, b), hj2, rfl⟩)
theorem OL.perm (h : OL m0 m O) {O' : List (Nat × OE)} (hp : O.Perm O') : OL m0 m O' :=
 ⟨fun k bl hk => h.at' k bl (hp.symm.subset hk), (hp.map _).nodup_iff.1 h.nodup⟩
theorem OL.sub (h : OL m0 m O) {O' : List (Nat × OE)} (hs : O'.Sublist O) : OL m0 m O' := ⟨fun k bl hk => h.at' k bl (hs.subset hk), h.nodup.sublist (hs.map _)⟩
theorem OL.slk (h : OL m0 m O) (ha : AllB O) (hS : S E σ0 m0 σ m L) {i b : Nat} {vs : List Value} {t : TypeId} (hi : L[i]? = some (b, ⟨vs, some t⟩)) : OL m0 m ((b / 2, .slk t) :: O) := by
 obtain ⟨⟨_, c, c1, c2, _, _, _, _, c7, _⟩, hge, _⟩ := hS.own i b _ hi
 obtain ⟨d1, d2⟩ := c7 t rfl
 refine ⟨fun k e hk => ?_, ?_⟩
 · rcases List.mem_cons.1 hk with e | hk
   · cases e; exact ⟨⟨c, c1, c2, d1, d2⟩, hge⟩
   exact h.at' k e hk
 simp only [List.map_cons, List.nodup_cons]
 refine ⟨fun hm => ?_, h.nodup⟩
 obtain ⟨⟨k, e⟩, hk, e2⟩ := List.mem_map.1 hm
 simp only at e2
 subst e2
 obtain ⟨b', rfl⟩ : ∃ b, e = .blk b := ha _ hk
 have h1 := (h.at' _ _ hk).1
 rw [h1.1] at c1; exact h1.2 c (Option.some.inj c1)
theorem S.setO (h : S E σ0 m0 σ m L) (hO : OL m0 m O) {k : Nat} {b0 : Blk} (hk : (k, OE.blk b0) ∈ O) (bl : Blk) : S E σ0 m0 σ (m.setB k bl) L := by
 obtain ⟨⟨h1, h2⟩, h3⟩ := hO.at' k _ hk
 have hold : ∀ j, j ≠ k → (m.setB k bl).blks.get j = m.blks.get j := by
  intro j hj; simp only [Mem.setB]; rw [Tr.get_set, if_neg hj]
 have hlt := h.wf.lt h1
 have hwf : WF (m.setB k bl) := by
  intro j hj
  simp only [Mem.setB] at hj ⊢
  rw [Tr.get_set, if_neg (by omega)]
  exact h.wf j hj
 refine ⟨h.wf0, ⟨h.learn.le, ⟨h.learn.grow.le, fun j hj => by rw [hold j (by omega)]; exact h.learn.grow.old j hj, hwf⟩, fun x y v e => ?_, h.learn.new⟩, fun i b c e => ?_, h.nodup⟩
 ·
  have := h.holds x y v e
  unfold Mem.load at this ⊢
  by_cases hx : x % 2 = 1
  ·
   rw [if_pos hx] at this ⊢
   have hxk : x / 2 ≠ k := by
    intro e2
    rw [e2, h1] at this
    cases b0 with
    | cells c => exact h2 c rfl
    | _ => simp at this
   rw [hold _ hxk]; exact this
  rw [if_neg hx] at this ⊢; exact this
 obtain ⟨⟨g1, c', g2, g3⟩, g4⟩ := h.own i b c e
 have hbk : b / 2 ≠ k := by
  intro e2
  rw [e2, h1] at g2
  exact h2 c' (Option.some.inj g2)
 exact ⟨⟨g1, c', by rw [hold _ hbk]; exact g2, g3⟩, g4⟩
theorem S.le0 (h : S E σ0 m0 σ m L) : m0.nxt ≤ m.nxt := h.learn.grow.le
abbrev Known := List (ByteArray × Int)
def ents : Known → Nat → List MapEntry
 | [], _ => []
 | (s, v) :: r, i => { key := .string s, val := .int .u8 v, born := i } :: ents r (i + 1)
def mapB (K : Known) : Blk := .map (ents K 0) K.length
def lookK : Known → ByteArray → Option Int
 | [], _ => none
 | (x, v) :: r, s => if x = s then some v else lookK r s
theorem ents_app : ∀ {K : Known} {s : ByteArray} {v : Int} {i : Nat}, ents (K ++ [(s, v)]) i = ents K i ++ [{ key := .string s, val := .int .u8 v, born := i + K.length }]
 | [], s, v, i => by simp [ents]
 | (x, w) :: r, s, v, i => by
  simp only [List.cons_append, ents, List.length_cons]
  rw [ents_app (K := r), show i + 1 + r.length = i + (r.length + 1) by omega]
theorem ba_beq (a b : ByteArray) : (a == b) = decide (a = b) := by
 have key : (a == b) = true ↔ a = b := by
  obtain ⟨x⟩ := a
  obtain ⟨y⟩ := b
  constructor
  · intro h
    have e : x = y := by simpa using (show (x == y) = true from h)
    rw [e]
  intro h
  cases h
  show (x == x) = true
  simp
 by_cases h : a = b
 · rw [key.2 h]; simp [h]
 simp only [h, decide_false]
 cases e : (a == b) with
 | true => exact absurd (key.1 e) h
 | false => rfl
theorem findK_some : ∀ {K : Known} {s : ByteArray} {v : Int} {i j : Nat}, lookK K s = some v → ∃ n, findK (.string s) (ents K j) i = some (some (n, .int .u8 v))
 | [], s, v, i, j, h => by cases h
 | (x, w) :: r, s, v, i, j, h => by
  simp only [ents, findK, sameK, lookK, ba_beq] at h ⊢
  by_cases e : s = x
  · subst e; simp at h; subst h; exact ⟨i, by simp⟩
  have e' : ¬ x = s := fun e2 => e e2.symm
  simp only [e', if_false] at h
  simp only [e, decide_false]
  exact findK_some h
theorem findK_none : ∀ {K : Known} {s : ByteArray} {i j : Nat}, lookK K s = none → findK (.string s) (ents K j) i = some none
 | [], s, i, j, h => rfl
 | (x, w) :: r, s, i, j, h => by
  simp only [ents, findK, sameK, lookK, ba_beq] at h ⊢
  by_cases e : s = x
  · subst e; simp at h
  have e' : ¬ x = s := fun e2 => e e2.symm
  simp only [e', if_false] at h
  simp only [e, decide_false]
  exact findK_none h
variable {gl : Nat → Nat → Option Value} {ng : Nat}
theorem und98 : und (cfg gl ng).toEnv 98 = some (.map 9 46) := by kernel_rfl
theorem und9 : und (cfg gl ng).toEnv 9 = some .string := by kernel_rfl
theorem zero46 : zeroOf (cfg gl ng).toEnv 46 = some (.int .u8 0) := by kernel_rfl
theorem map_of {mb : Nat} {K : Known} (hb : mb % 2 = 1) (hO : OL m0 m ((mb / 2, .blk (mapB K)) :: O)) : m.map? mb = some (ents K 0, K.length) := by
 have := (hO.at' _ _ List.mem_cons_self).1.1
 unfold Mem.map?
 rw [if_pos hb, this]
 rfl
theorem lkp {mb : Nat} {K : Known} {s : ByteArray} (hb : mb % 2 = 1) (hO : OL m0 m ((mb / 2, .blk (mapB K)) :: O)) : opLookup (cfg gl ng).toEnv 98 (.map (some mb)) (.string s) true m =
  .value (match lookK K s with | some v => .tuple #[.int .u8 v, .bool true] | none => .tuple #[.int .u8 0, .bool false]) m := by
 have hk : keyFits (cfg gl ng).toEnv 9 (.string s) = true := by simp only [keyFits, und9]
 unfold opLookup
 simp only [und98, hk, if_true, map_of hb hO]
 cases h : lookK K s with
 | some v =>
  obtain ⟨n, e⟩ := findK_some (i := 0) (j := 0) h
  simp only [e]
 | none =>
  simp only [findK_none h, opLookup.miss, zero46, if_true]
theorem upd {mb : Nat} {K : Known} {s : ByteArray} {v : Int} (hb : mb % 2 = 1) (hO : OL m0 m ((mb / 2, .blk (mapB K)) :: O)) (hn : lookK K s = none) : opUpdate (cfg gl ng).toEnv 98 (.map (some mb)) (.string s) (.int .u8 v) m = .skip (m.setB (mb / 2) (mapB (K ++ [(s, v)]))) := by
 have hk : keyFits (cfg gl ng).toEnv 9 (.string s) = true := by simp only [keyFits, und9]
 unfold opUpdate
 simp only [und98, hk, map_of hb hO, findK_none hn, defd, Bool.and_self, if_true]
 unfold mapB
 rw [ents_app, Nat.zero_add]
 simp
inductive Qs (α : Type) where
 | ret (a : α)
 | ask (t : T) (k : Bool → Qs α)
def Qs.bind {α β : Type} : Qs α → (α → Qs β) → Qs β
 | .ret a, f => f a
 | .ask t k, f => .ask t (fun b => (k b).bind f)
inductive Res (α : Type) where
 | done (a : α) (K : Known)
 | stop (t : T) (K : Known)
def runQ {α : Type} (tx : T → ByteArray) (A : List Int) : Qs α → Known → Res α
 | .ret a, K => .done a K
 | .ask t k, K => match lookK K (tx t) with
  | some v => runQ tx A (k (decide (v = 2))) K
  | none => if K.length < A.length then runQ tx A (k (decide (plainV' (A.getD K.length 0) = 2))) (K ++ [(tx t, plainV' (A.getD K.length 0))]) else .stop t K
theorem runQ_bind {α β : Type} {tx : T → ByteArray} {A : List Int} {f : α → Qs β} : ∀ {q : Qs α} {K : Known}, runQ tx A (q.bind f) K = match runQ tx A q K with
  | .done a K' => runQ tx A (f a) K'
  | .stop t K' => .stop t K'
 | .ret a, K => rfl
 | .ask t k, K => by
  simp only [Qs.bind, runQ]
  cases lookK K (tx t) with
  | some v => exact runQ_bind
  | none =>
   simp only
   split
   · exact runQ_bind
   rfl
def VersK (σ : Kn) (v : Value) (A : List Int) : Prop := ∃ b o, SliceAt v A.length b o ∧ ∀ (i : Nat) (n : Int), A[i]? = some n → σ b (o + i) = some (.int .u8 n)
theorem VersK.mono {σ σ' : Kn} (h : σ.le σ') {v : Value} {A : List Int} (hv : VersK σ v A) : VersK σ' v A := by
 obtain ⟨b, o, h1, h2⟩ := hv
 exact ⟨b, o, h1, fun i n hi => h _ _ _ (h2 i n hi)⟩
theorem VersK.plain {σ : Kn} {v : Value} {A : List Int} (hv : VersK σ v A) : plainV v = true := by
 obtain ⟨b, o, h1, _⟩ := hv; exact h1.plain
def sCl (sb : Nat) (av : Value) (n mb : Nat) : Nat × Cl := (sb, ⟨[av, .int .i64 n, .map (some mb)], none⟩)
structure Srch (gl : Nat → Nat → Option Value) (ng : Nat) (σ0 : Kn) (m0 : Mem) (σ : Kn) (m : Mem) (L : List (Nat × Cl)) (O : List (Nat × OE)) (sb : Nat) (av : Value) (A : List Int) (mb : Nat) (K : Known) : Prop where
 s : S (cfg gl ng).toEnv σ0 m0 σ m (sCl sb av K.length mb :: L)
 o : OL m0 m ((mb / 2, .blk (mapB K)) :: O)
 odd : mb % 2 = 1
 av : VersK σ av A
 le : K.length ≤ A.length
 lim : A.length ≤ 4096
def qPanic (v : Value) : List PanicEntry := [{ v := .iface 97 v, recovered := false }]
def ROk {α : Type} (gl : Nat → Nat → Option Value) (ng : Nat) (σ0 : Kn) (m0 : Mem) (σ : Kn) (L : List (Nat × Cl)) (O : List (Nat × OE)) (sb : Nat) (av : Value) (A : List Int) (mb : Nat) (P : α → Kn → Value → Prop) (r : Res α) (out : Out) (m' : Mem) : Prop :=
 ∃ σ', σ.le σ' ∧ match r with
  | .done a K' => ∃ v, out = .returned v ∧ P a σ' v ∧ Srch gl ng σ0 m0 σ' m' L O sb av A mb K'
  | .stop t K' => ∃ v, out = .panicked (qPanic v) ∧ TreeK σ' v t ∧ Srch gl ng σ0 m0 σ' m' L O sb av A mb K'
end Go.Proofs.Lw
namespace Go.Proofs.Lw
open Go Go.Am
set_option maxRecDepth 8000
variable {gl : Nat → Nat → Option Value} {ng : Nat}
def FinU (gl : Nat → Nat → Option Value) (ng : Nat) (fn : Func) (Q : Out → Mem → Prop) : Ex → St → Prop := fun e s => match e with
 | .normal => U (cfg gl ng) fn none s.defers s Q
 | .ret => U (cfg gl ng) fn none s.defers s Q
 | .panic ch => U (cfg gl ng) fn (some ch) s.defers s Q
 | .exit _ => False
theorem ofU {f : FuncId} {args : List Value} {m : Mem} {fn : Func} {c : Code} {Q : Out → Mem → Prop} (hf : (cfg gl ng).P.funcs[f]? = some fn) (hc : fn.body = some c) (nt : Nat) (hnt : fn.ntmps = nt)
 (h : ∀ x : Ctx, x.nt = nt → x.round = none → x.fn = f → W (cfg gl ng) x c { tmps := Tr.putAll .leaf 0 args, defers := [], cm := none, m } (FinU gl ng fn Q)) (hk : (cfg gl ng).kf f = none := by rfl) : C (cfg gl ng) f args m Q :=
 C.ofU hf hc (h _ hnt rfl rfl) hk
theorem fa100 {m : Mem} {b o : Nat} : opFieldAddr (cfg gl ng).toEnv 100 (.pointer (some ⟨b, o, none⟩)) 0 m = .value (.pointer (some ⟨b, o, none⟩)) m := by kernel_rfl
theorem mki97 {m : Mem} {v : Value} : opMakeInterface (cfg gl ng).toEnv 97 v m = .value (.iface 97 v) m := by
 have h : (match und (cfg gl ng).toEnv 97 with | some (.struct _) => true | _ => false) = true := by kernel_rfl
 unfold opMakeInterface
 cases hu : und (cfg gl ng).toEnv 97 with
 | none => rw [hu] at h; cases h
 | some d => rw [hu] at h; cases d <;> first | (simp at h; done) | rfl
variable {σ0 σ : Kn} {m0 m : Mem} {L : List (Nat × Cl)} {O : List (Nat × OE)} {sb mb : Nat} {av tv : Value} {A : List Int} {Kw : Known} {t : T}
theorem f83_ok (h : Srch gl ng σ0 m0 σ m L O sb av A mb Kw) (ht : TreeK σ tv t) :
 C (cfg gl ng) 83 [.pointer (some ⟨sb, 0, none⟩), tv] m (fun out m' => (Kw.length < A.length → out = .returned (.int .u8 (plainV' (A.getD Kw.length 0))) ∧ S (cfg gl ng).toEnv σ0 m0 σ m' (sCl sb av (Kw.length + 1) mb :: L) ∧ OL m0 m' ((mb / 2, .blk (mapB Kw)) :: O)) ∧
  (¬ Kw.length < A.length → ∃ v, out = .panicked (qPanic v) ∧ TreeK σ v t ∧ Srch gl ng σ0 m0 σ m' L O sb av A mb Kw)) := by
 generalize hQ : (fun (out : Out) (m' : Mem) => (Kw.length < A.length → out = .returned (.int .u8 (plainV' (A.getD Kw.length 0))) ∧ S (cfg gl ng).toEnv σ0 m0 σ m' (sCl sb av (Kw.length + 1) mb :: L) ∧ OL m0 m' ((mb / 2, .blk (mapB Kw)) :: O)) ∧
  (¬ Kw.length < A.length → ∃ v, out = .panicked (qPanic v) ∧ TreeK σ v t ∧ Srch gl ng σ0 m0 σ m' L O sb av A mb Kw)) = Q
 refine ofU (c := _) Tryz.func83 rfl 37 rfl (fun c hnt _ _ => ?_)
 have ht0 := ht
 obtain ⟨x, y, z, rfl, px, py, pz⟩ := ht.agg
 have hS := h.s
 have hle := h.le
 have hlim := h.lim
 obtain ⟨ba, oa, hav1, hav2⟩ := id h.av
 obtain ⟨m1, nb3, hbx, hS1⟩ := hS.box 27 #[x, y, z] (by simp [px, py, pz])
 have hO1 := h.o.box hS.wf hbx
 have hc1 : ∀ o, m1.load (cfg gl ng).toEnv sb o = [av, Value.int .i64 Kw.length, .map (some mb)][o]? := fun o => hS1.c1 o
 repeat apply W.seq
 apply W.regN; simp [hnt, hbx]
 by_cases hlt : Kw.length < A.length
 ·
  have hne : ¬ (Kw.length : Int) = A.length := by omega
  repeat apply W.seq
  apply W.regD (by kernel_rfl); simp [hnt, hc1, K.ly38 hav1, hne]
  refine W.choose (by simp; rfl) (fun hc => ?_) fun hc => ?_
  · cases hc
  apply W.skip; try simp only [Then, InBlk]
  have hwn : IntKind.i64.wrap ((Kw.length : Int) + 1) = (Kw.length : Int) + 1 := wrap_i64 (by omega) (by omega)
  have hwm : IntKind.i64.wrap ((Kw.length : Int) + 1 - 1) = (Kw.length : Int) := by rw [wrap_i64 (by omega) (by omega)]; omega
  have hwm2 : IntKind.i64.wrap (Kw.length : Int) = (Kw.length : Int) := wrap_i64 (by omega) (by omega)
  obtain ⟨m2, e2, hS2⟩ := hS1.set1 (i := 1) rfl (o := 1) (v := .int .i64 ((Kw.length + 1 : Nat) : Int)) (by simp) (by simp)
  have hO2 := hO1.write e2
  have e2' : m1.write sb 1 [.int .i64 ((Kw.length : Int) + 1)] = some m2 := by rw [← e2]; rfl
  repeat apply W.seq
  apply W.regN; simp [hnt, hc1, hwn, e2']
  have hc2 : ∀ o, m2.load (cfg gl ng).toEnv sb o = [av, Value.int .i64 ((Kw.length + 1 : Nat) : Int), .map (some mb)][o]? := fun o => hS2.c1 o
  have hgA : A[Kw.length]? = some (A.getD Kw.length 0) := by simp [hlt]
  have hal := hav2 _ _ hgA
  repeat apply W.seq
  refine W.regU [] [] (by as_aux_lemma => kernel_rfl) ?_
  simp [hnt, hc2, hwm, hwm2, K.iy38 hav1 hlt, hS2.kn, hal, looseOk]
  refine Ct.use (f92_ok hS2.wf hS2.holds) (fun σ3 v3 m3 hl3 hv3 => ?_)
  subst hv3
  have hS3 := hS2.grow hl3.grow
  have hO3 := hO2.grow hS2.wf hl3.grow
  simp [hnt, looseOk]
  try apply W.ret
  refine U.ret (by simp [unwind.results, Tryz.f83] <;> rfl) rfl ?_
  rw [← hQ]
  refine ⟨fun _ => ⟨by simp [retV], ?_, hO3⟩, fun hn => absurd hlt hn⟩
  exact hS3.drop (List.sublist_cons_self _ _)
 have heq : Kw.length = A.length := by omega
 repeat apply W.seq
 apply W.regD (by kernel_rfl); simp [hnt, hc1, K.ly38 hav1, heq]
 refine W.choose (by simp; rfl) (fun hc => ?_) fun hc => ?_
 ·
  have hbu := K.bu97_0 (gl := gl) (ng := ng) (m := m1) (x0_0 := x) (x0_1 := y) (x0_2 := z)
  apply W.regX; simp [hnt, hS1.c0, hbu, mki97]
  refine U.panic rfl ?_
  rw [← hQ]
  refine ⟨fun hn => absurd hn hlt, fun _ => ⟨_, rfl, ht0, ?_⟩⟩
  exact ⟨hS1.drop (List.sublist_cons_self _ _), hO1, h.odd, h.av, h.le, h.lim⟩
 cases hc
def onceR (tx : T → ByteArray) (A : List Int) (t : T) (Kw : Known) : Res Int := match lookK Kw (tx t) with
 | some v => .done v Kw
 | none => if Kw.length < A.length then .done (plainV' (A.getD Kw.length 0)) (Kw ++ [(tx t, plainV' (A.getD Kw.length 0))]) else .stop t Kw
theorem f57_ok {tx : T → ByteArray} (h : Srch gl ng σ0 m0 σ m L O sb av A mb Kw) (ht : TreeK σ tv t) :
 C (cfg gl ng) 57 [.pointer (some ⟨sb, 0, none⟩), .string (tx t), tv] m (ROk gl ng σ0 m0 σ L O sb av A mb (fun v _ r => r = .int .u8 v) (onceR tx A t Kw)) := by
 generalize hQ : ROk gl ng σ0 m0 σ L O sb av A mb (fun v _ r => r = .int .u8 v) (onceR tx A t Kw) = Q
 refine ofU (c := _) Tryz.func57 rfl 30 rfl (fun c hnt _ _ => ?_)
 have ht0 := ht
 obtain ⟨x, y, z, rfl, px, py, pz⟩ := ht.agg
 have hS := h.s
 obtain ⟨m1, nb5, hbx, hS1⟩ := hS.box 27 #[x, y, z] (by simp [px, py, pz])
 have hO1 := h.o.box hS.wf hbx
 have hS1' := hS1.swap
 have h1 : Srch gl ng σ0 m0 σ m1 ((nb5, ⟨[x, y, z], none⟩) :: L) O sb av A mb Kw := ⟨hS1', hO1, h.odd, h.av, h.le, h.lim⟩
 have hc1 : ∀ o, m1.load (cfg gl ng).toEnv sb o = [av, Value.int .i64 Kw.length, .map (some mb)][o]? := fun o => hS1'.c0 o
 repeat apply W.seq
 apply W.regN; simp [hnt, hbx]
 cases hlk : lookK Kw (tx t) with
 | some v =>
  have hl := lkp (gl := gl) (ng := ng) (s := tx t) h.odd hO1
  rw [hlk] at hl
  repeat apply W.seq
  apply W.regN; simp [hnt, hc1, hl]
  repeat apply W.seq
  apply W.regN; simp [hnt]
  refine W.choose (by simp; rfl) (fun hc => ?_) fun hc => ?_
  · cases hc
  apply W.skip; try simp only [Then, InBlk]
  repeat apply W.seq
  apply W.regN; simp [hnt]
  try apply W.ret
  refine U.ret (by simp [unwind.results, Tryz.f57] <;> rfl) rfl ?_
  rw [← hQ]
  refine ⟨σ, Kn.le_refl _, ?_⟩
  have e : onceR tx A t Kw = .done v Kw := by simp only [onceR, hlk]
  rw [e]
  exact ⟨_, rfl, rfl, ⟨hS1'.drop (by simp), hO1, h.odd, h.av, h.le, h.lim⟩⟩
 | none =>
  have hl := lkp (gl := gl) (ng := ng) (s := tx t) h.odd hO1
  rw [hlk] at hl
  repeat apply W.seq
  apply W.regN; simp [hnt, hc1, hl]
  repeat apply W.seq
  apply W.regN; simp [hnt]
  refine W.choose (by simp; rfl) (fun hc => ?_) fun hc => ?_
  ·
   repeat apply W.seq
   apply W.regN; simp [hnt, hS1.c0]
   refine C.mono (f83_ok h1 ht0) (fun out m2 ho => ?_)
   by_cases hlt : Kw.length < A.length
   ·
    obtain ⟨rfl, hS2, hO2⟩ := ho.1 hlt
    have hc2 : ∀ o, m2.load (cfg gl ng).toEnv sb o = [av, Value.int .i64 ((Kw.length + 1 : Nat) : Int), .map (some mb)][o]? := fun o => hS2.c0 o
    have hup := upd (gl := gl) (ng := ng) (v := plainV' (A.getD Kw.length 0)) h.odd hO2 hlk
    have hup' : opUpdate (cfg gl ng).toEnv 98 (.map (some mb)) (.string (tx t)) (.int .u8 (plainV' (A[Kw.length]?.getD 0))) m2 = .skip (m2.setB (mb / 2) (mapB (Kw ++ [(tx t, plainV' (A.getD Kw.length 0))]))) := by simpa using hup
    simp [hnt]
    apply W.regN; simp [hnt, hc2, hup, hup']
    repeat apply W.seq
    apply W.regN; simp [hnt]
    try apply W.ret
    refine U.ret (by simp [unwind.results, Tryz.f57] <;> rfl) rfl ?_
    rw [← hQ]
    refine ⟨σ, Kn.le_refl _, ?_⟩
    have e : onceR tx A t Kw = .done (plainV' (A.getD Kw.length 0)) (Kw ++ [(tx t, plainV' (A.getD Kw.length 0))]) := by simp only [onceR, hlk, if_pos hlt]
    rw [e]
    have hS3 := hS2.setO hO2 List.mem_cons_self (mapB (Kw ++ [(tx t, plainV' (A.getD Kw.length 0))]))
    have hO3 := hO2.set (bl' := mapB (Kw ++ [(tx t, plainV' (A.getD Kw.length 0))])) (fun c e => by cases e)
    refine ⟨_, rfl, by simp [retV], ⟨?_, hO3, h.odd, h.av, by simp; omega, h.lim⟩⟩
    have := hS3.drop (L' := sCl sb av (Kw.length + 1) mb :: L) (List.Sublist.cons_cons _ (List.sublist_cons_self _ _))
    simpa using this
   obtain ⟨v, rfl, hv, h2⟩ := ho.2 hlt
   simp [hnt]
   refine U.panic rfl ?_
   rw [← hQ]
   refine ⟨σ, Kn.le_refl _, ?_⟩
   have e : onceR tx A t Kw = .stop t Kw := by simp only [onceR, hlk, if_neg hlt]
   rw [e]
   exact ⟨v, rfl, hv, ⟨h2.s.drop (List.Sublist.cons_cons _ (List.sublist_cons_self _ _)), h2.o, h.odd, h.av, h.le, h.lim⟩⟩
  cases hc
theorem runQ_once {tx : T → ByteArray} : runQ tx A (.ask t .ret) Kw = match onceR tx A t Kw with
 | .done v Kw' => .done (decide (v = 2)) Kw'
 | .stop t' Kw' => .stop t' Kw' := by
 simp only [runQ, onceR]
 cases lookK Kw (tx t) with
 | some v => rfl
 | none => simp only; split <;> rfl
theorem f29_ok {rv : Value} {g : List RuleD} (h : Srch gl ng σ0 m0 σ m L O sb av A mb Kw) (hg : RulesV σ rv g) (hru : RulesOk g) (ht : TreeK σ tv t) (hwt : wt t < 1048575) (hn : nodes t ≤ 1024) (hok : OkN g t) :
 C (cfg gl ng) 29 [.pointer (some ⟨sb, 0, none⟩), .agg #[rv], tv] m (ROk gl ng σ0 m0 σ L O sb av A mb (fun b _ r => r = .bool b) (runQ (textG g) A (.ask t .ret) Kw)) := by
 generalize hQ : ROk gl ng σ0 m0 σ L O sb av A mb (fun b _ r => r = .bool b) (runQ (textG g) A (.ask t .ret) Kw) = Q
 refine ofU (c := _) Tryz.func29 rfl 14 rfl (fun c hnt _ _ => ?_)
 obtain ⟨bg, og, hg1, _⟩ := id hg
 have ht0 := ht
 obtain ⟨x, y, z, rfl, px, py, pz⟩ := ht.agg
 have hS := h.s
 obtain ⟨m1, nb4, hbx1, hS1⟩ := hS.box 24 #[rv] (by simp [hg1.plain])
 have hO1 := h.o.box hS.wf hbx1
 obtain ⟨m2, nb5, hbx2, hS2⟩ := hS1.box 27 #[x, y, z] (by simp [px, py, pz])
 have hO2 := hO1.box hS1.wf hbx2
 repeat apply W.seq
 apply W.regN; simp [hnt, hbx1, hbx2]
 obtain ⟨ex1, ey1, ez1⟩ := ht0.beq 8
 repeat apply W.seq
 refine W.regP [(3, 4)] [3, 4] (by as_aux_lemma => kernel_rfl) ?_
 simp [hnt, hS2.c0, hS2.c1]
 refine Ct.use (f42_ok (wt t) t σ m2 rv _ g (Nat.le_refl _) (by omega) hn hS2.wf hS2.holds hg hru ht0 hok) (fun σ3 v3 m3 hl3 hv3 => ?_)
 subst hv3
 have hS3 := hS2.grow hl3.grow
 have hO3 := hO2.grow hS2.wf hl3.grow
 have hS3' := hS3.perm (L' := sCl sb av Kw.length mb :: (nb5, ⟨[x, y, z], none⟩) :: (nb4, ⟨[rv], none⟩) :: L) (List.perm_middle (l₁ := [_, _]))
 have h3 : Srch gl ng σ0 m0 σ m3 ((nb5, ⟨[x, y, z], none⟩) :: (nb4, ⟨[rv], none⟩) :: L) O sb av A mb Kw := ⟨hS3', hO3, h.odd, h.av, h.le, h.lim⟩
 simp [hnt, hS3.c0, hS3.c1]
 refine C.mono (f57_ok (tx := textG g) h3 ht0) (fun out m4 ho => ?_)
 obtain ⟨σ4, hle4, hr⟩ := ho
 cases hon : onceR (textG g) A t Kw with
 | done v Kw' =>
  rw [hon] at hr
  obtain ⟨_, rfl, rfl, h4⟩ := hr
  have hS4 := h4.s
  simp [hnt]
  refine ⟨?_, ?_⟩
  · simp [looseOk, getS, againOk, quiet, still, beqV, hS2.c0, hS3.c0, hS4.c1, ex1, ey1, ez1]
  try apply W.ret
  refine U.ret (by simp [unwind.results, Tryz.f29] <;> rfl) rfl ?_
  rw [← hQ]
  refine ⟨σ4, hle4, ?_⟩
  rw [runQ_once, hon]
  exact ⟨_, rfl, by simp [retV], ⟨hS4.drop (List.Sublist.cons_cons _ (List.sublist_append_right [_, _] L)), h4.o, h.odd, h4.av, h4.le, h.lim⟩⟩
 | stop t' Kw' =>
  rw [hon] at hr
  obtain ⟨v, rfl, hv, h4⟩ := hr
  have hS4 := h4.s
  simp [hnt]
  refine ⟨by kernel_rfl, by simp [forgetOk, hnt], ?_, fun t5 => ?_⟩
  · simp only [belowU]
    simp [looseOk, getS, againOk, quiet, still, beqV, hS2.c0, hS3.c0, hS4.c1, ex1, ey1, ez1]
  refine U.panic rfl ?_
  rw [← hQ]
  refine ⟨σ4, hle4, ?_⟩
  rw [runQ_once, hon]
  exact ⟨_, rfl, hv, ⟨hS4.drop (List.Sublist.cons_cons _ (List.sublist_append_right [_, _] L)), h4.o, h.odd, h4.av, h4.le, h.lim⟩⟩
end Go.Proofs.Lw
namespace Go.Proofs.Lw
open Go Go.Am
def chunk (c : List Int) (n k : Nat) : List Int := (c.drop (k * c.length / n)).take ((k + 1) * c.length / n - k * c.length / n)
def cutsL (c : List Int) (g : Nat) : List (List Int) := (List.range (min g c.length)).map (chunk c (min g c.length))
def firstQ (ask : List Int → Qs Bool) : List (List Int) → Qs (Option (List Int))
 | [] => .ret none
 | x :: r => (ask x).bind fun b => if b then .ret (some x) else firstQ ask r
def loopQ (ask : List Int → Qs Bool) : Nat → List Int → Nat → Qs (List Int)
 | 0, c, _ => .ret c
 | f + 1, c, g => if c.length < 2 then .ret c else
  (firstQ ask (cutsL c g)).bind fun
   | some x => loopQ ask f x 2
   | none => (firstQ ask ((cutsL c g).map (minusD c))).bind fun
    | some r => loopQ ask f r (max (g - 1) 2)
    | none => if c.length ≤ g then .ret c else loopQ ask f c (min (2 * g) c.length)
def lastQ (ask : List Int → Qs Bool) (c : List Int) : Qs (List Int) := if c.length = 1 then (ask []).bind fun b => .ret (if b then [] else c) else .ret c
def fuelQ (c : List Int) (g : Nat) : Nat := c.length * 2001 + (2000 - g)
def minQ (ask : List Int → Qs Bool) (c : List Int) : Qs (List Int) := (loopQ ask (fuelQ c 2 + 1) c 2).bind (lastQ ask)
theorem chunk_le {c : List Int} {n k : Nat} (hn : 0 < n) (hk : k < n) : k * c.length / n ≤ (k + 1) * c.length / n ∧ (k + 1) * c.length / n ≤ c.length := by
 refine ⟨Nat.div_le_div_right (Nat.mul_le_mul_right _ (Nat.le_succ k)), ?_⟩
 apply Nat.div_le_of_le_mul
 exact Nat.mul_le_mul_right _ hk
theorem chunk_len {c : List Int} {n k : Nat} (hn : 0 < n) (hk : k < n) : (chunk c n k).length = (k + 1) * c.length / n - k * c.length / n := by
 have := chunk_le (c := c) hn hk
 simp only [chunk, List.length_take, List.length_drop]
 omega
theorem chunk_pos {c : List Int} {n k : Nat} (hn : 0 < n) (hk : k < n) (hl : n ≤ c.length) : 0 < (chunk c n k).length := by
 rw [chunk_len hn hk]
 have h1 : k * c.length / n + 1 ≤ (k + 1) * c.length / n := by
  rw [← Nat.add_div_right _ hn]
  apply Nat.div_le_div_right
  rw [Nat.succ_mul]
  omega
 omega
theorem chunk_lt {c : List Int} {n k : Nat} (hn : 2 ≤ n) (hk : k < n) (hc : 2 ≤ c.length) : (chunk c n k).length < c.length := by
 rw [chunk_len (by omega) hk]
 have h1 := chunk_le (c := c) (show 0 < n by omega) hk
 rcases Nat.lt_or_ge ((k + 1) * c.length / n - k * c.length / n) c.length with h | h
 · exact h
 exfalso
 have key : ∀ p q l : Nat, q ≤ p ∧ p ≤ l → l ≤ p - q → p = l ∧ (q = 0 ∨ l = 0) := by intro p q l; omega
 obtain ⟨h2, h3⟩ := key _ _ _ h1 h
 have h3 : k * c.length / n = 0 := h3.resolve_right (by omega)
 have h4 : k * c.length < n := by
  rcases Nat.lt_or_ge (k * c.length) n with h | h
  · exact h
  have := Nat.div_pos h (by omega); omega
 have h5 : c.length * n ≤ (k + 1) * c.length := by
  have := Nat.div_mul_le_self ((k + 1) * c.length) n
  rw [h2] at this; exact this
 have h6 : n ≤ k + 1 := by
  rw [Nat.mul_comm] at h5
  exact Nat.le_of_mul_le_mul_right h5 (by omega)
 have h7 : k = n - 1 := by omega
 subst h7
 have : (n - 1) * 2 ≤ (n - 1) * c.length := Nat.mul_le_mul_left _ hc
 omega
theorem chunk_sub {c : List Int} {n k : Nat} : (chunk c n k).Sublist c := (List.take_sublist _ _).trans (List.drop_sublist _ _)
theorem minus_lt {c x : List Int} (hs : x.Sublist c) (hx : 0 < x.length) : (minusD c x).length < c.length := by
 cases x with
 | nil => simp at hx
 | cons a r =>
  have ha : a ∈ c := hs.subset (by simp)
  unfold minusD
  exact List.length_filter_lt_length_iff_exists.2 ⟨a, ha, by simp⟩
end Go.Proofs.Lw
