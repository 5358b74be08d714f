/-
  PROVED here: steps on the way to the card of 'sleuthlaw06.ReduceTreeMinimal' (an abstract machine, its soundness, what each function computes). No conditions beyond those that each theorem states.
-/
import Derived.Test.YtfgpboldklboaaaGreatDoorAm11
namespace Go.Proofs.Lw
open Go Go.Am
variable {gl : Nat → Nat → Option Value} {ng : Nat}
def IntsR (E : Env) (m : Mem) (v : Value) (l : List Int) : Prop := ∃ b o, SliceAt v l.length b o ∧ ∀ (i : Nat) (n : Int), l[i]? = some n → m.load E b (o + i) = some (.int .i64 n)
theorem IntsR.keep {E : Env} {m m' : Mem} (h : Reads E m m') {v : Value} {l : List Int} (hv : IntsR E m v l) : IntsR E m' v l := by
 obtain ⟨b, o, h1, h2⟩ := hv
 exact ⟨b, o, h1, fun i n hi => h _ _ _ (h2 i n hi)⟩
theorem IntsR.len {m : Mem} {v : Value} {l : List Int} (h : IntsR (cfg gl ng).toEnv m v l) {m' : Mem} : opLen (cfg gl ng) 53 v m' = .value (.int .i64 l.length) m' := by
 obtain ⟨b, o, h1, _⟩ := h
 exact len53 h1
theorem IntsR.at {m : Mem} {v : Value} {l : List Int} (h : IntsR (cfg gl ng).toEnv m v l) {i : Nat} {n : Int} (hi : l[i]? = some n) :
 ∃ b o, (∀ m', opIndexAddr (cfg gl ng).toEnv 53 v (.int .i64 i) m' = .value (.pointer (some ⟨b, o, none⟩)) m') ∧ m.load (cfg gl ng).toEnv b o = some (.int .i64 n) := by
 have hlt : i < l.length := by
  rcases Nat.lt_or_ge i l.length with h | h
  · exact h
  rw [List.getElem?_eq_none h] at hi; cases hi
 obtain ⟨b, o, h1, h2⟩ := h
 exact ⟨b, o + i, fun m' => ia53 h1 hlt, h2 i n hi⟩
theorem f41_ok {m : Mem} {v : Value} {l : List Int} {n : Int} (h : IntsR (cfg gl ng).toEnv m v l) (hlen : l.length < 1048576) :
 C (cfg gl ng) 41 [v, .int .i64 n] m (fun out m' => out = .returned (.bool (l.contains n)) ∧ m' = m) := by
 refine C.of (c := _) Tryz.func41 rfl ?_
 generalize hx : ({ fn := 41, deferred := false, round := none, nt := Tryz.f41.ntmps } : Ctx) = x
 have hnt : x.nt = 18 := by rw [← hx]; rfl
 clear hx
 apply W.seq
 apply W.reg
 simp [wpO, upon, dstOk, hnt, guardOk, wantedV, opV, evalT, putT, EndQ, Then, flat]
 apply W.seq
 apply W.seq
 apply W.reg
 simp [wpO, upon, dstOk, hnt, guardOk, wantedV, opV, evalT, putT, EndQ, Then, flat]
 apply W.block
 refine W.loop (fun s => s.tmps.get 0 = some v ∧ s.tmps.get 1 = some (.int .i64 n) ∧ s.tmps.get 4 = some (.bool false) ∧ s.m = m ∧ s.defers = [] ∧ s.cm = none ∧
  ∃ i : Nat, s.tmps.get 5 = some (.int .i64 i) ∧ i ≤ l.length ∧ (∀ j, j < i → l[j]? ≠ some n))
  (fun s => l.length - (match s.tmps.get 5 with | some (.int _ i) => i.toNat | _ => 0)) ?_ ?_
 · simp [Tr.get_set, Tr.get_putAll]
   exact ⟨0, by simp⟩
 rintro ⟨t, ds, cm, m'⟩ ⟨h0, h1, h4, rfl, rfl, rfl, i, h5, hi, hno⟩
 simp only at h0 h1 h4 h5
 apply W.seq
 apply W.seq
 apply W.reg
 simp [wpO, upon, dstOk, hnt, guardOk, wantedV, opV, evalT, putT, EndQ, Then, flat, Tr.get_set, h0, h1, h5, resolveV, invokeV, opBuiltin, h.len, opBin_lss]
 refine W.cond (t := decide (i < l.length)) (by simp [evalT, Tr.get_set]) ?_
 by_cases hil : i < l.length
 ·
  simp only [hil, decide_true, if_true]
  apply W.skip
  simp only [Then]
  apply W.seq
  apply W.block
  apply W.seq
  apply W.reg
  obtain ⟨b, o, e1, e2⟩ := h.at (i := i) (n := l[i]) (by simp [hil])
  simp [wpO, upon, dstOk, hnt, guardOk, wantedV, opV, evalT, putT, EndQ, Then, flat, Tr.get_set, h0, h1, h5, e1, ld3 e2, opBin_eql]
  refine W.cond (t := decide (l[i] = n)) (by simp [evalT, Tr.get_set]) ?_
  by_cases hin : l[i] = n
  ·
   simp only [hin, decide_true, if_true]
   apply W.seq
   apply W.reg
   simp [wpO, upon, dstOk, hnt, guardOk, wantedV, opV, evalT, putT, EndQ, Then, flat]
   apply W.ret
   simp [InBlk, Then, unwind.results, Tryz.f41, Tr.get_set, retV]
   rw [← hin]; simp
  simp only [hin, decide_false]
  apply W.skip
  simp only [InBlk, Then]
  apply W.reg
  simp [wpO, upon, dstOk, hnt, guardOk, wantedV, opV, evalT, putT, EndQ, Then, flat, Tr.get_set, h0, h1, h4, h5, opBin_add]
  rw [wrap_i64 (by omega) (by omega)]
  refine ⟨⟨i + 1, by simp, by omega, fun j hj => ?_⟩, ?_⟩
  · by_cases hji : j = i
    · subst hji; simp [hil]; exact hin
    exact hno j (by omega)
  have e9 : ((i : Int) + 1).toNat = i + 1 := by omega
  rw [e9]
  omega
 simp only [hil, decide_false]
 apply W.exit
 simp [InBlk, Then]
 apply W.seq
 apply W.reg
 simp [wpO, upon, dstOk, hnt, guardOk, wantedV, opV, evalT, putT, EndQ, Then, flat]
 apply W.ret
 simp [unwind.results, Tryz.f41, Tr.get_set, retV]
 intro hc
 obtain ⟨j, hj, e⟩ := List.getElem_of_mem hc
 exact hno j (by omega) (by simp [hj, e])
end Go.Proofs.Lw
namespace Go.Proofs.Lw
open Go Go.Am
variable {gl : Nat → Nat → Option Value} {ng : Nat}
def RiseAt (l : List Int) (n : Int) (i : Nat) : Prop := ∀ x, l[i]? = some x → 0 ≤ x ∧ x < n ∧ (i = 0 ∨ ∀ y, l[i - 1]? = some y → y < x)
def Rises (l : List Int) (n : Int) : Prop := ∀ i, i < l.length → RiseAt l n i
theorem f69_ok {m : Mem} {v : Value} {l : List Int} {n : Int} (h : IntsR (cfg gl ng).toEnv m v l) (hlen : l.length < 9223372036854775808) :
 C (cfg gl ng) 69 [v, .int .i64 n] m (fun out m' => (∃ b, out = .returned (.bool b) ∧ (b = true ↔ Rises l n)) ∧ m' = m) := by
 refine C.of (c := _) Tryz.func69 rfl ?_
 generalize hx : ({ fn := 69, deferred := false, round := none, nt := Tryz.f69.ntmps } : Ctx) = x
 have hnt : x.nt = 41 := by rw [← hx]; rfl
 clear hx
 apply W.seq
 apply W.reg
 simp [wpO, upon, dstOk, hnt, guardOk, wantedV, opV, evalT, putT, EndQ, Then, flat]
 apply W.seq
 apply W.seq
 apply W.reg
 simp [wpO, upon, dstOk, hnt, guardOk, wantedV, opV, evalT, putT, EndQ, Then, flat]
 apply W.block
 refine W.loop (fun s => s.tmps.get 0 = some v ∧ s.tmps.get 1 = some (.int .i64 n) ∧ s.m = m ∧ s.defers = [] ∧ s.cm = none ∧
  ∃ i : Nat, s.tmps.get 5 = some (.int .i64 i) ∧ i ≤ l.length ∧ (∀ j, j < i → RiseAt l n j))
  (fun s => l.length - (match s.tmps.get 5 with | some (.int _ i) => i.toNat | _ => 0)) ?_ ?_
 · simp [Tr.get_set, Tr.get_putAll]
   exact ⟨0, by simp⟩
 rintro ⟨t, ds, cm, m'⟩ ⟨h0, h1, rfl, rfl, rfl, i, h5, hi, hno⟩
 simp only at h0 h1 h5
 apply W.seq
 apply W.seq
 apply W.reg
 simp [wpO, upon, dstOk, hnt, guardOk, wantedV, opV, evalT, putT, EndQ, Then, flat, Tr.get_set, h0, h5, resolveV, invokeV, opBuiltin, h.len, opBin_lss]
 refine W.cond (t := decide (i < l.length)) (by simp [evalT, Tr.get_set]) ?_
 by_cases hil : i < l.length
 ·
  simp only [hil, decide_true, if_true]
  apply W.skip
  simp only [Then]
  obtain ⟨b, o, e1, e2⟩ := h.at (i := i) (n := l[i]) (by simp [hil])
  apply W.seq
  apply W.block
  apply W.seq
  refine W.regD (by kernel_rfl) ?_
  have hget : l[i]? = some l[i] := by simp [hil]
  have hgo : ∀ (t' : Tr Value) (bad : Bool), t'.get 40 = some (.bool bad) → t'.get 0 = some v → t'.get 1 = some (.int .i64 n) → t'.get 5 = some (.int .i64 i) → (bad = false ↔ RiseAt l n i) → True := fun _ _ _ _ _ _ _ => trivial
  by_cases c1 : l[i] < 0
  ·
   simp [wpN_cons, wpN_nil, stepN_value, dstOk, hnt, guardOk, wantedV, opV, evalT, putT, EndD, Then, flat, ku, Tr.get_set, h0, h1, h5, e1, ld3 e2, opBin_lss, opPick, c1]
   refine W.cond (t := true) (by simp [evalT, Tr.get_set]) ?_
   simp only [if_true]
   apply W.seq
   apply W.reg
   simp [wpO, upon, dstOk, hnt, guardOk, wantedV, opV, evalT, putT, EndQ, Then, flat]
   apply W.ret
   simp [InBlk, Then, unwind.results, Tr.get_set, retV]
   intro hr
   have := (hr i hil l[i] hget).1
   omega
  by_cases c2 : n ≤ l[i]
  ·
   simp [wpN_cons, wpN_nil, stepN_value, dstOk, hnt, guardOk, wantedV, opV, evalT, putT, EndD, Then, flat, ku, Tr.get_set, h0, h1, h5, e1, ld3 e2, opBin_lss, opBin_geq, opBin_gtr, opBin_sub, opPick, c1, c2]
   refine W.cond (t := true) (by simp [evalT, Tr.get_set]) ?_
   simp only [if_true]
   apply W.seq
   apply W.reg
   simp [wpO, upon, dstOk, hnt, guardOk, wantedV, opV, evalT, putT, EndQ, Then, flat]
   apply W.ret
   simp [InBlk, Then, unwind.results, Tr.get_set, retV]
   intro hr
   have := (hr i hil l[i] hget).2.1
   omega
  by_cases c3 : i = 0
  ·
   have c3' : ¬ (0 < i) := by omega
   simp [wpN_cons, wpN_nil, stepN_value, dstOk, hnt, guardOk, wantedV, opV, evalT, putT, EndD, Then, flat, ku, Tr.get_set, h0, h1, h5, e1, ld3 e2, opBin_lss, opBin_geq, opBin_gtr, opBin_sub, opPick, c1, c2, c3']
   refine W.cond (t := false) (by simp [evalT, Tr.get_set]) ?_
   simp only [Bool.false_eq_true, if_false]
   apply W.skip
   simp only [InBlk, Then]
   apply W.reg
   simp [wpO, upon, dstOk, hnt, guardOk, wantedV, opV, evalT, putT, EndQ, Then, flat, Tr.get_set, h0, h1, h5, opBin_add]
   rw [wrap_i64 (by omega) (by omega)]
   refine ⟨⟨i + 1, by simp, by omega, fun j hj => ?_⟩, ?_⟩
   · by_cases hji : j = i
     · subst hji
       intro z hz
       rw [hget] at hz; cases hz
       exact ⟨by omega, by omega, .inl c3⟩
     exact hno j (by omega)
   have e9 : ((i : Int) + 1).toNat = i + 1 := by omega
   rw [e9]
   omega
  have c3' : 0 < i := by omega
  have hw : IntKind.i64.wrap ((i : Int) - 1) = ((i - 1 : Nat) : Int) := by rw [wrap_i64 (by omega) (by omega)]; omega
  have hget1 : l[i - 1]? = some l[i - 1] := by simp
  obtain ⟨b1, o1, e3, e4⟩ := h.at (i := i - 1) (n := l[i - 1]) hget1
  by_cases c4 : l[i] ≤ l[i - 1]
  ·
   simp [wpN_cons, wpN_nil, stepN_value, dstOk, hnt, guardOk, wantedV, opV, evalT, putT, EndD, Then, flat, ku, Tr.get_set, h0, h1, h5, e1, ld3 e2, opBin_lss, opBin_geq, opBin_gtr, opBin_sub, opPick, c1, c2, c3', hw, e3, ld3 e4, c4]
   refine W.cond (t := true) (by simp [evalT, Tr.get_set]) ?_
   simp only [if_true]
   apply W.seq
   apply W.reg
   simp [wpO, upon, dstOk, hnt, guardOk, wantedV, opV, evalT, putT, EndQ, Then, flat]
   apply W.ret
   simp [InBlk, Then, unwind.results, Tr.get_set, retV]
   intro hr
   have := (hr i hil l[i] hget).2.2.resolve_left c3 _ hget1
   omega
  simp [wpN_cons, wpN_nil, stepN_value, dstOk, hnt, guardOk, wantedV, opV, evalT, putT, EndD, Then, flat, ku, Tr.get_set, h0, h1, h5, e1, ld3 e2, opBin_lss, opBin_geq, opBin_gtr, opBin_sub, opPick, c1, c2, c3', hw, e3, ld3 e4, c4]
  refine W.cond (t := false) (by simp [evalT, Tr.get_set]) ?_
  simp only [Bool.false_eq_true, if_false]
  apply W.skip
  simp only [InBlk, Then]
  apply W.reg
  simp [wpO, upon, dstOk, hnt, guardOk, wantedV, opV, evalT, putT, EndQ, Then, flat, Tr.get_set, h0, h1, h5, opBin_add]
  rw [wrap_i64 (by omega) (by omega)]
  refine ⟨⟨i + 1, by simp, by omega, fun j hj => ?_⟩, ?_⟩
  ·
   by_cases hji : j = i
   · subst hji
     intro z hz
     rw [hget] at hz; cases hz
     refine ⟨by omega, by omega, .inr (fun y hy => ?_)⟩
     rw [hget1] at hy; cases hy
     omega
   exact hno j (by omega)
  have e9 : ((i : Int) + 1).toNat = i + 1 := by omega
  rw [e9]
  omega
 simp only [hil, decide_false]
 apply W.exit
 simp [InBlk, Then]
 apply W.seq
 apply W.reg
 simp [wpO, upon, dstOk, hnt, guardOk, wantedV, opV, evalT, putT, EndQ, Then, flat]
 apply W.ret
 simp [unwind.results, Tr.get_set, retV]
 intro j hj
 exact hno j (by omega)
end Go.Proofs.Lw
namespace Go.Proofs.Lw
open Go Go.Am
variable {gl : Nat → Nat → Option Value} {ng : Nat}
theorem f46_ok {m : Mem} {v : Value} {l : List Int} {n : Int} (h : IntsR (cfg gl ng).toEnv m v l) (hlen : l.length < 9223372036854775808) :
 C (cfg gl ng) 46 [v, .int .i64 n] m (fun out m' => (∃ b, out = .returned (.bool b) ∧ (b = true ↔ Rises l n)) ∧ m' = m) := by
 refine C.of (c := _) Tryz.func46 rfl ?_
 generalize hx : ({ fn := 46, deferred := false, round := none, nt := Tryz.f46.ntmps } : Ctx) = x
 have hnt : x.nt = 35 := by rw [← hx]; rfl
 clear hx
 apply W.seq
 apply W.regN; simp [wpN_cons, wpN_nil, stepN_value, dstOk, hnt, guardOk, wantedV, opV, evalT, putT, EndN, Then, flat]
 apply W.seq
 apply W.seq
 apply W.regN; simp [wpN_cons, wpN_nil, stepN_value, dstOk, hnt, guardOk, wantedV, opV, evalT, putT, EndN, Then, flat, Tr.get_set, Tr.get_putAll, resolveV, invokeV, opBuiltin, h.len]
 apply W.block
 refine W.loop (fun s => s.tmps.get 0 = some v ∧ s.tmps.get 7 = some v ∧ s.tmps.get 8 = some (.int .i64 l.length) ∧ s.tmps.get 1 = some (.int .i64 n) ∧ s.m = m ∧ s.defers = [] ∧ s.cm = none ∧
  ∃ i : Nat, s.tmps.get 9 = some (.int .i64 i) ∧ i ≤ l.length ∧ (∀ j, j < i → RiseAt l n j))
  (fun s => l.length - (match s.tmps.get 9 with | some (.int _ i) => i.toNat | _ => 0)) ?_ ?_
 · simp [Tr.get_set, Tr.get_putAll]
   exact ⟨0, by simp⟩
 rintro ⟨t, ds, cm, m'⟩ ⟨h0, h7, h8, h1, rfl, rfl, rfl, i, h9, hi, hno⟩
 simp only at h0 h7 h8 h1 h9
 apply W.seq
 apply W.regN; simp [wpN_cons, wpN_nil, stepN_value, dstOk, hnt, guardOk, wantedV, opV, evalT, putT, EndN, Then, flat, Tr.get_set, h8, h9, opBin_lss]
 apply W.seq
 refine W.cond (t := decide (i < l.length)) (by simp [evalT, Tr.get_set]) ?_
 by_cases hil : i < l.length
 ·
  simp only [hil, decide_true, if_true]
  apply W.skip
  simp only [Then]
  obtain ⟨b, o, e1, e2⟩ := h.at (i := i) (n := l[i]) (by simp [hil])
  have hget : l[i]? = some l[i] := by simp [hil]
  apply W.seq
  apply W.block
  apply W.seq
  apply W.regN; simp [wpN_cons, wpN_nil, stepN_value, dstOk, hnt, guardOk, wantedV, opV, evalT, putT, EndN, Then, flat, Tr.get_set, h7, h9, e1, ld3 e2]
  apply W.seq
  apply W.regN
  by_cases c1 : l[i] < 0
  ·
   simp [wpN_cons, wpN_nil, stepN_value, dstOk, hnt, guardOk, wantedV, opV, evalT, putT, EndN, Then, flat, ku, Tr.get_set, h0, h1, h7, h8, h9, opBin_lss, opBin_geq, opBin_gtr, opBin_sub, opPick, c1]
   refine W.cond (t := true) (by simp [evalT, Tr.get_set]) ?_
   simp only [if_true]
   apply W.seq
   apply W.regN; simp [wpN_cons, wpN_nil, stepN_value, dstOk, hnt, guardOk, wantedV, opV, evalT, putT, EndN, Then, flat]
   apply W.ret
   simp [InBlk, Then, unwind.results, Tr.get_set, retV]
   intro hr
   have := (hr i hil l[i] hget).1
   omega
  by_cases c2 : n ≤ l[i]
  ·
   simp [wpN_cons, wpN_nil, stepN_value, dstOk, hnt, guardOk, wantedV, opV, evalT, putT, EndN, Then, flat, ku, Tr.get_set, h0, h1, h7, h8, h9, opBin_lss, opBin_geq, opBin_gtr, opBin_sub, opPick, c1, c2]
   refine W.cond (t := true) (by simp [evalT, Tr.get_set]) ?_
   simp only [if_true]
   apply W.seq
   apply W.regN; simp [wpN_cons, wpN_nil, stepN_value, dstOk, hnt, guardOk, wantedV, opV, evalT, putT, EndN, Then, flat]
   apply W.ret
   simp [InBlk, Then, unwind.results, Tr.get_set, retV]
   intro hr
   have := (hr i hil l[i] hget).2.1
   omega
  by_cases c3 : i = 0
  ·
   have c3' : ¬ (0 < i) := by omega
   simp [wpN_cons, wpN_nil, stepN_value, dstOk, hnt, guardOk, wantedV, opV, evalT, putT, EndN, Then, flat, ku, Tr.get_set, h0, h1, h7, h8, h9, opBin_lss, opBin_geq, opBin_gtr, opBin_sub, opPick, c1, c2, c3']
   refine W.cond (t := false) (by simp [evalT, Tr.get_set]) ?_
   simp only [Bool.false_eq_true, if_false]
   apply W.skip
   simp only [InBlk, Then]
   apply W.regN; simp [wpN_cons, wpN_nil, stepN_value, dstOk, hnt, guardOk, wantedV, opV, evalT, putT, EndN, Then, flat, Tr.get_set, h0, h1, h7, h8, h9, opBin_add]
   rw [wrap_i64 (by omega) (by omega)]
   refine ⟨⟨i + 1, by simp, by omega, fun j hj => ?_⟩, ?_⟩
   · by_cases hji : j = i
     · subst hji
       intro z hz
       rw [hget] at hz; cases hz
       exact ⟨by omega, by omega, .inl c3⟩
     exact hno j (by omega)
   have e9 : ((i : Int) + 1).toNat = i + 1 := by omega
   rw [e9]
   omega
  have c3' : 0 < i := by omega
  have hw : IntKind.i64.wrap ((i : Int) - 1) = ((i - 1 : Nat) : Int) := by rw [wrap_i64 (by omega) (by omega)]; omega
  have hget1 : l[i - 1]? = some l[i - 1] := by simp
  obtain ⟨b1, o1, e3, e4⟩ := h.at (i := i - 1) (n := l[i - 1]) hget1
  by_cases c4 : l[i] ≤ l[i - 1]
  ·
   simp [wpN_cons, wpN_nil, stepN_value, dstOk, hnt, guardOk, wantedV, opV, evalT, putT, EndN, Then, flat, ku, Tr.get_set, h0, h1, h7, h8, h9, opBin_lss, opBin_geq, opBin_gtr, opBin_sub, opPick, c1, c2, c3', hw, e3, ld3 e4, c4]
   refine W.cond (t := true) (by simp [evalT, Tr.get_set]) ?_
   simp only [if_true]
   apply W.seq
   apply W.regN; simp [wpN_cons, wpN_nil, stepN_value, dstOk, hnt, guardOk, wantedV, opV, evalT, putT, EndN, Then, flat]
   apply W.ret
   simp [InBlk, Then, unwind.results, Tr.get_set, retV]
   intro hr
   have := (hr i hil l[i] hget).2.2.resolve_left c3 _ hget1
   omega
  simp [wpN_cons, wpN_nil, stepN_value, dstOk, hnt, guardOk, wantedV, opV, evalT, putT, EndN, Then, flat, ku, Tr.get_set, h0, h1, h7, h8, h9, opBin_lss, opBin_geq, opBin_gtr, opBin_sub, opPick, c1, c2, c3', hw, e3, ld3 e4, c4]
  refine W.cond (t := false) (by simp [evalT, Tr.get_set]) ?_
  simp only [Bool.false_eq_true, if_false]
  apply W.skip
  simp only [InBlk, Then]
  apply W.regN; simp [wpN_cons, wpN_nil, stepN_value, dstOk, hnt, guardOk, wantedV, opV, evalT, putT, EndN, Then, flat, Tr.get_set, h0, h1, h7, h8, h9, opBin_add]
  rw [wrap_i64 (by omega) (by omega)]
  refine ⟨⟨i + 1, by simp, by omega, fun j hj => ?_⟩, ?_⟩
  ·
   by_cases hji : j = i
   · subst hji
     intro z hz
     rw [hget] at hz; cases hz
     refine ⟨by omega, by omega, .inr (fun y hy => ?_)⟩
     rw [hget1] at hy; cases hy
     omega
   exact hno j (by omega)
  have e9 : ((i : Int) + 1).toNat = i + 1 := by omega
  rw [e9]
  omega
 simp only [hil, decide_false]
 apply W.exit
 simp [InBlk, Then]
 apply W.seq
 apply W.regN; simp [wpN_cons, wpN_nil, stepN_value, dstOk, hnt, guardOk, wantedV, opV, evalT, putT, EndN, Then, flat]
 apply W.ret
 simp [unwind.results, Tr.get_set, retV]
 intro j hj
 exact hno j (by omega)
end Go.Proofs.Lw
namespace Go.Proofs.Lw
open Go Go.Am
variable {gl : Nat → Nat → Option Value} {ng : Nat}
theorem nodesL_get : ∀ {l : List T} {i : Nat} {t : T}, l[i]? = some t → nodes t ≤ nodesL l
 | [], i, t, h => by simp at h
 | x :: r, 0, t, h => by simp at h; subst h; simp only [nodesL]; omega
 | x :: r, i + 1, t, h => by
  have := nodesL_get (l := r) (i := i) (t := t) (by simpa using h)
  simp only [nodesL]; omega
theorem nodesSS_get : ∀ {ss : List (List T)} {i : Nat} {l : List T}, ss[i]? = some l → nodesL l ≤ nodesSS ss
 | [], i, t, h => by simp at h
 | x :: r, 0, t, h => by simp at h; subst h; simp only [nodesSS]; omega
 | x :: r, i + 1, t, h => by
  have := nodesSS_get (ss := r) (i := i) (l := t) (by simpa using h)
  simp only [nodesSS]; omega
theorem nodesL_take : ∀ {l : List T} {i : Nat} {t : T}, l[i]? = some t → nodesL (l.take (i + 1)) = nodesL (l.take i) + nodes t
 | [], i, t, h => by simp at h
 | x :: r, 0, t, h => by simp at h; subst h; simp [nodesL]
 | x :: r, i + 1, t, h => by
  have := nodesL_take (l := r) (i := i) (t := t) (by simpa using h)
  simp only [List.take_succ_cons, nodesL] at this ⊢; omega
theorem nodesSS_take : ∀ {ss : List (List T)} {i : Nat} {l : List T}, ss[i]? = some l → nodesSS (ss.take (i + 1)) = nodesSS (ss.take i) + nodesL l
 | [], i, t, h => by simp at h
 | x :: r, 0, t, h => by simp at h; subst h; simp [nodesSS]
 | x :: r, i + 1, t, h => by
  have := nodesSS_take (ss := r) (i := i) (l := t) (by simpa using h)
  simp only [List.take_succ_cons, nodesSS] at this ⊢; omega
theorem nodesL_le_take {l : List T} {i : Nat} : nodesL (l.take i) ≤ nodesL l := by
 induction l generalizing i with
 | nil => simp
 | cons x r ih => cases i with
  | zero => simp [nodesL]
  | succ i => simp only [List.take_succ_cons, nodesL]; have := ih (i := i); omega
theorem nodesSS_le_take {l : List (List T)} {i : Nat} : nodesSS (l.take i) ≤ nodesSS l := by
 induction l generalizing i with
 | nil => simp
 | cons x r ih => cases i with
  | zero => simp [nodesSS]
  | succ i => simp only [List.take_succ_cons, nodesSS]; have := ih (i := i); omega
theorem nodes_pos : ∀ (t : T), 0 < nodes t | .mk _ _ _ => by simp only [nodes]; omega
theorem len_nodesL : ∀ (l : List T), l.length ≤ nodesL l
 | [] => by simp
 | t :: r => by have := len_nodesL r; have := nodes_pos t; simp only [nodesL, List.length_cons]; omega
mutual
def wt : T → Nat
 | .mk _ _ ss => 1 + wtSS ss
def wtSS : List (List T) → Nat
 | [] => 0
 | l :: r => 1 + wtL l + wtSS r
def wtL : List T → Nat
 | [] => 0
 | t :: r => wt t + wtL r
end
mutual
theorem nodes_le_wt : ∀ (t : T), nodes t ≤ wt t
 | .mk _ _ ss => by have := nodesSS_le_wt ss; simp only [nodes, wt]; omega
theorem nodesSS_le_wt : ∀ (ss : List (List T)), nodesSS ss ≤ wtSS ss
 | [] => by simp [nodesSS]
 | l :: r => by have := nodesSS_le_wt r; have := nodesL_le_wt l; simp only [nodesSS, wtSS]; omega
theorem nodesL_le_wt : ∀ (l : List T), nodesL l ≤ wtL l
 | [] => by simp [nodesL]
 | t :: r => by have := nodes_le_wt t; have := nodesL_le_wt r; simp only [nodesL, wtL]; omega
end
theorem wtL_get : ∀ {l : List T} {i : Nat} {t : T}, l[i]? = some t → wt t ≤ wtL l
 | [], i, t, h => by simp at h
 | x :: r, 0, t, h => by simp at h; subst h; simp only [wtL]; omega
 | x :: r, i + 1, t, h => by
  have := wtL_get (l := r) (i := i) (t := t) (by simpa using h)
  simp only [wtL]; omega
theorem wtSS_get : ∀ {ss : List (List T)} {i : Nat} {l : List T}, ss[i]? = some l → wtL l < wtSS ss
 | [], i, t, h => by simp at h
 | x :: r, 0, t, h => by simp at h; subst h; simp only [wtSS]; omega
 | x :: r, i + 1, t, h => by
  have := wtSS_get (ss := r) (i := i) (l := t) (by simpa using h)
  simp only [wtSS]; omega
theorem len_wtSS : ∀ (ss : List (List T)), ss.length ≤ wtSS ss
 | [] => by simp
 | l :: r => by have := len_wtSS r; simp only [wtSS, List.length_cons]; omega
theorem callV_7 {args : List Value} {m : Mem} : callV (cfg gl ng) 7 args m = .enter 7 args m := by
 simp only [callV]
 rw [show (cfg gl ng).P.funcs[7]? = some Tryz.f7 from Tryz.func7]
 rfl
theorem f7_ok : ∀ (N : Nat) (t : T) (m : Mem) (v : Value), wt t ≤ N → N < 1048576 → WF m → TreeR (cfg gl ng).toEnv m v t →
 C (cfg gl ng) 7 [v] m (fun out m' => out = .returned (.int .i64 (nodes t)) ∧ Grow m m') := by
 intro N
 induction N with
 | zero => intro t m v h; obtain ⟨k, tx, ss⟩ := t; simp only [wt] at h; omega
 | succ N ih =>
  intro t m v hN hlim hw ht
  obtain ⟨k, tx, ss⟩ := t
  simp only [wt] at hN
  simp only [TreeR] at ht
  obtain ⟨sv, b, o, rfl, h2, h3⟩ := ht
  have hlen := len_wtSS ss
  refine C.of (c := _) Tryz.func7 rfl ?_
  generalize hx : ({ fn := 7, deferred := false, round := none, nt := Tryz.f7.ntmps } : Ctx) = x
  have hnt : x.nt = 35 := by rw [← hx]; rfl
  clear hx
  have hpl : plainV sv = true := by rcases h2 with ⟨rfl, _⟩ | ⟨c, rfl⟩ <;> rfl
  obtain ⟨m1, e1, g1, l1⟩ := newCells_ok (E := (cfg gl ng).toEnv) hw (vs := [.int .i64 k, .string tx, sv]) (t := 27) (by simp only [List.all_cons, hpl, List.all_nil]; rfl)
  have hbox : opBox 27 (.agg #[.int .i64 k, .string tx, sv]) m = .value (.pointer (some ⟨m.nb, 0, none⟩)) m1 := by simp [opBox, Value.cells, e1, ptr]
  have l1' := l1 2 sv rfl
  have h3' := SlotsAt.keep (g1.reads (E := (cfg gl ng).toEnv) hw) h3
  clear l1 hbox
  have hbox : opBox 27 (.agg #[.int .i64 k, .string tx, sv]) m = .value (.pointer (some ⟨m.nb, 0, none⟩)) m1 := by simp [opBox, Value.cells, e1, ptr]
  generalize hnb : m.nb = nb at hbox l1'
  apply W.seq
  apply W.reg
  simp [wpO, upon, dstOk, hnt, guardOk, wantedV, opV, evalT, putT, EndQ, Then, flat, Tr.get_putAll, hbox]
  apply W.seq
  apply W.reg
  simp [wpO, upon, dstOk, hnt, guardOk, wantedV, opV, evalT, putT, EndQ, Then, flat]
  apply W.seq
  apply W.seq
  apply W.reg
  simp [wpO, upon, dstOk, hnt, guardOk, wantedV, opV, evalT, putT, EndQ, Then, flat]
  apply W.block
  refine W.loop (fun s => s.tmps.get 1 = some (.pointer (some ⟨nb, 0, none⟩)) ∧ Grow m1 s.m ∧ s.defers = [] ∧ s.cm = none ∧
   ∃ i : Nat, s.tmps.get 4 = some (.int .i64 i) ∧ i ≤ ss.length ∧ s.tmps.get 3 = some (.int .i64 ((1 + nodesSS (ss.take i) : Nat) : Int)))
   (fun s => ss.length - (match s.tmps.get 4 with | some (.int _ i) => i.toNat | _ => 0)) ?_ ?_
  · simp [Tr.get_set, Grow.refl g1.wf]
    exact ⟨0, by simp [nodesSS]⟩
  rintro ⟨t, ds, cm, m'⟩ ⟨q1, gm, rfl, rfl, i, q4, hi, q3⟩
  simp only at q1 q4 q3 gm
  have r1 := gm.reads (E := (cfg gl ng).toEnv) g1.wf
  have l2 := r1 _ _ _ l1'
  have h3i := SlotsAt.keep r1 h3'
  apply W.seq
  apply W.seq
  apply W.reg
  simp [wpO, upon, dstOk, hnt, guardOk, wantedV, opV, evalT, putT, EndQ, Then, flat, Tr.get_set, q1, q4, resolveV, invokeV, opBuiltin, fa27_2, ld25 l2, len25 h2, opBin_lss]
  refine W.cond (t := decide (i < ss.length)) (by simp [evalT, Tr.get_set]) ?_
  by_cases hil : i < ss.length
  ·
   simp only [hil, decide_true, if_true]
   apply W.skip
   simp only [Then]
   have hsi : ss[i]? = some ss[i] := by simp [hil]
   obtain ⟨lv, b1, o1, a1, a2, a3⟩ := SlotsAt.get h3i hsi
   have hwl := wtSS_get hsi
   have hnl := nodesL_le_wt ss[i]
   have hns := nodesSS_le_wt ss
   have htk := nodesSS_take hsi
   have hle1 := nodesSS_le_take (l := ss) (i := i)
   have hle2 := nodesSS_le_take (l := ss) (i := i + 1)
   have hll := len_nodesL ss[i]
   generalize ss[i] = l at *
   apply W.seq
   apply W.block
   apply W.seq
   apply W.reg
   simp [wpO, upon, dstOk, hnt, guardOk, wantedV, opV, evalT, putT, EndQ, Then, flat]
   apply W.block
   refine W.loop (fun s => s.tmps.get 1 = some (.pointer (some ⟨nb, 0, none⟩)) ∧ s.tmps.get 4 = some (.int .i64 i) ∧ Grow m' s.m ∧ s.defers = [] ∧ s.cm = none ∧
    ∃ j : Nat, s.tmps.get 5 = some (.int .i64 j) ∧ j ≤ l.length ∧ s.tmps.get 3 = some (.int .i64 ((1 + nodesSS (ss.take i) + nodesL (l.take j) : Nat) : Int)))
    (fun s => l.length - (match s.tmps.get 5 with | some (.int _ i) => i.toNat | _ => 0)) ?_ ?_
   · simp [Tr.get_set, q1, q4, q3, Grow.refl gm.wf]
     exact ⟨0, by simp [nodesL]⟩
   rintro ⟨t, ds, cm, m2⟩ ⟨p1, p4, gm2, rfl, rfl, j, p5, hj, p3⟩
   simp only at p1 p4 p5 p3 gm2
   have r2 := gm2.reads (E := (cfg gl ng).toEnv) gm.wf
   have l3 := r2 _ _ _ l2
   have a1' := r2 _ _ _ a1
   have a3' := TreesAt.keep r2 a3
   apply W.seq
   apply W.seq
   apply W.reg
   simp [wpO, upon, dstOk, hnt, guardOk, wantedV, opV, evalT, putT, EndQ, Then, Tr.get_set, p1, p4, p5, resolveV, invokeV, opBuiltin, fa27_2, ld25 l3, ia25 h2 hil, ld59 a1', len59 a2, opBin_lss]
   refine W.cond (t := decide (j < l.length)) (by simp [evalT, Tr.get_set]) ?_
   by_cases hjl : j < l.length
   ·
    simp only [hjl, decide_true, if_true]
    apply W.skip
    simp only [Then]
    have hsj : l[j]? = some l[j] := by simp [hjl]
    obtain ⟨x1, y1, z1, c1, c2, c3, c4⟩ := TreesAt.get a3' hsj
    have hwt := wtL_get hsj
    have hnt2 := nodes_le_wt l[j]
    have htk2 := nodesL_take hsj
    have hle3 := nodesL_le_take (l := l) (i := j + 1)
    generalize l[j] = tj at *
    apply W.seq
    apply W.block
    apply W.reg
    simp [wpO, upon, dstOk, hnt, guardOk, wantedV, opV, evalT, putT, EndQ, Then, Tr.get_set, p1, p3, p4, p5, resolveV, invokeV, opBuiltin, fa27_2, ld25 l3, ia25 h2 hil, ld59 a1', ia59 a2 hjl, ld27 c1 c2 c3, callV_7]
    refine C.mono (ih tj m2 _ (by omega) (by omega) gm2.wf c4) (fun out m3 ho => ?_)
    obtain ⟨rfl, g3⟩ := ho
    simp [InBlk, Then, Tr.get_set, opBin_add]
    apply W.reg
    simp [wpO, upon, dstOk, hnt, guardOk, wantedV, opV, evalT, putT, EndQ, Then, flat, Tr.get_set, p1, p3, p4, p5, opBin_add]
    rw [wrap_i64 (n := (j : Int) + 1) (by omega) (by omega), wrap_i64 (by omega) (by omega)]
    refine ⟨⟨gm2.trans g3, j + 1, by simp, by omega, ?_⟩, ?_⟩
    · rw [htk2]; simp; omega
    have e9 : ((j : Int) + 1).toNat = j + 1 := by omega
    rw [e9]
    omega
   simp only [hjl, decide_false]
   apply W.exit
   simp [InBlk, Then]
   have hje : j = l.length := by omega
   subst hje
   apply W.reg
   simp [wpO, upon, dstOk, hnt, guardOk, wantedV, opV, evalT, putT, EndQ, Then, flat, Tr.get_set, p1, p3, p4, opBin_add]
   rw [wrap_i64 (by omega) (by omega)]
   refine ⟨⟨gm.trans gm2, i + 1, by simp, by omega, ?_⟩, ?_⟩
   · rw [htk]; simp; omega
   have e9 : ((i : Int) + 1).toNat = i + 1 := by omega
   rw [e9]
   omega
  simp only [hil, decide_false]
  apply W.exit
  simp [InBlk, Then]
  apply W.seq
  apply W.reg
  simp [wpO, upon, dstOk, hnt, guardOk, wantedV, opV, evalT, putT, EndQ, Then, flat, Tr.get_set, q3]
  apply W.ret
  have hie : i = ss.length := by omega
  subst hie
  simp [unwind.results, Tr.get_set, retV, nodes]
  exact g1.trans gm
end Go.Proofs.Lw
namespace Go.Proofs.Lw
open Go Go.Am
variable {gl : Nat → Nat → Option Value} {ng : Nat}
mutual
def depth : T → Nat
 | .mk _ _ ss => dSS ss + 1
def dSS : List (List T) → Nat
 | [] => 0
 | l :: r => max (dL l) (dSS r)
def dL : List T → Nat
 | [] => 0
 | t :: r => max (depth t) (dL r)
end
theorem dL_take : ∀ {l : List T} {i : Nat} {t : T}, l[i]? = some t → dL (l.take (i + 1)) = max (dL (l.take i)) (depth t)
 | [], i, t, h => by simp at h
 | x :: r, 0, t, h => by simp at h; subst h; simp [dL]
 | x :: r, i + 1, t, h => by
  have := dL_take (l := r) (i := i) (t := t) (by simpa using h)
  simp only [List.take_succ_cons, dL] at this ⊢; omega
theorem dSS_take : ∀ {ss : List (List T)} {i : Nat} {l : List T}, ss[i]? = some l → dSS (ss.take (i + 1)) = max (dSS (ss.take i)) (dL l)
 | [], i, t, h => by simp at h
 | x :: r, 0, t, h => by simp at h; subst h; simp [dSS]
 | x :: r, i + 1, t, h => by
  have := dSS_take (ss := r) (i := i) (l := t) (by simpa using h)
  simp only [List.take_succ_cons, dSS] at this ⊢; omega
mutual
theorem depth_le_wt : ∀ (t : T), depth t ≤ wt t
 | .mk _ _ ss => by have := dSS_le_wt ss; simp only [depth, wt]; omega
theorem dSS_le_wt : ∀ (ss : List (List T)), dSS ss ≤ wtSS ss
 | [] => by simp [dSS]
 | l :: r => by have := dSS_le_wt r; have := dL_le_wt l; simp only [dSS, wtSS]; omega
theorem dL_le_wt : ∀ (l : List T), dL l ≤ wtL l
 | [] => by simp [dL]
 | t :: r => by have := depth_le_wt t; have := dL_le_wt r; simp only [dL, wtL]; omega
end
theorem callV_15 {args : List Value} {m : Mem} : callV (cfg gl ng) 15 args m = .enter 15 args m := by
 simp only [callV]
 rw [show (cfg gl ng).P.funcs[15]? = some Tryz.f15 from Tryz.func15]
 rfl
theorem f15_ok : ∀ (N : Nat) (t : T) (m : Mem) (v : Value), wt t ≤ N → N < 1048576 → WF m → TreeR (cfg gl ng).toEnv m v t →
 C (cfg gl ng) 15 [v] m (fun out m' => out = .returned (.int .i64 (depth t)) ∧ Grow m m') := by
 intro N
 induction N with
 | zero => intro t m v h; obtain ⟨k, tx, ss⟩ := t; simp only [wt] at h; omega
 | succ N ih =>
  intro t m v hN hlim hw ht
  obtain ⟨k, tx, ss⟩ := t
  simp only [wt] at hN
  simp only [TreeR] at ht
  obtain ⟨sv, b, o, rfl, h2, h3⟩ := ht
  have hlen := len_wtSS ss
  refine C.of (c := _) Tryz.func15 rfl ?_
  generalize hx : ({ fn := 15, deferred := false, round := none, nt := Tryz.f15.ntmps } : Ctx) = x
  have hnt : x.nt = 36 := by rw [← hx]; rfl
  clear hx
  have hpl : plainV sv = true := by rcases h2 with ⟨rfl, _⟩ | ⟨c, rfl⟩ <;> rfl
  obtain ⟨m1, e1, g1, l1⟩ := newCells_ok (E := (cfg gl ng).toEnv) hw (vs := [.int .i64 k, .string tx, sv]) (t := 27) (by simp only [List.all_cons, hpl, List.all_nil]; rfl)
  have hbox : opBox 27 (.agg #[.int .i64 k, .string tx, sv]) m = .value (.pointer (some ⟨m.nb, 0, none⟩)) m1 := by simp [opBox, Value.cells, e1, ptr]
  have l1' := l1 2 sv rfl
  have h3' := SlotsAt.keep (g1.reads (E := (cfg gl ng).toEnv) hw) h3
  clear l1 hbox
  have hbox : opBox 27 (.agg #[.int .i64 k, .string tx, sv]) m = .value (.pointer (some ⟨m.nb, 0, none⟩)) m1 := by simp [opBox, Value.cells, e1, ptr]
  generalize hnb : m.nb = nb at hbox l1'
  apply W.seq
  apply W.reg
  simp [wpO, upon, dstOk, hnt, guardOk, wantedV, opV, evalT, putT, EndQ, Then, flat, Tr.get_putAll, hbox]
  apply W.seq
  apply W.reg
  simp [wpO, upon, dstOk, hnt, guardOk, wantedV, opV, evalT, putT, EndQ, Then, flat]
  apply W.seq
  apply W.seq
  apply W.reg
  simp [wpO, upon, dstOk, hnt, guardOk, wantedV, opV, evalT, putT, EndQ, Then, flat]
  apply W.block
  refine W.loop (fun s => s.tmps.get 1 = some (.pointer (some ⟨nb, 0, none⟩)) ∧ Grow m1 s.m ∧ s.defers = [] ∧ s.cm = none ∧
   ∃ i : Nat, s.tmps.get 4 = some (.int .i64 i) ∧ i ≤ ss.length ∧ s.tmps.get 3 = some (.int .i64 ((dSS (ss.take i) : Nat) : Int)))
   (fun s => ss.length - (match s.tmps.get 4 with | some (.int _ i) => i.toNat | _ => 0)) ?_ ?_
  · simp [Tr.get_set, Grow.refl g1.wf]
    exact ⟨0, by simp [dSS]⟩
  rintro ⟨t, ds, cm, m'⟩ ⟨q1, gm, rfl, rfl, i, q4, hi, q3⟩
  simp only at q1 q4 q3 gm
  have r1 := gm.reads (E := (cfg gl ng).toEnv) g1.wf
  have l2 := r1 _ _ _ l1'
  have h3i := SlotsAt.keep r1 h3'
  apply W.seq
  apply W.seq
  apply W.reg
  simp [wpO, upon, dstOk, hnt, guardOk, wantedV, opV, evalT, putT, EndQ, Then, flat, Tr.get_set, q1, q4, resolveV, invokeV, opBuiltin, fa27_2, ld25 l2, len25 h2, opBin_lss]
  refine W.cond (t := decide (i < ss.length)) (by simp [evalT, Tr.get_set]) ?_
  by_cases hil : i < ss.length
  ·
   simp only [hil, decide_true, if_true]
   apply W.skip
   simp only [Then]
   have hsi : ss[i]? = some ss[i] := by simp [hil]
   obtain ⟨lv, b1, o1, a1, a2, a3⟩ := SlotsAt.get h3i hsi
   have hwl := wtSS_get hsi
   have hnl := nodesL_le_wt ss[i]
   have hns := nodesSS_le_wt ss
   have htk := dSS_take hsi
   have hle1 := nodesSS_le_take (l := ss) (i := i)
   have hle2 := nodesSS_le_take (l := ss) (i := i + 1)
   have hll := len_nodesL ss[i]
   generalize ss[i] = l at *
   apply W.seq
   apply W.block
   apply W.seq
   apply W.reg
   simp [wpO, upon, dstOk, hnt, guardOk, wantedV, opV, evalT, putT, EndQ, Then, flat]
   apply W.block
   refine W.loop (fun s => s.tmps.get 1 = some (.pointer (some ⟨nb, 0, none⟩)) ∧ s.tmps.get 4 = some (.int .i64 i) ∧ Grow m' s.m ∧ s.defers = [] ∧ s.cm = none ∧
    ∃ j : Nat, s.tmps.get 5 = some (.int .i64 j) ∧ j ≤ l.length ∧ s.tmps.get 3 = some (.int .i64 ((max (dSS (ss.take i)) (dL (l.take j)) : Nat) : Int)))
    (fun s => l.length - (match s.tmps.get 5 with | some (.int _ i) => i.toNat | _ => 0)) ?_ ?_
   · simp [Tr.get_set, q1, q4, q3, Grow.refl gm.wf]
     exact ⟨0, by simp [dL]⟩
   rintro ⟨t, ds, cm, m2⟩ ⟨p1, p4, gm2, rfl, rfl, j, p5, hj, p3⟩
   simp only at p1 p4 p5 p3 gm2
   have r2 := gm2.reads (E := (cfg gl ng).toEnv) gm.wf
   have l3 := r2 _ _ _ l2
   have a1' := r2 _ _ _ a1
   have a3' := TreesAt.keep r2 a3
   apply W.seq
   apply W.seq
   apply W.reg
   simp [wpO, upon, dstOk, hnt, guardOk, wantedV, opV, evalT, putT, EndQ, Then, Tr.get_set, p1, p4, p5, resolveV, invokeV, opBuiltin, fa27_2, ld25 l3, ia25 h2 hil, ld59 a1', len59 a2, opBin_lss]
   refine W.cond (t := decide (j < l.length)) (by simp [evalT, Tr.get_set]) ?_
   by_cases hjl : j < l.length
   ·
    simp only [hjl, decide_true, if_true]
    apply W.skip
    simp only [Then]
    have hsj : l[j]? = some l[j] := by simp [hjl]
    obtain ⟨x1, y1, z1, c1, c2, c3, c4⟩ := TreesAt.get a3' hsj
    have hwt := wtL_get hsj
    have hnt2 := nodes_le_wt l[j]
    have htk2 := dL_take hsj
    have hle3 := nodesL_le_take (l := l) (i := j + 1)
    generalize l[j] = tj at *
    apply W.seq
    apply W.block
    apply W.reg
    simp [wpO, upon, dstOk, hnt, guardOk, wantedV, opV, evalT, putT, EndQ, Then, Tr.get_set, p1, p3, p4, p5, resolveV, invokeV, opBuiltin, fa27_2, ld25 l3, ia25 h2 hil, ld59 a1', ia59 a2 hjl, ld27 c1 c2 c3, callV_15]
    refine C.mono (ih tj m2 _ (by omega) (by omega) gm2.wf c4) (fun out m3 ho => ?_)
    obtain ⟨rfl, g3⟩ := ho
    simp [InBlk, Then, Tr.get_set, opBin_add]
    apply W.reg
    simp [wpO, upon, dstOk, hnt, guardOk, wantedV, opV, evalT, putT, EndQ, Then, flat, Tr.get_set, p1, p3, p4, p5, opBin_add]
    rw [wrap_i64 (n := (j : Int) + 1) (by omega) (by omega)]
    refine ⟨⟨gm2.trans g3, j + 1, by simp, by omega, ?_⟩, ?_⟩
    · rw [htk2]; split <;> omega
    have e9 : ((j : Int) + 1).toNat = j + 1 := by omega
    rw [e9]
    omega
   simp only [hjl, decide_false]
   apply W.exit
   simp [InBlk, Then]
   have hje : j = l.length := by omega
   subst hje
   apply W.reg
   simp [wpO, upon, dstOk, hnt, guardOk, wantedV, opV, evalT, putT, EndQ, Then, flat, Tr.get_set, p1, p3, p4, opBin_add]
   rw [wrap_i64 (by omega) (by omega)]
   refine ⟨⟨gm.trans gm2, i + 1, by simp, by omega, ?_⟩, ?_⟩
   · rw [htk]
   have e9 : ((i : Int) + 1).toNat = i + 1 := by omega
   rw [e9]
   omega
  simp only [hil, decide_false]
  apply W.exit
  simp [InBlk, Then]
  apply W.seq
  apply W.reg
  simp [wpO, upon, dstOk, hnt, guardOk, wantedV, opV, evalT, putT, EndQ, Then, flat, Tr.get_set, q3]
  apply W.ret
  have hie : i = ss.length := by omega
  subst hie
  simp [unwind.results, Tr.get_set, retV, nodes]
  have hdw := dSS_le_wt ss
  rw [wrap_i64 (by omega) (by omega)]
  exact ⟨by simp [depth], g1.trans gm⟩
end Go.Proofs.Lw
namespace Go.Proofs.Lw
open Go Go.Am
variable {gl : Nat → Nat → Option Value} {ng : Nat}
def Own (m : Mem) (b n : Nat) : Prop := b % 2 = 1 ∧ ∃ c, m.blks.get (b / 2) = some (.cells c) ∧ c.dead = false ∧ c.n = n ∧ c.hi = 0
theorem newCells_own {m m' : Mem} {vs : List Value} {t : TypeId} (h : m.newCells vs t = some m') : Own m' m.nb vs.length := by
 unfold Mem.newCells at h
 split at h
 · simp only [Option.some.injEq] at h
   subst h
   exact ⟨Mem.nb_odd m, cellsOf vs t, by simp [Mem.new, Mem.nb_half, Tr.get_set], rfl, rfl, rfl⟩
 cases h
theorem write_own {E : Env} {m : Mem} {b n o : Nat} {vs : List Value} (hw : WF m) (h : Own m b n) (hn : o + vs.length ≤ n) (hp : vs.all plainV = true) :
 ∃ m', m.write b o vs = some m' ∧ WF m' ∧ m'.nxt = m.nxt ∧ (∀ k, k ≠ b / 2 → m'.blks.get k = m.blks.get k) ∧ Own m' b n ∧
  (∀ (i : Nat) (v : Value), vs[i]? = some v → m'.load E b (o + i) = some v) ∧ (∀ j, (j < o ∨ o + vs.length ≤ j) → m'.load E b j = m.load E b j) := by
 obtain ⟨h1, c, h2, h3, h4, h5⟩ := h
 cases vs with
 | nil => exact ⟨m, rfl, hw, rfl, fun _ _ => rfl, ⟨h1, c, h2, h3, h4, h5⟩, fun i v hi => by simp at hi, fun j _ => rfl⟩
 | cons v vs =>
  have hlt := hw.lt h2
  refine ⟨m.setB (b / 2) (.cells { c with c := c.c.putAll o (v :: vs) }), ?_, ?_, rfl, ?_, ?_, ?_, ?_⟩
  · unfold Mem.write
    simp only [List.isEmpty_cons, Bool.false_eq_true, if_false, if_pos h1, h2, h3]
    rw [if_pos]
    simp only [h4, h5, hp, Bool.and_eq_true, decide_eq_true_eq, Bool.or_eq_true]
    exact ⟨⟨hn, trivial⟩, .inl (Nat.zero_le _)⟩
  · intro k hk
    simp only [Mem.setB] at hk ⊢
    rw [Tr.get_set, if_neg (by omega)]
    exact hw k hk
  · intro k hk
    simp only [Mem.setB]
    rw [Tr.get_set, if_neg hk]
  · exact ⟨h1, { c with c := c.c.putAll o (v :: vs) }, by simp [Mem.setB, Tr.get_set], h3, h4, h5⟩
  ·
   intro i x hi
   have hlen : i < (v :: vs).length := by
    rcases Nat.lt_or_ge i (v :: vs).length with h | h
    · exact h
    rw [List.getElem?_eq_none h] at hi; cases hi
   unfold Mem.load
   simp only [if_pos h1, Mem.setB, Tr.get_set, if_true, h3, Bool.false_eq_true, if_false]
   rw [if_pos (by omega), Tr.get_putAll, if_pos ⟨by omega, by omega⟩, show o + i - o = i by omega]
   exact hi
  intro j hj
  unfold Mem.load
  simp only [if_pos h1, Mem.setB, Tr.get_set, if_true, h3, Bool.false_eq_true, if_false, h2]
  split
  · rw [Tr.get_putAll, if_neg (by omega)]
  rfl
theorem Grow.write {m m1 m2 : Mem} {b : Nat} (g : Grow m m1) (hb : m.nxt ≤ b / 2) (hn : m2.nxt = m1.nxt) (hw : WF m2) (ho : ∀ k, k ≠ b / 2 → m2.blks.get k = m1.blks.get k) : Grow m m2 :=
 ⟨by rw [hn]; exact g.le, fun k hk => by rw [ho k (by omega), g.old k hk], hw⟩
end Go.Proofs.Lw
