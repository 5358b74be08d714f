/-
  PROVED here: steps on the way to the card of 'sleuthlaw06.ReduceTreeMinimal' (an abstract machine, its soundness, what each function computes). No conditions beyond those that each theorem states.
-/
import Derived.Test.YtfgpboldklboaaaGreatDoorAm13
import Derived.Test.YtfgpboldklboaaaGreatDoorAm17
namespace Go.Proofs.Lw
open Go Go.Am
variable {gl : Nat → Nat → Option Value} {ng : Nat} {m : Mem} {b o : Nat}
theorem zero27 : zeroOf (cfg gl ng).toEnv 27 = some (.agg #[.int .i64 0, .string .empty, .slice none 0 0]) := by kernel_rfl
theorem alloc27 (hw : WF m) : ∃ m', opAlloc (cfg gl ng).toEnv 27 m = .value (.pointer (some ⟨m.nb, 0, none⟩)) m' ∧ Grow m m' ∧ Own m' m.nb 3 ∧
 m'.load (cfg gl ng).toEnv m.nb 0 = some (.int .i64 0) ∧ m'.load (cfg gl ng).toEnv m.nb 1 = some (.string .empty) ∧ m'.load (cfg gl ng).toEnv m.nb 2 = some (.slice none 0 0) := by
 obtain ⟨m1, e1, g1, l1⟩ := newCells_ok (E := (cfg gl ng).toEnv) hw (vs := [.int .i64 0, .string .empty, .slice none 0 0]) (t := 27) rfl
 refine ⟨m1, ?_, g1, newCells_own e1, l1 0 _ rfl, l1 1 _ rfl, l1 2 _ rfl⟩
 simp [opAlloc, zero27, Value.cells, e1, ptr]
theorem store27 (hw : WF m) (h : Own m b 3) {x y z : Value} (hp : [x, y, z].all plainV = true) :
 ∃ m', opStore (cfg gl ng).toEnv 27 (.pointer (some ⟨b, 0, none⟩)) (.agg #[x, y, z]) m = .skip m' ∧ WF m' ∧ m'.nxt = m.nxt ∧ (∀ k, k ≠ b / 2 → m'.blks.get k = m.blks.get k) ∧ Own m' b 3 ∧
  m'.load (cfg gl ng).toEnv b 0 = some x ∧ m'.load (cfg gl ng).toEnv b 1 = some y ∧ m'.load (cfg gl ng).toEnv b 2 = some z := by
 obtain ⟨m', h1, h2, h3, h4, h5, h6, _⟩ := write_own (E := (cfg gl ng).toEnv) (o := 0) hw h (vs := [x, y, z]) (by simp) hp
 refine ⟨m', ?_, h2, h3, h4, h5, h6 0 _ rfl, h6 1 _ rfl, h6 2 _ rfl⟩
 simp [opStore, addrOf, info27, sz27, Value.cells, defd, h1, ru]
end Go.Proofs.Lw
namespace Go.Proofs.Lw
open Go Go.Am
variable {gl : Nat → Nat → Option Value} {ng : Nat}
theorem callV_23 {args : List Value} {m : Mem} : callV (cfg gl ng) 23 args m = .enter 23 args m := by
 simp only [callV]
 rw [show (cfg gl ng).P.funcs[23]? = some Tryz.f23 from Tryz.func23]
 rfl
theorem f23_ok : ∀ (N : Nat) (t : T) (m : Mem) (v : Value), wt t ≤ N → N < 1048576 → WF m → TreeR (cfg gl ng).toEnv m v t →
 C (cfg gl ng) 23 [v] m (fun out m' => out = .returned (.int .i64 (nodes t)) ∧ Grow m m') := by
 intro N
 induction N with
 | zero => intro t m v h; obtain ⟨k, tx, ss⟩ := t; simp only [wt] at h; omega
 | succ N ih =>
  intro t m v hN hlim hw ht
  obtain ⟨k, tx, ss⟩ := t
  simp only [wt] at hN
  simp only [TreeR] at ht
  obtain ⟨sv, b, o, rfl, h2, h3⟩ := ht
  have hlen := len_wtSS ss
  have hdw := dSS_le_wt ss
  refine C.of (c := _) Tryz.func23 rfl ?_
  generalize hx : ({ fn := 23, deferred := false, round := none, nt := Tryz.f23.ntmps } : Ctx) = x
  have hnt : x.nt = 28 := by rw [← hx]; rfl
  clear hx
  have hpl : plainV sv = true := by rcases h2 with ⟨rfl, _⟩ | ⟨c, rfl⟩ <;> rfl
  obtain ⟨m1, e1, g1, l1⟩ := newCells_ok (E := (cfg gl ng).toEnv) hw (vs := [.int .i64 k, .string tx, sv]) (t := 27) (by simp only [List.all_cons, hpl, List.all_nil]; rfl)
  have l1' := l1 2 sv rfl
  have h3' := SlotsAt.keep (g1.reads (E := (cfg gl ng).toEnv) hw) h3
  clear l1
  have hbox : opBox 27 (.agg #[.int .i64 k, .string tx, sv]) m = .value (.pointer (some ⟨m.nb, 0, none⟩)) m1 := by simp [opBox, Value.cells, e1, ptr]
  generalize hnb : m.nb = nb at hbox l1'
  apply W.seq
  apply W.regN; simp [wpN_cons, wpN_nil, stepN_value, stepN_skip, stepN_enter, dstOk, hnt, guardOk, wantedV, opV, evalT, putT, EndN, Then, flat, Tr.get_set, Tr.get_putAll, hbox]
  apply W.seq
  apply W.regN; simp [wpN_cons, wpN_nil, stepN_value, stepN_skip, stepN_enter, dstOk, hnt, guardOk, wantedV, opV, evalT, putT, EndN, Then, flat, Tr.get_set]
  apply W.seq
  apply W.seq
  apply W.regN; simp [wpN_cons, wpN_nil, stepN_value, stepN_skip, stepN_enter, dstOk, hnt, guardOk, wantedV, opV, evalT, putT, EndN, Then, flat, Tr.get_set, resolveV, invokeV, opBuiltin, fa27_2, ld25 l1', len25 h2]
  apply W.block
  refine W.loop (fun s => s.tmps.get 9 = some sv ∧ s.tmps.get 10 = some (.int .i64 ss.length) ∧ Grow m1 s.m ∧ s.defers = [] ∧ s.cm = none ∧
   ∃ i : Nat, s.tmps.get 11 = some (.int .i64 i) ∧ i ≤ ss.length ∧ s.tmps.get 3 = some (.int .i64 ((1 + nodesSS (ss.take i) : Nat) : Int)))
   (fun s => ss.length - (match s.tmps.get 11 with | some (.int _ i) => i.toNat | _ => 0)) ?_ ?_
  · simp [Tr.get_set, Grow.refl g1.wf]
    exact ⟨0, by simp [nodesSS]⟩
  rintro ⟨t, ds, cm, m'⟩ ⟨q9, q10, gm, rfl, rfl, i, q11, hi, q3⟩
  simp only at q9 q10 q11 q3 gm
  have r1 := gm.reads (E := (cfg gl ng).toEnv) g1.wf
  have h3i := SlotsAt.keep r1 h3'
  apply W.seq
  apply W.regN; simp [wpN_cons, wpN_nil, stepN_value, stepN_skip, stepN_enter, dstOk, hnt, guardOk, wantedV, opV, evalT, putT, EndN, Then, flat, Tr.get_set, q10, q11, opBin_lss]
  apply W.seq
  refine W.cond (t := decide (i < ss.length)) (by simp [evalT, Tr.get_set]) ?_
  by_cases hil : i < ss.length
  ·
   simp only [hil, decide_true, if_true]
   apply W.skip
   simp only [Then]
   have hsi : ss[i]? = some ss[i] := by simp [hil]
   obtain ⟨lv, b1, o1, a1, a2, a3⟩ := SlotsAt.get h3i hsi
   have hwl := wtSS_get hsi
   have hnl := nodesL_le_wt ss[i]
   have hns := nodesSS_le_wt ss
   have htk := nodesSS_take hsi
   have hle1 := nodesSS_le_take (l := ss) (i := i)
   have hle2 := nodesSS_le_take (l := ss) (i := i + 1)
   have hll := len_nodesL ss[i]
   generalize ss[i] = l at *
   apply W.seq
   apply W.block
   apply W.seq
   apply W.regN; simp [wpN_cons, wpN_nil, stepN_value, stepN_skip, stepN_enter, dstOk, hnt, guardOk, wantedV, opV, evalT, putT, EndN, Then, flat, Tr.get_set, q9, q11, ia25 h2 hil, ld59 a1]
   apply W.seq
   apply W.regN; simp [wpN_cons, wpN_nil, stepN_value, stepN_skip, stepN_enter, dstOk, hnt, guardOk, wantedV, opV, evalT, putT, EndN, Then, flat, Tr.get_set, resolveV, invokeV, opBuiltin, len59 a2]
   apply W.block
   refine W.loop (fun s => s.tmps.get 9 = some sv ∧ s.tmps.get 10 = some (.int .i64 ss.length) ∧ s.tmps.get 11 = some (.int .i64 i) ∧ s.tmps.get 15 = some lv ∧ s.tmps.get 16 = some (.int .i64 l.length) ∧ Grow m' s.m ∧ s.defers = [] ∧ s.cm = none ∧
    ∃ j : Nat, s.tmps.get 17 = some (.int .i64 j) ∧ j ≤ l.length ∧ s.tmps.get 3 = some (.int .i64 ((1 + nodesSS (ss.take i) + nodesL (l.take j) : Nat) : Int)))
    (fun s => l.length - (match s.tmps.get 17 with | some (.int _ i) => i.toNat | _ => 0)) ?_ ?_
   · simp [Tr.get_set, q9, q10, q11, q3, Grow.refl gm.wf]
     exact ⟨0, by simp [nodesL]⟩
   rintro ⟨t, ds, cm, m2⟩ ⟨p9, p10, p11, p15, p16, gm2, rfl, rfl, j, p17, hj, p3⟩
   simp only at p9 p10 p11 p15 p16 p17 p3 gm2
   have r2 := gm2.reads (E := (cfg gl ng).toEnv) gm.wf
   have a3' := TreesAt.keep r2 a3
   apply W.seq
   apply W.regN; simp [wpN_cons, wpN_nil, stepN_value, stepN_skip, stepN_enter, dstOk, hnt, guardOk, wantedV, opV, evalT, putT, EndN, Then, flat, Tr.get_set, p16, p17, opBin_lss]
   apply W.seq
   refine W.cond (t := decide (j < l.length)) (by simp [evalT, Tr.get_set]) ?_
   by_cases hjl : j < l.length
   ·
    simp only [hjl, decide_true, if_true]
    apply W.skip
    simp only [Then]
    have hsj : l[j]? = some l[j] := by simp [hjl]
    obtain ⟨x1, y1, z1, c1, c2, c3, c4⟩ := TreesAt.get a3' hsj
    have hwt := wtL_get hsj
    have hnt2 := nodes_le_wt l[j]
    have htk2 := nodesL_take hsj
    have hle3 := nodesL_le_take (l := l) (i := j + 1)
    generalize l[j] = tj at *
    obtain ⟨ma, ea, ga, oa, _, _, _⟩ := alloc27 (gl := gl) (ng := ng) gm2.wf
    have hodd := Mem.nb_half m2
    have hpl3 : [x1, y1, z1].all plainV = true := by
     obtain ⟨kj, txj, ssj⟩ := tj
     simp only [TreeR] at c4
     obtain ⟨svj, bj, oj, hj1, hj2, _⟩ := c4
     have hpj : plainV svj = true := by rcases hj2 with ⟨rfl, _⟩ | ⟨c, rfl⟩ <;> rfl
     simp at hj1
     obtain ⟨rfl, rfl, rfl⟩ := hj1
     simp only [List.all_cons, hpj, List.all_nil]; rfl
    generalize hnb2 : m2.nb = nb2 at *
    obtain ⟨ms, es, ws, ns, os, _, s0, s1, s2⟩ := store27 (gl := gl) (ng := ng) ga.wf oa hpl3
    have gs : Grow m2 ms := ga.write (by omega) ns ws os
    have c4s := TreeR.keep (gs.reads (E := (cfg gl ng).toEnv) gm2.wf) c4
    apply W.seq
    apply W.block
    apply W.seq
    apply W.regN; simp [wpN_cons, wpN_nil, stepN_value, stepN_skip, stepN_enter, dstOk, hnt, guardOk, wantedV, opV, evalT, putT, EndN, Then, flat, Tr.get_set, p15, p17, ia59 a2 hjl, ld27 c1 c2 c3, ea, es]
    apply W.regN; simp [wpN_cons, wpN_nil, stepN_value, stepN_skip, stepN_enter, dstOk, hnt, guardOk, wantedV, opV, evalT, putT, EndN, Then, flat, Tr.get_set, p3, ld27 s0 s1 s2, resolveV, invokeV, callV_23]
    refine C.mono (ih tj ms _ (by omega) (by omega) gs.wf c4s) (fun out m3 ho => ?_)
    obtain ⟨rfl, g3⟩ := ho
    simp [wpN_cons, wpN_nil, stepN_value, stepN_skip, stepN_enter, dstOk, hnt, guardOk, wantedV, opV, evalT, putT, EndN, Then, flat, Tr.get_set, InBlk, opBin_add, resolveV, invokeV, opBuiltin, rp, pureRun_pure, Builtin.max_, Builtin.max2]
    apply W.regN; simp [wpN_cons, wpN_nil, stepN_value, stepN_skip, stepN_enter, dstOk, hnt, guardOk, wantedV, opV, evalT, putT, EndN, Then, flat, Tr.get_set, p9, p10, p11, p15, p16, p17, opBin_add]
    rw [wrap_i64 (n := (j : Int) + 1) (by omega) (by omega), wrap_i64 (by omega) (by omega)]
    refine ⟨⟨(gm2.trans gs).trans g3, j + 1, by simp, by omega, ?_⟩, ?_⟩
    · rw [htk2]; simp; omega
    have e9 : ((j : Int) + 1).toNat = j + 1 := by omega
    rw [e9]
    omega
   simp only [hjl, decide_false]
   apply W.exit
   simp [InBlk, Then]
   have hje : j = l.length := by omega
   subst hje
   apply W.regN; simp [wpN_cons, wpN_nil, stepN_value, stepN_skip, stepN_enter, dstOk, hnt, guardOk, wantedV, opV, evalT, putT, EndN, Then, flat, Tr.get_set, p9, p10, p11, p3, opBin_add]
   rw [wrap_i64 (by omega) (by omega)]
   refine ⟨⟨gm.trans gm2, i + 1, by simp, by omega, ?_⟩, ?_⟩
   · rw [htk]; try simp; try omega
   have e9 : ((i : Int) + 1).toNat = i + 1 := by omega
   rw [e9]
   omega
  simp only [hil, decide_false]
  apply W.exit
  simp [InBlk, Then]
  apply W.seq
  apply W.regN; simp [wpN_cons, wpN_nil, stepN_value, stepN_skip, stepN_enter, dstOk, hnt, guardOk, wantedV, opV, evalT, putT, EndN, Then, flat, Tr.get_set, q3, opBin_add]
  apply W.ret
  have hie : i = ss.length := by omega
  subst hie
  simp [unwind.results, Tr.get_set, retV]
  exact ⟨by simp [nodes], g1.trans gm⟩
theorem callV_58 {args : List Value} {m : Mem} : callV (cfg gl ng) 58 args m = .enter 58 args m := by
 simp only [callV]
 rw [show (cfg gl ng).P.funcs[58]? = some Tryz.f58 from Tryz.func58]
 rfl
theorem f58_ok : ∀ (N : Nat) (t : T) (m : Mem) (v : Value), wt t ≤ N → N < 1048576 → WF m → TreeR (cfg gl ng).toEnv m v t →
 C (cfg gl ng) 58 [v] m (fun out m' => out = .returned (.int .i64 (depth t)) ∧ Grow m m') := by
 intro N
 induction N with
 | zero => intro t m v h; obtain ⟨k, tx, ss⟩ := t; simp only [wt] at h; omega
 | succ N ih =>
  intro t m v hN hlim hw ht
  obtain ⟨k, tx, ss⟩ := t
  simp only [wt] at hN
  simp only [TreeR] at ht
  obtain ⟨sv, b, o, rfl, h2, h3⟩ := ht
  have hlen := len_wtSS ss
  have hdw := dSS_le_wt ss
  refine C.of (c := _) Tryz.func58 rfl ?_
  generalize hx : ({ fn := 58, deferred := false, round := none, nt := Tryz.f58.ntmps } : Ctx) = x
  have hnt : x.nt = 29 := by rw [← hx]; rfl
  clear hx
  have hpl : plainV sv = true := by rcases h2 with ⟨rfl, _⟩ | ⟨c, rfl⟩ <;> rfl
  obtain ⟨m1, e1, g1, l1⟩ := newCells_ok (E := (cfg gl ng).toEnv) hw (vs := [.int .i64 k, .string tx, sv]) (t := 27) (by simp only [List.all_cons, hpl, List.all_nil]; rfl)
  have l1' := l1 2 sv rfl
  have h3' := SlotsAt.keep (g1.reads (E := (cfg gl ng).toEnv) hw) h3
  clear l1
  have hbox : opBox 27 (.agg #[.int .i64 k, .string tx, sv]) m = .value (.pointer (some ⟨m.nb, 0, none⟩)) m1 := by simp [opBox, Value.cells, e1, ptr]
  generalize hnb : m.nb = nb at hbox l1'
  apply W.seq
  apply W.regN; simp [wpN_cons, wpN_nil, stepN_value, stepN_skip, stepN_enter, dstOk, hnt, guardOk, wantedV, opV, evalT, putT, EndN, Then, flat, Tr.get_set, Tr.get_putAll, hbox]
  apply W.seq
  apply W.regN; simp [wpN_cons, wpN_nil, stepN_value, stepN_skip, stepN_enter, dstOk, hnt, guardOk, wantedV, opV, evalT, putT, EndN, Then, flat, Tr.get_set]
  apply W.seq
  apply W.seq
  apply W.regN; simp [wpN_cons, wpN_nil, stepN_value, stepN_skip, stepN_enter, dstOk, hnt, guardOk, wantedV, opV, evalT, putT, EndN, Then, flat, Tr.get_set, resolveV, invokeV, opBuiltin, fa27_2, ld25 l1', len25 h2]
  apply W.block
  refine W.loop (fun s => s.tmps.get 9 = some sv ∧ s.tmps.get 10 = some (.int .i64 ss.length) ∧ Grow m1 s.m ∧ s.defers = [] ∧ s.cm = none ∧
   ∃ i : Nat, s.tmps.get 11 = some (.int .i64 i) ∧ i ≤ ss.length ∧ s.tmps.get 3 = some (.int .i64 ((dSS (ss.take i) : Nat) : Int)))
   (fun s => ss.length - (match s.tmps.get 11 with | some (.int _ i) => i.toNat | _ => 0)) ?_ ?_
  · simp [Tr.get_set, Grow.refl g1.wf]
    exact ⟨0, by simp [dSS]⟩
  rintro ⟨t, ds, cm, m'⟩ ⟨q9, q10, gm, rfl, rfl, i, q11, hi, q3⟩
  simp only at q9 q10 q11 q3 gm
  have r1 := gm.reads (E := (cfg gl ng).toEnv) g1.wf
  have h3i := SlotsAt.keep r1 h3'
  apply W.seq
  apply W.regN; simp [wpN_cons, wpN_nil, stepN_value, stepN_skip, stepN_enter, dstOk, hnt, guardOk, wantedV, opV, evalT, putT, EndN, Then, flat, Tr.get_set, q10, q11, opBin_lss]
  apply W.seq
  refine W.cond (t := decide (i < ss.length)) (by simp [evalT, Tr.get_set]) ?_
  by_cases hil : i < ss.length
  ·
   simp only [hil, decide_true, if_true]
   apply W.skip
   simp only [Then]
   have hsi : ss[i]? = some ss[i] := by simp [hil]
   obtain ⟨lv, b1, o1, a1, a2, a3⟩ := SlotsAt.get h3i hsi
   have hwl := wtSS_get hsi
   have hnl := nodesL_le_wt ss[i]
   have hns := nodesSS_le_wt ss
   have htk := dSS_take hsi
   have hle1 := nodesSS_le_take (l := ss) (i := i)
   have hle2 := nodesSS_le_take (l := ss) (i := i + 1)
   have hll := len_nodesL ss[i]
   generalize ss[i] = l at *
   apply W.seq
   apply W.block
   apply W.seq
   apply W.regN; simp [wpN_cons, wpN_nil, stepN_value, stepN_skip, stepN_enter, dstOk, hnt, guardOk, wantedV, opV, evalT, putT, EndN, Then, flat, Tr.get_set, q9, q11, ia25 h2 hil, ld59 a1]
   apply W.seq
   apply W.regN; simp [wpN_cons, wpN_nil, stepN_value, stepN_skip, stepN_enter, dstOk, hnt, guardOk, wantedV, opV, evalT, putT, EndN, Then, flat, Tr.get_set, resolveV, invokeV, opBuiltin, len59 a2]
   apply W.block
   refine W.loop (fun s => s.tmps.get 9 = some sv ∧ s.tmps.get 10 = some (.int .i64 ss.length) ∧ s.tmps.get 11 = some (.int .i64 i) ∧ s.tmps.get 15 = some lv ∧ s.tmps.get 16 = some (.int .i64 l.length) ∧ Grow m' s.m ∧ s.defers = [] ∧ s.cm = none ∧
    ∃ j : Nat, s.tmps.get 17 = some (.int .i64 j) ∧ j ≤ l.length ∧ s.tmps.get 3 = some (.int .i64 ((max (dSS (ss.take i)) (dL (l.take j)) : Nat) : Int)))
    (fun s => l.length - (match s.tmps.get 17 with | some (.int _ i) => i.toNat | _ => 0)) ?_ ?_
   · simp [Tr.get_set, q9, q10, q11, q3, Grow.refl gm.wf]
     exact ⟨0, by simp [dL]⟩
   rintro ⟨t, ds, cm, m2⟩ ⟨p9, p10, p11, p15, p16, gm2, rfl, rfl, j, p17, hj, p3⟩
   simp only at p9 p10 p11 p15 p16 p17 p3 gm2
   have r2 := gm2.reads (E := (cfg gl ng).toEnv) gm.wf
   have a3' := TreesAt.keep r2 a3
   apply W.seq
   apply W.regN; simp [wpN_cons, wpN_nil, stepN_value, stepN_skip, stepN_enter, dstOk, hnt, guardOk, wantedV, opV, evalT, putT, EndN, Then, flat, Tr.get_set, p16, p17, opBin_lss]
   apply W.seq
   refine W.cond (t := decide (j < l.length)) (by simp [evalT, Tr.get_set]) ?_
   by_cases hjl : j < l.length
   ·
    simp only [hjl, decide_true, if_true]
    apply W.skip
    simp only [Then]
    have hsj : l[j]? = some l[j] := by simp [hjl]
    obtain ⟨x1, y1, z1, c1, c2, c3, c4⟩ := TreesAt.get a3' hsj
    have hwt := wtL_get hsj
    have hnt2 := nodes_le_wt l[j]
    have htk2 := dL_take hsj
    have hle3 := nodesL_le_take (l := l) (i := j + 1)
    generalize l[j] = tj at *
    obtain ⟨ma, ea, ga, oa, _, _, _⟩ := alloc27 (gl := gl) (ng := ng) gm2.wf
    have hodd := Mem.nb_half m2
    have hpl3 : [x1, y1, z1].all plainV = true := by
     obtain ⟨kj, txj, ssj⟩ := tj
     simp only [TreeR] at c4
     obtain ⟨svj, bj, oj, hj1, hj2, _⟩ := c4
     have hpj : plainV svj = true := by rcases hj2 with ⟨rfl, _⟩ | ⟨c, rfl⟩ <;> rfl
     simp at hj1
     obtain ⟨rfl, rfl, rfl⟩ := hj1
     simp only [List.all_cons, hpj, List.all_nil]; rfl
    generalize hnb2 : m2.nb = nb2 at *
    obtain ⟨ms, es, ws, ns, os, _, s0, s1, s2⟩ := store27 (gl := gl) (ng := ng) ga.wf oa hpl3
    have gs : Grow m2 ms := ga.write (by omega) ns ws os
    have c4s := TreeR.keep (gs.reads (E := (cfg gl ng).toEnv) gm2.wf) c4
    apply W.seq
    apply W.block
    apply W.seq
    apply W.regN; simp [wpN_cons, wpN_nil, stepN_value, stepN_skip, stepN_enter, dstOk, hnt, guardOk, wantedV, opV, evalT, putT, EndN, Then, flat, Tr.get_set, p15, p17, ia59 a2 hjl, ld27 c1 c2 c3, ea, es]
    apply W.regN; simp [wpN_cons, wpN_nil, stepN_value, stepN_skip, stepN_enter, dstOk, hnt, guardOk, wantedV, opV, evalT, putT, EndN, Then, flat, Tr.get_set, p3, ld27 s0 s1 s2, resolveV, invokeV, callV_58]
    refine C.mono (ih tj ms _ (by omega) (by omega) gs.wf c4s) (fun out m3 ho => ?_)
    obtain ⟨rfl, g3⟩ := ho
    simp [wpN_cons, wpN_nil, stepN_value, stepN_skip, stepN_enter, dstOk, hnt, guardOk, wantedV, opV, evalT, putT, EndN, Then, flat, Tr.get_set, InBlk, opBin_add, resolveV, invokeV, opBuiltin, rp, pureRun_pure, Builtin.max_, Builtin.max2]
    apply W.regN; simp [wpN_cons, wpN_nil, stepN_value, stepN_skip, stepN_enter, dstOk, hnt, guardOk, wantedV, opV, evalT, putT, EndN, Then, flat, Tr.get_set, p9, p10, p11, p15, p16, p17, opBin_add]
    rw [wrap_i64 (n := (j : Int) + 1) (by omega) (by omega)]
    refine ⟨⟨(gm2.trans gs).trans g3, j + 1, by simp, by omega, ?_⟩, ?_⟩
    · rw [htk2]; split <;> omega
    have e9 : ((j : Int) + 1).toNat = j + 1 := by omega
    rw [e9]
    omega
   simp only [hjl, decide_false]
   apply W.exit
   simp [InBlk, Then]
   have hje : j = l.length := by omega
   subst hje
   apply W.regN; simp [wpN_cons, wpN_nil, stepN_value, stepN_skip, stepN_enter, dstOk, hnt, guardOk, wantedV, opV, evalT, putT, EndN, Then, flat, Tr.get_set, p9, p10, p11, p3, opBin_add]
   rw [wrap_i64 (by omega) (by omega)]
   refine ⟨⟨gm.trans gm2, i + 1, by simp, by omega, ?_⟩, ?_⟩
   · rw [htk]; try simp; try omega
   have e9 : ((i : Int) + 1).toNat = i + 1 := by omega
   rw [e9]
   omega
  simp only [hil, decide_false]
  apply W.exit
  simp [InBlk, Then]
  apply W.seq
  apply W.regN; simp [wpN_cons, wpN_nil, stepN_value, stepN_skip, stepN_enter, dstOk, hnt, guardOk, wantedV, opV, evalT, putT, EndN, Then, flat, Tr.get_set, q3, opBin_add]
  apply W.ret
  have hie : i = ss.length := by omega
  subst hie
  simp [unwind.results, Tr.get_set, retV]
  rw [wrap_i64 (by omega) (by omega)]
  exact ⟨by simp [depth], g1.trans gm⟩
end Go.Proofs.Lw
namespace Go.Proofs.Lw
open Go Go.Am
set_option maxRecDepth 8000
variable {gl : Nat → Nat → Option Value} {ng : Nat}
theorem f15_ct {σ : Kn} {m : Mem} {v : Value} {t : T} (hw : WF m) (hh : Holds (cfg gl ng).toEnv σ m) (ht : TreeK σ v t) (hl : wt t < 1048576) : Ct gl ng 15 [v] σ m (fun _ r => r = .int .i64 (depth t)) :=
 Ct.of_C hw hh (f15_ok (wt t) t m v (Nat.le_refl _) hl hw (ht.reads hh))
theorem f58_ct {σ : Kn} {m : Mem} {v : Value} {t : T} (hw : WF m) (hh : Holds (cfg gl ng).toEnv σ m) (ht : TreeK σ v t) (hl : wt t < 1048576) : Ct gl ng 58 [v] σ m (fun _ r => r = .int .i64 (depth t)) :=
 Ct.of_C hw hh (f58_ok (wt t) t m v (Nat.le_refl _) hl hw (ht.reads hh))
theorem f7_ct {σ : Kn} {m : Mem} {v : Value} {t : T} (hw : WF m) (hh : Holds (cfg gl ng).toEnv σ m) (ht : TreeK σ v t) (hl : wt t < 1048576) : Ct gl ng 7 [v] σ m (fun _ r => r = .int .i64 (nodes t)) :=
 Ct.of_C hw hh (f7_ok (wt t) t m v (Nat.le_refl _) hl hw (ht.reads hh))
theorem f23_ct {σ : Kn} {m : Mem} {v : Value} {t : T} (hw : WF m) (hh : Holds (cfg gl ng).toEnv σ m) (ht : TreeK σ v t) (hl : wt t < 1048576) : Ct gl ng 23 [v] σ m (fun _ r => r = .int .i64 (nodes t)) :=
 Ct.of_C hw hh (f23_ok (wt t) t m v (Nat.le_refl _) hl hw (ht.reads hh))
def GramLen (g : List RuleD) : Prop := g.length < 4611686018427387904 ∧ ∀ r ∈ g, RuleLen r
theorem f14_ok {σ : Kn} {m : Mem} {rv : Value} {g : List RuleD} (hw : WF m) (hh : Holds (cfg gl ng).toEnv σ m) (hg : RulesV σ rv g) (hl : GramLen g) :
 Ct gl ng 14 [.agg #[rv]] σ m (fun _ v => Err (OkG g) v) := by
 refine Ct.of (c := _) Tryz.func14 rfl 55 rfl (fun c hnt => ?_)
 have hgV := hg
 obtain ⟨bg, og, hg1, hg2⟩ := hg
 have hS := S.start hw hh
 obtain ⟨m1, nbg, hbx, hS1⟩ := hS.box 24 #[rv] (by simp [hg1.plain])
 have hlen : ∀ m', opLen (cfg gl ng) 22 rv m' = .value (.int .i64 g.length) m' := fun m' => K.ly22 hg1
 repeat apply W.seq
 apply W.regN; simp [hnt, hbx]
 by_cases c1 : g = []
 ·
  have c1' : g.length = 0 := by rw [c1]; rfl
  repeat apply W.seq
  apply W.regN; simp [hnt, hS1.c0, hlen, c1']
  refine W.choose (by simp; rfl) (fun hc => ?_) fun hc => ?_
  · repeat apply W.seq
    apply W.regN; simp [hnt]
    apply W.ret; try simp only [Then, InBlk]
    refine ⟨.inr rfl, rfl, rfl, _, by simp [unwind.results, Tryz.f14]; rfl, _, hS1.learn, ?_⟩
    exact .bad (by decide) (fun h => h.rules.some c1)
  cases hc
 have c1' : ¬ g.length = 0 := fun h => c1 (List.eq_nil_of_length_eq_zero h)
 repeat apply W.seq
 apply W.regN; simp [hnt, hS1.c0, hlen, c1]
 refine W.choose (by simp; rfl) (fun hc => ?_) fun hc => ?_
 · cases hc
 apply W.skip; try simp only [Then, InBlk]
 by_cases c2 : (32 : Int) < g.length
 ·
  repeat apply W.seq
  apply W.regN; simp [hnt, hS1.c0, hlen, c2]
  refine W.choose (by simp; rfl) (fun hc => ?_) fun hc => ?_
  · repeat apply W.seq
    apply W.regN; simp [hnt]
    apply W.ret; try simp only [Then, InBlk]
    refine ⟨.inr rfl, rfl, rfl, _, by simp [unwind.results, Tryz.f14]; rfl, _, hS1.learn, ?_⟩
    exact .bad (by decide) (fun h => by have := h.rules.few; omega)
  cases hc
 repeat apply W.seq
 apply W.regN; simp [hnt, hS1.c0, hlen, c2]
 refine W.choose (by simp; rfl) (fun hc => ?_) fun hc => ?_
 · cases hc
 apply W.skip; try simp only [Then, InBlk]
 obtain ⟨J, hJ⟩ : ∃ J : Tr Value → Mem → Prop, J = fun t m' => S (cfg gl ng).toEnv σ m σ m' [(nbg, ⟨[rv], none⟩)] ∧ RulesOk g := ⟨_, rfl⟩
 refine W.cut (ws := [15, 3, 16, 17, 18, 19, 20, 21, 22, 23, 24, 25, 26, 27, 28, 29, 30, 4, 31, 32, 33, 2]) (by kernel_rfl) J ?_ (fun t0 m3 hfr0 hJ0 => ?_)
 ·
  repeat apply W.seq
  apply W.regN; simp [hnt]
  apply W.block
  obtain ⟨I, hI⟩ : ∃ I : Nat → Tr Value → Mem → Prop, I = fun (i : Nat) (t : Tr Value) (m' : Mem) => t.get 3 = some (.int .i64 i) ∧ S (cfg gl ng).toEnv σ m σ m' [(nbg, ⟨[rv], none⟩)] ∧ ∀ j r, j < i → g[j]? = some r → RuleOk g.length r := ⟨_, rfl⟩
  refine W.upto (ws := [15, 16, 17, 18, 19, 22, 23, 24, 25, 26, 27, 28, 29, 30, 4, 31, 32, 33, 2, 20, 21, 3]) (by kernel_rfl) (g.length) I 0 (by omega) (by rw [hI]; exact ⟨by simp, hS1, fun j s h => absurd h (by omega)⟩) ?_
  intro i t m4 hi hfr hIi
  rw [hI] at hIi
  obtain ⟨q3, hS4, hdone⟩ := hIi
  repeat apply W.seq
  apply W.regN; simp [hnt, q3, hS4.c0, hfr, hlen]
  refine W.choose (by simp; rfl) (fun hc => ?_) fun hc => ?_
  ·
   have hil : i < g.length := by simpa using hc
   apply W.skip; try simp only [Then, InBlk]
   have hgi : g[i]? = some g[i] := by simp [hil]
   have hmem : g[i] ∈ g := by simp
   obtain ⟨sv, u1, u2, u3, u4, u5⟩ := hg2 i g[i] hgi
   have hrl := hl.2 _ hmem
   have hbad : ¬ RuleOk g.length g[i] → ¬ OkG g := fun h h' => h (h'.rules.rules _ hmem)
   generalize g[i] = r at *
   repeat apply W.seq
   apply W.block
   repeat apply W.seq
   refine W.regU [] [] (by as_aux_lemma => kernel_rfl) ?_
   simp [hnt, q3, hS4.c0, hS4.kn, hfr, hlen, K.iy22 hg1 hil, u1, u2, u3, u4]
   refine Ct.use (f38_ok (n := g.length) hS4.wf hS4.holds u5 hrl) (fun σ7 v7 m7 hl7 hv7 => ?_)
   obtain ⟨e, rfl, he⟩ := hv7
   have hS7 := hS4.grow hl7.grow
   simp [hnt, looseOk]
   by_cases c3 : e = 0
   ·
    repeat apply W.seq
    apply W.regN; simp [hnt, c3]
    refine W.choose (by simp; rfl) (fun hc => ?_) fun hc => ?_
    · cases hc
    apply W.skip; try simp only [Then, InBlk]
    apply W.regN; simp [hnt, hfr, q3, wr1 (show i < _ by omega)]
    have hok := he.1 c3
    exact ⟨i + 1, by omega, by omega, by rw [hI]; exact ⟨by simp, hS7, fun j s hj hs => by by_cases hji : j = i; exact (by rw [hji, hgi] at hs; cases hs; exact hok); exact hdone j s (by omega) hs⟩⟩
   repeat apply W.seq
   apply W.regN; simp [hnt, c3]
   refine W.choose (by simp; rfl) (fun hc => ?_) fun hc => ?_
   · repeat apply W.seq
     apply W.regN; simp [hnt]
     apply W.ret; try simp only [Then, InBlk]
     refine ⟨.inr rfl, rfl, rfl, _, by simp [unwind.results, Tryz.f14]; rfl, _, hS7.learn, ?_⟩
     exact .bad c3 (hbad (fun h => c3 (he.2 h)))
   cases hc
  have hil : i = g.length := by
   have : g.length ≤ i := by simpa using hc
   omega
  apply W.exit; try simp [Then, InBlk]
  rw [hJ]
  refine ⟨hS4, c1, by omega, fun r hr => ?_⟩
  obtain ⟨j, hj⟩ := List.mem_iff_getElem?.1 hr
  exact hdone j r (by have := lt_of_get hj; omega) hj
 rw [hJ] at hJ0
 obtain ⟨hS2, hru⟩ := hJ0
 repeat apply W.seq
 apply W.regN; simp [hnt, hS2.c0, hfr0]
 refine Ct.use (f39_ok hS2.wf hS2.holds hgV hru) (fun σ4 nv m4 hl4 hv4 => ?_)
 obtain ⟨ns, hn, hgood, hcalm⟩ := hv4
 have hfix : Fixed g ns := ⟨hgood, hcalm, hru⟩
 have hS4 := hS2.learn' hl4
 have hnl := hgood.len
 simp [hnt]
 repeat apply W.seq
 apply W.regN; simp [hnt]
 apply W.block
 obtain ⟨I, hI⟩ : ∃ I : Nat → Tr Value → Mem → Prop, I = fun (i : Nat) (t : Tr Value) (m' : Mem) => t.get 6 = some (.int .i64 i) ∧ ∃ σ', σ4.le σ' ∧ S (cfg gl ng).toEnv σ m σ' m' [(nbg, ⟨[rv], none⟩)] ∧ ∀ j : Nat, j < i → at' ns j ≠ 0 ∧ depth (leastT g (pickR ns) 1024 j) ≤ 24 := ⟨_, rfl⟩
 refine W.upto (ws := [36, 37, 38, 39, 42, 43, 44, 45, 46, 47, 48, 49, 50, 51, 52, 53, 54, 2, 40, 41, 6]) (by kernel_rfl) (g.length) I 0 (by omega) (by rw [hI]; exact ⟨by simp, σ4, Kn.le_refl _, hS4, fun j h => absurd h (by omega)⟩) ?_
 intro i t m5 hi hfr hIi
 rw [hI] at hIi
 obtain ⟨q6, σ5, hle5, hS5, hdone⟩ := hIi
 repeat apply W.seq
 apply W.regN; simp [hnt, q6, hfr, hn.len, hnl]
 have hnotok : ∀ j : Nat, j < g.length → (at' ns j = 0 ∨ 24 < depth (leastT g (pickR ns) 1024 j)) → ¬ OkG g := by
  intro j hj hb hok
  obtain ⟨ns0, hm, hd⟩ := hok.least
  have e := hfix.of_minl hm
  subst e
  rcases hb with hb | hb
  · have := hm.rng j hj; omega
  have := hd j hj; omega
 refine W.choose (by simp; rfl) (fun hc => ?_) fun hc => ?_
 ·
  have hil : i < g.length := by simpa using hc
  apply W.skip; try simp only [Then, InBlk]
  obtain ⟨b1, o1, e1, e2⟩ := (hn.mono hle5).at (gl := gl) (ng := ng) (i := i) (by omega)
  repeat apply W.seq
  apply W.block
  by_cases c3 : at' ns i = 0
  ·
   repeat apply W.seq
   apply W.regN; simp [hnt, q6, hfr, e1, hS5.kn, e2, c3]
   refine W.choose (by simp; rfl) (fun hc => ?_) fun hc => ?_
   · repeat apply W.seq
     apply W.regN; simp [hnt]
     apply W.ret; try simp only [Then, InBlk]
     refine ⟨.inr rfl, rfl, rfl, _, by simp [unwind.results, Tryz.f14]; rfl, _, hS5.learn, ?_⟩
     exact .bad (by decide) (hnotok i hil (.inl c3))
   cases hc
  repeat apply W.seq
  apply W.regN; simp [hnt, q6, hfr, e1, hS5.kn, hS5.c0, e2, c3, hfr0]
  have hr := hgood.rng i
  have hsz := hfix.size 1024 i c3 (by omega)
  refine Ct.use (f40_ok 1024 i σ5 m5 rv nv g ns hS5.wf hS5.holds (hgV.mono (Kn.le_trans (Kn.le_trans hS2.le hl4.le) hle5)) (hn.mono hle5) hfix hil c3 (by omega)) (fun σ6 v6 m6 hl6 hv6 => ?_)
  have hS6 := hS5.learn' hl6
  simp [hnt]
  refine Ct.use (f15_ct hS6.wf hS6.holds hv6 (by omega)) (fun σ7 v7 m7 hl7 hv7 => ?_)
  subst hv7
  have hS7 := hS6.learn' hl7
  simp [hnt]
  by_cases c4 : (24 : Int) < depth (leastT g (pickR ns) 1024 i)
  ·
   refine W.choose (by simp[c4]; rfl) (fun hc => ?_) fun hc => ?_
   · repeat apply W.seq
     apply W.regN; simp [hnt]
     apply W.ret; try simp only [Then, InBlk]
     refine ⟨.inr rfl, rfl, rfl, _, by simp [unwind.results, Tryz.f14]; rfl, _, hS7.learn, ?_⟩
     exact .bad (by decide) (hnotok i hil (.inr (by omega)))
   simp [c4] at hc
  refine W.choose (by simp; rfl) (fun hc => ?_) fun hc => ?_
  · simp [c4] at hc
  apply W.skip; try simp only [Then, InBlk]
  apply W.regN; simp [hnt, hfr, q6, wr1 (show i < _ by omega)]
  have hok : at' ns i ≠ 0 ∧ depth (leastT g (pickR ns) 1024 i) ≤ 24 := ⟨c3, by omega⟩
  exact ⟨i + 1, by omega, by omega, by rw [hI]; exact ⟨by simp, σ7, Kn.le_trans (Kn.le_trans hle5 hl6.le) hl7.le, hS7, fun j hj => by by_cases hji : j = i; exact hji ▸ hok; exact hdone j (by omega)⟩⟩
 have hil : i = g.length := by
  have : g.length ≤ i := by simpa using hc
  omega
 apply W.exit; try simp [Then, InBlk]
 repeat apply W.seq
 apply W.regN; simp [hnt]
 apply W.ret
 refine ⟨.inr rfl, rfl, rfl, _, by simp [unwind.results, Tryz.f14]; rfl, _, hS5.learn, ?_⟩
 exact .ok ⟨hru, ns, hfix.minl (fun k hk => (hdone k (by omega)).1), fun k hk => (hdone k (by omega)).2⟩
end Go.Proofs.Lw
namespace Go.Proofs.Lw
open Go Go.Am
variable {E : Env} {σ0 σ : Kn} {m0 m : Mem} {L : List (Nat × Cl)}
theorem S.perm (h : S E σ0 m0 σ m L) {L' : List (Nat × Cl)} (hp : L.Perm L') : S E σ0 m0 σ m L' := by
 refine ⟨h.wf0, h.learn, fun i b k e => ?_, (hp.map _).nodup_iff.1 h.nodup⟩
 obtain ⟨j, hj⟩ := List.mem_iff_getElem?.1 (hp.symm.subset (List.mem_of_getElem? e))
 exact h.own j b k hj
theorem S.kill {b : Nat} {k : Cl} {L : List (Nat × Cl)} (h : S E σ0 m0 σ m ((b, k) :: L)) (bl : Blk) : S E σ0 m0 σ (m.setB (b / 2) bl) L := by
 obtain ⟨hc, hge, hno⟩ := h.own 0 b k rfl
 have hlt := hc.lt h.wf
 have hold : ∀ j, j ≠ b / 2 → (m.setB (b / 2) bl).blks.get j = m.blks.get j := by
  intro j hj; simp only [Mem.setB]; rw [Tr.get_set, if_neg hj]
 have hwf : WF (m.setB (b / 2) bl) := by
  intro j hj
  simp only [Mem.setB] at hj ⊢
  rw [Tr.get_set, if_neg (by omega)]
  exact h.wf j hj
 have hnd := h.nodup
 simp only [List.map_cons, List.nodup_cons] at hnd
 refine ⟨h.wf0, ⟨h.learn.le, ⟨h.learn.grow.le, fun j hj => by rw [hold j (by omega)]; exact h.learn.grow.old j hj, hwf⟩, fun x y v e => ?_, h.learn.new⟩, fun j b' k' e => ?_, hnd.2⟩
 ·
  have := h.holds x y v e
  have hxb : x ≠ b := by intro e2; subst e2; rw [hno] at e; cases e
  unfold Mem.load at this ⊢
  by_cases hx : x % 2 = 1
  · rw [if_pos hx] at this ⊢
    have := hc.1
    rw [hold _ (by omega)]; assumption
  rw [if_neg hx] at this ⊢; exact this
 obtain ⟨⟨g1, g2, g3, g4⟩, g5⟩ := h.own (j + 1) b' k' (by simpa using e)
 have hbb : b' ≠ b := fun e2 => hnd.1 (List.mem_map.2 ⟨(b', k'), List.mem_of_getElem? e, e2⟩)
 have := hc.1
 exact ⟨⟨g1, g2, by rw [hold _ (by omega)]; exact g3, g4⟩, g5⟩
def BldV (e : TypeId) (es : Nat) (s : Value) (len : Nat) (vs : List Value) (B : List (Nat × Cl)) : Prop :=
 vs.length = len * es ∧ ((s = .slice none 0 0 ∧ len = 0 ∧ B = []) ∨ (∃ b, s = .slice (some ⟨b, 0, none⟩) len (mkCap len false) ∧ B = [(b, ⟨vs, some e⟩)]) ∨ (∃ b, s = .slice (some ⟨b, 0, none⟩) len (mkCap len true) ∧ B = [(b, ⟨vs, none⟩)]))
theorem BldV.nil {e : TypeId} {es : Nat} : BldV e es (.slice none 0 0) 0 [] [] := ⟨by simp, .inl ⟨rfl, rfl, rfl⟩⟩
theorem BldV.slice {e : TypeId} {es : Nat} {s : Value} {len : Nat} {vs : List Value} {B : List (Nat × Cl)} (h : BldV e es s len vs B) : ∃ a c, s = .slice a len c := by
 rcases h.2 with ⟨h1, h2, _⟩ | ⟨b, h1, _⟩ | ⟨b, h1, _⟩
 · exact ⟨_, _, by rw [h1, h2]⟩
 · exact ⟨_, _, h1⟩
 exact ⟨_, _, h1⟩
theorem BldV.plain {e : TypeId} {es : Nat} {s : Value} {len : Nat} {vs : List Value} {B : List (Nat × Cl)} (h : BldV e es s len vs B) : plainV s = true := by
 obtain ⟨a, c, rfl⟩ := h.slice; simp
theorem loadN_of {b o : Nat} : ∀ {vs : List Value} {o : Nat}, (∀ j v, vs[j]? = some v → m.load E b (o + j) = some v) → m.loadN E b o vs.length = some vs
 | [], _, _ => rfl
 | v :: vs, o, h => by
  simp only [List.length_cons, Mem.loadN]
  have h0 := h 0 v rfl
  rw [Nat.add_zero] at h0
  rw [h0, loadN_of (b := b) (o := o) (vs := vs) (fun j x hx => by have := h (j + 1) x (by simpa using hx); rwa [show o + (j + 1) = o + 1 + j by omega] at this)]
def Src (E : Env) (m : Mem) (x : Value) (n : Nat) (new : List Value) : Prop := (x = .slice none 0 0 ∧ n = 0 ∧ new = []) ∨ ∃ b o c, x = .slice (some ⟨b, o, none⟩) n c ∧ ∀ j v, new[j]? = some v → m.load E b (o + j) = some v
theorem app_raw {t e : TypeId} {xt : Option TypeId} {es : Nat} (hu : und E t = some (.slice e)) (hi : ((E.P.info? e).map fun i => elemOk E e i && decide (i.size = es)) = some true) (hx : srcOk E xt = true)
 {L1 B L2 : List (Nat × Cl)} (h : S E σ0 m0 σ m (L1 ++ (B ++ L2))) {s x : Value} {len n : Nat} {vs new : List Value} (hB : BldV e es s len vs B) (hs1 : lenSrc x = some n) (hs2 : readSrc E m es n x = some new) (hnew : new.length = n * es) (hp : new.all plainV = true) (hl : len + n ≤ 1048576) :
 ∃ s' m' B', opAppend E t xt s x m = .value s' m' ∧ S E σ0 m0 σ m' (L1 ++ (B' ++ L2)) ∧ BldV e es s' (len + n) (vs ++ new) B' ∧ (B' = B ∨ ∃ b, B' = [(b, ⟨vs ++ new, some e⟩)]) := by
 cases hinfo : E.P.info? e with
 | none => rw [hinfo] at hi; cases hi
 | some i =>
  rw [hinfo] at hi
  simp at hi
  obtain ⟨hel, hes⟩ := hi
  rw [← hes] at hs2
  have hcond : (elemOk E e i && srcOk E xt && decide (len + n ≤ 1048576)) = true := by simp [hel, hx, hl]
  have hlen2 : new.length = n * i.size := by rw [hes]; exact hnew
  obtain ⟨hvl, hB⟩ := hB
  have hvl2 : (vs ++ new).length = (len + n) * es := by rw [List.length_append, hvl, hnew, Nat.add_mul]
  rcases hB with ⟨rfl, rfl, rfl⟩ | ⟨b, rfl, rfl⟩ | ⟨b, rfl, rfl⟩
  ·
   have hv0 : vs = [] := List.eq_nil_of_length_eq_zero (by rw [hvl]; simp)
   subst hv0
   unfold opAppend
   simp only [hu, hs1, hinfo, hcond, hs2, hlen2, if_true]
   by_cases hn : n = 0
   · subst hn
     have : new = [] := List.eq_nil_of_length_eq_zero (by rw [hnew]; simp)
     subst this
     exact ⟨_, m, [], by simp [capOf], h, ⟨by simp, .inl ⟨rfl, by simp, rfl⟩⟩, .inl rfl⟩
   rw [if_neg (by simp [capOf]; omega)]
   simp only [beq_self_eq_true, Bool.and_self, if_true, Nat.zero_add]
   refine ⟨_, _, [(m.nb, ⟨new, some e⟩)], rfl, ?_, ⟨by simpa using hvl2, .inr (.inl ⟨m.nb, by simp, by simp⟩)⟩, .inr ⟨m.nb, by simp⟩⟩
   have := (h.new_cells hp e true).perm (L' := L1 ++ ([(m.nb, ⟨new, some e⟩)] ++ ([] ++ L2))) (by
    simp only [if_true, List.nil_append, List.singleton_append]
    exact List.perm_middle.symm)
   simpa using this
  ·
   have h' := h.perm (L' := (b, ⟨vs, some e⟩) :: (L1 ++ L2)) (by
    simp only [List.singleton_append]
    exact List.perm_middle)
   obtain ⟨⟨hb, c, c1, c2, c3, c4, c5, c6, c7, c8, c9⟩, hge, hno⟩ := h'.own 0 b _ rfl
   unfold opAppend
   simp only [hu, hs1, hinfo, hcond, hs2, hlen2, if_true]
   have hcap : capOf (mkCap len false) = len := by simp [capOf, mkCap]
   have hex : exact (mkCap len false) = false := by simp [exact, mkCap]
   rw [hcap]
   by_cases hn : n = 0
   · subst hn
     have : new = [] := List.eq_nil_of_length_eq_zero (by rw [hnew]; simp)
     subst this
     rw [if_pos (by omega)]
     simp only [Mem.write, List.isEmpty_nil, if_true]
     exact ⟨_, m, [(b, ⟨vs, some e⟩)], rfl, h, ⟨by simpa using hvl, .inr (.inl ⟨b, by simp, by simp⟩)⟩, .inl rfl⟩
   rw [if_neg (by omega)]
   have hold : m.loadN E b 0 (len * i.size) = some vs := by
    rw [hes, ← hvl]
    exact loadN_of (b := b) (o := 0) (fun j v hj => by rw [Nat.zero_add, h'.cell (i := 0) rfl]; exact hj)
   have hlive : m.live b = some c := by
    unfold Mem.live
    simp [hb, c1, c2]
   obtain ⟨d1, d2⟩ := c7 e rfl
   simp only [hold, hex, Bool.false_eq_true, if_false, hlive]
   rw [if_pos (by simp [d1, d2, c4])]
   refine ⟨_, _, [(m.nb, ⟨vs ++ new, some e⟩)], rfl, ?_, ⟨hvl2, .inr (.inl ⟨m.nb, rfl, rfl⟩)⟩, .inr ⟨m.nb, rfl⟩⟩
   have hk := h'.kill (.cells { c with dead := true })
   have hpp : (vs ++ new).all plainV = true := by rw [List.all_append, c8, hp]; rfl
   have := (hk.new_cells hpp e true).perm (L' := L1 ++ ([(m.nb, ⟨vs ++ new, some e⟩)] ++ L2)) (by
    simp only [if_true, List.singleton_append]
    exact List.perm_middle.symm)
   rw [c4, c5, c6] at this ⊢
   exact this
  have h' := h.perm (L' := (b, ⟨vs, none⟩) :: (L1 ++ L2)) (by
   simp only [List.singleton_append]
   exact List.perm_middle)
  unfold opAppend
  simp only [hu, hs1, hinfo, hcond, hs2, hlen2, if_true]
  have hcap : capOf (mkCap len true) = len := by simp [capOf, mkCap]; omega
  have hex : exact (mkCap len true) = true := by simp [exact, mkCap]
  rw [hcap]
  by_cases hn : n = 0
  ·
   subst hn
   have : new = [] := List.eq_nil_of_length_eq_zero (by rw [hnew]; simp)
   subst this
   rw [if_pos (by omega)]
   simp only [Mem.write, List.isEmpty_nil, if_true]
   exact ⟨_, m, [(b, ⟨vs, none⟩)], rfl, h, ⟨by simpa using hvl, .inr (.inr ⟨b, by simp, by simp⟩)⟩, .inl rfl⟩
  rw [if_neg (by omega)]
  have hold : m.loadN E b 0 (len * i.size) = some vs := by
   rw [hes, ← hvl]
   exact loadN_of (b := b) (o := 0) (fun j v hj => by rw [Nat.zero_add, h'.cell (i := 0) rfl]; exact hj)
  have c8 : vs.all plainV = true := by
   obtain ⟨⟨_, c, _, _, _, _, _, _, _, c8, _⟩, _⟩ := h'.own 0 b _ rfl
   exact c8
  simp only [hold, hex, if_true]
  refine ⟨_, _, [(m.nb, ⟨vs ++ new, some e⟩)], rfl, ?_, ⟨hvl2, .inr (.inl ⟨m.nb, rfl, rfl⟩)⟩, .inr ⟨m.nb, rfl⟩⟩
  have hpp : (vs ++ new).all plainV = true := by rw [List.all_append, c8, hp]; rfl
  have := ((h'.drop (List.sublist_cons_self _ _)).new_cells hpp e true).perm (L' := L1 ++ ([(m.nb, ⟨vs ++ new, some e⟩)] ++ L2)) (by
   simp only [if_true, List.singleton_append]
   exact List.perm_middle.symm)
  exact this
theorem app_ok {t e : TypeId} {xt : Option TypeId} {es : Nat} (hu : und E t = some (.slice e)) (hi : ((E.P.info? e).map fun i => elemOk E e i && decide (i.size = es)) = some true) (hx : srcOk E xt = true)
 {L1 B L2 : List (Nat × Cl)} (h : S E σ0 m0 σ m (L1 ++ (B ++ L2))) {s x : Value} {len n : Nat} {vs new : List Value} (hB : BldV e es s len vs B) (hs : Src E m x n new) (hnew : new.length = n * es) (hp : new.all plainV = true) (hl : len + n ≤ 1048576) :
 ∃ s' m' B', opAppend E t xt s x m = .value s' m' ∧ S E σ0 m0 σ m' (L1 ++ (B' ++ L2)) ∧ BldV e es s' (len + n) (vs ++ new) B' := by
 rcases hs with ⟨rfl, rfl, rfl⟩ | ⟨b, o, c, rfl, hld⟩
 · obtain ⟨s', m', B', h1, h2, h3, _⟩ := app_raw hu hi hx h hB (x := .slice none 0 0) (new := []) rfl rfl hnew hp hl
   exact ⟨s', m', B', h1, h2, h3⟩
 obtain ⟨s', m', B', h1, h2, h3, _⟩ := app_raw hu hi hx h hB (x := .slice (some ⟨b, o, none⟩) n c) (new := new) rfl (by
  simp only [readSrc]
  rw [← hnew]
  exact loadN_of (o := o) hld) hnew hp hl
 exact ⟨s', m', B', h1, h2, h3⟩
theorem S.done {e : TypeId} {es : Nat} {L1 B L2 : List (Nat × Cl)} (h : S E σ0 m0 σ m (L1 ++ (B ++ L2))) {s : Value} {len : Nat} {vs : List Value} (hB : BldV e es s len vs B) :
 ∃ σ' b, σ.le σ' ∧ S E σ0 m0 σ' m (L1 ++ L2) ∧ SliceAt s len b 0 ∧ ∀ j v, vs[j]? = some v → σ' b j = some v := by
 obtain ⟨hvl, ⟨rfl, rfl, rfl⟩ | ⟨b, rfl, rfl⟩ | ⟨b, rfl, rfl⟩⟩ := hB
 · have hv0 : vs = [] := List.eq_nil_of_length_eq_zero (by rw [hvl]; simp)
   subst hv0
   exact ⟨σ, 0, Kn.le_refl σ, by simpa using h, .inl ⟨rfl, rfl⟩, fun j v hj => by simp at hj⟩
 ·
  have h' := h.perm (L' := (b, ⟨vs, some e⟩) :: (L1 ++ L2)) (by
   simp only [List.singleton_append]
   exact List.perm_middle)
  obtain ⟨σ', hle, hS, hn⟩ := h'.freeze (i := 0) rfl
  exact ⟨σ', b, hle, hS, .inr ⟨_, rfl⟩, fun j v hj => by rw [hn]; exact hj⟩
 have h' := h.perm (L' := (b, ⟨vs, none⟩) :: (L1 ++ L2)) (by
  simp only [List.singleton_append]
  exact List.perm_middle)
 obtain ⟨σ', hle, hS, hn⟩ := h'.freeze (i := 0) rfl
 exact ⟨σ', b, hle, hS, .inr ⟨_, rfl⟩, fun j v hj => by rw [hn]; exact hj⟩
end Go.Proofs.Lw
