/-
  PROVED here: steps on the way to the card of 'sleuthlaw06.ReduceTreeMinimal' (an abstract machine, its soundness, what each function computes). No conditions beyond those that each theorem states.
-/
import Derived.Test.YtfgpboldklboaaaGreatDoorAm20
namespace Go.Proofs.Lw
open Go Go.Am
set_option maxRecDepth 8000
structure OkTree (g : List RuleD) (t : T) : Prop where
 gram : OkG g
 few : nodes t ≤ 1024
 flat : depth t ≤ 24
 fit : OkN g t
theorem dL_mem : ∀ {l : List T} {x : T}, x ∈ l → depth x ≤ dL l
 | [], x, h => by simp at h
 | t :: r, x, h => by
  simp only [dL]
  rcases List.mem_cons.1 h with rfl | h
  · omega
  have := dL_mem h; omega
theorem dSS_mem : ∀ {ss : List (List T)} {l : List T}, l ∈ ss → dL l ≤ dSS ss
 | [], x, h => by simp at h
 | t :: r, x, h => by
  simp only [dSS]
  rcases List.mem_cons.1 h with rfl | h
  · omega
  have := dSS_mem h; omega
variable {gl : Nat → Nat → Option Value} {ng : Nat}
theorem f6_ok {σ : Kn} {m : Mem} {rv tv : Value} {g : List RuleD} {t : T} (hw : WF m) (hh : Holds (cfg gl ng).toEnv σ m) (hg : RulesV σ rv g) (hl : GramLen g) (ht : TreeK σ tv t) (hwt : wt t < 1048575) :
 Ct gl ng 6 [.agg #[rv], tv] σ m (fun _ v => Err (OkTree g t) v) := by
 refine Ct.of (c := _) Tryz.func6 rfl 22 rfl (fun c hnt => ?_)
 obtain ⟨bg, og, hg1, _⟩ := id hg
 have hS := S.start hw hh
 obtain ⟨m1, nb2, hbx1, hS1⟩ := hS.box 24 #[rv] (by simp [hg1.plain])
 obtain ⟨x, y, z, rfl, px, py, pz⟩ := ht.agg
 obtain ⟨m2, nb3, hbx2, hS2⟩ := hS1.box 27 #[x, y, z] (by simp [px, py, pz])
 repeat apply W.seq
 apply W.regN; simp [hnt, hbx1, hbx2]
 repeat apply W.seq
 apply W.regN; simp [hnt, hS2.c1]
 refine Ct.use (f14_ok hS2.wf hS2.holds hg hl) (fun σ3 v3 m3 hl3 hv3 => ?_)
 obtain ⟨e, rfl, he⟩ := hv3
 have hS3 := hS2.grow hl3.grow
 simp [hnt]
 by_cases e0 : e = 0
 ·
  repeat apply W.seq
  apply W.regN; simp [hnt, e0]
  refine W.choose (by simp; rfl) (fun hc => ?_) fun hc => ?_
  · cases hc
  apply W.skip; try simp only [Then, InBlk]
  have hok := he.1 e0
  have hn1 := nodes_le_wt t
  repeat apply W.seq
  apply W.regN; simp [hnt, hS3.c0]
  refine Ct.use (f7_ct hS3.wf hS3.holds ht (by omega)) (fun σ4 v4 m4 hl4 hv4 => ?_)
  subst hv4
  have hS4 := hS3.grow hl4.grow
  by_cases c1 : (1024 : Int) < nodes t
  ·
   simp [hnt, c1]
   refine W.choose (by simp; rfl) (fun hc => ?_) fun hc => ?_
   · repeat apply W.seq
     apply W.regN; simp [hnt]
     apply W.ret; try simp only [Then, InBlk]
     refine ⟨.inr rfl, rfl, rfl, _, by simp [unwind.results, Tryz.f6]; rfl, _, hS4.learn, ?_⟩
     exact .bad (by decide) (fun h => by have := h.few; omega)
   cases hc
  simp [hnt, c1, hS4.c0]
  refine Ct.use (f15_ct hS4.wf hS4.holds ht (by omega)) (fun σ5 v5 m5 hl5 hv5 => ?_)
  subst hv5
  have hS5 := hS4.grow hl5.grow
  by_cases c2 : (24 : Int) < depth t
  ·
   simp [hnt, c2]
   refine W.choose (by simp; rfl) (fun hc => ?_) fun hc => ?_
   · repeat apply W.seq
     apply W.regN; simp [hnt]
     apply W.ret; try simp only [Then, InBlk]
     refine ⟨.inr rfl, rfl, rfl, _, by simp [unwind.results, Tryz.f6]; rfl, _, hS5.learn, ?_⟩
     exact .bad (by decide) (fun h => by have := h.flat; omega)
   cases hc
  simp [hnt, c2]
  refine W.choose (by simp; rfl) (fun hc => ?_) fun hc => ?_
  · cases hc
  apply W.skip; try simp only [Then, InBlk]
  repeat apply W.seq
  apply W.regN; simp [hnt, hS5.c0, hS5.c1]
  refine Ct.use (f16_ok 1048575 t σ m5 rv _ g (by omega) (by omega) hS5.wf hS5.holds hg hok.rules ht) (fun σ6 v6 m6 hl6 hv6 => ?_)
  obtain ⟨e, rfl, he⟩ := hv6
  have hS6 := hS5.grow hl6.grow
  simp [hnt]
  apply W.ret
  refine ⟨.inr rfl, rfl, rfl, _, by simp [unwind.results, Tryz.f6]; rfl, _, hS6.learn, ?_⟩
  exact ⟨e, rfl, fun h => ⟨hok, by omega, by omega, he.1 h⟩, fun h => he.2 h.fit⟩
 repeat apply W.seq
 apply W.regN; simp [hnt, e0]
 refine W.choose (by simp; rfl) (fun hc => ?_) fun hc => ?_
 ·
  repeat apply W.seq
  apply W.regN; simp [hnt]
  apply W.ret; try simp only [Then, InBlk]
  refine ⟨.inr rfl, rfl, rfl, _, by simp [unwind.results, Tryz.f6]; rfl, _, hS3.learn, ?_⟩
  exact .bad e0 (fun h => e0 (he.2 h.gram))
 cases hc
theorem f54_ok : ∀ (N : Nat) (t : T) (σ : Kn) (m : Mem) (tv : Value) (d b : Int), wt t ≤ N → N < 1048576 → WF m → Holds (cfg gl ng).toEnv σ m → TreeK σ tv t → 1 ≤ d → d + depth t ≤ 25 → (nodes t : Int) ≤ b → b ≤ 1024 →
 Ct gl ng 54 [tv, .int .i64 d, .int .i64 b] σ m (fun _ v => v = .tuple #[.int .i64 (nodes t), .bool false]) := by
 intro N
 induction N with
 | zero => intro t σ m tv d b h; obtain ⟨k, tx, ss⟩ := t; simp only [wt] at h; omega
 | succ N ih =>
  intro t σ m tv d b hN hlim hw hh ht hd hdt hnb hb
  obtain ⟨k, tx, ss⟩ := t
  simp only [wt] at hN
  simp only [TreeK] at ht
  obtain ⟨sv, bb, o, rfl, h2, h3⟩ := ht
  refine Ct.of (c := _) Tryz.func54 rfl 55 rfl (fun c hnt => ?_)
  have hS := S.start hw hh
  obtain ⟨m1, nb3, hbx, hS1⟩ := hS.box 27 #[.int .i64 k, .string tx, sv] (by simp [h2.plain])
  have hslen : ∀ m', opLen (cfg gl ng) 25 sv m' = .value (.int .i64 ss.length) m' := fun m' => K.ly25 h2
  have hlss := len_wtSS ss
  simp only [nodes] at hnb
  simp only [depth] at hdt
  have hnss := nodesSS_le_wt ss
  have c1 : ¬ 24 < d := by omega
  repeat apply W.seq
  apply W.regN; simp [hnt, hbx]
  repeat apply W.seq
  apply W.regN; simp [hnt, c1]
  repeat apply W.seq
  apply W.regN; simp [hnt, hS1.c0, hslen]
  apply W.block
  obtain ⟨I, hI⟩ : ∃ I : Nat → Tr Value → Mem → Prop, I = fun (i : Nat) (t : Tr Value) (m' : Mem) => t.get 19 = some (.int .i64 i) ∧ t.get 6 = some (.int .i64 ((1 + nodesSS (ss.take i) : Nat) : Int)) ∧ t.get 7 = some (.bool false) ∧ S (cfg gl ng).toEnv σ m σ m' [(nb3, ⟨[.int .i64 k, .string tx, sv], none⟩)] := ⟨_, rfl⟩
  refine W.upto (ws := [20, 21, 22, 9, 23, 24, 25, 26, 27, 28, 11, 29, 30, 31, 32, 33, 34, 35, 36, 6, 7, 38, 39, 40, 41, 42, 43, 44, 37, 45, 46, 12, 13, 47, 48, 49, 50, 51, 52, 19]) (by kernel_rfl) (ss.length) I 0 (by omega) (by rw [hI]; exact ⟨by simp, by simp [nodesSS], by simp, hS1⟩) ?_
  intro i t m2 hi hfr hIi
  rw [hI] at hIi
  obtain ⟨q19, q6, q7, hS2⟩ := hIi
  repeat apply W.seq
  apply W.regN; simp [hnt, q19, hfr]
  repeat apply W.seq
  refine W.choose (by simp; rfl) (fun hc => ?_) fun hc => ?_
  ·
   have hil : i < ss.length := by simpa using hc
   apply W.skip; try simp only [Then, InBlk]
   have hsi : ss[i]? = some ss[i] := by simp [hil]
   have hmi : ss[i] ∈ ss := by simp
   obtain ⟨lv, b1, o1, a1, a2, a3⟩ := h3.get hsi
   have hwl := wtSS_get hsi
   have hln := nodesL_le_wt ss[i]
   have hll := len_nodesL ss[i]
   have htk := nodesSS_take hsi
   have hle1 := nodesSS_le_take (l := ss) (i := i + 1)
   have hdl := dSS_mem hmi
   generalize ss[i] = l at *
   repeat apply W.seq
   apply W.block
   repeat apply W.seq
   apply W.regN; simp [hnt, q19, hfr, K.iy25 h2 hil, hS2.kn, a1]
   repeat apply W.seq
   apply W.regN; simp [hnt, K.ly59 a2]
   apply W.block
   obtain ⟨I2, hI2⟩ : ∃ I2 : Nat → Tr Value → Mem → Prop, I2 = fun (j : Nat) (t : Tr Value) (m' : Mem) => t.get 25 = some (.int .i64 j) ∧ t.get 6 = some (.int .i64 ((1 + nodesSS (ss.take i) + nodesL (l.take j) : Nat) : Int)) ∧ t.get 7 = some (.bool false) ∧ S (cfg gl ng).toEnv σ m σ m' [(nb3, ⟨[.int .i64 k, .string tx, sv], none⟩)] := ⟨_, rfl⟩
   refine W.upto (ws := [26, 27, 28, 11, 29, 30, 31, 32, 33, 34, 35, 36, 6, 7, 38, 39, 40, 41, 42, 43, 44, 37, 45, 46, 12, 13, 47, 48, 49, 50, 51, 25]) (by kernel_rfl) (l.length) I2 0 (by omega) (by rw [hI2]; exact ⟨by simp, by simp [nodesL, q6], by simp [q7], hS2⟩) ?_
   intro j t3 m3 hj hfr3 hIi
   rw [hI2] at hIi
   obtain ⟨q25, q6', q7', hS3⟩ := hIi
   repeat apply W.seq
   apply W.regN; simp [hnt, q25, hfr3]
   repeat apply W.seq
   refine W.choose (by simp; rfl) (fun hc => ?_) fun hc => ?_
   ·
    have hjl : j < l.length := by simpa using hc
    apply W.skip; try simp only [Then, InBlk]
    have hgj : l[j]? = some l[j] := by simp [hjl]
    have hmj : l[j] ∈ l := by simp
    obtain ⟨x1, y1, z1, w1, w2, w3, w4⟩ := a3.get hgj
    have hwj := wtL_get hgj
    have htk2 := nodesL_take hgj
    have hle2 := nodesL_le_take (l := l) (i := j + 1)
    have hdj := dL_mem hmj
    have hnj := nodes_le_wt l[j]
    generalize l[j] = tj at *
    obtain ⟨rfl, rfl, pz, _⟩ := w4.inv
    obtain ⟨m4, e4, hS4⟩ := hS3.var 27 [.int .i64 0, .string .empty, .slice none 0 0] [.int .i64 (kindT tj), .string (textT tj), z1] (by simp) (by simp [pz]) rfl
    repeat apply W.seq
    apply W.block
    repeat apply W.seq
    apply W.regN; simp [hnt, q25, hfr3, K.iy59 a2 hjl, hS3.kn, w1, w2, w3, e4]
    generalize m3.nb = nb11 at *
    have c2 : ¬ b < ((1 + nodesSS (ss.take i) + nodesL (l.take j) : Nat) : Int) := by omega
    have hq6 : t3.get 6 = some (.int .i64 (1 + nodesSS (ss.take i) + nodesL (l.take j))) := by rw [q6']; simp
    have c2' : ¬ b < 1 + (nodesSS (ss.take i) : Int) + nodesL (l.take j) := by omega
    repeat apply W.seq
    apply W.regN; simp [hnt, hq6, q7', hfr3, hfr, c2']
    refine W.choose (by simp; rfl) (fun hc => ?_) fun hc => ?_
    · cases hc
    apply W.skip; try simp only [Then, InBlk]
    repeat apply W.seq
    apply W.regN; simp [hnt, hS4.c0, hfr3, hfr, hq6]
    rw [wrap_i64 (n := d + 1) (by omega) (by omega), wrap_i64 (n := b - (1 + (nodesSS (ss.take i) : Int) + nodesL (l.take j))) (by omega) (by omega)]
    refine Ct.use (ih tj σ m4 _ (d + 1) _ (by omega) (by omega) hS4.wf hS4.holds w4 (by omega) (by omega) (by omega) (by omega)) (fun σ5 v5 m5 hl5 hv5 => ?_)
    subst hv5
    have hS5 := (hS4.grow hl5.grow).drop (List.sublist_cons_self _ _)
    simp [hnt]
    repeat apply W.seq
    apply W.regN; simp [hnt, hq6]
    rw [wrap_i64 (n := 1 + (nodesSS (ss.take i) : Int) + nodesL (l.take j) + nodes tj) (by omega) (by omega)]
    apply W.regN; simp [hnt]
    apply W.regN; simp [hnt, q25, hfr3, wr1 (show j < _ by omega)]
    exact ⟨j + 1, by omega, by omega, by rw [hI2]; exact ⟨by simp, by rw [htk2]; simp; omega, by simp, hS5⟩⟩
   have hje : j = l.length := by
    have : l.length ≤ j := by simpa using hc
    omega
   apply W.exit; try simp [Then, InBlk]
   apply W.regN; simp [hnt, q19, hfr3, wr1 (show i < _ by omega)]
   exact ⟨i + 1, by omega, by omega, by rw [hI]; exact ⟨by simp, by rw [htk]; simp [q6', hje]; omega, by simp [q7'], hS3⟩⟩
  have hil : i = ss.length := by
   have : ss.length ≤ i := by simpa using hc
   omega
  apply W.exit; try simp [Then, InBlk]
  repeat apply W.seq
  apply W.regN; simp [hnt, q6, q7]
  apply W.ret
  refine ⟨.inr rfl, rfl, rfl, _, by simp [unwind.results, Tryz.f54]; rfl, _, hS2.learn, ?_⟩
  simp [retV, nodes, hil]
theorem f55_ok : ∀ (N : Nat) (t : T) (σ : Kn) (m : Mem) (rv tv : Value) (g : List RuleD), wt t ≤ N → N < 1048576 → WF m → Holds (cfg gl ng).toEnv σ m → RulesV σ rv g → RulesOk g → TreeK σ tv t → OkN g t →
 Ct gl ng 55 [.agg #[rv], tv] σ m (fun _ v => v = .int .i64 0) := by
 intro N
 induction N with
 | zero => intro t σ m rv tv g h; obtain ⟨k, tx, ss⟩ := t; simp only [wt] at h; omega
 | succ N ih =>
  intro t σ m rv tv g hN hlim hw hh hg hru ht hok
  obtain ⟨k, tx, ss⟩ := t
  simp only [wt] at hN
  simp only [TreeK] at ht
  obtain ⟨sv, b, o, rfl, h2, h3⟩ := ht
  simp only [OkN] at hok
  obtain ⟨⟨r, hnf⟩, hok⟩ := hok
  have hok := OkSS_iff.1 hok
  obtain ⟨kn, rfl⟩ : ∃ kn : Nat, k = kn := ⟨k.toNat, by have := hnf.pos; omega⟩
  have hgk : g[kn]? = some r := by have := hnf.rule; simpa using this
  have hkl := lt_of_get hgk
  refine Ct.of (c := _) Tryz.func55 rfl 120 rfl (fun c hnt => ?_)
  have hgV := hg
  obtain ⟨bg, og, hg1, hg2⟩ := hg
  have hfew := hru.few
  have hlss := len_wtSS ss
  have hS := S.start hw hh
  obtain ⟨m1, nb2, hbx1, hS1⟩ := hS.box 24 #[rv] (by simp [hg1.plain])
  obtain ⟨m2, nb3, hbx2, hS2⟩ := hS1.box 27 #[.int .i64 kn, .string tx, sv] (by simp [h2.plain])
  have hlen : ∀ m', opLen (cfg gl ng) 22 rv m' = .value (.int .i64 g.length) m' := fun m' => K.ly22 hg1
  have hslen : ∀ m', opLen (cfg gl ng) 25 sv m' = .value (.int .i64 ss.length) m' := fun m' => K.ly25 h2
  repeat apply W.seq
  apply W.regN; simp [hnt, hbx1, hbx2]
  have c2 : ¬ g.length ≤ kn := by omega
  repeat apply W.seq
  apply W.regN; simp [hnt, hS2.c0, hS2.c1, hlen, c2]
  refine W.choose (by simp; rfl) (fun hc => ?_) fun hc => ?_
  · cases hc
  apply W.skip; try simp only [Then, InBlk]
  obtain ⟨slv, r1, r2, r3, r4, bs, os, hs1, hs2⟩ := hg2 kn r hgk
  have hr := hru.rules r (List.mem_of_getElem? hgk)
  have hsl : r.slots.length ≤ 8 := hr.few
  have hllen : ∀ m', opLen (cfg gl ng) 49 slv m' = .value (.int .i64 r.slots.length) m' := fun m' => K.ly49 hs1
  obtain ⟨m3, e3, hS3⟩ := hS2.var 51 [.string .empty, .string .empty, .bool false, .slice none 0 0] [.string r.before, .string r.after, .bool r.leaf, slv] (by simp) (by simp [hs1.plain]) rfl
  repeat apply W.seq
  apply W.regN; simp [hnt, hS2.c0, hS2.c1, hS2.kn, K.iy22 hg1 hkl, r1, r2, r3, r4, e3]
  generalize m2.nb = nb5 at *
  obtain ⟨L, hL⟩ : ∃ L : List (Nat × Cl), L = [(nb5, ⟨[.string r.before, .string r.after, .bool r.leaf, slv], none⟩), (nb3, ⟨[.int .i64 kn, .string tx, sv], none⟩), (nb2, ⟨[rv], none⟩)] := ⟨_, rfl⟩
  obtain ⟨J, hJ⟩ : ∃ J : Tr Value → Mem → Prop, J = fun t m' => S (cfg gl ng).toEnv σ m σ m' L := ⟨_, rfl⟩
  have hd2 := hnf.len
  refine W.cut (ws := [34, 35, 36, 37, 33, 4, 39, 40, 41, 42, 43, 44, 45, 46, 38, 47, 48, 49, 50, 51, 52, 53]) (by kernel_rfl) J ?_ (fun t0 m4 hfr0 hJ0 => ?_)
  ·
   have c3 : ¬ (16 : Int) < tx.size := by have := hnf.text; omega
   apply W.block
   repeat apply W.seq
   apply W.regN; simp [hnt, hS3.c1, c3]
   refine W.choose (by simp; rfl) (fun hc => ?_) fun hc => ?_
   · cases hc
   by_cases c5 : tx = .empty
   ·
    repeat apply W.seq
    apply W.regN; simp [hnt, hS3.c0, hS3.c1, c5]
    refine W.choose (by simp; rfl) (fun hc => ?_) fun hc => ?_
    · cases hc
    apply W.regN; simp [hnt, hS3.c0, hS3.c1, hslen, hllen, hd2]
    refine W.choose (by simp; rfl) (fun hc => ?_) fun hc => ?_
    · cases hc
    apply W.skip; try simp only [Then, InBlk]
    simp
    rw [hJ, hL]; exact hS3
   have hlf := hnf.leaf c5
   repeat apply W.seq
   apply W.regN; simp [hnt, hS3.c0, hS3.c1, c5, hlf]
   refine W.choose (by simp; rfl) (fun hc => ?_) fun hc => ?_
   · cases hc
   apply W.regN; simp [hnt, hS3.c0, hS3.c1, hslen, hllen, hd2]
   refine W.choose (by simp; rfl) (fun hc => ?_) fun hc => ?_
   · cases hc
   apply W.skip; try simp only [Then, InBlk]
   simp
   rw [hJ, hL]; exact hS3
  rw [hJ] at hJ0
  have hS4 := hJ0
  have hSc0 : ∀ {σ' m'}, S (cfg gl ng).toEnv σ m σ' m' L → ∀ o, m'.load (cfg gl ng).toEnv nb5 o = [Value.string r.before, .string r.after, .bool r.leaf, slv][o]? := fun h o => h.cell (i := 0) (by rw [hL]; rfl) o
  have hSc1 : ∀ {σ' m'}, S (cfg gl ng).toEnv σ m σ' m' L → ∀ o, m'.load (cfg gl ng).toEnv nb3 o = [Value.int .i64 kn, .string tx, sv][o]? := fun h o => h.cell (i := 1) (by rw [hL]; rfl) o
  have hSc2 : ∀ {σ' m'}, S (cfg gl ng).toEnv σ m σ' m' L → ∀ o, m'.load (cfg gl ng).toEnv nb2 o = [rv][o]? := fun h o => h.cell (i := 2) (by rw [hL]; rfl) o
  refine W.cut (ws := [54, 55, 56, 57, 58, 59, 60, 61, 6, 7, 62, 63, 64, 65, 66, 8, 67, 68, 69, 70, 71, 72, 73, 74, 75, 76, 77, 78, 79, 80, 81, 82, 83, 84, 4, 85, 86, 87, 88, 89, 90, 10, 91, 92, 93, 94, 95, 96, 97, 98, 57]) (by kernel_rfl) J ?_ (fun t1 m5 hfr1 hJ1 => ?_)
  ·
   repeat apply W.seq
   apply W.regN; simp [hnt, hSc1 hS4, hfr0, hslen]
   apply W.block
   obtain ⟨I, hI⟩ : ∃ I : Nat → Tr Value → Mem → Prop, I = fun (i : Nat) (t : Tr Value) (m' : Mem) => t.get 57 = some (.int .i64 i) ∧ S (cfg gl ng).toEnv σ m σ m' L := ⟨_, rfl⟩
   refine W.upto (ws := [58, 59, 60, 61, 6, 7, 62, 63, 64, 65, 66, 8, 67, 68, 69, 70, 71, 72, 73, 74, 75, 76, 77, 78, 79, 80, 81, 82, 83, 84, 4, 85, 86, 87, 88, 89, 90, 10, 91, 92, 93, 94, 95, 96, 97, 98, 57]) (by kernel_rfl) (ss.length) I 0 (by omega) (by rw [hI]; exact ⟨by simp, hS4⟩) ?_
   intro i t m5 hi hfr hIi
   rw [hI] at hIi
   obtain ⟨q57, hS5⟩ := hIi
   repeat apply W.seq
   apply W.regN; simp [hnt, q57, hfr]
   repeat apply W.seq
   refine W.choose (by simp; rfl) (fun hc => ?_) fun hc => ?_
   ·
    have hil : i < ss.length := by simpa using hc
    apply W.skip; try simp only [Then, InBlk]
    have hil2 : i < r.slots.length := by omega
    have hgi : r.slots[i]? = some r.slots[i] := by simp [hil2]
    have hsm : r.slots[i] ∈ r.slots := by simp
    have hsi : ss[i]? = some ss[i] := by simp [hil]
    obtain ⟨kv, u1, u2, u3, u4⟩ := hs2 i r.slots[i] hgi
    have hso := hr.slots _ hsm
    obtain ⟨lv, b1, o1, a1, a2, a3⟩ := h3.get hsi
    have hwl := wtSS_get hsi
    have hll := len_nodesL ss[i]
    have hln := nodesL_le_wt ss[i]
    have hf := hnf.fit i _ _ hgi hsi
    generalize r.slots[i] = sl at *
    generalize ss[i] = l at *
    obtain ⟨m6, e6, hS6⟩ := hS5.var 55 [.int .u8 0, .slice none 0 0, .string .empty] [.int .u8 sl.many, kv, .string sl.between] (by simp) (by simp [u4.plain]) rfl
    repeat apply W.seq
    apply W.block
    repeat apply W.seq
    apply W.regN; simp [hnt, q57, hfr, K.iy25 h2 hil, hS5.kn, a1]
    repeat apply W.seq
    apply W.regN; simp [hnt, hSc0 hS5, hfr, hfr0, K.iy49 hs1 hil2, hS5.kn, u1, u2, u3, e6]
    generalize m5.nb = nb8 at *
    have hllen2 : ∀ m', opLen (cfg gl ng) 59 lv m' = .value (.int .i64 l.length) m' := fun m' => K.ly59 a2
    obtain ⟨J3, hJ3⟩ : ∃ J : Tr Value → Mem → Prop, J = fun t m' => S (cfg gl ng).toEnv σ m σ m' ((nb8, ⟨[.int .u8 sl.many, kv, .string sl.between], none⟩) :: L) := ⟨_, rfl⟩
    refine W.cut (ws := [67, 68, 69, 70, 71, 72, 73, 74, 75, 76, 77, 78, 79, 80, 81, 82, 83, 84, 4]) (by kernel_rfl) J3 ?_ (fun t2 m7 hfr2 hJ3' => ?_)
    ·
     by_cases e0 : sl.many = 0
     · have e1 := hf.one e0
       repeat apply W.seq
       apply W.regN; simp [hnt, hS6.c0, e0, hllen2, e1]
       refine W.choose (by simp; rfl) (fun hc => ?_) fun hc => ?_
       · cases hc
       apply W.skip; try simp only [Then, InBlk]
       simp
       rw [hJ3]; exact hS6
     by_cases e2 : sl.many = 1
     · have e3 : ¬ (1 : Int) < l.length := by have := hf.maybe e2; omega
       repeat apply W.seq
       apply W.regN; simp [hnt, hS6.c0, e2, hllen2, e3]
       refine W.choose (by simp; rfl) (fun hc => ?_) fun hc => ?_
       · cases hc
       apply W.skip; try simp only [Then, InBlk]
       simp
       rw [hJ3]; exact hS6
     repeat apply W.seq
     apply W.regN; simp [hnt, hS6.c0, e0, e2]
     refine W.choose (by simp; rfl) (fun hc => ?_) fun hc => ?_
     · cases hc
     apply W.skip; try simp only [Then, InBlk]
     simp
     rw [hJ3]; exact hS6
    rw [hJ3] at hJ3'
    repeat apply W.seq
    apply W.regN; simp [hnt, hfr2, hllen2]
    apply W.block
    obtain ⟨I2, hI2⟩ : ∃ I2 : Nat → Tr Value → Mem → Prop, I2 = fun (j : Nat) (t : Tr Value) (m' : Mem) => t.get 87 = some (.int .i64 j) ∧ S (cfg gl ng).toEnv σ m σ m' ((nb8, ⟨[.int .u8 sl.many, kv, .string sl.between], none⟩) :: L) := ⟨_, rfl⟩
    refine W.upto (ws := [88, 89, 90, 10, 91, 92, 93, 94, 95, 96, 4, 97, 87]) (by kernel_rfl) (l.length) I2 0 (by omega) (by rw [hI2]; exact ⟨by simp, hJ3'⟩) ?_
    intro j t3 m8 hj hfr3 hIi
    rw [hI2] at hIi
    obtain ⟨q87, hS8⟩ := hIi
    repeat apply W.seq
    apply W.regN; simp [hnt, q87, hfr3]
    repeat apply W.seq
    refine W.choose (by simp; rfl) (fun hc => ?_) fun hc => ?_
    ·
     have hjl : j < l.length := by simpa using hc
     apply W.skip; try simp only [Then, InBlk]
     have hgj : l[j]? = some l[j] := by simp [hjl]
     obtain ⟨x1, y1, z1, w1, w2, w3, w4⟩ := a3.get hgj
     have hkx := hf.kinds _ (List.getElem_mem hjl)
     generalize l[j] = tj at *
     obtain ⟨rfl, rfl, pz, _⟩ := w4.inv
     obtain ⟨m9, e9, hS9⟩ := hS8.var 27 [.int .i64 0, .string .empty, .slice none 0 0] [.int .i64 (kindT tj), .string (textT tj), z1] (by simp) (by simp [pz]) rfl
     repeat apply W.seq
     apply W.block
     repeat apply W.seq
     apply W.regN; simp [hnt, q87, hfr3, hfr2, K.iy59 a2 hjl, hS8.kn, w1, w2, w3, e9]
     generalize m8.nb = nb10 at *
     repeat apply W.seq
     apply W.regN; simp [hnt, hS9.c0, hS9.c1, hfr3, hfr2]
     refine Ct.use (Ct.any hS9.wf hS9.holds (f47_ct hS9.wf (IntsK.mono hS9.holds u4) (by have := hso.rise.len; omega))) (fun σ10 v10 m10 hl10 hv10 => ?_)
     subst hv10
     have hS10 := (hS9.grow hl10.grow).drop (List.sublist_cons_self _ _)
     simp [hnt, hkx]
     refine W.choose (by simp; rfl) (fun hc => ?_) fun hc => ?_
     · cases hc
     apply W.skip; try simp only [Then, InBlk]
     apply W.regN; simp [hnt, q87, hfr3, wr1 (show j < _ by omega)]
     exact ⟨j + 1, by omega, by omega, by rw [hI2]; exact ⟨by simp, hS10⟩⟩
    apply W.exit; try simp [Then, InBlk]
    apply W.regN; simp [hnt, q57, hfr3, hfr2, wr1 (show i < _ by omega)]
    exact ⟨i + 1, by omega, by omega, by rw [hI]; exact ⟨by simp, hS8.drop (List.sublist_cons_self _ _)⟩⟩
   apply W.exit; try simp [Then, InBlk]
   rw [hJ]
   exact hS5
  rw [hJ] at hJ1
  have hS6 := hJ1
  repeat apply W.seq
  apply W.regN; simp [hnt, hSc1 hS6, hfr1, hfr0, hslen]
  apply W.block
  obtain ⟨I, hI⟩ : ∃ I : Nat → Tr Value → Mem → Prop, I = fun (i : Nat) (t : Tr Value) (m' : Mem) => t.get 102 = some (.int .i64 i) ∧ S (cfg gl ng).toEnv σ m σ m' L := ⟨_, rfl⟩
  refine W.upto (ws := [103, 104, 105, 12, 106, 107, 108, 109, 110, 111, 14, 112, 113, 114, 15, 115, 116, 117, 4, 118, 119, 102]) (by kernel_rfl) (ss.length) I 0 (by omega) (by rw [hI]; exact ⟨by simp, hS6⟩) ?_
  intro i t m7 hi hfr hIi
  rw [hI] at hIi
  obtain ⟨q102, hS7⟩ := hIi
  repeat apply W.seq
  apply W.regN; simp [hnt, q102, hfr]
  repeat apply W.seq
  refine W.choose (by simp; rfl) (fun hc => ?_) fun hc => ?_
  ·
   have hil : i < ss.length := by simpa using hc
   apply W.skip; try simp only [Then, InBlk]
   have hsi : ss[i]? = some ss[i] := by simp [hil]
   have hmi : ss[i] ∈ ss := by simp
   obtain ⟨lv, b1, o1, a1, a2, a3⟩ := h3.get hsi
   have hwl := wtSS_get hsi
   have hll := len_nodesL ss[i]
   have hln := nodesL_le_wt ss[i]
   generalize ss[i] = l at *
   repeat apply W.seq
   apply W.block
   repeat apply W.seq
   apply W.regN; simp [hnt, q102, hfr, K.iy25 h2 hil, hS7.kn, a1]
   repeat apply W.seq
   apply W.regN; simp [hnt, K.ly59 a2]
   apply W.block
   obtain ⟨I2, hI2⟩ : ∃ I2 : Nat → Tr Value → Mem → Prop, I2 = fun (j : Nat) (t : Tr Value) (m' : Mem) => t.get 108 = some (.int .i64 j) ∧ S (cfg gl ng).toEnv σ m σ m' L := ⟨_, rfl⟩
   refine W.upto (ws := [109, 110, 111, 14, 112, 113, 114, 15, 115, 116, 117, 4, 118, 108]) (by kernel_rfl) (l.length) I2 0 (by omega) (by rw [hI2]; exact ⟨by simp, hS7⟩) ?_
   intro j t3 m8 hj hfr3 hIi
   rw [hI2] at hIi
   obtain ⟨q108, hS8⟩ := hIi
   repeat apply W.seq
   apply W.regN; simp [hnt, q108, hfr3]
   repeat apply W.seq
   refine W.choose (by simp; rfl) (fun hc => ?_) fun hc => ?_
   ·
    have hjl : j < l.length := by simpa using hc
    apply W.skip; try simp only [Then, InBlk]
    have hgj : l[j]? = some l[j] := by simp [hjl]
    have hmj : l[j] ∈ l := by simp
    obtain ⟨x1, y1, z1, w1, w2, w3, w4⟩ := a3.get hgj
    have hwj := wtL_get hgj
    generalize l[j] = tj at *
    obtain ⟨rfl, rfl, pz, _⟩ := w4.inv
    obtain ⟨m9, e9, hS9⟩ := hS8.var 27 [.int .i64 0, .string .empty, .slice none 0 0] [.int .i64 (kindT tj), .string (textT tj), z1] (by simp) (by simp [pz]) rfl
    repeat apply W.seq
    apply W.block
    repeat apply W.seq
    apply W.regN; simp [hnt, q108, hfr3, K.iy59 a2 hjl, hS8.kn, w1, w2, w3, e9]
    have hc2 : ∀ o, m9.load (cfg gl ng).toEnv nb2 o = [rv][o]? := fun o => hS9.cell (i := 3) (by rw [hL]; rfl) o
    repeat apply W.seq
    apply W.regN; simp [hnt, hS9.c0, hc2, hfr3, hfr, hfr1, hfr0]
    refine Ct.use (ih tj σ m9 rv _ g (by omega) (by omega) hS9.wf hS9.holds hgV hru w4 (hok l hmi tj hmj)) (fun σ10 v10 m10 hl10 hv10 => ?_)
    subst hv10
    have hS10 := (hS9.grow hl10.grow).drop (List.sublist_cons_self _ _)
    simp [hnt]
    repeat apply W.seq
    apply W.regN; simp [hnt]
    refine W.choose (by simp; rfl) (fun hc => ?_) fun hc => ?_
    · cases hc
    apply W.skip; try simp only [Then, InBlk]
    apply W.regN; simp [hnt, q108, hfr3, wr1 (show j < _ by omega)]
    exact ⟨j + 1, by omega, by omega, by rw [hI2]; exact ⟨by simp, hS10⟩⟩
   apply W.exit; try simp [Then, InBlk]
   apply W.regN; simp [hnt, q102, hfr3, wr1 (show i < _ by omega)]
   exact ⟨i + 1, by omega, by omega, by rw [hI]; exact ⟨by simp, hS8⟩⟩
  apply W.exit; try simp [Then, InBlk]
  repeat apply W.seq
  apply W.regN; simp [hnt]
  apply W.ret
  refine ⟨.inr rfl, rfl, rfl, _, by simp [unwind.results, Tryz.f55]; rfl, _, hS7.learn, ?_⟩
  simp [retV]
theorem f25_ok {σ : Kn} {m : Mem} {rv tv : Value} {g : List RuleD} {t : T} (hw : WF m) (hh : Holds (cfg gl ng).toEnv σ m) (hg : RulesV σ rv g) (ht : TreeK σ tv t) (hwt : wt t < 1048575) (hok : OkTree g t) :
 Ct gl ng 25 [.agg #[rv], tv] σ m (fun _ v => v = .int .i64 0) := by
 refine Ct.of (c := _) Tryz.func25 rfl 26 rfl (fun c hnt => ?_)
 obtain ⟨bg, og, hg1, _⟩ := id hg
 have hS := S.start hw hh
 obtain ⟨m1, nb2, hbx1, hS1⟩ := hS.box 24 #[rv] (by simp [hg1.plain])
 obtain ⟨x, y, z, rfl, px, py, pz⟩ := ht.agg
 obtain ⟨m2, nb3, hbx2, hS2⟩ := hS1.box 27 #[x, y, z] (by simp [px, py, pz])
 repeat apply W.seq
 apply W.regN; simp [hnt, hbx1, hbx2]
 repeat apply W.seq
 apply W.regN; simp [hnt, hS2.c1]
 refine Ct.use (f49_ok hS2.wf hS2.holds hg hok.gram) (fun σ3 v3 m3 hl3 hv3 => ?_)
 subst hv3
 have hS3 := hS2.grow hl3.grow
 simp [hnt]
 repeat apply W.seq
 apply W.regN; simp [hnt]
 refine W.choose (by simp; rfl) (fun hc => ?_) fun hc => ?_
 · cases hc
 apply W.skip; try simp only [Then, InBlk]
 repeat apply W.seq
 apply W.regN; simp [hnt, hS3.c0]
 have h1 := hok.flat
 have h2 := hok.few
 refine Ct.use (f54_ok 1048575 t σ m3 _ 1 1024 (by omega) (by omega) hS3.wf hS3.holds ht (by omega) (by omega) (by omega) (by omega)) (fun σ4 v4 m4 hl4 hv4 => ?_)
 subst hv4
 have hS4 := hS3.grow hl4.grow
 simp [hnt]
 have c1 : ¬ (1024 : Int) < nodes t := by omega
 repeat apply W.seq
 apply W.regN; simp [hnt, c1]
 refine W.choose (by simp; rfl) (fun hc => ?_) fun hc => ?_
 · cases hc
 apply W.skip; try simp only [Then, InBlk]
 repeat apply W.seq
 apply W.regN; simp [hnt, hS4.c0, hS4.c1]
 refine Ct.use (f55_ok 1048575 t σ m4 rv _ g (by omega) (by omega) hS4.wf hS4.holds hg hok.gram.rules ht hok.fit) (fun σ5 v5 m5 hl5 hv5 => ?_)
 subst hv5
 have hS5 := hS4.grow hl5.grow
 simp [hnt]
 apply W.ret
 refine ⟨.inr rfl, rfl, rfl, _, by simp [unwind.results, Tryz.f25]; rfl, _, hS5.learn, ?_⟩
 simp [retV]
end Go.Proofs.Lw
namespace Go.Proofs.Lw
open Go Go.Am
set_option maxRecDepth 8000
mutual
def textG (g : List RuleD) : T → ByteArray
 | .mk k tx ss => match g[k.toNat]? with
  | none => .empty
  | some r => accSS g ss r.slots (r.before ++ tx) ++ r.after
def accSS (g : List RuleD) : List (List T) → List SlotD → ByteArray → ByteArray
 | [], _, acc => acc
 | _ :: _, [], acc => acc
 | l :: ss, s :: sl, acc => accSS g ss sl (accL g l s.between 0 acc)
def accL (g : List RuleD) : List T → ByteArray → Nat → ByteArray → ByteArray
 | [], _, _, acc => acc
 | t :: r, b, j, acc => accL g r b (j + 1) ((if 0 < j then acc ++ b else acc) ++ textG g t)
end
mutual
theorem textG_size {g : List RuleD} (hr : RulesOk g) : ∀ {t : T}, OkN g t → (textG g t).size + 16 ≤ 64 * nodes t
 | .mk k tx ss, h => by
  simp only [OkN] at h
  obtain ⟨⟨r, hn⟩, h2⟩ := h
  have hk := hn.rule
  have hru := hr.rules r (List.mem_of_getElem? hk)
  simp only [textG, hk, nodes, ByteArray.size_append]
  have h1 := accSS_size hr (sl := r.slots) (acc := r.before ++ tx) h2 (fun s hs => (hru.slots s hs).between)
  have h3 := hru.before
  have h4 := hru.after
  have h5 := hn.text
  rw [ByteArray.size_append] at h1
  omega
theorem accSS_size {g : List RuleD} (hr : RulesOk g) : ∀ {ss : List (List T)} {sl : List SlotD} {acc : ByteArray}, OkSS g ss → (∀ s ∈ sl, s.between.size ≤ 16) → (accSS g ss sl acc).size ≤ acc.size + 64 * nodesSS ss
 | [], _, acc, _, _ => by simp [accSS, nodesSS]
 | _ :: _, [], acc, _, _ => by simp only [accSS]; omega
 | l :: ss, s :: sl, acc, h, hb => by
  simp only [OkSS] at h
  simp only [accSS, nodesSS]
  have h1 := accL_size hr (b := s.between) (j := 0) (acc := acc) h.1 (hb s (by simp))
  have h2 := accSS_size hr (sl := sl) (acc := accL g l s.between 0 acc) h.2 (fun x hx => hb x (by simp [hx]))
  omega
theorem accL_size {g : List RuleD} (hr : RulesOk g) : ∀ {l : List T} {b : ByteArray} {j : Nat} {acc : ByteArray}, OkL g l → b.size ≤ 16 → (accL g l b j acc).size ≤ acc.size + 64 * nodesL l
 | [], _, _, acc, _, _ => by simp [accL, nodesL]
 | t :: r, b, j, acc, h, hb => by
  simp only [OkL] at h
  simp only [accL, nodesL]
  have h1 := textG_size hr h.1
  have h2 := accL_size hr (b := b) (j := j + 1) (acc := (if 0 < j then acc ++ b else acc) ++ textG g t) h.2 hb
  rw [ByteArray.size_append] at h2
  have h3 : (if 0 < j then acc ++ b else acc).size ≤ acc.size + 16 := by
   split
   · rw [ByteArray.size_append]; omega
   omega
  omega
end
variable {gl : Nat → Nat → Option Value} {ng : Nat}
theorem f32_ok : ∀ (N : Nat) (t : T) (σ : Kn) (m : Mem) (rv tv : Value) (g : List RuleD), wt t ≤ N → N < 1048576 → nodes t ≤ 1024 → WF m → Holds (cfg gl ng).toEnv σ m → RulesV σ rv g → RulesOk g → TreeK σ tv t → OkN g t →
 Ct gl ng 32 [.agg #[rv], tv] σ m (fun _ v => v = .string (textG g t)) := by
 intro N
 induction N with
 | zero => intro t σ m rv tv g h; obtain ⟨k, tx, ss⟩ := t; simp only [wt] at h; omega
 | succ N ih =>
  intro t σ m rv tv g hN hlim hnod hw hh hg hru ht hok
  obtain ⟨k, tx, ss⟩ := t
  simp only [wt] at hN
  simp only [nodes] at hnod
  simp only [TreeK] at ht
  obtain ⟨sv, b, o, rfl, h2, h3⟩ := ht
  have hokN := hok
  simp only [OkN] at hok
  obtain ⟨⟨r, hnf⟩, hok⟩ := hok
  have hokS := OkSS_iff.1 hok
  obtain ⟨kn, rfl⟩ : ∃ kn : Nat, k = kn := ⟨k.toNat, by have := hnf.pos; omega⟩
  have hgk : g[kn]? = some r := by have := hnf.rule; simpa using this
  have hkl := lt_of_get hgk
  have htx : textG g (.mk kn tx ss) = accSS g ss r.slots (r.before ++ tx) ++ r.after := by simp only [textG, Int.toNat_natCast, hgk]
  refine Ct.of (c := _) Tryz.func32 rfl 63 rfl (fun c hnt => ?_)
  have hgV := hg
  obtain ⟨bg, og, hg1, hg2⟩ := hg
  have hlss := len_wtSS ss
  have hS := S.start hw hh
  obtain ⟨m1, nb2, hbx1, hS1⟩ := hS.box 24 #[rv] (by simp [hg1.plain])
  obtain ⟨m2, nb3, hbx2, hS2⟩ := hS1.box 27 #[.int .i64 kn, .string tx, sv] (by simp [h2.plain])
  have hslen : ∀ m', opLen (cfg gl ng) 25 sv m' = .value (.int .i64 ss.length) m' := fun m' => K.ly25 h2
  obtain ⟨slv, r1, r2, r3, r4, bs, os, hs1, hs2⟩ := hg2 kn r hgk
  have hr := hru.rules r (List.mem_of_getElem? hgk)
  have hd2 := hnf.len
  repeat apply W.seq
  apply W.regN; simp [hnt, hbx1, hbx2]
  obtain ⟨m3, e3, hS3⟩ := hS2.var 51 [.string .empty, .string .empty, .bool false, .slice none 0 0] [.string r.before, .string r.after, .bool r.leaf, slv] (by simp) (by simp [hs1.plain]) rfl
  repeat apply W.seq
  apply W.regN; simp [hnt, hS2.c0, hS2.c1, hS2.kn, K.iy22 hg1 hkl, r1, r2, r3, r4, e3]
  generalize m2.nb = nb5 at *
  have z1 := hr.before
  have z2 := hnf.text
  have z3 := hr.after
  repeat apply W.seq
  apply W.regN; simp [hnt, hS3.c0, hS3.c1, opBin_sadd (x := r.before) (y := tx) (by omega)]
  repeat apply W.seq
  apply W.regN; simp [hnt]
  have hnss := nodesSS_le_wt ss
  apply W.block
  obtain ⟨I, hI⟩ : ∃ I : Nat → Tr Value → Mem → Prop, I = fun (i : Nat) (t : Tr Value) (m' : Mem) => t.get 7 = some (.int .i64 i) ∧ S (cfg gl ng).toEnv σ m σ m' [(nb5, ⟨[.string r.before, .string r.after, .bool r.leaf, slv], none⟩), (nb3, ⟨[.int .i64 kn, .string tx, sv], none⟩), (nb2, ⟨[rv], none⟩)] ∧ ∃ acc : ByteArray, t.get 6 = some (.string acc) ∧ acc.size ≤ 32 + 64 * nodesSS (ss.take i) ∧ accSS g (ss.drop i) (r.slots.drop i) acc = accSS g ss r.slots (r.before ++ tx) := ⟨_, rfl⟩
  refine W.upto (ws := [20, 21, 22, 23, 24, 8, 27, 28, 29, 30, 31, 32, 33, 34, 37, 38, 39, 40, 41, 42, 43, 44, 45, 46, 6, 47, 48, 49, 50, 51, 52, 53, 54, 55, 56, 57, 58, 35, 36, 25, 26, 7]) (by kernel_rfl) (ss.length) I 0 (by omega) (by rw [hI]; exact ⟨by simp, hS3, _, by simp, by simp [nodesSS, ByteArray.size_append]; omega, rfl⟩) ?_
  intro i t m4 hi hfr hIi
  rw [hI] at hIi
  obtain ⟨q7, hS4, acc, q6, hsz, hacc⟩ := hIi
  repeat apply W.seq
  apply W.regN; simp [hnt, q7, hS4.c1, hfr, hslen]
  refine W.choose (by simp; rfl) (fun hc => ?_) fun hc => ?_
  ·
   have hil : i < ss.length := by simpa using hc
   apply W.skip; try simp only [Then, InBlk]
   have hil2 : i < r.slots.length := by omega
   have hgi : r.slots[i]? = some r.slots[i] := by simp [hil2]
   have hsm : r.slots[i] ∈ r.slots := by simp
   have hsi : ss[i]? = some ss[i] := by simp [hil]
   have hmi : ss[i] ∈ ss := by simp
   obtain ⟨kv, u1, u2, u3, u4⟩ := hs2 i r.slots[i] hgi
   have hbt := (hr.slots _ hsm).between
   obtain ⟨lv, b1, o1, a1, a2, a3⟩ := h3.get hsi
   have hwl := wtSS_get hsi
   have hll := len_nodesL ss[i]
   have hln := nodesL_le_wt ss[i]
   have htk := nodesSS_take hsi
   have hle1 := nodesSS_le_take (l := ss) (i := i + 1)
   have hdrop : ss.drop i = ss[i] :: ss.drop (i + 1) := List.drop_eq_getElem_cons hil
   have hdrop2 : r.slots.drop i = r.slots[i] :: r.slots.drop (i + 1) := List.drop_eq_getElem_cons hil2
   have hacc2 : accSS g (ss.drop (i + 1)) (r.slots.drop (i + 1)) (accL g ss[i] r.slots[i].between 0 acc) = accSS g ss r.slots (r.before ++ tx) := by rw [← hacc, hdrop, hdrop2]; simp only [accSS]
   generalize r.slots[i] = sl at *
   generalize ss[i] = l at *
   repeat apply W.seq
   apply W.block
   repeat apply W.seq
   apply W.regN; simp [hnt]
   apply W.block
   obtain ⟨I2, hI2⟩ : ∃ I2 : Nat → Tr Value → Mem → Prop, I2 = fun (j : Nat) (t : Tr Value) (m' : Mem) => t.get 8 = some (.int .i64 j) ∧ S (cfg gl ng).toEnv σ m σ m' [(nb5, ⟨[.string r.before, .string r.after, .bool r.leaf, slv], none⟩), (nb3, ⟨[.int .i64 kn, .string tx, sv], none⟩), (nb2, ⟨[rv], none⟩)] ∧ ∃ acc' : ByteArray, t.get 6 = some (.string acc') ∧ acc'.size ≤ 32 + 64 * nodesSS (ss.take i) + 64 * nodesL (l.take j) ∧ accL g (l.drop j) sl.between j acc' = accL g l sl.between 0 acc := ⟨_, rfl⟩
   refine W.upto (ws := [27, 28, 29, 30, 31, 32, 33, 34, 37, 38, 39, 40, 41, 42, 43, 44, 45, 46, 6, 47, 48, 49, 50, 51, 52, 53, 54, 55, 56, 57, 58, 35, 36, 8]) (by kernel_rfl) (l.length) I2 0 (by omega) (by rw [hI2]; exact ⟨by simp, hS4, acc, by simp [q6], by simp [nodesL]; omega, rfl⟩) ?_
   intro j t3 m5 hj hfr3 hIi
   rw [hI2] at hIi
   obtain ⟨q8, hS5, acc', q6', hsz', hacc'⟩ := hIi
   repeat apply W.seq
   apply W.regN; simp [hnt, q8, hfr3, hfr, q7, hS5.c1, hS5.kn, K.iy25 h2 hil, a1, K.ly59 a2]
   refine W.choose (by simp; rfl) (fun hc => ?_) fun hc => ?_
   ·
    have hjl : j < l.length := by simpa using hc
    apply W.skip; try simp only [Then, InBlk]
    have hgj : l[j]? = some l[j] := by simp [hjl]
    have hmj : l[j] ∈ l := by simp
    obtain ⟨x1, y1, z1', w1, w2, w3, w4⟩ := a3.get hgj
    have hwj := wtL_get hgj
    have htk2 := nodesL_take hgj
    have hle2 := nodesL_le_take (l := l) (i := j + 1)
    have hokj := hokS l hmi _ hmj
    have htsz := textG_size hru hokj
    have hdrop3 : l.drop j = l[j] :: l.drop (j + 1) := List.drop_eq_getElem_cons hjl
    generalize l[j] = tj at *
    have hacc3 : accL g (l.drop (j + 1)) sl.between (j + 1) ((if 0 < j then acc' ++ sl.between else acc') ++ textG g tj) = accL g l sl.between 0 acc := by rw [← hacc', hdrop3]; simp only [accL]
    repeat apply W.seq
    apply W.block
    repeat apply W.seq
    apply W.regN; simp [hnt, q8]
    obtain ⟨J, hJ⟩ : ∃ J : Tr Value → Mem → Prop, J = fun t m' => S (cfg gl ng).toEnv σ m σ m' [(nb5, ⟨[.string r.before, .string r.after, .bool r.leaf, slv], none⟩), (nb3, ⟨[.int .i64 kn, .string tx, sv], none⟩), (nb2, ⟨[rv], none⟩)] ∧ t.get 6 = some (.string (if 0 < j then acc' ++ sl.between else acc')) := ⟨_, rfl⟩
    have hsz3 : (if 0 < j then acc' ++ sl.between else acc').size ≤ acc'.size + 16 := by
     split
     · rw [ByteArray.size_append]; omega
     omega
    refine W.cut' (ws := [39, 40, 41, 42, 43, 44, 45, 46, 6]) (by kernel_rfl) J ?_ (fun t5 m6 hfr5 hJ5 => ?_)
    ·
     refine W.choose (by simp; rfl) (fun hc => ?_) fun hc => ?_
     · have h0 : 0 < j := by simpa using hc
       apply W.regN; simp [hnt, hfr3, hfr, q6', q7, hS5.c0, hS5.kn, K.iy49 hs1 hil2, u3, opBin_sadd (x := acc') (y := sl.between) (by omega)]
       rw [hJ, if_pos h0]
       exact ⟨hS5, by simp⟩
     have h0 : ¬ 0 < j := by simpa using hc
     apply W.skip; try simp only [Then, InBlk]
     simp
     rw [hJ, if_neg h0]
     exact ⟨hS5, by simp [q6']⟩
    rw [hJ] at hJ5
    obtain ⟨hS6, p6⟩ := hJ5
    generalize hac : (if 0 < j then acc' ++ sl.between else acc') = ac at *
    refine W.regU [] [] (by as_aux_lemma => kernel_rfl) ?_
    simp [hnt, p6, hfr5, hfr3, hfr, q7, q8, hS6.c1, hS6.c2, hS6.kn, K.iy25 h2 hil, a1, K.iy59 a2 hjl, w1, w2, w3]
    refine Ct.use (ih tj σ m6 rv _ g (by omega) (by omega) (by omega) hS6.wf hS6.holds hgV hru w4 hokj) (fun σ7 v7 m7 hl7 hv7 => ?_)
    subst hv7
    have hS7 := hS6.grow hl7.grow
    simp [hnt, opBin_sadd (x := ac) (y := textG g tj) (by omega), looseOk]
    apply W.regN; simp [hnt, q8, hfr5, hfr3, wr1 (show j < _ by omega)]
    exact ⟨j + 1, by omega, by omega, by rw [hI2]; exact ⟨by simp, hS7, _, by simp, by rw [ByteArray.size_append, htk2]; omega, hacc3⟩⟩
   have hje : j = l.length := by
    have : l.length ≤ j := by simpa using hc
    omega
   apply W.exit; try simp [Then, InBlk]
   apply W.regN; simp [hnt, q7, hfr3, hfr, wr1 (show i < _ by omega)]
   exact ⟨i + 1, by omega, by omega, by rw [hI]; exact ⟨by simp, hS5, acc', by simp [q6'], by rw [htk]; rw [hje, List.take_length] at hsz'; omega, by rw [← hacc2, ← hacc', hje]; simp [accL]⟩⟩
  have hil : i = ss.length := by
   have : ss.length ≤ i := by simpa using hc
   omega
  apply W.exit; try simp [Then, InBlk]
  have hle1 := nodesSS_le_take (l := ss) (i := i)
  repeat apply W.seq
  apply W.regN; simp [hnt, q6, hfr, hS4.c0, opBin_sadd (x := acc) (y := r.after) (by omega)]
  apply W.ret
  refine ⟨.inr rfl, rfl, rfl, _, by simp [unwind.results, Tryz.f32]; rfl, _, hS4.learn, ?_⟩
  have : accSS g ss r.slots (r.before ++ tx) = acc := by rw [← hacc, hil]; simp [accSS]
  simp [retV, htx, this]
theorem f10_ok {σ : Kn} {m : Mem} {rv tv : Value} {g : List RuleD} {t : T} (hw : WF m) (hh : Holds (cfg gl ng).toEnv σ m) (hg : RulesV σ rv g) (hl : GramLen g) (ht : TreeK σ tv t) (hwt : wt t < 1048575) (hok : OkTree g t) :
 Ct gl ng 10 [.agg #[rv], tv] σ m (fun _ v => v = .tuple #[.string (textG g t), .int .i64 0]) := by
 refine Ct.of (c := _) Tryz.func10 rfl 16 rfl (fun c hnt => ?_)
 obtain ⟨bg, og, hg1, _⟩ := id hg
 have hS := S.start hw hh
 obtain ⟨m1, nb2, hbx1, hS1⟩ := hS.box 24 #[rv] (by simp [hg1.plain])
 have ht0 := ht
 obtain ⟨x, y, z, rfl, px, py, pz⟩ := ht.agg
 obtain ⟨m2, nb3, hbx2, hS2⟩ := hS1.box 27 #[x, y, z] (by simp [px, py, pz])
 repeat apply W.seq
 apply W.regN; simp [hnt, hbx1, hbx2]
 repeat apply W.seq
 apply W.regN; simp [hnt, hS2.c0, hS2.c1]
 refine Ct.use (f6_ok hS2.wf hS2.holds hg hl ht hwt) (fun σ3 v3 m3 hl3 hv3 => ?_)
 obtain ⟨e, rfl, he⟩ := hv3
 have e0 := he.2 hok
 have hS3 := hS2.grow hl3.grow
 simp [hnt]
 repeat apply W.seq
 apply W.regN; simp [hnt, e0]
 refine W.choose (by simp; rfl) (fun hc => ?_) fun hc => ?_
 · cases hc
 apply W.skip; try simp only [Then, InBlk]
 repeat apply W.seq
 apply W.regN; simp [hnt, hS3.c0, hS3.c1]
 refine Ct.use (f32_ok 1048575 t σ m3 rv _ g (by omega) (by omega) hok.few hS3.wf hS3.holds hg hok.gram.rules ht hok.fit) (fun σ5 v5 m5 hl5 hv5 => ?_)
 subst hv5
 have hS5 := hS3.grow hl5.grow
 simp [hnt]
 apply W.ret
 refine ⟨.inr rfl, rfl, rfl, _, by simp [unwind.results, Tryz.f10]; rfl, _, hS5.learn, ?_⟩
 simp [retV]
end Go.Proofs.Lw
