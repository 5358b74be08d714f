/-
  PROVED here: steps on the way to the card of 'sleuthlaw06.ReduceTreeMinimal' (an abstract machine, its soundness, what each function computes). No conditions beyond those that each theorem states.
-/
import Derived.Test.YtfgpboldklboaaaGreatDoorAm23
namespace Go.Proofs.Lw
open Go Go.Am
set_option maxRecDepth 8000
def slotsOf (g : List RuleD) (k : Int) : List SlotD := match g[k.toNat]? with
 | some r => r.slots
 | none => []
def isOut (out : List Int) (n : Nat) : Bool := decide ((n : Int) ∈ out)
mutual
def prunT (g : List RuleD) (least : SlotD → T) (out : List Int) : T → Nat → T
 | .mk k tx ss, n => .mk k tx (prunSS g least out ss (slotsOf g k) (n + 1))
def prunSS (g : List RuleD) (least : SlotD → T) (out : List Int) : List (List T) → List SlotD → Nat → List (List T)
 | [], _, _ => []
 | _ :: _, [], _ => []
 | l :: r, s :: sl, n => prunL g least out l s n :: prunSS g least out r sl (n + nodesL l)
def prunL (g : List RuleD) (least : SlotD → T) (out : List Int) : List T → SlotD → Nat → List T
 | [], _, _ => []
 | t :: r, s, n => (if isOut out n then (if s.many = 0 then [least s] else []) else [prunT g least out t n]) ++ prunL g least out r s (n + nodes t)
end
variable {g : List RuleD} {least : SlotD → T} {out : List Int}
theorem prunSS_get : ∀ {ss : List (List T)} {sl : List SlotD} {n i : Nat} {l : List T} {s : SlotD}, ss[i]? = some l → sl[i]? = some s → (prunSS g least out ss sl n)[i]? = some (prunL g least out l s (n + nodesSS (ss.take i)))
 | [], _, n, i, l, s, h, _ => by simp at h
 | x :: r, [], n, i, l, s, _, h => by simp at h
 | x :: r, y :: sl, n, 0, l, s, h, h' => by simp at h h'; subst h; subst h'; simp [prunSS, nodesSS]
 | x :: r, y :: sl, n, i + 1, l, s, h, h' => by
  have := prunSS_get (ss := r) (sl := sl) (n := n + nodesL x) (i := i) (l := l) (s := s) (by simpa using h) (by simpa using h')
  simp only [prunSS, List.getElem?_cons_succ, this, List.take_succ_cons, nodesSS]
  rw [show n + nodesL x + nodesSS (r.take i) = n + (nodesL x + nodesSS (r.take i)) by omega]
theorem prunSS_len : ∀ {ss : List (List T)} {sl : List SlotD} {n : Nat}, ss.length = sl.length → (prunSS g least out ss sl n).length = ss.length
 | [], _, n, _ => rfl
 | x :: r, [], n, h => by simp at h
 | x :: r, y :: sl, n, h => by simp [prunSS]; exact prunSS_len (by simpa using h)
theorem prunL_snoc : ∀ {l : List T} {s : SlotD} {t : T} {n : Nat}, prunL g least out (l ++ [t]) s n = prunL g least out l s n ++ (if isOut out (n + nodesL l) then (if s.many = 0 then [least s] else []) else [prunT g least out t (n + nodesL l)])
 | [], s, t, n => by
  simp only [List.nil_append, prunL, nodesL, Nat.add_zero, List.append_nil]
  rfl
 | x :: r, s, t, n => by
  simp only [List.cons_append, prunL, nodesL]
  rw [prunL_snoc (l := r), List.append_assoc]
  simp only [Nat.add_assoc]
  rfl
theorem prunL_len : ∀ {l : List T} {s : SlotD} {n : Nat}, (prunL g least out l s n).length ≤ l.length
 | [], s, n => by simp [prunL]
 | x :: r, s, n => by
  have := prunL_len (l := r) (s := s) (n := n + nodes x)
  simp only [prunL, List.length_append, List.length_cons]
  split
  · split <;> simp <;> omega
  simp; omega
variable {gl : Nat → Nat → Option Value} {ng : Nat}
theorem S.ck7 {E : Env} {σ0 σ : Kn} {m0 m : Mem} {b : Nat} {k : Cl} {p0 p1 p2 p3 p4 p5 p6 : Nat × Cl} {l : List (Nat × Cl)} (h : S E σ0 m0 σ m (p0 :: p1 :: p2 :: p3 :: p4 :: p5 :: p6 :: (b, k) :: l)) (o : Nat) : m.load E b o = k.vs[o]? := h.cell (i := 7) rfl o
theorem f67_ok : ∀ (N : Nat) (t : T) (n : Nat) (ns out : List Int) (g : List RuleD) (σ : Kn) (m : Mem) (rv nv tv ov : Value), wt t ≤ N → N < 1048576 → n + nodes t ≤ 2048 → out.length < 1048576 → WF m → Holds (cfg gl ng).toEnv σ m → RulesV σ rv g → IntsK σ nv ns → MinL g ns → RulesOk g → OkN g t → TreeK σ tv t → IntsK σ ov out →
 Ct gl ng 67 [.agg #[rv], nv, tv, .int .i64 n, ov] σ m (fun σ' v => ∃ v', v = .tuple #[v', .int .i64 ((n + nodes t : Nat) : Int)] ∧ TreeK σ' v' (prunT g (fun s => leastT g (pickR ns) 1024 (pickR ns s).toNat) out t n)) := by
 intro N
 induction N with
 | zero => intro t n ns out g σ m rv nv tv ov h; obtain ⟨k, tx, ss⟩ := t; simp only [wt] at h; omega
 | succ N ih =>
  intro t n ns out g σ m rv nv tv ov hN hlim hnn hol hw hh hg hn hmin hru hok ht ho
  obtain ⟨least, hleast⟩ : ∃ f : SlotD → T, f = fun s => leastT g (pickR ns) 1024 (pickR ns s).toNat := ⟨_, rfl⟩
  rw [← hleast]
  obtain ⟨k, tx, ss⟩ := t
  simp only [wt] at hN
  have hnod : nodes (T.mk k tx ss) = 1 + nodesSS ss := by simp only [nodes]
  rw [hnod] at hnn
  simp only [TreeK] at ht
  obtain ⟨sv, b, o, rfl, h2, h3⟩ := ht
  simp only [OkN] at hok
  obtain ⟨⟨r, hnf⟩, hok⟩ := hok
  have hokS := OkSS_iff.1 hok
  obtain ⟨kn, rfl⟩ : ∃ kn : Nat, k = kn := ⟨k.toNat, by have := hnf.pos; omega⟩
  have hgk : g[kn]? = some r := by have := hnf.rule; simpa using this
  have hkl := lt_of_get hgk
  have hso : slotsOf g (kn : Int) = r.slots := by simp [slotsOf, hgk]
  have hd2 := hnf.len
  have hf := hmin.fixed hru
  have hnl := hmin.len
  have hfew := hru.few
  refine Ct.of (c := _) Tryz.func67 rfl 118 rfl (fun c hnt => ?_)
  have hgV := hg
  obtain ⟨bg, og, hg1, hg2⟩ := hg
  obtain ⟨slv, r1, r2, r3, r4, bs, os, hs1, hs2⟩ := hg2 kn r hgk
  have hr := hru.rules r (List.mem_of_getElem? hgk)
  have hlss := len_wtSS ss
  have hS := S.start hw hh
  obtain ⟨m1, nb5, hbx1, hS1⟩ := hS.box 24 #[rv] (by simp [hg1.plain])
  obtain ⟨m2', nb7, hbx2, hS1'⟩ := hS1.box 27 #[.int .i64 kn, .string tx, sv] (by simp [h2.plain])
  have hS2 := hS1'.new (vs := [.int .i64 0, .string .empty, .slice none 0 0]) 27 (by simp)
  repeat apply W.seq
  apply W.regN; simp [hnt, hbx1, hbx2]
  generalize m2'.new (.cells (cellsOf [.int .i64 0, .string .empty, .slice none 0 0] 27)) = m2 at *
  generalize m2'.nb = nb10 at *
  have hslen : ∀ m', opLen (cfg gl ng) 25 sv m' = .value (.int .i64 ss.length) m' := fun m' => K.ly25 h2
  have hmk := mk25 (gl := gl) (ng := ng) (m := m2) (n := ss.length) (by omega)
  have hS3 := hS2.new (vs := List.replicate ss.length nilS) 59 (by simp [nilS])
  generalize hav : Value.slice (some ⟨m2.nb, 0, none⟩) ss.length (mkCap ss.length true) = av at hmk
  have hpa : plainV av = true := by rw [← hav]; simp
  change opMakeSlice (cfg gl ng).toEnv 25 (.int .i64 ss.length) (.int .i64 ss.length) m2 = .value av (m2.new (.cells (cellsOf (List.replicate ss.length nilS) 59))) at hmk
  generalize m2.new (.cells (cellsOf (List.replicate ss.length nilS) 59)) = m3 at *
  have hbu := K.bu27_0_1_2 (gl := gl) (ng := ng) (m := m3) (x0 := .int .i64 kn) (x1 := .string tx) (x2 := av) (by simp) (by simp) hpa
  have hA := hS3.new (vs := [.int .i64 0, .string .empty, .slice none 0 0]) 27 (by simp)
  obtain ⟨m4, e4, hS4⟩ := hS3.var 27 [.int .i64 0, .string .empty, .slice none 0 0] [.int .i64 kn, .string tx, av] (by simp) (by simp [hpa]) rfl
  repeat apply W.seq
  refine W.regU [(7, 1), (7, 3), (9, 1), (9, 3), (9, 5), (9, 6)] [7, 8, 1, 3, 9, 10, 5, 6] (by as_aux_lemma => kernel_rfl) ?_
  simp [hnt, hS2.c1, hslen, hmk, hbu, e4]
  refine ⟨?_, ?_⟩
  · simp [looseOk, getS, againOk, quiet, still, beqV, hS2.c1, hS3.c2, hA.c3, hslen, hmk, beq_slice h2]
  have hax : ∀ i : Nat, i < ss.length → ∀ m', opIndexAddr (cfg gl ng).toEnv 25 av (.int .i64 i) m' = .value (.pointer (some ⟨m2.nb, i, none⟩)) m' := by
   intro i hi m'
   rw [← hav, K.ix25 hi, Nat.zero_add]
  generalize m2.nb = nba at *
  generalize m3.nb = nb12 at *
  clear hA
  repeat apply W.seq
  apply W.regN; simp [hnt, wr1 (show n < _ by omega)]
  repeat apply W.seq
  apply W.regN; simp [hnt]
  apply W.block
  obtain ⟨I, hI⟩ : ∃ I : Nat → Tr Value → Mem → Prop, I = fun (i : Nat) (t : Tr Value) (m' : Mem) => t.get 14 = some (.int .i64 i) ∧ t.get 13 = some (.int .i64 ((n + 1 + nodesSS (ss.take i) : Nat) : Int)) ∧ ∃ σ' pre, σ.le σ' ∧ S (cfg gl ng).toEnv σ m σ' m' [(nb12, ⟨[.int .i64 kn, .string tx, av], none⟩), (nba, ⟨pre ++ List.replicate (ss.length - i) nilS, none⟩), (nb10, ⟨[.int .i64 0, .string .empty, .slice none 0 0], none⟩), (nb7, ⟨[.int .i64 kn, .string tx, sv], none⟩), (nb5, ⟨[rv], none⟩)] ∧ RowsK σ' pre ((prunSS g least out ss r.slots (n + 1)).take i) := ⟨_, rfl⟩
  refine W.upto (ws := [31, 32, 33, 34, 35, 15, 38, 39, 40, 41, 42, 43, 44, 45, 48, 49, 50, 51, 52, 53, 54, 55, 16, 56, 57, 58, 59, 61, 62, 63, 64, 65, 66, 60, 67, 68, 17, 18, 69, 70, 71, 72, 73, 74, 75, 76, 77, 78, 79, 80, 81, 13, 82, 83, 84, 85, 86, 87, 88, 89, 90, 91, 92, 93, 94, 95, 19, 96, 97, 98, 99, 100, 101, 102, 103, 104, 105, 106, 107, 108, 109, 110, 111, 112, 113, 114, 115, 46, 47, 36, 37, 14]) (by kernel_rfl) (ss.length) I 0 (by omega) (by rw [hI]; exact ⟨by simp, by simp [nodesSS], σ, [], Kn.le_refl σ, hS4, by simpa using RowsK.nil⟩) ?_
  intro i t m5 hi hfr hIi
  rw [hI] at hIi
  obtain ⟨q14, q13, σ5, pre, hle5, hS5, hR⟩ := hIi
  repeat apply W.seq
  apply W.regN; simp [hnt, q14, hfr, hS5.c3, hslen]
  refine W.choose (by simp; rfl) (fun hc => ?_) fun hc => ?_
  ·
   have hil : i < ss.length := by simpa using hc
   apply W.skip; try simp only [Then, InBlk]
   have hil2 : i < r.slots.length := by omega
   have hgi : r.slots[i]? = some r.slots[i] := by simp [hil2]
   have hsm : r.slots[i] ∈ r.slots := by simp
   have hsi : ss[i]? = some ss[i] := by simp [hil]
   have hmi : ss[i] ∈ ss := by simp
   obtain ⟨kv, u1, u2, u3, u4⟩ := hs2 i r.slots[i] hgi
   have hslo := hr.slots _ hsm
   have hpk := hmin.pick hslo
   obtain ⟨lv, b1, o1, a1, a2, a3⟩ := h3.get hsi
   have hwl := wtSS_get hsi
   have hll := len_nodesL ss[i]
   have hln := nodesL_le_wt ss[i]
   have htk := take_snoc (prunSS_get (g := g) (least := least) (out := out) (n := n + 1) hsi hgi)
   have htkn := nodesSS_take hsi
   have hle1 := nodesSS_le_take (l := ss) (i := i + 1)
   have hpl : pre.length = i := by have := hR.1; rw [this]; simp [prunSS_len hd2]; omega
   generalize r.slots[i] = sl at *
   generalize ss[i] = l at *
   rw [arr_rep hil] at hS5
   obtain ⟨n0, hn0⟩ : ∃ n0 : Nat, n0 = n + 1 + nodesSS (ss.take i) := ⟨_, rfl⟩
   rw [← hn0] at q13 htk
   repeat apply W.seq
   apply W.block
   repeat apply W.seq
   apply W.regN; simp [hnt]
   apply W.block
   obtain ⟨I2, hI2⟩ : ∃ I2 : Nat → Tr Value → Mem → Prop, I2 = fun (j : Nat) (t : Tr Value) (m' : Mem) => t.get 15 = some (.int .i64 j) ∧ t.get 13 = some (.int .i64 ((n0 + nodesL (l.take j) : Nat) : Int)) ∧ ∃ σ' vs2 B2 s2, σ5.le σ' ∧ S (cfg gl ng).toEnv σ m σ' m' ([(nb12, ⟨[.int .i64 kn, .string tx, av], none⟩), (nba, ⟨pre ++ s2 :: List.replicate (ss.length - (i + 1)) nilS, none⟩), (nb10, ⟨[.int .i64 0, .string .empty, .slice none 0 0], none⟩), (nb7, ⟨[.int .i64 kn, .string tx, sv], none⟩), (nb5, ⟨[rv], none⟩)] ++ (B2 ++ [])) ∧ BldV 27 3 s2 (prunL g least out (l.take j) sl n0).length vs2 B2 ∧ CellsK σ' vs2 (prunL g least out (l.take j) sl n0) := ⟨_, rfl⟩
   refine W.upto (ws := [38, 39, 40, 41, 42, 43, 44, 45, 48, 49, 50, 51, 52, 53, 54, 55, 16, 56, 57, 58, 59, 61, 62, 63, 64, 65, 66, 60, 67, 68, 17, 18, 69, 70, 71, 72, 73, 74, 75, 76, 77, 78, 79, 80, 81, 13, 82, 83, 84, 85, 86, 87, 88, 89, 90, 91, 92, 93, 94, 95, 19, 96, 97, 98, 99, 100, 101, 102, 103, 104, 105, 106, 107, 108, 109, 110, 111, 112, 113, 114, 115, 46, 47, 15]) (by kernel_rfl) (l.length) I2 0 (by omega) (by rw [hI2]; exact ⟨by simp, by simp [q13, nodesL], σ5, [], [], nilS, Kn.le_refl _, hS5, by simpa [prunL, nilS] using BldV.nil, by simpa [prunL] using CellsK.nil⟩) ?_
   intro j t3 m6 hj hfr3 hIi
   rw [hI2] at hIi
   obtain ⟨q15, q13', σ6, vs2, B2, s2, hle6, hS6, hB2, hC⟩ := hIi
   have hle56 := Kn.le_trans hle5 hle6
   have a1' := hle56 _ _ _ a1
   have a3' := a3.mono hle56
   have r4' := hle56 _ _ _ r4
   have u1' := hle56 _ _ _ u1
   have u2' := hle56 _ _ _ u2
   have u3' := hle56 _ _ _ u3
   repeat apply W.seq
   apply W.regN; simp [hnt, q15, q14, hfr3, hfr, hS6.c3, hS6.kn, K.iy25 h2 hil, a1', K.ly59 a2]
   refine W.choose (by simp; rfl) (fun hc => ?_) fun hc => ?_
   ·
    have hjl : j < l.length := by simpa using hc
    apply W.skip; try simp only [Then, InBlk]
    have hgj : l[j]? = some l[j] := by simp [hjl]
    have hmj : l[j] ∈ l := by simp
    obtain ⟨x1, y1, z1, w1, w2, w3, w4⟩ := a3'.get hgj
    have hwj := wtL_get hgj
    have htk2 := take_snoc hgj
    have htkn2 := nodesL_take hgj
    have hle2 := nodesL_le_take (l := l) (i := j + 1)
    have hnw := nodes_le_wt l[j]
    have hokj := hokS l hmi _ hmj
    generalize l[j] = tj at *
    have hpln := prunL_len (g := g) (least := least) (out := out) (l := l.take j) (s := sl) (n := n0)
    have hplj : (prunL g least out (l.take j) sl n0).length ≤ l.length := Nat.le_trans hpln (by simp; omega)
    have hsnoc := prunL_snoc (g := g) (least := least) (out := out) (l := l.take j) (s := sl) (t := tj) (n := n0)
    rw [← htk2] at hsnoc
    have hget := arr_get (tail := List.replicate (ss.length - (i + 1)) nilS) (v := s2) hpl
    have hbs2 : beqV 9 s2 s2 = true := by obtain ⟨a, c', rfl⟩ := hB2.slice; exact beq_plain_slice 9
    have hbav : beqV 9 av av = true := by rw [← hav]; exact beq_plain_slice 9
    obtain ⟨nn, hnn'⟩ : ∃ nn : Nat, nn = n0 + nodesL (l.take j) := ⟨_, rfl⟩
    rw [← hnn'] at q13' hsnoc
    obtain ⟨e1, e2, pz, _⟩ := w4.inv
    obtain ⟨ex1, ey1, ez1⟩ := w4.beq 8
    obtain ⟨m7, e7, hS7⟩ := hS6.var 27 [.int .i64 0, .string .empty, .slice none 0 0] [x1, y1, z1] (by simp) (by simp [e1, e2, pz]) rfl
    repeat apply W.seq
    apply W.block
    repeat apply W.seq
    apply W.regN; simp [hnt, q14, q15, hfr3, hfr, hS6.c3, hS6.kn, K.iy25 h2 hil, a1', K.iy59 a2 hjl, w1, w2, w3, e7]
    generalize m6.nb = nb16 at *
    repeat apply W.seq
    apply W.regN; simp [hnt, q13', hfr3, hfr]
    refine Ct.use (Ct.any hS7.wf hS7.holds (f41_ct hS7.wf (IntsK.mono hS7.holds (ho.mono hle56)) hol)) (fun σ8 v8 m8 hl8 hv8 => ?_)
    subst hv8
    have hS8 := hS7.grow hl8.grow
    by_cases hin : (nn : Int) ∈ out
    ·
     simp [hnt, hin]
     refine W.choose (by simp; rfl) (fun hc => ?_) fun hc => ?_
     · cases hc
     apply W.skip; try simp only [Then, InBlk]
     repeat apply W.seq
     apply W.regN; simp [hnt, q13', hfr3, hfr, hS8.c0]
     refine Ct.use (f7_ct hS8.wf hS8.holds w4 (by omega)) (fun σ9 v9 m9 hl9 hv9 => ?_)
     subst hv9
     have hS9 := hS8.grow hl9.grow
     have hwr : IntKind.i64.wrap ((nn : Int) + nodes tj) = ((nn + nodes tj : Nat) : Int) := by rw [wrap_i64 (by omega) (by omega)]; omega
     simp [hnt, hwr]
     obtain ⟨m10, e10, hS10⟩ := hS9.var 55 [.int .u8 0, .slice none 0 0, .string .empty] [.int .u8 sl.many, kv, .string sl.between] (by simp) (by simp [u4.plain]) rfl
     repeat apply W.seq
     apply W.regN; simp [hnt, q14, hfr3, hfr, hS9.c4, hS9.c5, hS9.kn, K.iy22 hg1 hkl, r4', K.iy49 hs1 hil2, u1', u2', u3', e10]
     by_cases hmany : sl.many = 0
     ·
      repeat apply W.seq
      apply W.regN; simp [hnt, hS10.c0, hmany]
      refine W.choose (by simp; rfl) (fun hc => ?_) fun hc => ?_
      ·
       have hpr := hslo.rise.kinds _ (low_mem (sizes := ns) hslo.some)
       rw [← hpk] at hpr
       obtain ⟨cn, hcn⟩ : ∃ cn : Nat, pickR ns sl = cn := ⟨(pickR ns sl).toNat, by omega⟩
       have hcnl : cn < g.length := by omega
       have hcp := hmin.rng cn hcnl
       refine W.regU [(12, 1), (12, 4), (12, 7), (12, 8), (13, 1), (13, 4), (13, 7), (14, 1), (14, 4), (14, 7), (15, 1)] [12, 13, 1, 4, 7, 8, 14, 15, 16] (by as_aux_lemma => kernel_rfl) ?_
       simp [hnt, q14, hfr3, hfr, hS10.c0, hS10.c2, hS10.c3, hS10.c6, hax i hil, hget]
       refine Ct.use (Ct.any hS10.wf hS10.holds (f66_ok hS10.wf (IntsK.mono hS10.holds (u4.mono hle56)) (IntsK.mono hS10.holds (hn.mono hle56)) (by simp) (by simp) (by rw [hnl]; exact hslo.rise.kinds) (by have := hslo.rise.len; omega))) (fun σ11 v11 m11 hl11 hv11 => ?_)
       subst hv11
       have hS11 := hS10.grow hl11.grow
       have hcn2 : choiceGo ns sl.kinds (-1) = cn := hcn
       simp [hnt, hcn2]
       refine Ct.use (f40_ok 1024 cn σ6 m11 rv nv g ns hS11.wf hS11.holds (hgV.mono hle56) (hn.mono hle56) hf hcnl (by omega) (by omega)) (fun σ12 v12 m12 hl12 hv12 => ?_)
       obtain ⟨x, y, z, rfl, px, py, pz'⟩ := hv12.agg
       have hS12 := hS11.learn' hl12
       have hS12n := hS12.new (vs := [x, y, z]) 27 (by simp [px, py, pz'])
       obtain ⟨s', m13, B', e13, hS13, hB13⟩ := hS12.appt (L1 := (m9.nb, ⟨[.int .u8 sl.many, kv, .string sl.between], none⟩) :: (nb16, ⟨[x1, y1, z1], none⟩) :: [(nb12, ⟨[.int .i64 kn, .string tx, av], none⟩), (nba, ⟨pre ++ s2 :: List.replicate (ss.length - (i + 1)) nilS, none⟩), (nb10, ⟨[.int .i64 0, .string .empty, .slice none 0 0], none⟩), (nb7, ⟨[.int .i64 kn, .string tx, sv], none⟩), (nb5, ⟨[rv], none⟩)]) hB2 px py pz' (by omega)
       obtain ⟨m14, e14, hS14⟩ := hS13.set1 (i := 3) rfl (o := i) (v := s') (by simp [hpl]) hB13.plain
       simp only [List.set_cons_succ, List.set_cons_zero, arr_set hpl, List.cons_append] at hS14
       simp [hnt, bs59 px py pz', e13, hax i hil, hB13.plain, e14]
       obtain ⟨bkv, okv, hkv1, _⟩ := u4
       refine ⟨?_, ?_⟩
       · simp [looseOk, getS, againOk, quiet, still, beqV, q14, hfr3, hfr, hS10.c0, hS10.c2, hS10.c3, hS10.c6, hS11.c0, hS11.c2, hS11.c3, hS11.c6, hS12.c0, hS12.c2, hS12.c3, hS12.c6, hS12n.c1, hS12n.c3, hS12n.c4, hS12n.ck7, hS13.c0, hS13.c2, hS13.c3, hS13.c6, hax i hil, hget, hbs2, hbav, beq_slice hkv1, beq_slice hg1]
       apply W.regN; simp [hnt, q15, hfr3, wr1 (show j < _ by omega)]
       have hit : (if isOut out nn then (if sl.many = 0 then [least sl] else []) else [prunT g least out tj nn]) = [leastT g (pickR ns) 1024 cn] := by
        rw [if_pos (by simp [isOut, hin]), if_pos hmany, hleast]; simp only [hcn, Int.toNat_natCast]
       exact ⟨j + 1, by omega, by omega, by rw [hI2]; exact ⟨by simp, by rw [htkn2]; simp; omega, σ12, _, B', s', Kn.le_trans hle6 hl12.le, (hS14.drop (List.sublist_cons_self _ _)).drop (List.sublist_cons_self _ _), by rw [hsnoc, hit]; simpa using hB13, by rw [hsnoc, hit]; exact (hC.mono hl12.le).snoc hv12⟩⟩
      cases hc
     repeat apply W.seq
     apply W.regN; simp [hnt, hS10.c0, hmany]
     refine W.choose (by simp; rfl) (fun hc => ?_) fun hc => ?_
     · cases hc
     apply W.skip; try simp only [Then, InBlk]
     apply W.regN; simp [hnt, q15, hfr3, wr1 (show j < _ by omega)]
     have hit : (if isOut out nn then (if sl.many = 0 then [least sl] else []) else [prunT g least out tj nn]) = [] := by
      rw [if_pos (by simp [isOut, hin]), if_neg hmany]
     exact ⟨j + 1, by omega, by omega, by rw [hI2]; exact ⟨by simp, by rw [htkn2]; simp; omega, σ6, vs2, B2, s2, hle6, (hS10.drop (List.sublist_cons_self _ _)).drop (List.sublist_cons_self _ _), by rw [hsnoc, hit, List.append_nil]; exact hB2, by rw [hsnoc, hit, List.append_nil]; exact hC⟩⟩
    simp [hnt, hin]
    refine W.choose (by simp; rfl) (fun hc => ?_) fun hc => ?_
    ·
     repeat apply W.seq
     apply W.regN; simp [hnt, hS8.c0, hS8.c5, q13', hfr3, hfr]
     refine Ct.use (ih tj nn ns out g σ6 m8 rv _ _ _ (by omega) (by omega) (by omega) hol hS8.wf hS8.holds (hgV.mono hle56) (hn.mono hle56) hmin hru hokj w4 (ho.mono hle56)) (fun σ9 v9 m9 hl9 hv9 => ?_)
     rw [← hleast] at hv9
     obtain ⟨v9', rfl, hv9⟩ := hv9
     obtain ⟨x, y, z, rfl, px, py, pz'⟩ := hv9.agg
     have hS9 := hS8.learn' hl9
     obtain ⟨m10, e10, hS10⟩ := hS9.var 27 [.int .i64 0, .string .empty, .slice none 0 0] [x, y, z] (by simp) (by simp [px, py, pz']) rfl
     simp [hnt, e10]
     have hS10n := hS10.new (vs := [x, y, z]) 27 (by simp [px, py, pz'])
     obtain ⟨s', m11, B', e11, hS11, hB11⟩ := hS10.appt (L1 := (m9.nb, ⟨[x, y, z], none⟩) :: (nb16, ⟨[x1, y1, z1], none⟩) :: [(nb12, ⟨[.int .i64 kn, .string tx, av], none⟩), (nba, ⟨pre ++ s2 :: List.replicate (ss.length - (i + 1)) nilS, none⟩), (nb10, ⟨[.int .i64 0, .string .empty, .slice none 0 0], none⟩), (nb7, ⟨[.int .i64 kn, .string tx, sv], none⟩), (nb5, ⟨[rv], none⟩)]) hB2 px py pz' (by omega)
     obtain ⟨m12, e12, hS12⟩ := hS11.set1 (i := 3) rfl (o := i) (v := s') (by simp [hpl]) hB11.plain
     simp only [List.set_cons_succ, List.set_cons_zero, arr_set hpl, List.cons_append] at hS12
     repeat apply W.seq
     refine W.regU [(9, 1), (9, 4), (9, 7), (10, 1)] [9, 10, 1, 4, 7, 11] (by as_aux_lemma => kernel_rfl) ?_
     simp [hnt, q14, hfr3, hfr, hS10.c0, hS10.c2, hS10.c3, hax i hil, hget, bs59 px py pz', e11, hB11.plain, e12]
     refine ⟨?_, ?_⟩
     · simp [looseOk, getS, againOk, quiet, still, beqV, q14, hfr3, hfr, hS10.c0, hS10.c2, hS10.c3, hS10n.c1, hS10n.c3, hS10n.c4, hS11.c0, hS11.c2, hS11.c3, hax i hil, hget, hbs2, hbav]
     repeat apply W.seq
     apply W.regN; simp [hnt]
     apply W.exit; try simp [Then, InBlk]
     apply W.regN; simp [hnt, q15, hfr3, wr1 (show j < _ by omega)]
     exact ⟨j + 1, by omega, by omega, by rw [hI2]; exact ⟨by simp, by rw [htkn2]; simp; omega, σ9, _, B', s', Kn.le_trans hle6 hl9.le, (hS12.drop (List.sublist_cons_self _ _)).drop (List.sublist_cons_self _ _), by rw [hsnoc, if_neg (by simp [isOut, hin])]; simpa using hB11, by rw [hsnoc, if_neg (by simp [isOut, hin])]; exact (hC.mono hl9.le).snoc hv9⟩⟩
    cases hc
   have hje : j = l.length := by
    have : l.length ≤ j := by simpa using hc
    omega
   apply W.exit; try simp [Then, InBlk]
   rw [hje, List.take_length] at hB2 hC q13'
   obtain ⟨σ8, b8, hle8, hS8, hv8, hn8⟩ := S.done (L1 := [(nb12, ⟨[.int .i64 kn, .string tx, av], none⟩), (nba, ⟨pre ++ s2 :: List.replicate (ss.length - (i + 1)) nilS, none⟩), (nb10, ⟨[.int .i64 0, .string .empty, .slice none 0 0], none⟩), (nb7, ⟨[.int .i64 kn, .string tx, sv], none⟩), (nb5, ⟨[rv], none⟩)]) hS6 hB2
   apply W.regN; simp [hnt, hfr3, q14, wr1 (show i < _ by omega)]
   exact ⟨i + 1, by omega, by omega, by rw [hI]; exact ⟨by simp, by simp [q13', hn0]; omega, σ8, pre ++ [s2], Kn.le_trans hle5 (Kn.le_trans hle6 hle8), by simpa using hS8, by rw [htk]; exact (hR.mono (Kn.le_trans hle6 hle8)).snoc hv8 ((hC.mono hle8).trees (fun j v hj => by rw [Nat.zero_add]; exact hn8 j v hj))⟩⟩
  have hil : i = ss.length := by
   have : ss.length ≤ i := by simpa using hc
   omega
  apply W.exit; try simp [Then, InBlk]
  rw [hil] at q13
  rw [List.take_length] at q13
  rw [hil, ← prunSS_len (g := g) (least := least) (out := out) (n := n + 1) hd2, List.take_length] at hR
  rw [hil, Nat.sub_self, List.replicate_zero, List.append_nil] at hS5
  obtain ⟨m7, e7, hS7⟩ := hS5.setAll (i := 2) rfl (vs := [.int .i64 kn, .string tx, av]) rfl (by simp [hpa])
  repeat apply W.seq
  apply W.regN; simp [hnt, hfr, hS5.c0, e7, q13]
  obtain ⟨σ8, hle8, hS8, hn8⟩ := hS7.freeze (i := 1) rfl
  apply W.ret
  refine ⟨.inr rfl, rfl, rfl, _, by simp [unwind.results, Tryz.f67, addrOf, loadV, K.is27, K.zs27, Mem.loadN, hfr, hS7.c2]; rfl, _, hS8.learn, ?_⟩
  refine ⟨.agg #[.int .i64 kn, .string tx, av], ?_, ?_⟩
  · simp only [retV, hnod]
    congr 3
    simp; omega
  simp only [prunT, hso, TreeK]
  exact ⟨av, nba, 0, rfl, .inr ⟨_, by rw [prunSS_len hd2]; exact hav.symm⟩, (hR.mono hle8).slots (fun j v hj => by rw [Nat.zero_add, hn8]; exact hj)⟩
end Go.Proofs.Lw
namespace Go.Proofs.Lw
open Go Go.Am
set_option maxRecDepth 8000
abbrev SpotD := T × SlotD × Nat
mutual
def below (g : List RuleD) : T → Nat → List SpotD
 | .mk k _ ss, d => belowSS g ss (slotsOf g k) (d + 1)
def belowSS (g : List RuleD) : List (List T) → List SlotD → Nat → List SpotD
 | [], _, _ => []
 | _ :: _, [], _ => []
 | l :: r, s :: sl, d => belowL g l s d ++ belowSS g r sl d
def belowL (g : List RuleD) : List T → SlotD → Nat → List SpotD
 | [], _, _ => []
 | t :: r, s, d => (t, s, d) :: (below g t d ++ belowL g r s d)
end
mutual
theorem below_len {g : List RuleD} : ∀ {t : T} {d : Nat}, OkN g t → (below g t d).length + 1 = nodes t
 | .mk k tx ss, d, h => by
  simp only [OkN] at h
  obtain ⟨⟨r, hn⟩, h2⟩ := h
  have e : slotsOf g k = r.slots := by simp only [slotsOf, hn.rule]
  have := belowSS_len (d := d + 1) h2 (by rw [hn.len] : ss.length = r.slots.length)
  simp only [below, nodes, e]; omega
theorem belowSS_len {g : List RuleD} : ∀ {ss : List (List T)} {sl : List SlotD} {d : Nat}, OkSS g ss → ss.length = sl.length → (belowSS g ss sl d).length = nodesSS ss
 | [], _, d, _, _ => by simp [belowSS, nodesSS]
 | _ :: _, [], d, _, h => by simp at h
 | l :: r, s :: sl, d, h, hl => by
  simp only [OkSS] at h
  have h1 := belowL_len (s := s) (d := d) h.1
  have h2 := belowSS_len (sl := sl) (d := d) h.2 (by simpa using hl)
  simp only [belowSS, nodesSS, List.length_append]; omega
theorem belowL_len {g : List RuleD} : ∀ {l : List T} {s : SlotD} {d : Nat}, OkL g l → (belowL g l s d).length = nodesL l
 | [], _, d, _ => by simp [belowL, nodesL]
 | t :: r, s, d, h => by
  simp only [OkL] at h
  have h1 := below_len (d := d) h.1
  have h2 := belowL_len (s := s) (d := d) h.2
  simp only [belowL, nodesL, List.length_cons, List.length_append]; omega
end
def SpotsK (σ : Kn) (vs : List Value) (l : List SpotD) : Prop := vs.length = l.length * 8 ∧ ∀ (j : Nat) (e : SpotD), l[j]? = some e → ∃ x y z ab kv, (∀ i v, [x, y, z, .int .i64 ab, .int .u8 e.2.1.many, kv, .string e.2.1.between, .int .i64 e.2.2][i]? = some v → vs[8 * j + i]? = some v) ∧ TreeK σ (.agg #[x, y, z]) e.1 ∧ IntsK σ kv e.2.1.kinds
theorem SpotsK.nil {σ : Kn} : SpotsK σ [] [] := ⟨rfl, fun j t h => by simp at h⟩
theorem SpotsK.mono {σ σ' : Kn} (h : σ.le σ') {vs : List Value} {l : List SpotD} (hc : SpotsK σ vs l) : SpotsK σ' vs l := by
 refine ⟨hc.1, fun j t ht => ?_⟩
 obtain ⟨x, y, z, ab, kv, a1, a2, a3⟩ := hc.2 j t ht
 exact ⟨x, y, z, ab, kv, a1, a2.mono h, a3.mono h⟩
theorem SpotsK.snoc {σ : Kn} {vs : List Value} {l : List SpotD} (hc : SpotsK σ vs l) {x y z kv : Value} {ab : Int} {e : SpotD} (ht : TreeK σ (.agg #[x, y, z]) e.1) (hk : IntsK σ kv e.2.1.kinds) :
 SpotsK σ (vs ++ [x, y, z, .int .i64 ab, .int .u8 e.2.1.many, kv, .string e.2.1.between, .int .i64 e.2.2]) (l ++ [e]) := by
 have hl := hc.1
 refine ⟨by simp [hl]; omega, fun j u hu => ?_⟩
 rcases Nat.lt_trichotomy j l.length with h | h | h
 ·
  rw [List.getElem?_append_left h] at hu
  obtain ⟨x', y', z', ab', kv', a1, a2, a3⟩ := hc.2 j u hu
  refine ⟨x', y', z', ab', kv', fun i v hi => ?_, a2, a3⟩
  have := a1 i v hi
  rw [List.getElem?_append_left (lt_of_get this)]; exact this
 · subst h
   simp at hu; subst hu
   refine ⟨x, y, z, ab, kv, fun i v hi => ?_, ht, hk⟩
   rw [List.getElem?_append_right (by omega), show 8 * l.length + i - vs.length = i by omega]; exact hi
 rw [List.getElem?_eq_none (by simp; omega)] at hu; cases hu
variable {gl : Nat → Nat → Option Value} {ng : Nat}
theorem S.mem {E : Env} {σ0 σ : Kn} {m0 m : Mem} {L : List (Nat × Cl)} (h : S E σ0 m0 σ m L) {b : Nat} {k : Cl} (hm : (b, k) ∈ L) (o : Nat) : m.load E b o = k.vs[o]? := by
 obtain ⟨i, hi⟩ := List.mem_iff_getElem?.1 hm
 exact h.cell hi o
theorem bs108 {m : Mem} {a0 a1 a2 a3 a4 a5 a6 a7 : Value} (h : [a0, a1, a2, a3, a4, a5, a6, a7].all plainV = true) : opBuildSlice (cfg gl ng).toEnv 108 1 [(0, .agg #[a0, a1, a2, a3, a4, a5, a6, a7])] m =
 .value (.slice (some ⟨m.nb, 0, none⟩) 1 (mkCap 1 true)) (m.new (.cells (cellsOf [a0, a1, a2, a3, a4, a5, a6, a7] 111))) := by
 have hu : und (cfg gl ng).toEnv 108 = some (.slice 111) := by kernel_rfl
 have hi : ((cfg gl ng).toEnv.P.info? 111).isSome = true := by kernel_rfl
 have hs : szOf (cfg gl ng).toEnv 111 = 8 := by kernel_rfl
 have hz : zeroOf (cfg gl ng).toEnv 111 = some (.agg #[.int .i64 0, .string .empty, .slice none 0 0, .int .i64 0, .int .u8 0, .slice none 0 0, .string .empty, .int .i64 0]) := by kernel_rfl
 have e : Instr.fill (fun i => some (i * 8, 8)) ((Array.range (1 * 8)).map ((Value.agg #[Value.int .i64 0, .string .empty, .slice none 0 0, .int .i64 0, .int .u8 0, .slice none 0 0, .string .empty, .int .i64 0]).cells[· % (Value.agg #[Value.int .i64 0, .string .empty, .slice none 0 0, .int .i64 0, .int .u8 0, .slice none 0 0, .string .empty, .int .i64 0]).cells.size]!)) [(0, .agg #[a0, a1, a2, a3, a4, a5, a6, a7])] = some #[a0, a1, a2, a3, a4, a5, a6, a7] := by
  rw [fill_eq]
  kernel_rfl
 unfold opBuildSlice
 simp only [hu, defd_agg, List.all_cons, List.all_nil, Bool.and_self, hi, hs, Bool.true_and]
 rw [if_pos (by decide), if_neg (by decide)]
 simp only [hz]
 rw [e]
 simp only [Mem.newCells]
 rw [if_pos h]
theorem ap108 {σ0 σ : Kn} {m0 m : Mem} {L1 B L2 : List (Nat × Cl)} (h : S (cfg gl ng).toEnv σ0 m0 σ m (L1 ++ (B ++ L2))) {s : Value} {len : Nat} {vs new : List Value} (hB : BldV 111 8 s len vs B) (hnew : new.length = 8) (hp : new.all plainV = true) (hl : len < 1048576) :
 ∃ s' m' B', opAppend (cfg gl ng).toEnv 108 (some 108) s (.slice (some ⟨m.nb, 0, none⟩) 1 (mkCap 1 true)) (m.new (.cells (cellsOf new 111))) = .value s' m' ∧ S (cfg gl ng).toEnv σ0 m0 σ m' (L1 ++ (B' ++ L2)) ∧ BldV 111 8 s' (len + 1) (vs ++ new) B' := by
 have h1 := h.new (vs := new) 111 hp
 obtain ⟨s', m', B', e, h2, h3⟩ := app_ok (E := (cfg gl ng).toEnv) (t := 108) (e := 111) (xt := some 108) (es := 8) (by kernel_rfl) (by kernel_rfl) (by kernel_rfl) (L1 := (m.nb, ⟨new, none⟩) :: L1) h1 hB (x := .slice (some ⟨m.nb, 0, none⟩) 1 (mkCap 1 true)) (n := 1) (new := new) (.inr ⟨_, 0, _, rfl, fun j x hj => by rw [Nat.zero_add, h1.c0]; exact hj⟩) (by omega) hp (by omega)
 exact ⟨s', m', B', e, h2.drop (List.sublist_cons_self _ _), h3⟩
end Go.Proofs.Lw
namespace Go.Proofs.Lw
open Go Go.Am
set_option maxRecDepth 8000
variable {gl : Nat → Nat → Option Value} {ng : Nat}
def FinQ (gl : Nat → Nat → Option Value) (ng : Nat) (fn : Func) (Q : Out → Mem → Prop) : Ex → St → Prop := fun e s =>
 (e = .normal ∨ e = .ret) ∧ s.defers = [] ∧ s.cm = none ∧ ∃ vs, unwind.results (cfg gl ng) fn.results.toList s = some vs ∧ Q (.returned (retV vs)) s.m
theorem ofQ {f : FuncId} {args : List Value} {m : Mem} {fn : Func} {c : Code} {Q : Out → Mem → Prop} (hf : (cfg gl ng).P.funcs[f]? = some fn) (hc : fn.body = some c) (nt : Nat) (hnt : fn.ntmps = nt)
 (h : ∀ x : Ctx, x.nt = nt → W (cfg gl ng) x c { tmps := Tr.putAll .leaf 0 args, defers := [], cm := none, m } (FinQ gl ng fn Q)) (hk : (cfg gl ng).kf f = none := by rfl) : C (cfg gl ng) f args m Q :=
 C.of hf hc (h _ hnt) hk
theorem below_app {g : List RuleD} {kn : Nat} {tx : ByteArray} {ss : List (List T)} {r : RuleD} {d : Nat} (h : g[kn]? = some r) : below g (.mk kn tx ss) d = belowSS g ss r.slots (d + 1) := by
 simp [below, slotsOf, h]
theorem f85_ok : ∀ (N : Nat) (t : T) (sl0 : SlotD) (n d len : Nat) (g : List RuleD) (σ0 : Kn) (m0 : Mem) (σ : Kn) (m : Mem) (L1 B L2 : List (Nat × Cl)) (rv s : Value) (vs : List Value) (l : List SpotD), wt t ≤ N → N < 1048576 → len + nodes t ≤ 2048 → d + depth t ≤ 2048 →
 S (cfg gl ng).toEnv σ0 m0 σ m (L1 ++ (B ++ L2)) → BldV 111 8 s len vs B → SpotsK σ vs l → l[n]? = some (t, sl0, d) → RulesV σ rv g → RulesOk g → OkN g t →
 C (cfg gl ng) 85 [.agg #[rv], s, .int .i64 n] m (fun out m' => ∃ s' len' vs' B', out = .returned s' ∧ S (cfg gl ng).toEnv σ0 m0 σ m' (L1 ++ (B' ++ L2)) ∧ BldV 111 8 s' len' vs' B' ∧ SpotsK σ vs' (l ++ below g t d)) := by
 intro N
 induction N with
 | zero => intro t sl0 n d len g σ0 m0 σ m L1 B L2 rv s vs l h; obtain ⟨k, tx, ss⟩ := t; simp only [wt] at h; omega
 | succ N ih =>
  intro t sl0 n d len g σ0 m0 σ m L1 B L2 rv s vs l hN hlim hnn hdd hS hB hV hln hg hru hok
  have hokN := hok
  obtain ⟨k, tx, ss⟩ := t
  simp only [wt] at hN
  have hnod : nodes (T.mk k tx ss) = 1 + nodesSS ss := by simp only [nodes]
  have hdep : depth (T.mk k tx ss) = dSS ss + 1 := by simp only [depth]
  rw [hnod] at hnn
  rw [hdep] at hdd
  simp only [OkN] at hok
  obtain ⟨⟨r, hnf⟩, hok⟩ := hok
  have hokS := OkSS_iff.1 hok
  obtain ⟨kn, rfl⟩ : ∃ kn : Nat, k = kn := ⟨k.toNat, by have := hnf.pos; omega⟩
  have hgk : g[kn]? = some r := by have := hnf.rule; simpa using this
  have hkl := lt_of_get hgk
  have hd2 := hnf.len
  obtain ⟨bg, og, hg1, hg2⟩ := id hg
  obtain ⟨slv, r1, r2, r3, r4, bs, os, hs1, hs2⟩ := hg2 kn r hgk
  have hr := hru.rules r (List.mem_of_getElem? hgk)
  have hlen8 : len = l.length := by have h1 := hB.1; have h2 := hV.1; omega
  have hnl := lt_of_get hln
  have cellsAt : ∀ {s2 : Value} {len2 : Nat} {vs2 : List Value} {B2 : List (Nat × Cl)} {A : List SpotD} {σ2 : Kn} {m2 : Mem} {La : List (Nat × Cl)}, S (cfg gl ng).toEnv σ0 m0 σ2 m2 (La ++ (B2 ++ L2)) → BldV 111 8 s2 len2 vs2 B2 → SpotsK σ vs2 A → A[n]? = some ((T.mk kn tx ss), sl0, d) → len2 = A.length →
   ∃ b2 c2, s2 = .slice (some ⟨b2, 0, none⟩) len2 c2 ∧ n < len2 ∧ ∃ sv b o, SliceAt sv ss.length b o ∧ SlotsK σ b o ss ∧ m2.load (cfg gl ng).toEnv b2 (8 * n) = some (.int .i64 kn) ∧ m2.load (cfg gl ng).toEnv b2 (8 * n + 1) = some (.string tx) ∧ m2.load (cfg gl ng).toEnv b2 (8 * n + 2) = some sv ∧ m2.load (cfg gl ng).toEnv b2 (8 * n + 7) = some (.int .i64 d) := by
   intro s2 len2 vs2 B2 A σ2 m2 La hS2 hB2 hV2 hAn hlen2
   have hn2 := lt_of_get hAn
   obtain ⟨x, y, z, ab, kv, c1, c2, c3⟩ := hV2.2 n _ hAn
   obtain ⟨e1, e2, e3, b, o, e4, e5⟩ := c2.inv
   have fin : ∀ b2 c2, s2 = .slice (some ⟨b2, 0, none⟩) len2 c2 → (∀ o, m2.load (cfg gl ng).toEnv b2 o = vs2[o]?) → ∃ b2 c2, s2 = .slice (some ⟨b2, 0, none⟩) len2 c2 ∧ n < len2 ∧ ∃ sv b o, SliceAt sv ss.length b o ∧ SlotsK σ b o ss ∧ m2.load (cfg gl ng).toEnv b2 (8 * n) = some (.int .i64 kn) ∧ m2.load (cfg gl ng).toEnv b2 (8 * n + 1) = some (.string tx) ∧ m2.load (cfg gl ng).toEnv b2 (8 * n + 2) = some sv ∧ m2.load (cfg gl ng).toEnv b2 (8 * n + 7) = some (.int .i64 d) := by
    intro b2 c2 hs hld
    refine ⟨b2, c2, hs, by omega, z, b, o, e4, e5, ?_, ?_, ?_, ?_⟩
    · rw [hld]; have := c1 0 x rfl; rw [e1] at this; exact this
    · rw [hld]; have := c1 1 y rfl; rw [e2] at this; exact this
    · rw [hld]; exact c1 2 z rfl
    rw [hld]; exact c1 7 _ rfl
   rcases hB2.2 with ⟨_, h0, _⟩ | ⟨b2, hs, hbb⟩ | ⟨b2, hs, hbb⟩
   · omega
   · subst hbb
     exact fin b2 _ hs (S.mem hS2 (b := b2) (k := ⟨vs2, some 111⟩) (by simp))
   subst hbb
   exact fin b2 _ hs (S.mem hS2 (b := b2) (k := ⟨vs2, none⟩) (by simp))
  obtain ⟨b0, c0, hs0, hn0, sv, b, o, h2, h3, ld0, ld1, ld2, ld7⟩ := cellsAt hS hB hV hln hlen8
  subst hs0
  have hlss := len_wtSS ss
  generalize hQ : (fun (out : Out) (m' : Mem) => ∃ s' len' vs' B', out = .returned s' ∧ S (cfg gl ng).toEnv σ0 m0 σ m' (L1 ++ (B' ++ L2)) ∧ BldV 111 8 s' len' vs' B' ∧ SpotsK σ vs' (l ++ below g (T.mk kn tx ss) d)) = Q
  refine ofQ (c := _) Tryz.func85 rfl 69 rfl (fun c hnt => ?_)
  obtain ⟨m1, nb3, hbx, hS1⟩ := hS.box 24 #[rv] (by simp [hg1.plain])
  have hold : ∀ o, m1.load (cfg gl ng).toEnv b0 o = m.load (cfg gl ng).toEnv b0 o := by
   intro o
   rcases hB.2 with ⟨h0, _⟩ | ⟨b2, hs, hbb⟩ | ⟨b2, hs, hbb⟩
   · cases h0
   · simp at hs
     obtain ⟨rfl, _⟩ := hs
     subst hbb
     rw [S.mem hS (b := b0) (k := ⟨vs, some 111⟩) (by simp), S.mem hS1 (b := b0) (k := ⟨vs, some 111⟩) (by simp)]
   simp at hs
   obtain ⟨rfl, _⟩ := hs
   subst hbb
   rw [S.mem hS (b := b0) (k := ⟨vs, none⟩) (by simp), S.mem hS1 (b := b0) (k := ⟨vs, none⟩) (by simp)]
  have l0 := (hold (8 * n)).trans ld0
  have l1 := (hold (8 * n + 1)).trans ld1
  have l2 := (hold (8 * n + 2)).trans ld2
  obtain ⟨m2, e2, hS2⟩ := hS1.var 27 [.int .i64 0, .string .empty, .slice none 0 0] [.int .i64 kn, .string tx, sv] (by simp) (by simp [h2.plain]) rfl
  repeat apply W.seq
  apply W.regN; simp [hnt, hbx]
  repeat apply W.seq
  apply W.regN; simp [hnt, hn0, l0, l1, l2, e2]
  generalize m1.nb = nb7 at *
  obtain ⟨La, hLa⟩ : ∃ La : List (Nat × Cl), La = (nb7, ⟨[.int .i64 kn, .string tx, sv], none⟩) :: (nb3, ⟨[rv], none⟩) :: L1 := ⟨_, rfl⟩
  have hS2' : S (cfg gl ng).toEnv σ0 m0 σ m2 (La ++ (B ++ L2)) := by rw [hLa]; exact hS2
  have hSc0 : ∀ {m' B'}, S (cfg gl ng).toEnv σ0 m0 σ m' (La ++ B') → ∀ o, m'.load (cfg gl ng).toEnv nb7 o = [Value.int .i64 kn, .string tx, sv][o]? := fun h o => h.mem (b := nb7) (k := ⟨[.int .i64 kn, .string tx, sv], none⟩) (by rw [hLa]; simp) o
  have hSc1 : ∀ {m' B'}, S (cfg gl ng).toEnv σ0 m0 σ m' (La ++ B') → ∀ o, m'.load (cfg gl ng).toEnv nb3 o = [rv][o]? := fun h o => h.mem (b := nb3) (k := ⟨[rv], none⟩) (by rw [hLa]; simp) o
  have hslen : ∀ m', opLen (cfg gl ng) 25 sv m' = .value (.int .i64 ss.length) m' := fun m' => K.ly25 h2
  have hbel := below_app (tx := tx) (ss := ss) (d := d) hgk
  have hwb := below_len (d := d) hokN
  rw [hnod] at hwb
  repeat apply W.seq
  apply W.regN; simp [hnt]
  apply W.block
  obtain ⟨I, hI⟩ : ∃ I : Nat → Tr Value → Mem → Prop, I = fun (i : Nat) (t : Tr Value) (m' : Mem) => t.get 8 = some (.int .i64 i) ∧ ∃ s2 len2 vs2 B2 A, t.get 1 = some s2 ∧ S (cfg gl ng).toEnv σ0 m0 σ m' (La ++ (B2 ++ L2)) ∧ BldV 111 8 s2 len2 vs2 B2 ∧ SpotsK σ vs2 A ∧ len2 = A.length ∧ A[n]? = some ((T.mk kn tx ss), sl0, d) ∧ A ++ belowSS g (ss.drop i) (r.slots.drop i) (d + 1) = l ++ below g (.mk kn tx ss) d := ⟨_, rfl⟩
  refine W.upto (ws := [16, 17, 18, 19, 20, 9, 23, 24, 25, 26, 27, 28, 29, 30, 33, 34, 10, 35, 36, 37, 38, 39, 40, 41, 42, 43, 44, 45, 46, 47, 48, 49, 50, 51, 52, 53, 54, 55, 56, 57, 58, 59, 60, 61, 62, 63, 1, 64, 65, 66, 67, 31, 32, 21, 22, 8]) (by kernel_rfl) (ss.length) I 0 (by omega) (by rw [hI]; exact ⟨by simp, _, len, vs, B, l, by simp, hS2', hB, hV, hlen8, hln, by rw [hbel]; rfl⟩) ?_
  intro i t m3 hi hfr hIi
  rw [hI] at hIi
  obtain ⟨q8, s2, len2, vs2, B2, A, q1, hS3, hB2, hV2, hlen2, hAn, hA⟩ := hIi
  repeat apply W.seq
  apply W.regN; simp [hnt, q8, hfr, hSc0 hS3, hslen]
  refine W.choose (by simp; rfl) (fun hc => ?_) fun hc => ?_
  ·
   have hil : i < ss.length := by simpa using hc
   apply W.skip; try simp only [Then, InBlk]
   have hil2 : i < r.slots.length := by omega
   have hgi : r.slots[i]? = some r.slots[i] := by simp [hil2]
   have hsm : r.slots[i] ∈ r.slots := by simp
   have hsi : ss[i]? = some ss[i] := by simp [hil]
   have hmi : ss[i] ∈ ss := by simp
   obtain ⟨kv, u1, u2, u3, u4⟩ := hs2 i r.slots[i] hgi
   obtain ⟨lv, b1, o1, a1, a2, a3⟩ := h3.get hsi
   have hwl := wtSS_get hsi
   have hll := len_nodesL ss[i]
   have hln1 := nodesL_le_wt ss[i]
   have hds := dSS_mem hmi
   have hdrop : ss.drop i = ss[i] :: ss.drop (i + 1) := List.drop_eq_getElem_cons hil
   have hdrop2 : r.slots.drop i = r.slots[i] :: r.slots.drop (i + 1) := List.drop_eq_getElem_cons hil2
   rw [hdrop, hdrop2] at hA
   simp only [belowSS] at hA
   generalize r.slots[i] = sl at *
   generalize ss[i] = x at *
   repeat apply W.seq
   apply W.block
   repeat apply W.seq
   apply W.regN; simp [hnt]
   apply W.block
   obtain ⟨I2, hI2⟩ : ∃ I2 : Nat → Tr Value → Mem → Prop, I2 = fun (j : Nat) (t : Tr Value) (m' : Mem) => t.get 9 = some (.int .i64 j) ∧ ∃ s2 len2 vs2 B2 A, t.get 1 = some s2 ∧ S (cfg gl ng).toEnv σ0 m0 σ m' (La ++ (B2 ++ L2)) ∧ BldV 111 8 s2 len2 vs2 B2 ∧ SpotsK σ vs2 A ∧ len2 = A.length ∧ A[n]? = some ((T.mk kn tx ss), sl0, d) ∧ A ++ (belowL g (x.drop j) sl (d + 1) ++ belowSS g (ss.drop (i + 1)) (r.slots.drop (i + 1)) (d + 1)) = l ++ below g (.mk kn tx ss) d := ⟨_, rfl⟩
   refine W.upto (ws := [23, 24, 25, 26, 27, 28, 29, 30, 33, 34, 10, 35, 36, 37, 38, 39, 40, 41, 42, 43, 44, 45, 46, 47, 48, 49, 50, 51, 52, 53, 54, 55, 56, 57, 58, 59, 60, 61, 62, 63, 1, 64, 65, 66, 67, 31, 32, 9]) (by kernel_rfl) (x.length) I2 0 (by omega) (by rw [hI2]; exact ⟨by simp, s2, len2, vs2, B2, A, by simp [q1], hS3, hB2, hV2, hlen2, hAn, hA⟩) ?_
   clear hS3 hB2 hV2 hlen2 hAn hA q1
   clear s2 len2 vs2 B2 A
   intro j t3 m4 hj hfr3 hIi
   rw [hI2] at hIi
   obtain ⟨q9, s2, len2, vs2, B2, A, q1, hS4, hB2, hV2, hlen2, hAn, hA⟩ := hIi
   repeat apply W.seq
   apply W.regN; simp [hnt, q9, q8, hfr3, hfr, hSc0 hS4, hS4.kn, K.iy25 h2 hil, a1, K.ly59 a2]
   refine W.choose (by simp; rfl) (fun hc => ?_) fun hc => ?_
   ·
    have hjl : j < x.length := by simpa using hc
    apply W.skip; try simp only [Then, InBlk]
    have hgj : x[j]? = some x[j] := by simp [hjl]
    have hmj : x[j] ∈ x := by simp
    obtain ⟨x1, y1, z1, w1, w2, w3, w4⟩ := a3.get hgj
    have hwj := wtL_get hgj
    have hdj := dL_mem hmj
    have hokj := hokS x hmi _ hmj
    have hnj := nodes_le_wt x[j]
    have hdrop3 : x.drop j = x[j] :: x.drop (j + 1) := List.drop_eq_getElem_cons hjl
    rw [hdrop3] at hA
    simp only [belowL] at hA
    generalize x[j] = tj at *
    have hAlen : A.length + nodes tj ≤ l.length + nodesSS ss := by
     have h1 := congrArg List.length hA
     have h2 := below_len (d := d + 1) hokj
     simp only [List.length_append, List.length_cons] at h1
     omega
    obtain ⟨bb, cc, rfl, hnlt, sv', b', o', _, _, k0, k1, k2, k7⟩ := cellsAt hS4 hB2 hV2 hAn hlen2
    obtain ⟨e1, e2', pz, _⟩ := w4.inv
    have hwd : IntKind.i64.wrap ((d : Int) + 1) = ((d + 1 : Nat) : Int) := by rw [wrap_i64 (by omega) (by omega)]; omega
    obtain ⟨s5, m5, B5, e5, hS5, hB5⟩ := ap108 hS4 hB2 (new := [x1, y1, z1, .int .i64 n, .int .u8 sl.many, kv, .string sl.between, .int .i64 ((d + 1 : Nat) : Int)]) rfl (by simp [e1, e2', pz, u4.plain]) (by omega)
    have hV5 := hV2.snoc (e := (tj, sl, d + 1)) (ab := n) w4 u4
    have hbs := bs108 (gl := gl) (ng := ng) (m := m4) (a0 := x1) (a1 := y1) (a2 := z1) (a3 := .int .i64 n) (a4 := .int .u8 sl.many) (a5 := kv) (a6 := .string sl.between) (a7 := .int .i64 ((d + 1 : Nat) : Int)) (by simp [e1, e2', pz, u4.plain])
    repeat apply W.seq
    apply W.block
    repeat apply W.seq
    apply W.regN; simp [hnt, q1, hfr3]
    rw [Int.natCast_add, Int.natCast_one] at hbs e5
    have hwd' : IntKind.i64.wrap ((d : Int) + 1) = (d : Int) + 1 := by rw [wrap_i64 (by omega) (by omega)]
    repeat apply W.seq
    refine W.regU [] [] (by as_aux_lemma => kernel_rfl) ?_
    simp [hnt, q1, q8, q9, hfr3, hfr, hSc0 hS4, hSc1 hS4, hS4.kn, K.iy25 h2 hil, a1, K.iy59 a2 hjl, w1, w2, w3, K.iy22 hg1 hkl, r4, K.iy49 hs1 hil2, u1, u2, u3, hnlt, k7, hwd', hbs, e5, looseOk]
    apply W.regN; simp [hnt, hSc1 hS5, hfr3, hfr]
    refine C.mono (ih tj sl len2 (d + 1) (len2 + 1) g σ0 m0 σ m5 La B5 L2 rv s5 _ _ (by omega) (by omega) (by omega) (by omega) hS5 hB5 hV5 (by rw [hlen2]; simp) hg hru hokj) (fun out m6 ho => ?_)
    obtain ⟨s6, len6, vs6, B6, rfl, hS6, hB6, hV6⟩ := ho
    simp [hnt]
    apply W.regN; simp [hnt, q9, hfr3, wr1 (show j < _ by omega)]
    have hlen6 : len6 = ((A ++ [(tj, sl, d + 1)]) ++ below g tj (d + 1)).length := by have h1 := hB6.1; have h2 := hV6.1; omega
    exact ⟨j + 1, by omega, by omega, by rw [hI2]; exact ⟨by simp, s6, len6, vs6, B6, _, by simp, hS6, hB6, hV6, hlen6, by rw [List.append_assoc, List.getElem?_append_left (lt_of_get hAn)]; exact hAn, by rw [← hA]; simp⟩⟩
   have hje : j = x.length := by
    have : x.length ≤ j := by simpa using hc
    omega
   apply W.exit; try simp [Then, InBlk]
   apply W.regN; simp [hnt, hfr3, q8, wr1 (show i < _ by omega)]
   rw [hje, List.drop_length] at hA
   simp only [belowL, List.nil_append] at hA
   exact ⟨i + 1, by omega, by omega, by rw [hI]; exact ⟨by simp, s2, len2, vs2, B2, A, by simp [q1], hS4, hB2, hV2, hlen2, hAn, hA⟩⟩
  have hil : i = ss.length := by
   have : ss.length ≤ i := by simpa using hc
   omega
  apply W.exit; try simp [Then, InBlk]
  rw [hil, List.drop_length] at hA
  simp only [belowSS, List.append_nil] at hA
  repeat apply W.seq
  apply W.regN; simp [hnt, q1]
  apply W.ret
  refine ⟨.inr rfl, rfl, rfl, _, by simp [unwind.results, Tryz.f85]; rfl, ?_⟩
  rw [← hQ]
  refine ⟨s2, len2, vs2, B2, rfl, ?_, hB2, hA ▸ hV2⟩
  have := hS3
  rw [hLa] at this
  exact this.drop (by simp)
end Go.Proofs.Lw
