/-
  PROVED here: steps on the way to the card of 'sleuthlaw06.ReduceTreeMinimal' (an abstract machine, its soundness, what each function computes). No conditions beyond those that each theorem states.
-/
import Derived.Test.YtfgpboldklboaaaGreatDoorAm27
namespace Go.Proofs.Lw
open Go Go.Am
set_option maxRecDepth 8000
mutual
def editT (g : List RuleD) (ed : Nat → SlotD → Option (List T)) : T → SlotD → Nat → List T
 | .mk k tx ss, s, n => match ed n s with
  | some l => l
  | none => [.mk k tx (editSS g ed ss (slotsOf g k) (n + 1))]
def editSS (g : List RuleD) (ed : Nat → SlotD → Option (List T)) : List (List T) → List SlotD → Nat → List (List T)
 | [], _, _ => []
 | _ :: _, [], _ => []
 | l :: r, s :: sl, n => editL g ed l s n :: editSS g ed r sl (n + nodesL l)
def editL (g : List RuleD) (ed : Nat → SlotD → Option (List T)) : List T → SlotD → Nat → List T
 | [], _, _ => []
 | t :: r, s, n => editT g ed t s n ++ editL g ed r s (n + nodes t)
end
variable {g : List RuleD} {ed : Nat → SlotD → Option (List T)}
theorem editT_len (h : ∀ n s l, ed n s = some l → l.length ≤ 1) : ∀ {t : T} {s : SlotD} {n : Nat}, (editT g ed t s n).length ≤ 1
 | .mk k tx ss, s, n => by
  simp only [editT]
  cases he : ed n s with
  | none => simp
  | some l => exact h n s l he
theorem editL_snoc : ∀ {l : List T} {s : SlotD} {t : T} {n : Nat}, editL g ed (l ++ [t]) s n = editL g ed l s n ++ editT g ed t s (n + nodesL l)
 | [], s, t, n => by simp [editL, nodesL]
 | x :: r, s, t, n => by
  simp only [List.cons_append, editL, nodesL]
  rw [editL_snoc (l := r), List.append_assoc]
  simp only [Nat.add_assoc]
theorem editL_len (h : ∀ n s l, ed n s = some l → l.length ≤ 1) : ∀ {l : List T} {s : SlotD} {n : Nat}, (editL g ed l s n).length ≤ l.length
 | [], s, n => by simp [editL]
 | x :: r, s, n => by
  have h1 := editT_len (g := g) h (t := x) (s := s) (n := n)
  have h2 := editL_len h (l := r) (s := s) (n := n + nodes x)
  simp only [editL, List.length_append, List.length_cons]
  omega
theorem editSS_len : ∀ {ss : List (List T)} {sl : List SlotD} {n : Nat}, ss.length = sl.length → (editSS g ed ss sl n).length = ss.length
 | [], _, n, _ => rfl
 | x :: r, [], n, h => by simp at h
 | x :: r, y :: sl, n, h => by simp [editSS]; exact editSS_len (by simpa using h)
theorem editSS_snoc : ∀ {ss : List (List T)} {sl : List SlotD} {n : Nat} {l : List T} {s : SlotD}, ss.length = sl.length → editSS g ed (ss ++ [l]) (sl ++ [s]) n = editSS g ed ss sl n ++ [editL g ed l s (n + nodesSS ss)]
 | [], [], n, l, s, _ => by simp [editSS, nodesSS]
 | [], _ :: _, n, l, s, h => by simp at h
 | x :: r, [], n, l, s, h => by simp at h
 | x :: r, y :: sl, n, l, s, h => by
  simp only [List.cons_append, editSS, nodesSS]
  rw [editSS_snoc (ss := r) (sl := sl) (by simpa using h)]
  simp only [Nat.add_assoc]
variable {gl : Nat → Nat → Option Value} {ng : Nat}
def TreesL (σ : Kn) (v : Value) (l : List T) : Prop := ∃ b o, SliceAt v l.length b o ∧ TreesK σ b o l
theorem TreesL.mono {σ σ' : Kn} (h : σ.le σ') {v : Value} {l : List T} (hv : TreesL σ v l) : TreesL σ' v l := by
 obtain ⟨b, o, h1, h2⟩ := hv
 exact ⟨b, o, h1, h2.mono h⟩
theorem TreesL.nil {σ : Kn} : TreesL σ (.slice none 0 0) [] := ⟨0, 0, .inl ⟨rfl, rfl⟩, by simp only [TreesK]⟩
theorem CellsK.app {σ : Kn} {vs ws : List Value} {l r : List T} (h : CellsK σ vs l) (h' : CellsK σ ws r) : CellsK σ (vs ++ ws) (l ++ r) := by
 have hl := h.1
 have hl' := h'.1
 refine ⟨by simp [hl, hl']; omega, fun j t ht => ?_⟩
 by_cases hj : j < l.length
 · rw [List.getElem?_append_left hj] at ht
   obtain ⟨x, y, z, a1, a2, a3, a4⟩ := h.2 j t ht
   exact ⟨x, y, z, by rw [List.getElem?_append_left (by omega)]; exact a1, by rw [List.getElem?_append_left (by omega)]; exact a2, by rw [List.getElem?_append_left (by omega)]; exact a3, a4⟩
 rw [List.getElem?_append_right (by omega)] at ht
 obtain ⟨x, y, z, a1, a2, a3, a4⟩ := h'.2 _ t ht
 exact ⟨x, y, z, by rw [List.getElem?_append_right (by omega), show 3 * j - vs.length = 3 * (j - l.length) by omega]; exact a1,
  by rw [List.getElem?_append_right (by omega), show 3 * j + 1 - vs.length = 3 * (j - l.length) + 1 by omega]; exact a2,
  by rw [List.getElem?_append_right (by omega), show 3 * j + 2 - vs.length = 3 * (j - l.length) + 2 by omega]; exact a3, a4⟩
theorem TreesK.cells {σ : Kn} {b : Nat} : ∀ {l : List T} {o : Nat}, TreesK σ b o l → ∃ vs, CellsK σ vs l ∧ vs.all plainV = true ∧ ∀ j v, vs[j]? = some v → σ b (o + j) = some v
 | [], o, _ => ⟨[], CellsK.nil, rfl, fun j v h => by simp at h⟩
 | t :: r, o, h => by
  simp only [TreesK] at h
  obtain ⟨⟨x, y, z, h1, h2, h3, h4⟩, h5⟩ := h
  obtain ⟨vs, c1, c2, c3⟩ := TreesK.cells h5
  obtain ⟨e1, e2, pz, _⟩ := h4.inv
  refine ⟨[x, y, z] ++ vs, by simpa using (CellsK.nil.snoc h4).app c1, by simp [e1, e2, pz]; simpa using c2, fun j v hj => ?_⟩
  match j with
  | 0 => simp at hj; subst hj; exact h1
  | 1 => simp at hj; subst hj; exact h2
  | 2 => simp at hj; subst hj; exact h3
  | j + 3 =>
   have := c3 j v (by simpa using hj)
   rwa [show o + 3 + j = o + (j + 3) by omega] at this
theorem TreesL.src {E : Env} {σ : Kn} {m : Mem} {v : Value} {l : List T} (hh : Holds E σ m) (h : TreesL σ v l) : ∃ vs, CellsK σ vs l ∧ vs.all plainV = true ∧ Src E m v l.length vs := by
 obtain ⟨b, o, h1, h2⟩ := h
 obtain ⟨vs, c1, c2, c3⟩ := h2.cells
 refine ⟨vs, c1, c2, ?_⟩
 rcases h1 with ⟨rfl, h0⟩ | ⟨c, rfl⟩
 · have := c1.1
   rw [h0] at this
   exact .inl ⟨rfl, h0, List.eq_nil_of_length_eq_zero (by omega)⟩
 exact .inr ⟨b, o, c, rfl, fun j x hj => hh _ _ _ (c3 j x hj)⟩
def EdR (σ : Kn) (v : Value) : Option (List T) → Prop
 | some l => ∃ lv, v = .tuple #[lv, .bool true] ∧ TreesL σ lv l ∧ plainV lv = true
 | none => v = .tuple #[.slice none 0 0, .bool false]
structure EdOk (gl : Nat → Nat → Option Value) (ng : Nat) (fid : FuncId) (caps : List Value) (σb : Kn) (gn : Nat) (ed : Nat → SlotD → Option (List T)) : Prop where
 call : ∀ args m, callV (cfg gl ng) fid args m = .enter fid args m
 one : ∀ n s l, ed n s = some l → l.length ≤ 1
 ok : ∀ (n : Nat) (s : SlotD) (kv : Value) (σ : Kn) (m : Mem), n < 4096 → (n = 0 ∨ SlotOk gn s) → WF m → Holds (cfg gl ng).toEnv σ m → σb.le σ → IntsK σ kv s.kinds →
  Ct gl ng fid (.int .i64 n :: .agg #[.int .u8 s.many, kv, .string s.between] :: caps) σ m (fun σ' v => EdR σ' v (ed n s))
theorem f74_ok {fid : FuncId} {caps : List Value} {σb : Kn} : ∀ (N : Nat) (t : T) (sl0 : SlotD) (n : Nat) (σ0 : Kn) (m0 : Mem) (σ : Kn) (m : Mem) (xb : Nat) (rv tv kv0 : Value) (L : List (Nat × Cl)), wt t ≤ N → N < 1048576 → n + nodes t ≤ 2048 → EdOk gl ng fid caps σb g.length ed → σb.le σ →
 S (cfg gl ng).toEnv σ0 m0 σ m ((xb, ⟨[rv, .int .i64 n, .func (.func fid) #[] ⟨caps⟩], none⟩) :: L) → RulesV σ rv g → RulesOk g → OkN g t → TreeK σ tv t → IntsK σ kv0 sl0.kinds → (n = 0 ∨ SlotOk g.length sl0) →
 C (cfg gl ng) 74 [.pointer (some ⟨xb, 0, none⟩), tv, .agg #[.int .u8 sl0.many, kv0, .string sl0.between]] m (fun out m' => ∃ σ' v, out = .returned v ∧ σ.le σ' ∧
  S (cfg gl ng).toEnv σ0 m0 σ' m' ((xb, ⟨[rv, .int .i64 ((n + nodes t : Nat) : Int), .func (.func fid) #[] ⟨caps⟩], none⟩) :: L) ∧ TreesL σ' v (editT g ed t sl0 n)) := by
 intro N
 induction N with
 | zero => intro t sl0 n σ0 m0 σ m xb rv tv kv0 L h; obtain ⟨k, tx, ss⟩ := t; simp only [wt] at h; omega
 | succ N ih =>
  intro t sl0 n σ0 m0 σ m xb rv tv kv0 L hN hlim hnn hed hleb hS hg hru hok ht hk0 hsl0
  have hokN := hok
  have htK := ht
  obtain ⟨fv, hfv⟩ : ∃ fv : Value, fv = .func (.func fid) #[] ⟨caps⟩ := ⟨_, rfl⟩
  generalize hQ : (fun (out : Out) (m' : Mem) => ∃ σ' v, out = .returned v ∧ σ.le σ' ∧
   S (cfg gl ng).toEnv σ0 m0 σ' m' ((xb, ⟨[rv, .int .i64 ((n + nodes t : Nat) : Int), .func (.func fid) #[] ⟨caps⟩], none⟩) :: L) ∧ TreesL σ' v (editT g ed t sl0 n)) = Q
  rw [← hfv] at hS hQ
  have pfv : plainV fv = true := by rw [hfv]; simp
  have hnod0 : nodes t < 4096 := by omega
  obtain ⟨k, tx, ss⟩ := t
  simp only [wt] at hN
  have hnod : nodes (T.mk k tx ss) = 1 + nodesSS ss := by simp only [nodes]
  rw [hnod] at hnn
  simp only [OkN] at hok
  obtain ⟨⟨r, hnf⟩, hok⟩ := hok
  have hokS := OkSS_iff.1 hok
  obtain ⟨kn, rfl⟩ : ∃ kn : Nat, k = kn := ⟨k.toNat, by have := hnf.pos; omega⟩
  have hgk : g[kn]? = some r := by have := hnf.rule; simpa using this
  have hkl := lt_of_get hgk
  have hd2 := hnf.len
  obtain ⟨bg, og, hg1, hg2⟩ := id hg
  obtain ⟨slv, r1, r2, r3, r4, bs, os, hs1, hs2⟩ := hg2 kn r hgk
  have hr := hru.rules r (List.mem_of_getElem? hgk)
  simp only [TreeK] at ht
  obtain ⟨sv, b, o, rfl, h2, h3⟩ := ht
  have hlss := len_wtSS ss
  refine ofQ (c := _) Tryz.func74 rfl 95 rfl (fun c hnt => ?_)
  obtain ⟨m1, nb4, hbx1, hS1⟩ := hS.box 27 #[.int .i64 kn, .string tx, sv] (by simp [h2.plain])
  obtain ⟨m2, nb5, hbx2, hS2⟩ := hS1.box 55 #[.int .u8 sl0.many, kv0, .string sl0.between] (by simp [hk0.plain])
  repeat apply W.seq
  apply W.regN; simp [hnt, hbx1, hbx2]
  repeat apply W.seq
  apply W.regN; simp [hnt, hS2.c2]
  repeat apply W.seq
  refine W.regU [] [] (by as_aux_lemma => kernel_rfl) ?_
  simp [hnt, hS2.c0, hS2.c2, hfv, hed.call, looseOk]
  refine Ct.use (hed.ok n sl0 kv0 σ m2 (by omega) hsl0 hS2.wf hS2.holds hleb hk0) (fun σ3 v3 m3 hl3 hv3 => ?_)
  have hS3 := hS2.learn' hl3
  cases hedn : ed n sl0 with
  | some l =>
   rw [hedn] at hv3
   obtain ⟨lv, rfl, hlv, plv⟩ := hv3
   simp [hnt, looseOk]
   repeat apply W.seq
   apply W.regN; simp [hnt]
   refine W.choose (by simp; rfl) (fun hc => ?_) fun hc => ?_
   ·
    have hwn : IntKind.i64.wrap ((n : Int) + nodes (T.mk kn tx ss)) = ((n + nodes (T.mk kn tx ss) : Nat) : Int) := by rw [wrap_i64 (by omega) (by omega)]; omega
    repeat apply W.seq
    refine W.regU [(5, 3)] [5, 6, 3] (by as_aux_lemma => kernel_rfl) ?_
    simp [hnt, hS3.c1, hS3.c2]
    refine Ct.use (f23_ct hS3.wf hS3.holds (htK.mono hl3.le) (by simp only [wt]; omega)) (fun σ4 v4 m4 hl4 hv4 => ?_)
    subst hv4
    have hS4 := hS3.learn' hl4
    obtain ⟨m5, e5, hS5⟩ := hS4.set1 (i := 2) rfl (o := 1) (v := .int .i64 ((n + nodes (T.mk kn tx ss) : Nat) : Int)) (by simp) (by simp)
    have e5' : m4.write xb 1 [.int .i64 ((n : Int) + (nodes (T.mk kn tx ss) : Int))] = some m5 := by rw [← e5]; rfl
    simp [hnt, hwn, e5']
    refine ⟨?_, ?_⟩
    · simp [looseOk, getS, againOk, quiet, still, beqV, hS3.c2, hS4.c2]
    repeat apply W.seq
    apply W.regN; simp [hnt]
    try apply W.ret; try simp only [Then, InBlk]
    refine ⟨by first | exact .inr rfl | exact .inl rfl, rfl, rfl, _, by simp [unwind.results, Tryz.f74] <;> rfl, ?_⟩
    rw [← hQ]
    refine ⟨σ4, lv, rfl, Kn.le_trans hl3.le hl4.le, ?_, ?_⟩
    · exact hS5.drop (by simp)
    simp only [editT, hedn]; exact hlv.mono hl4.le
   cases hc
  | none =>
   rw [hedn] at hv3
   have e3 : v3 = .tuple #[.slice none 0 0, .bool false] := hv3
   subst e3
   simp [hnt, looseOk]
   repeat apply W.seq
   apply W.regN; simp [hnt]
   refine W.choose (by simp; rfl) (fun hc => ?_) fun hc => ?_
   · cases hc
   apply W.skip; try simp only [Then, InBlk]
   have hwn : IntKind.i64.wrap ((n : Int) + 1) = (n : Int) + 1 := wrap_i64 (by omega) (by omega)
   obtain ⟨m4, e4, hS4⟩ := hS3.set1 (i := 2) rfl (o := 1) (v := .int .i64 ((n + 1 : Nat) : Int)) (by simp) (by simp)
   simp only [List.set_cons_succ, List.set_cons_zero] at hS4
   have e4' : m3.write xb 1 [.int .i64 ((n : Int) + 1)] = some m4 := by rw [← e4]; rfl
   repeat apply W.seq
   apply W.regN; simp [hnt, hS3.c2, hwn, e4']
   have hbu := K.bu27_0_1 (gl := gl) (ng := ng) (m := m4) (x0 := .int .i64 kn) (x1 := .string tx) (by simp) (by simp)
   obtain ⟨m5, e5, hS5⟩ := hS4.var 27 [.int .i64 0, .string .empty, .slice none 0 0] [.int .i64 kn, .string tx, .slice none 0 0] (by simp) (by simp) rfl
   repeat apply W.seq
   apply W.regN; simp [hnt, hS4.c1, hbu, e5]
   generalize m4.nb = nb10 at *
   repeat apply W.seq
   apply W.regN; simp [hnt, hS5.c2, K.ly25 h2]
   have hle3 : σ.le σ3 := hl3.le
   have hSp := hS5.perm (L' := (xb, ⟨[rv, .int .i64 ((n + 1 : Nat) : Int), fv], none⟩) :: (nb10, ⟨[.int .i64 kn, .string tx, .slice none 0 0], none⟩) :: (nb5, ⟨[.int .u8 sl0.many, kv0, .string sl0.between], none⟩) :: (nb4, ⟨[.int .i64 kn, .string tx, sv], none⟩) :: L)
    ((List.perm_middle (l₁ := [_, _, _])))
   clear hS5 hS4 hS3 hS2 hS1
   obtain ⟨P, hP⟩ : ∃ P : Nat → Value → List (Nat × Cl), P = fun q s => [(xb, ⟨[rv, .int .i64 q, fv], none⟩), (nb10, ⟨[.int .i64 kn, .string tx, s], none⟩), (nb5, ⟨[.int .u8 sl0.many, kv0, .string sl0.between], none⟩), (nb4, ⟨[.int .i64 kn, .string tx, sv], none⟩)] := ⟨_, rfl⟩
   have hc4 : ∀ {σ' m' q s B'}, S (cfg gl ng).toEnv σ0 m0 σ' m' (P q s ++ B') → ∀ o, m'.load (cfg gl ng).toEnv nb4 o = [Value.int .i64 kn, .string tx, sv][o]? := fun h o => h.mem (b := nb4) (k := ⟨[.int .i64 kn, .string tx, sv], none⟩) (by rw [hP]; simp) o
   have hcx : ∀ {σ' m' q s B'}, S (cfg gl ng).toEnv σ0 m0 σ' m' (P q s ++ B') → ∀ o, m'.load (cfg gl ng).toEnv xb o = [rv, Value.int .i64 q, fv][o]? := fun {_ _ q _ _} h o => h.mem (b := xb) (k := ⟨[rv, Value.int .i64 q, fv], none⟩) (by rw [hP]; simp) o
   have hc10 : ∀ {σ' m' q s B'}, S (cfg gl ng).toEnv σ0 m0 σ' m' (P q s ++ B') → ∀ o, m'.load (cfg gl ng).toEnv nb10 o = [Value.int .i64 kn, .string tx, s][o]? := fun {_ _ _ s _} h o => h.mem (b := nb10) (k := ⟨[.int .i64 kn, .string tx, s], none⟩) (by rw [hP]; simp) o
   have hS6 : S (cfg gl ng).toEnv σ0 m0 σ3 m5 (P (n + 1) (.slice none 0 0) ++ ([] ++ L)) := by rw [hP]; exact hSp
   apply W.block
   obtain ⟨I, hI⟩ : ∃ I : Nat → Tr Value → Mem → Prop, I = fun (i : Nat) (t : Tr Value) (m' : Mem) => t.get 56 = some (.int .i64 i) ∧ ∃ σ' s vs B, σ3.le σ' ∧ S (cfg gl ng).toEnv σ0 m0 σ' m' (P (n + 1 + nodesSS (ss.take i)) s ++ (B ++ L)) ∧ BldV 59 1 s i vs B ∧ RowsK σ' vs (editSS g ed (ss.take i) (r.slots.take i) (n + 1)) := ⟨_, rfl⟩
   refine W.upto (ws := [57, 58, 59, 60, 11, 12, 13, 61, 62, 63, 64, 65, 66, 15, 67, 68, 69, 70, 71, 72, 73, 74, 75, 76, 77, 78, 79, 80, 81, 82, 83, 84, 85, 86, 87, 88, 89, 90, 91, 92, 56]) (by kernel_rfl) (ss.length) I 0 (by omega) (by rw [hI]; exact ⟨by simp, σ3, _, [], [], Kn.le_refl _, by simpa [nodesSS] using hS6, .nil, by simpa [editSS] using RowsK.nil⟩) ?_
   intro i t m6 hi hfr hIi
   rw [hI] at hIi
   obtain ⟨q56, σ6, s6, vs6, B6, hle6, hS7, hB6, hR6⟩ := hIi
   repeat apply W.seq
   apply W.regN; simp [hnt, q56, hfr]
   repeat apply W.seq
   refine W.choose (by simp; rfl) (fun hc => ?_) fun hc => ?_
   ·
    have hil : i < ss.length := by simpa using hc
    apply W.skip; try simp only [Then, InBlk]
    have hil2 : i < r.slots.length := by omega
    have hgi : r.slots[i]? = some r.slots[i] := by simp [hil2]
    have hsm : r.slots[i] ∈ r.slots := by simp
    have hsi : ss[i]? = some ss[i] := by simp [hil]
    have hmi : ss[i] ∈ ss := by simp
    have hslo := hr.slots _ hsm
    obtain ⟨kv, u1, u2, u3, u4⟩ := hs2 i r.slots[i] hgi
    obtain ⟨lv, b1, o1, a1, a2, a3⟩ := h3.get hsi
    have hwl := wtSS_get hsi
    have hll := len_nodesL ss[i]
    have hln1 := nodesL_le_wt ss[i]
    have htkn := nodesSS_take hsi
    have hle1 := nodesSS_le_take (l := ss) (i := i + 1)
    have htk : ss.take (i + 1) = ss.take i ++ [ss[i]] := by simp [hil]
    have htk2 : r.slots.take (i + 1) = r.slots.take i ++ [r.slots[i]] := by simp [hil2]
    have hsnoc : editSS g ed (ss.take (i + 1)) (r.slots.take (i + 1)) (n + 1) = editSS g ed (ss.take i) (r.slots.take i) (n + 1) ++ [editL g ed ss[i] r.slots[i] (n + 1 + nodesSS (ss.take i))] := by
     rw [htk, htk2]; exact editSS_snoc (by simp; omega)
    generalize r.slots[i] = sl at *
    generalize ss[i] = x at *
    have hle6' := Kn.le_trans hle3 hle6
    have a1' := hle6' _ _ _ a1
    repeat apply W.seq
    apply W.block
    repeat apply W.seq
    apply W.regN; simp [hnt, q56, hfr, K.iy25 h2 hil, hS7.kn, a1']
    repeat apply W.seq
    apply W.regN; simp [hnt]
    obtain ⟨J, hJ⟩ : ∃ J : Tr Value → Mem → Prop, J = fun t' m' => ∃ v σ', t'.get 13 = some v ∧ σ6.le σ' ∧ S (cfg gl ng).toEnv σ0 m0 σ' m' (P (n + 1 + nodesSS (ss.take i) + nodesL x) s6 ++ (B6 ++ L)) ∧ TreesL σ' v (editL g ed x sl (n + 1 + nodesSS (ss.take i))) ∧ plainV v = true := ⟨_, rfl⟩
    refine W.cut (ws := [61, 62, 63, 13, 64, 65, 66, 15, 67, 68, 69, 70, 71, 72, 73, 74, 75, 76, 77, 78, 79, 80, 81, 82, 83, 84, 13, 85, 63]) (by kernel_rfl) J ?_ (fun t5 m7 hfr5 hJ5 => ?_)
    ·
     repeat apply W.seq
     apply W.regN; simp [hnt, K.ly59 a2]
     apply W.block
     obtain ⟨I2, hI2⟩ : ∃ I2 : Nat → Tr Value → Mem → Prop, I2 = fun (j : Nat) (t : Tr Value) (m' : Mem) => t.get 63 = some (.int .i64 j) ∧ ∃ σ' s2 vs2 B2, t.get 13 = some s2 ∧ σ6.le σ' ∧ S (cfg gl ng).toEnv σ0 m0 σ' m' ((P (n + 1 + nodesSS (ss.take i) + nodesL (x.take j)) s6 ++ B6) ++ (B2 ++ L)) ∧ BldV 27 3 s2 (editL g ed (x.take j) sl (n + 1 + nodesSS (ss.take i))).length vs2 B2 ∧ CellsK σ' vs2 (editL g ed (x.take j) sl (n + 1 + nodesSS (ss.take i))) := ⟨_, rfl⟩
     refine W.upto (ws := [64, 65, 66, 15, 67, 68, 69, 70, 71, 72, 73, 74, 75, 76, 77, 78, 79, 80, 81, 82, 83, 84, 13, 85, 63]) (by kernel_rfl) (x.length) I2 0 (by omega) (by rw [hI2]; exact ⟨by simp, σ6, .slice none 0 0, [], [], by simp, Kn.le_refl _, by simpa [nodesL] using hS7, by simpa [editL] using BldV.nil, by simpa [editL] using CellsK.nil⟩) ?_
     intro j t3 m8 hj hfr3 hIi
     rw [hI2] at hIi
     obtain ⟨q63, σ8, s8, vs8, B8, q13, hle8, hS8, hB8, hC8⟩ := hIi
     repeat apply W.seq
     apply W.regN; simp [hnt, q63, hfr3]
     repeat apply W.seq
     refine W.choose (by simp; rfl) (fun hc => ?_) fun hc => ?_
     ·
      have hjl : j < x.length := by simpa using hc
      apply W.skip; try simp only [Then, InBlk]
      have hgj : x[j]? = some x[j] := by simp [hjl]
      have hmj : x[j] ∈ x := by simp
      have hle8' := Kn.le_trans hle6' hle8
      obtain ⟨x1, y1, z1, w1, w2, w3, w4⟩ := (a3.mono hle8').get hgj
      have hwj := wtL_get hgj
      have hokj := hokS x hmi _ hmj
      have hnj := nodes_le_wt x[j]
      have htkn2 := nodesL_take hgj
      have hle2 := nodesL_le_take (l := x) (i := j + 1)
      have htk3 : x.take (j + 1) = x.take j ++ [x[j]] := by simp [hjl]
      have hsnoc2 : editL g ed (x.take (j + 1)) sl (n + 1 + nodesSS (ss.take i)) = editL g ed (x.take j) sl (n + 1 + nodesSS (ss.take i)) ++ editT g ed x[j] sl (n + 1 + nodesSS (ss.take i) + nodesL (x.take j)) := by rw [htk3]; exact editL_snoc
      have hel := editL_len (g := g) hed.one (l := x.take j) (s := sl) (n := n + 1 + nodesSS (ss.take i))
      have hel2 := editT_len (g := g) hed.one (t := x[j]) (s := sl) (n := n + 1 + nodesSS (ss.take i) + nodesL (x.take j))
      have hxl : (x.take j).length ≤ x.length := by simp; omega
      generalize x[j] = tj at *
      obtain ⟨e1, e2', pz, _⟩ := w4.inv
      have hS8a : S (cfg gl ng).toEnv σ0 m0 σ8 m8 (P (n + 1 + nodesSS (ss.take i) + nodesL (x.take j)) s6 ++ (B6 ++ (B8 ++ L))) := by rw [List.append_assoc] at hS8; exact hS8
      obtain ⟨m9, e9, hS9⟩ := hS8a.var 27 [.int .i64 0, .string .empty, .slice none 0 0] [x1, y1, z1] (by simp) (by simp [e1, e2', pz]) rfl
      have hS9a := hS9.drop (List.sublist_cons_self _ _)
      repeat apply W.seq
      apply W.block
      repeat apply W.seq
      apply W.regN; simp [hnt, q63, hfr3, K.iy59 a2 hjl, hS8.kn, w1, w2, w3, e9]
      generalize m8.nb = nb15 at *
      have u1' := hle8' _ _ _ u1
      have u2' := hle8' _ _ _ u2
      have u3' := hle8' _ _ _ u3
      have r4' := hle8' _ _ _ r4
      refine W.regU [] [] (by as_aux_lemma => kernel_rfl) ?_
      simp [hnt, q13, hfr3, hfr, hS9.c0, hcx hS9a, hc4 hS9a, K.iy22 hg1 hkl, hS9.kn, r4', K.iy49 hs1 hil2, u1', u2', u3', looseOk]
      have hS9b := hS9a
      rw [hP] at hS9b
      rw [hfv] at hS9b
      refine C.mono (ih tj sl (n + 1 + nodesSS (ss.take i) + nodesL (x.take j)) σ0 m0 σ8 m9 xb rv _ kv _ (by omega) (by omega) (by omega) hed (Kn.le_trans hleb hle8') hS9b (hg.mono hle8') hru hokj w4 (u4.mono hle8') (.inr hslo)) (fun out m10 ho => ?_)
      obtain ⟨σ10, v10, rfl, hle10, hS10, hv10⟩ := ho
      rw [← hfv] at hS10
      have hS10a : S (cfg gl ng).toEnv σ0 m0 σ10 m10 ((P (n + 1 + nodesSS (ss.take i) + nodesL (x.take (j + 1))) s6 ++ B6) ++ (B8 ++ L)) := by
       rw [List.append_assoc, hP, htkn2, ← Nat.add_assoc]; exact hS10
      obtain ⟨ws, hw1, hw2, hw3⟩ := hv10.src hS10.holds
      obtain ⟨s11, m11, B11, e11, hS11, hB11⟩ := ap59 hS10a hB8 hw3 hw1.1 hw2 (by omega)
      simp [hnt, e11, looseOk]
      apply W.regN; simp [hnt, q63, hfr3, wr1 (show j < _ by omega)]
      exact ⟨j + 1, by omega, by omega, by rw [hI2]; exact ⟨by simp, σ10, s11, vs8 ++ ws, B11, by simp, Kn.le_trans hle8 hle10, hS11, by rw [hsnoc2, List.length_append]; exact hB11, by rw [hsnoc2]; exact (hC8.mono hle10).app hw1⟩⟩
     have hje : j = x.length := by
      have : x.length ≤ j := by simpa using hc
      omega
     apply W.exit; try simp [Then, InBlk]
     rw [hJ]
     rw [hje, List.take_length] at hS8 hB8 hC8
     obtain ⟨σ9, b9, hle9, hS9, hv9, hn9⟩ := hS8.done hB8
     exact ⟨s8, σ9, by simp [q13], Kn.le_trans hle8 hle9, by rw [List.append_assoc] at hS9; exact hS9, ⟨b9, 0, hv9, (hC8.mono hle9).trees (fun j v hj => by rw [Nat.zero_add]; exact hn9 j v hj)⟩, hv9.plain⟩
    rw [hJ] at hJ5
    obtain ⟨v, σ7, p13, hle7, hS8, hv, hvp⟩ := hJ5
    obtain ⟨s', m9, B', e9, hS9, hB9⟩ := hS8.apps hB6 hvp (by omega)
    obtain ⟨m10, e10, hS10⟩ := hS9.set1 (i := 1) (b := nb10) (k := ⟨[.int .i64 kn, .string tx, s6], none⟩) (by rw [hP]; rfl) (o := 2) (v := s') (by simp) hB9.plain
    apply W.regN; simp [hnt, hfr5, hfr, hc10 hS8, p13, bs25 hvp, e9, hB9.plain, e10]
    apply W.regN; simp [hnt, hfr5, q56, wr1 (show i < _ by omega)]
    have hS11 : S (cfg gl ng).toEnv σ0 m0 σ7 m10 (P (n + 1 + nodesSS (ss.take (i + 1))) s' ++ (B' ++ L)) := by
     rw [htkn, ← Nat.add_assoc]; rw [hP] at hS10 ⊢; exact hS10
    obtain ⟨b7, o7, hv1, hv2⟩ := hv
    exact ⟨i + 1, by omega, by omega, by rw [hI]; exact ⟨by simp, σ7, s', _, B', Kn.le_trans hle6 hle7, hS11, hB9, by rw [hsnoc]; exact (hR6.mono hle7).snoc hv1 hv2⟩⟩
   have hil : i = ss.length := by
    have : ss.length ≤ i := by simpa using hc
    omega
   apply W.exit; try simp [Then, InBlk]
   have hil2 : i = r.slots.length := by omega
   rw [hil, List.take_length] at hS7 hR6
   rw [hil] at hB6
   rw [show r.slots.take ss.length = r.slots by rw [← hil, hil2, List.take_length]] at hR6
   obtain ⟨σ8, b8, hle8, hS8, hv8, hn8⟩ := hS7.done hB6
   have hS9 := hS8.new (vs := [.int .i64 kn, .string tx, s6]) 27 (by simp [hB6.plain])
   have hbs := bs59 (gl := gl) (ng := ng) (m := m6) (x := .int .i64 kn) (y := .string tx) (z := s6) (by simp) (by simp) hB6.plain
   repeat apply W.seq
   apply W.regN; simp [hnt, hfr, hc10 hS7, hbs]
   obtain ⟨σ10, hle10, hS10, hn10⟩ := hS9.freeze (i := 0) rfl
   try apply W.ret
   refine ⟨by first | exact .inr rfl | exact .inl rfl, rfl, rfl, _, by simp [unwind.results, Tryz.f74] <;> rfl, ?_⟩
   rw [← hQ]
   have hel : (editSS g ed ss r.slots (n + 1)).length = ss.length := editSS_len hd2
   have hso : slotsOf g kn = r.slots := by simp [slotsOf, hgk]
   refine ⟨σ10, _, rfl, Kn.le_trans hle3 (Kn.le_trans hle6 (Kn.le_trans hle8 hle10)), ?_, m6.nb, 0, ?_, ?_⟩
   · rw [hP] at hS10
     rw [hnod, ← Nat.add_assoc]
     exact hS10.drop (List.Sublist.cons_cons _ (List.sublist_append_right [_, _, _] L))
   · simp only [editT, hedn, List.length_singleton]
     exact .inr ⟨_, rfl⟩
   simp only [editT, hedn, TreesK, and_true]
   refine ⟨_, _, _, (hn10 0).trans rfl, (hn10 1).trans rfl, (hn10 2).trans rfl, ?_⟩
   simp only [TreeK]
   refine ⟨s6, b8, 0, rfl, by rw [hso, hel]; exact hv8, ?_⟩
   rw [hso]
   exact (hR6.mono (Kn.le_trans hle8 hle10)).slots (fun j v hj => by rw [Nat.zero_add]; exact hle10 _ _ _ (hn8 j v hj))
end Go.Proofs.Lw
namespace Go.Proofs.Lw
open Go Go.Am
set_option maxRecDepth 8000
def edP (least : SlotD → T) (out : List Int) (n : Nat) (s : SlotD) : Option (List T) := if isOut out n then some (if s.many = 0 then [least s] else []) else none
def edH (bt : T) (a n : Nat) (_ : SlotD) : Option (List T) := if n = a then some [bt] else none
variable {g : List RuleD} {least : SlotD → T} {out : List Int} {bt : T} {a : Nat}
mutual
theorem editP : ∀ {t : T} {s : SlotD} {n : Nat}, isOut out n = false → editT g (edP least out) t s n = [prunT g least out t n]
 | .mk k tx ss, s, n, h => by
  simp only [editT, edP, h, prunT]
  rw [if_neg (by decide)]
  simp only
  rw [editPSS]
theorem editPSS : ∀ {ss : List (List T)} {sl : List SlotD} {n : Nat}, editSS g (edP least out) ss sl n = prunSS g least out ss sl n
 | [], _, n => by simp only [editSS, prunSS]
 | _ :: _, [], n => by simp only [editSS, prunSS]
 | l :: r, s :: sl, n => by
  simp only [editSS, prunSS]
  rw [editPL, editPSS]
theorem editPL : ∀ {l : List T} {s : SlotD} {n : Nat}, editL g (edP least out) l s n = prunL g least out l s n
 | [], _, n => by simp only [editL, prunL]
 | t :: r, s, n => by
  simp only [editL, prunL]
  rw [editPL (l := r)]
  congr 1
  cases h : isOut out n with
  | true =>
   obtain ⟨k, tx, ss⟩ := t
   simp only [editT, edP, h, if_true]
  | false =>
   rw [editP h]
   simp
end
mutual
theorem editH : ∀ {t : T} {s : SlotD} {n : Nat}, OkN g t → editT g (edH bt a) t s n = [replT bt a t n]
 | .mk k tx ss, s, n, h => by
  simp only [editT, edH, replT]
  by_cases hn : n = a
  · simp only [if_pos hn]
  simp only [if_neg hn]
  simp only [OkN] at h
  obtain ⟨⟨r, hnf⟩, h2⟩ := h
  have e : slotsOf g k = r.slots := by simp only [slotsOf, hnf.rule]
  rw [editHSS h2 (by rw [e, hnf.len])]
theorem editHSS : ∀ {ss : List (List T)} {sl : List SlotD} {n : Nat}, OkSS g ss → ss.length = sl.length → editSS g (edH bt a) ss sl n = replSS bt a ss n
 | [], _, n, _, _ => by simp only [editSS, replSS]
 | _ :: _, [], n, _, h => by simp at h
 | l :: r, s :: sl, n, h, hl => by
  simp only [OkSS] at h
  simp only [editSS, replSS]
  rw [editHL h.1, editHSS h.2 (by simpa using hl)]
theorem editHL : ∀ {l : List T} {s : SlotD} {n : Nat}, OkL g l → editL g (edH bt a) l s n = replL bt a l n
 | [], _, n, _ => by simp only [editL, replL]
 | t :: r, s, n, h => by
  simp only [OkL] at h
  simp only [editL, replL]
  rw [editH h.1, editHL h.2]
  rfl
end
variable {gl : Nat → Nat → Option Value} {ng : Nat}
theorem EdR.none {σ : Kn} : EdR σ (.tuple #[.slice none 0 0, .bool false]) none := rfl
theorem f73_ok {ns : List Int} {σb : Kn} {rv nv ov : Value} {ba bg bl : Nat} (hg : RulesV σb rv g) (hru : RulesOk g) (hn : IntsK σb nv ns) (hmin : MinL g ns) (ho : IntsK σb ov out) (h0 : (0 : Int) ∉ out) (hol : out.length < 1048576)
 (k1 : σb ba 0 = some ov) (k2 : σb bg 0 = some rv) (k3 : σb bl 0 = some nv) :
 EdOk gl ng 73 [.pointer (some ⟨ba, 0, none⟩), .pointer (some ⟨bg, 0, none⟩), .pointer (some ⟨bl, 0, none⟩)] σb g.length (edP (leastD ns g) out) := by
 refine ⟨fun args m => callV_of (fn := Tryz.f73) Tryz.func73 rfl rfl, fun n s l h => ?_, fun n s kv σ m hnl hs hw hh hle hk => ?_⟩
 · unfold edP at h
   split at h
   · cases h; split <;> simp
   cases h
 refine Ct.of (c := _) Tryz.func73 rfl 24 rfl (fun c hnt => ?_)
 have hS := S.start hw hh
 obtain ⟨m1, nb6, hbx, hS1⟩ := hS.box 55 #[.int .u8 s.many, kv, .string s.between] (by simp [hk.plain])
 have k1' := hle _ _ _ k1
 have k2' := hle _ _ _ k2
 have k3' := hle _ _ _ k3
 have hfew := hru.few
 repeat apply W.seq
 apply W.regN; simp [hnt, hbx]
 repeat apply W.seq
 apply W.regN; simp [hnt, hS1.kn, k1']
 refine Ct.use (Ct.any hS1.wf hS1.holds (f47_ct hS1.wf (IntsK.mono hS1.holds (ho.mono hle)) hol)) (fun σ3 v3 m3 hl3 hv3 => ?_)
 subst hv3
 have hS3 := hS1.grow hl3.grow
 by_cases hin : (n : Int) ∈ out
 ·
  have hn0 : n ≠ 0 := fun e => h0 (by rw [e] at hin; exact hin)
  have hso := hs.resolve_left hn0
  simp [hnt, hin]
  refine W.choose (by simp; rfl) (fun hc => ?_) fun hc => ?_
  · cases hc
  apply W.skip; try simp only [Then, InBlk]
  by_cases hm : s.many = 0
  ·
   have hpk := hmin.pick hso
   have hlm := low_mem (sizes := ns) hso.some
   have hlk := hso.rise.kinds _ hlm
   have hlen := hso.rise.len
   have hnl' := hmin.len
   obtain ⟨cn, hcn⟩ : ∃ cn : Nat, low ns s.kinds = cn := ⟨(low ns s.kinds).toNat, by omega⟩
   have hcl : cn < g.length := by omega
   repeat apply W.seq
   apply W.regN; simp [hnt, hS3.c0, hm]
   refine W.choose (by simp; rfl) (fun hc => ?_) fun hc => ?_
   ·
    repeat apply W.seq
    refine W.regU [(5, 0), (5, 1)] [5, 6, 0, 1] (by as_aux_lemma => kernel_rfl) ?_
    simp [hnt, hS3.c0, hS3.kn, k2', k3']
    refine Ct.use (Ct.any hS3.wf hS3.holds (f72_ok hS3.wf (IntsK.mono hS3.holds hk) (IntsK.mono hS3.holds (hn.mono hle)) (by rw [hnl']; exact hso.rise.kinds) hso.some (by omega))) (fun σ4 v4 m4 hl4 hv4 => ?_)
    subst hv4
    have hS4 := hS3.grow hl4.grow
    have hb1 : beqV 9 rv rv = true := by obtain ⟨_, _, h1, _⟩ := hg; exact beq_slice h1 9
    have hb2 : beqV 9 nv nv = true := by obtain ⟨_, _, h1, _⟩ := hn; exact beq_slice h1 9
    have hb3 : beqV 8 rv rv = true := by obtain ⟨_, _, h1, _⟩ := hg; exact beq_slice h1 8
    have hrn := hmin.rng cn hcl
    simp [hnt, hcn]
    refine Ct.use (f50_ok 1024 cn σ m4 rv nv g ns hS4.wf hS4.holds (hg.mono hle) (hn.mono hle) hmin hru hcl (by omega)) (fun σ5 v5 m5 hl5 hv5 => ?_)
    obtain ⟨x, y, z, rfl, px, py, pz⟩ := hv5.agg
    have hS5 := hS4.learn' hl5
    have hS6 := hS5.new (vs := [x, y, z]) 27 (by simp [px, py, pz])
    obtain ⟨σ7, hle7, hS7, hn7⟩ := hS6.freeze (i := 0) rfl
    have hle5 := hl5.le
    simp [hnt, bs59 px py pz]
    refine ⟨?_, ?_⟩
    · simp [looseOk, getS, againOk, quiet, still, beqV, hS3.kn, hS4.kn, k2', k3', hb1, hb2, hb3]
    apply W.ret; try simp only [Then, InBlk]
    refine ⟨.inr rfl, rfl, rfl, _, by simp [unwind.results, Tryz.f73]; rfl, _, hS7.learn, ?_⟩
    have e : edP (leastD ns g) out n s = some [leastD ns g s] := by simp [edP, isOut, hin, hm]
    rw [e]
    refine ⟨_, rfl, ⟨m5.nb, 0, .inr ⟨_, rfl⟩, ?_⟩, by simp⟩
    simp only [TreesK, and_true]
    refine ⟨x, y, z, (hn7 0).trans rfl, (hn7 1).trans rfl, (hn7 2).trans rfl, ?_⟩
    unfold leastD
    rw [hpk, hcn, Int.toNat_natCast]
    exact hv5.mono hle7
   cases hc
  repeat apply W.seq
  apply W.regN; simp [hnt, hS3.c0, hm]
  refine W.choose (by simp; rfl) (fun hc => ?_) fun hc => ?_
  · cases hc
  apply W.skip; try simp only [Then, InBlk]
  repeat apply W.seq
  apply W.regN; simp [hnt]
  apply W.ret
  refine ⟨.inr rfl, rfl, rfl, _, by simp [unwind.results, Tryz.f73]; rfl, _, hS3.learn, ?_⟩
  have e : edP (leastD ns g) out n s = some [] := by simp [edP, isOut, hin, hm]
  rw [e]
  exact ⟨_, rfl, TreesL.nil, by simp⟩
 simp [hnt, hin]
 refine W.choose (by simp; rfl) (fun hc => ?_) fun hc => ?_
 ·
  repeat apply W.seq
  apply W.regN; simp [hnt]
  apply W.ret; try simp only [Then, InBlk]
  refine ⟨.inr rfl, rfl, rfl, _, by simp [unwind.results, Tryz.f73]; rfl, _, hS3.learn, ?_⟩
  have e : edP (leastD ns g) out n s = none := by simp [edP, isOut, hin]
  rw [e]
  rfl
 cases hc
theorem f48_ok {σ : Kn} {m : Mem} {rv tv ov : Value} {t : T} {ns : List Int} (hw : WF m) (hh : Holds (cfg gl ng).toEnv σ m) (hg : RulesV σ rv g) (hru : RulesOk g) (ht : TreeK σ tv t) (hwt : wt t < 1048575) (hn : nodes t ≤ 1024) (hok : OkN g t) (hmin : MinL g ns)
 (ho : IntsK σ ov out) (h0 : (0 : Int) ∉ out) (hol : out.length < 1048576) :
 Ct gl ng 48 [.agg #[rv], tv, ov] σ m (fun σ' v => TreeK σ' v (prunT g (leastD ns g) out t 0)) := by
 refine Ct.of (c := _) Tryz.func48 rfl 21 rfl (fun c hnt => ?_)
 obtain ⟨bg, og, hg1, _⟩ := id hg
 have hS := S.start hw hh
 obtain ⟨m1, nb3, hbx1, hS1⟩ := hS.box 24 #[rv] (by simp [hg1.plain])
 have ht0 := ht
 obtain ⟨x, y, z, rfl, px, py, pz⟩ := ht.agg
 obtain ⟨m2, nb4, hbx2, hS2⟩ := hS1.box 27 #[x, y, z] (by simp [px, py, pz])
 obtain ⟨m3, nb5, hbx3, hS3⟩ := hS2.boxs 53 ov ho.plain
 have hS4 := hS3.new (vs := [.int .i64 0, .string .empty, .slice none 0 0]) 27 (by simp)
 repeat apply W.seq
 apply W.regN; simp [hnt, hbx1, hbx2, hbx3]
 generalize m3.new (.cells (cellsOf [.int .i64 0, .string .empty, .slice none 0 0] 27)) = m4 at *
 generalize m3.nb = nb6 at *
 repeat apply W.seq
 apply W.regN; simp [hnt, hS4.c3]
 refine Ct.use (f43_ok hS4.wf hS4.holds hg hru) (fun σ5 nv m5 hl5 hv5 => ?_)
 obtain ⟨ns', hnv, hgood, hcalm⟩ := hv5
 have e1 := hgood.eq hcalm hmin
 subst e1
 have hS5 := hS4.learn' hl5
 obtain ⟨m6, e6, hS6⟩ := hS5.var 53 [.slice none 0 0] [nv] (by simp) (by simp [hnv.plain]) rfl
 simp [hnt, hnv.plain, e6]
 generalize m5.nb = nb7 at *
 have hfv : opMakeFunc (.func 73) #[] #[.pointer (some ⟨nb5, 0, none⟩), .pointer (some ⟨nb3, 0, none⟩), .pointer (some ⟨nb7, 0, none⟩)] m6 = .value (.func (.func 73) #[] ⟨[.pointer (some ⟨nb5, 0, none⟩), .pointer (some ⟨nb3, 0, none⟩), .pointer (some ⟨nb7, 0, none⟩)]⟩) m6 := rfl
 have hbu := K.bu129_0_2 (gl := gl) (ng := ng) (m := m6) (x0_0 := rv) (x2 := .func (.func 73) #[] ⟨[.pointer (some ⟨nb5, 0, none⟩), .pointer (some ⟨nb3, 0, none⟩), .pointer (some ⟨nb7, 0, none⟩)]⟩) (by simp)
 obtain ⟨m7, nb8, hbx7, hS7⟩ := hS6.box 129 #[rv, .int .i64 0, .func (.func 73) #[] ⟨[.pointer (some ⟨nb5, 0, none⟩), .pointer (some ⟨nb3, 0, none⟩), .pointer (some ⟨nb7, 0, none⟩)]⟩] (by simp [hg1.plain])
 repeat apply W.seq
 apply W.regN; simp [hnt, hS6.c4, hfv, hbu, hbx7]
 repeat apply W.seq
 apply W.regN; simp [hnt, hS7.c4]
 obtain ⟨σ8, hle8, hS8, hn8⟩ := hS7.freeze (i := 1) rfl
 obtain ⟨σ9, hle9, hS9, hn9⟩ := hS8.freeze (i := 2) rfl
 obtain ⟨σ10, hle10, hS10, hn10⟩ := hS9.freeze (i := 3) rfl
 have hle : σ.le σ10 := Kn.le_trans hl5.le (Kn.le_trans hle8 (Kn.le_trans hle9 hle10))
 have hed := f73_ok (gl := gl) (ng := ng) (σb := σ10) (hg.mono hle) hru (hnv.mono (Kn.le_trans hle8 (Kn.le_trans hle9 hle10))) hmin (ho.mono hle) h0 hol (ba := nb5) (bg := nb3) (bl := nb7) (hle10 _ _ _ ((hn9 0).trans rfl)) ((hn10 0).trans rfl) (hle10 _ _ _ (hle9 _ _ _ ((hn8 0).trans rfl)))
 simp only [List.eraseIdx_cons_succ, List.eraseIdx_cons_zero] at hS10
 refine C.mono (f74_ok (wt t) t zeroSlot 0 σ m σ10 m7 nb8 rv _ (.slice none 0 0) _ (Nat.le_refl _) (by omega) (by omega) hed (Kn.le_refl _) hS10 (hg.mono hle) hru hok (ht0.mono hle) ⟨0, 0, .inl ⟨rfl, rfl⟩, fun i n h => by simp [zeroSlot] at h⟩ (.inl rfl)) (fun out8 m8 ho8 => ?_)
 obtain ⟨σ11, v11, rfl, hle11, hS11, hv11⟩ := ho8
 have hout : isOut out 0 = false := by simp [isOut, h0]
 rw [editP hout] at hv11
 obtain ⟨b, o, hv1, hv2⟩ := hv11
 simp only [TreesK, and_true] at hv2
 obtain ⟨x1, y1, z1, w1, w2, w3, w4⟩ := hv2
 obtain ⟨q1, q2, pz1, _⟩ := w4.inv
 have hix : ∀ m', opIndexAddr (cfg gl ng).toEnv 59 v11 (.int .i64 0) m' = .value (.pointer (some ⟨b, o, none⟩)) m' := fun m' => K.iy59 hv1 (i := 0) (by simp)
 have p1 : plainV x1 = true := by rw [q1]; simp
 have p2 : plainV y1 = true := by rw [q2]; simp
 obtain ⟨m12, e12, hS12⟩ := hS11.setAll (i := 1) rfl (vs := [x1, y1, z1]) rfl (by simp [p1, p2, pz1])
 simp [hnt, hix, hS11.kn, w1, w2, w3, e12]
 apply W.ret
 refine ⟨.inr rfl, rfl, rfl, _, by simp [unwind.results, Tryz.f48, addrOf, loadV, K.is27, K.zs27, Mem.loadN, hS12.c1]; rfl, _, hS12.learn, ?_⟩
 exact w4
end Go.Proofs.Lw
