/-
  PROVED here: steps on the way to the card of 'sleuthlaw06.ReduceTreeMinimal' (an abstract machine, its soundness, what each function computes). No conditions beyond those that each theorem states.
-/
import Derived.Test.YtfgpboldklboaaaGreatDoorAm18
import Derived.Test.YtfgpboldklboaaaGreatDoorAm13
namespace Go.Proofs.Lw
open Go Go.Am
set_option maxRecDepth 8000
theorem at'_out {l : List Int} {k : Int} (h : (l.length : Int) ≤ k) : at' l k = 0 := by
 simp only [at', List.getD_eq_getElem?_getD]
 rw [List.getElem?_eq_none (by omega)]; rfl
theorem MinL.good {g : List RuleD} {ns : List Int} (h : MinL g ns) : Good g ns := by
 refine ⟨h.len, fun k => ?_, fun k hk => ?_⟩
 ·
  rcases Int.lt_or_le k 0 with h0 | h0
  · rw [at'_nat]
    rcases Nat.lt_or_ge k.toNat g.length with h1 | h1
    · have := h.rng k.toNat h1; omega
    rw [at'_out (by rw [h.len]; omega)]; omega
  rcases Nat.lt_or_ge k.toNat g.length with h1 | h1
  · have := h.rng k.toNat h1; rw [at'_nat]; omega
  rw [at'_out (by rw [h.len]; omega)]; omega
 rcases Nat.lt_or_ge k g.length with h1 | h1
 · exact h.has k h1
 rw [at'_out (by rw [h.len]; omega)] at hk; exact absurd rfl hk
theorem MinL.sk {g : List RuleD} {ns : List Int} (h : MinL g ns) : ∀ {l : List SlotD}, (∀ s ∈ l, SlotOk g.length s) → SkL g l (sumR ns l)
 | [], _ => .nil
 | s :: l, hl => by
  have ih := MinL.sk h (l := l) (fun x hx => hl x (by simp [hx]))
  have hs := hl s (by simp)
  simp only [sumR]
  by_cases hm : s.many = 0
  ·
   rw [if_pos hm]
   have hp := h.pick hs
   have hmem := low_mem (sizes := ns) hs.some
   rw [← hp] at hmem
   have hk := hs.rise.kinds _ hmem
   obtain ⟨kn, hkn⟩ : ∃ kn : Nat, pickR ns s = kn := ⟨(pickR ns s).toNat, by omega⟩
   rw [hkn] at hmem hk ⊢
   exact .one hm hmem (h.has kn (by omega)) ih
  rw [if_neg hm, Int.zero_add]
  exact .skip hm ih
theorem MinL.fixed {g : List RuleD} {ns : List Int} (h : MinL g ns) (hr : RulesOk g) : Fixed g ns := by
 refine ⟨h.good, fun k hk r hkr hc => ?_, hr⟩
 have h1 := calcR_sum hc.1
 have h2 := h.sk (hr.rules r (List.mem_of_getElem? hkr)).slots
 have h3 := h.min k _ hk (.mk hkr h2)
 have h4 := h.rng k hk
 omega
variable {gl : Nat → Nat → Option Value} {ng : Nat}
theorem bs_one {E : Env} {t e : TypeId} {z v : Value} {m : Mem} (hu : und E t = some (.slice e)) (hi : (E.P.info? e).isSome = true) (hs : szOf E e = 1) (hz : zeroOf E e = some z) (hp : plainV z = true) (hv : plainV v = true) :
 opBuildSlice E t 1 [(0, v)] m = .value (.slice (some ⟨m.nb, 0, none⟩) 1 (mkCap 1 true)) (m.new (.cells (cellsOf [v] e))) := by
 unfold opBuildSlice
 simp only [hu, plain_defd hv, List.all_cons, List.all_nil, Bool.and_self, hi, hs, Bool.true_and]
 rw [if_pos (by decide), if_neg (by decide)]
 simp only [hz]
 have e : Instr.fill (fun i => some (i * 1, 1)) ((Array.range (1 * 1)).map fun j => z.cells[j % z.cells.size]!) [(0, v)] = some #[v] := by
  rw [fill_eq, plain_cells hp]
  simp only [List.map_cons, List.map_nil, plain_cells hv]
  kernel_rfl
 rw [e]
 simp [Mem.newCells, hv]
theorem bs25 {m : Mem} {v : Value} (hv : plainV v = true) : opBuildSlice (cfg gl ng).toEnv 25 1 [(0, v)] m = .value (.slice (some ⟨m.nb, 0, none⟩) 1 (mkCap 1 true)) (m.new (.cells (cellsOf [v] 59))) :=
 bs_one (z := .slice none 0 0) (by kernel_rfl) (by kernel_rfl) (by kernel_rfl) (by kernel_rfl) rfl hv
theorem ap25 {σ0 σ : Kn} {m0 m : Mem} {L1 B L2 : List (Nat × Cl)} (h : S (cfg gl ng).toEnv σ0 m0 σ m (L1 ++ (B ++ L2))) {s x : Value} {len n : Nat} {vs new : List Value} (hB : BldV 59 1 s len vs B) (hs : Src (cfg gl ng).toEnv m x n new) (hnew : new.length = n * 1) (hp : new.all plainV = true) (hl : len + n ≤ 1048576) :
 ∃ s' m' B', opAppend (cfg gl ng).toEnv 25 (some 25) s x m = .value s' m' ∧ S (cfg gl ng).toEnv σ0 m0 σ m' (L1 ++ (B' ++ L2)) ∧ BldV 59 1 s' (len + n) (vs ++ new) B' :=
 app_ok (by kernel_rfl) (by kernel_rfl) (by kernel_rfl) h hB hs hnew hp hl
theorem RowsK.snoc {σ : Kn} {vs : List Value} {ss : List (List T)} (hr : RowsK σ vs ss) {v : Value} {l : List T} {b o : Nat} (hv : SliceAt v l.length b o) (ht : TreesK σ b o l) : RowsK σ (vs ++ [v]) (ss ++ [l]) := by
 refine ⟨by simp [hr.1], fun j x hx => ?_⟩
 rcases Nat.lt_trichotomy j ss.length with h | h | h
 · rw [List.getElem?_append_left h] at hx
   obtain ⟨v', b', o', h1, h2, h3⟩ := hr.2 j x hx
   exact ⟨v', b', o', by rw [List.getElem?_append_left (by rw [hr.1]; exact h)]; exact h1, h2, h3⟩
 · subst h
   simp at hx; subst hx
   exact ⟨v, b, o, by rw [List.getElem?_append_right (by rw [hr.1]; omega)]; simp [hr.1], hv, ht⟩
 rw [List.getElem?_eq_none (by simp; omega)] at hx; cases hx
theorem RowsK.nil {σ : Kn} : RowsK σ [] [] := ⟨rfl, fun j l h => by simp at h⟩
theorem f50_ok : ∀ (N : Nat) (k : Nat) (σ : Kn) (m : Mem) (rv nv : Value) (g : List RuleD) (ns : List Int), WF m → Holds (cfg gl ng).toEnv σ m → RulesV σ rv g → IntsK σ nv ns → MinL g ns → RulesOk g → k < g.length → at' ns k ≤ N →
 Ct gl ng 50 [.agg #[rv], nv, .int .i64 k] σ m (fun σ' r => TreeK σ' r (leastT g (pickR ns) N k)) := by
 intro N
 induction N with
 | zero => intro k σ m rv nv g ns _ _ _ _ hf _ hk h1; have := hf.rng k hk; omega
 | succ N ih =>
  intro k σ m rv nv g ns hw hh hg hn hmin hru hk hN
  have h0 : at' ns k ≠ 0 := by have := hmin.rng k hk; omega
  have hf := hmin.fixed hru
  refine Ct.of (c := _) Tryz.func50 rfl 43 rfl (fun c hnt => ?_)
  have hgV := hg
  obtain ⟨bg, og, hg1, hg2⟩ := hg
  have hgk : g[k]? = some g[k] := by simp [hk]
  obtain ⟨sv, r1, r2, r3, r4, hsV⟩ := hg2 k g[k] hgk
  have hr := hru.rules g[k] (by simp)
  have hsum := hf.sum hgk h0
  have hT : leastT g (pickR ns) (N + 1) k = .mk k .empty (g[k].slots.map fun s => if s.many = 0 then [leastT g (pickR ns) N (pickR ns s).toNat] else []) := by simp only [leastT, hgk]
  have hmem := fun s (hs : s ∈ g[k].slots) (hm : s.many = 0) => sumR_mem hf.good hs hm
  generalize g[k] = r at *
  obtain ⟨bs, os, hs1, hs2⟩ := hsV
  have hsl : r.slots.length ≤ 8 := hr.few
  have hnlen := hmin.len
  have hfew := hru.few
  have hS := S.start hw hh
  obtain ⟨m1, nbg, hbx, hS1⟩ := hS.box 24 #[rv] (by simp [hg1.plain])
  have hS2 := hS1.new (vs := [.int .i64 0, .string .empty, .slice none 0 0]) 27 (by simp)
  repeat apply W.seq
  apply W.regN; simp [hnt, hbx]
  generalize m1.new (.cells (cellsOf [.int .i64 0, .string .empty, .slice none 0 0] 27)) = m2 at *
  generalize m1.nb = nb6 at *
  have hbu := K.bu27_0 (gl := gl) (ng := ng) (m := m2) (x0 := .int .i64 k) (by simp)
  obtain ⟨m3, e3, hS3⟩ := hS2.var 27 [.int .i64 0, .string .empty, .slice none 0 0] [.int .i64 k, .string .empty, .slice none 0 0] (by simp) (by simp) rfl
  repeat apply W.seq
  apply W.regN; simp [hnt, hbu, e3]
  generalize m2.nb = nb7 at *
  repeat apply W.seq
  apply W.regN; simp [hnt, hS3.c2, hS3.kn, K.iy22 hg1 hk, r4, K.ly49 hs1]
  obtain ⟨rows, hrows⟩ : ∃ rows : List (List T), rows = r.slots.map fun s => if s.many = 0 then [leastT g (pickR ns) N (pickR ns s).toNat] else [] := ⟨_, rfl⟩
  have hrl : rows.length = r.slots.length := by rw [hrows]; simp
  apply W.block
  obtain ⟨I, hI⟩ : ∃ I : Nat → Tr Value → Mem → Prop, I = fun (i : Nat) (t : Tr Value) (m' : Mem) => t.get 20 = some (.int .i64 i) ∧ ∃ σ' vs B s, σ.le σ' ∧ S (cfg gl ng).toEnv σ m σ' m' ([(nb7, ⟨[.int .i64 k, .string .empty, s], none⟩), (nb6, ⟨[.int .i64 0, .string .empty, .slice none 0 0], none⟩), (nbg, ⟨[rv], none⟩)] ++ (B ++ [])) ∧ BldV 59 1 s i vs B ∧ RowsK σ' vs (rows.take i) := ⟨_, rfl⟩
  refine W.upto (ws := [21, 22, 23, 9, 10, 24, 25, 26, 27, 28, 29, 30, 31, 32, 33, 34, 35, 36, 37, 38, 39, 40, 41, 20]) (by kernel_rfl) (r.slots.length) I 0 (by omega) (by rw [hI]; exact ⟨by simp, σ, [], [], .slice none 0 0, Kn.le_refl σ, hS3, .nil, by simpa using RowsK.nil⟩) ?_
  intro i t m4 hi hfr hIi
  rw [hI] at hIi
  obtain ⟨q20, σ4, vs, B, s, hle4, hS4, hB, hR⟩ := hIi
  repeat apply W.seq
  apply W.regN; simp [hnt, q20, hfr]
  repeat apply W.seq
  refine W.choose (by simp; rfl) (fun hc => ?_) fun hc => ?_
  ·
   have hil : i < r.slots.length := by simpa using hc
   apply W.skip; try simp only [Then, InBlk]
   have hgi : r.slots[i]? = some r.slots[i] := by simp [hil]
   have hsm : r.slots[i] ∈ r.slots := by simp
   have hrow : rows[i]? = some (if r.slots[i].many = 0 then [leastT g (pickR ns) N (pickR ns r.slots[i]).toNat] else []) := by rw [hrows]; simp [hgi]
   obtain ⟨kv, u1, u2, u3, u4⟩ := hs2 i r.slots[i] hgi
   have u1' := hle4 _ _ _ u1
   have u2' := hle4 _ _ _ u2
   have u3' := hle4 _ _ _ u3
   have u4' := u4.mono hle4
   have hsum' := hsum.1 _ hsm
   have hmem' := hmem _ hsm
   have hso := hr.slots _ hsm
   have hpk := hmin.pick hso
   have hrl' := hso.rise.len
   generalize r.slots[i] = sl at *
   obtain ⟨m5, e5, hS5⟩ := hS4.var 55 [.int .u8 0, .slice none 0 0, .string .empty] [.int .u8 sl.many, kv, .string sl.between] (by simp) (by simp [u4.plain]) rfl
   repeat apply W.seq
   apply W.block
   repeat apply W.seq
   apply W.regN; simp [hnt, q20, hfr, K.iy49 hs1 hil, hS4.kn, u1', u2', u3', e5]
   generalize m4.nb = nb9 at *
   repeat apply W.seq
   apply W.regN; simp [hnt]
   obtain ⟨row, hrw⟩ : ∃ row : List T, row = (if sl.many = 0 then [leastT g (pickR ns) N (pickR ns sl).toNat] else []) := ⟨_, rfl⟩
   rw [← hrw] at hrow
   obtain ⟨J, hJ⟩ : ∃ J : Tr Value → Mem → Prop, J = fun t m' => ∃ v σ' b o, t.get 10 = some v ∧ σ4.le σ' ∧ S (cfg gl ng).toEnv σ m σ' m' ([(nb7, ⟨[.int .i64 k, .string .empty, s], none⟩), (nb6, ⟨[.int .i64 0, .string .empty, .slice none 0 0], none⟩), (nbg, ⟨[rv], none⟩)] ++ (B ++ [])) ∧ SliceAt v row.length b o ∧ TreesK σ' b o row := ⟨_, rfl⟩
   refine W.cut (ws := [24, 25, 26, 27, 28, 29, 30, 31, 32, 33, 34, 10]) (by kernel_rfl) J ?_ (fun t5 m6 hfr5 hJ5 => ?_)
   ·
    by_cases hmany : sl.many = 0
    ·
     obtain ⟨s1, s2, s3, s4⟩ := hsum' hmany
     have s5 := hmem' hmany
     rw [if_pos hmany] at hrw
     repeat apply W.seq
     apply W.regN; simp [hnt, hS5.c0, hmany]
     refine W.choose (by simp; rfl) (fun hc => ?_) fun hc => ?_
     ·
      refine W.regU [(5, 0)] [5, 6, 0] (by as_aux_lemma => kernel_rfl) ?_
      simp [hnt, hfr, hS5.c0, hS5.c3]
      refine Ct.use (Ct.any hS5.wf hS5.holds (f72_ok hS5.wf (IntsK.mono hS5.holds u4') (IntsK.mono hS5.holds (hn.mono hle4)) (by rw [hnlen]; exact hso.rise.kinds) hso.some (by omega))) (fun σ7 v7 m7 hl7 hv7 => ?_)
      subst hv7
      have hS7 := hS5.grow hl7.grow
      rw [← hpk]
      obtain ⟨cn, hcn⟩ : ∃ cn : Nat, pickR ns sl = cn := ⟨(pickR ns sl).toNat, by omega⟩
      rw [hcn] at s1 s2 s3 s5 hrw ⊢
      simp [hnt]
      refine Ct.use (ih cn σ4 m7 rv nv g ns hS7.wf hS7.holds (hgV.mono hle4) (hn.mono hle4) hmin hru (by omega) (by omega)) (fun σ8 v8 m8 hl8 hv8 => ?_)
      obtain ⟨x, y, z, rfl, px, py, pz⟩ := hv8.agg
      have hS8 := hS7.learn' hl8
      obtain ⟨σ9, hle9, hS9, ht9⟩ := hS8.tree1 hv8 px py pz
      simp [hnt, bs59 px py pz]
      refine ⟨?_, ?_⟩
      · simp [looseOk, getS, againOk, quiet, still, beqV, hfr, hS5.c3, hS7.c3, beq_slice hg1]
      rw [hJ]
      refine ⟨.slice (some ⟨m8.nb, 0, none⟩) 1 (mkCap 1 true), σ9, m8.nb, 0, by simp, Kn.le_trans hl8.le hle9, hS9.drop (List.sublist_cons_self _ _), ?_, ?_⟩
      · rw [hrw]; exact .inr ⟨_, rfl⟩
      rw [hrw, Int.toNat_natCast]; exact ht9
     cases hc
    rw [if_neg hmany] at hrw
    repeat apply W.seq
    apply W.regN; simp [hnt, hS5.c0, hmany]
    refine W.choose (by simp; rfl) (fun hc => ?_) fun hc => ?_
    · cases hc
    apply W.skip; try simp only [Then, InBlk]
    simp
    rw [hJ]
    exact ⟨_, σ4, 0, 0, by simp, Kn.le_refl _, hS5.drop (List.sublist_cons_self _ _), .inl ⟨rfl, by rw [hrw]; rfl⟩, by rw [hrw]; simp only [TreesK]⟩
   rw [hJ] at hJ5
   obtain ⟨v, σ6, b6, o6, p10, hle6, hS6, hv, hv2⟩ := hJ5
   have hS7 := hS6.new (vs := [v]) 59 (by simp [hv.plain])
   obtain ⟨s', m8, B', e8, hS8, hB8⟩ := ap25 (L1 := [(m6.nb, ⟨[v], none⟩), (nb7, ⟨[.int .i64 k, .string .empty, s], none⟩), (nb6, ⟨[.int .i64 0, .string .empty, .slice none 0 0], none⟩), (nbg, ⟨[rv], none⟩)]) hS7 hB (x := .slice (some ⟨m6.nb, 0, none⟩) 1 (mkCap 1 true)) (n := 1) (new := [v]) (.inr ⟨_, 0, _, rfl, fun j x hj => by rw [Nat.zero_add, hS7.c0]; exact hj⟩) rfl (by simp [hv.plain]) (by omega)
   obtain ⟨m9, e9, hS9⟩ := hS8.set1 (i := 1) rfl (o := 2) (v := s') (by simp) hB8.plain
   apply W.regN; simp [hnt, hfr5, hfr, hS6.c0, p10, bs25 hv.plain, e8, hB8.plain, e9]
   apply W.regN; simp [hnt, hfr5, q20, wr1 (show i < _ by omega)]
   exact ⟨i + 1, by omega, by omega, by rw [hI]; exact ⟨by simp, σ6, _, B', s', Kn.le_trans hle4 hle6, hS9.drop (List.sublist_cons_self _ _), hB8, by rw [List.take_add_one, hrow]; exact (hR.mono hle6).snoc hv hv2⟩⟩
  have hil : i = r.slots.length := by
   have : r.slots.length ≤ i := by simpa using hc
   omega
  apply W.exit; try simp [Then, InBlk]
  rw [hil, ← hrl, List.take_length] at hR
  rw [hil] at hB
  obtain ⟨m7, e7, hS7⟩ := hS4.setAll (i := 1) rfl (vs := [.int .i64 k, .string .empty, s]) rfl (by simp [hB.plain])
  repeat apply W.seq
  apply W.regN; simp [hnt, hfr, hS4.c0, e7]
  obtain ⟨σ8, b8, hle8, hS8, hv8, hn8⟩ := S.done (L1 := [(nb7, ⟨[.int .i64 k, .string .empty, s], none⟩), (nb6, ⟨[.int .i64 k, .string .empty, s], none⟩), (nbg, ⟨[rv], none⟩)]) hS7 hB
  apply W.ret
  refine ⟨.inr rfl, rfl, rfl, _, by simp [unwind.results, Tryz.f50, addrOf, loadV, K.is27, K.zs27, Mem.loadN, hfr, hS7.c1]; rfl, _, hS8.learn, ?_⟩
  simp only [retV, hT, TreeK]
  refine ⟨s, b8, 0, rfl, by rw [List.length_map]; exact hv8, ?_⟩
  rw [← hrows]
  exact (hR.mono hle8).slots (fun j v hj => by rw [Nat.zero_add]; exact hn8 j v hj)
end Go.Proofs.Lw
namespace Go.Proofs.Lw
open Go Go.Am
set_option maxRecDepth 8000
variable {gl : Nat → Nat → Option Value} {ng : Nat}
theorem f49_ok {σ : Kn} {m : Mem} {rv : Value} {g : List RuleD} (hw : WF m) (hh : Holds (cfg gl ng).toEnv σ m) (hg : RulesV σ rv g) (hok : OkG g) :
 Ct gl ng 49 [.agg #[rv]] σ m (fun _ v => v = .int .i64 0) := by
 refine Ct.of (c := _) Tryz.func49 rfl 104 rfl (fun c hnt => ?_)
 have hgV := hg
 have hru := hok.rules
 have hfew := hru.few
 obtain ⟨bg, og, hg1, hg2⟩ := hg
 have hS := S.start hw hh
 obtain ⟨m1, nbg, hbx, hS1⟩ := hS.box 24 #[rv] (by simp [hg1.plain])
 have hlen : ∀ m', opLen (cfg gl ng) 22 rv m' = .value (.int .i64 g.length) m' := fun m' => K.ly22 hg1
 repeat apply W.seq
 apply W.regN; simp [hnt, hbx]
 obtain ⟨J, hJ⟩ : ∃ J : Tr Value → Mem → Prop, J = fun t m' => S (cfg gl ng).toEnv σ m σ m' [(nbg, ⟨[rv], none⟩)] := ⟨_, rfl⟩
 have hne : ¬ g.length = 0 := fun h => hru.some (List.eq_nil_of_length_eq_zero h)
 refine W.cut (ws := [11, 12, 13, 14, 10, 2, 16, 17, 18, 19, 15]) (by kernel_rfl) J ?_ (fun t0 m2 hfr0 hJ0 => ?_)
 ·
  apply W.block
  repeat apply W.seq
  apply W.regN; simp [hnt, hS1.c0, hlen, hru.some]
  refine W.choose (by simp; rfl) (fun hc => ?_) fun hc => ?_
  · cases hc
  have c2 : ¬ (32 : Int) < g.length := by omega
  repeat apply W.seq
  apply W.regN; simp [hnt, hS1.c0, hlen, c2]
  refine W.choose (by simp; rfl) (fun hc => ?_) fun hc => ?_
  · cases hc
  apply W.skip; try simp only [Then, InBlk]
  simp
  rw [hJ]; exact hS1
 rw [hJ] at hJ0
 refine W.cut (ws := [20, 21, 22, 24, 25, 26, 4, 28, 29, 30, 31, 32, 33, 34, 35, 36, 37, 27, 2, 39, 40, 41, 42, 43, 44, 45, 46, 38, 48, 49, 50, 51, 47, 52, 53, 54, 55, 56, 57, 58, 6, 60, 61, 62, 59, 64, 65, 66, 67, 63, 69, 70, 71, 72, 73, 74, 75, 76, 77, 78, 79, 80, 81, 68, 82, 83, 23]) (by kernel_rfl) J ?_ (fun t1 m3 hfr1 hJ1 => ?_)
 ·
  repeat apply W.seq
  apply W.regN; simp [hnt, hJ0.c0, hlen, hfr0]
  apply W.block
  obtain ⟨I, hI⟩ : ∃ I : Nat → Tr Value → Mem → Prop, I = fun (i : Nat) (t : Tr Value) (m' : Mem) => t.get 23 = some (.int .i64 i) ∧ S (cfg gl ng).toEnv σ m σ m' [(nbg, ⟨[rv], none⟩)] := ⟨_, rfl⟩
  refine W.upto (ws := [24, 25, 26, 4, 28, 29, 30, 31, 32, 33, 34, 35, 36, 37, 27, 2, 39, 40, 41, 42, 43, 44, 45, 46, 38, 48, 49, 50, 51, 47, 52, 53, 54, 55, 56, 57, 58, 6, 60, 61, 62, 59, 64, 65, 66, 67, 63, 69, 70, 71, 72, 73, 74, 75, 76, 77, 78, 79, 80, 81, 68, 82, 83, 23]) (by kernel_rfl) (g.length) I 0 (by omega) (by rw [hI]; exact ⟨by simp, hJ0⟩) ?_
  intro i t m4 hi hfr hIi
  rw [hI] at hIi
  obtain ⟨q23, hS4⟩ := hIi
  repeat apply W.seq
  apply W.regN; simp [hnt, q23, hfr]
  repeat apply W.seq
  refine W.choose (by simp; rfl) (fun hc => ?_) fun hc => ?_
  ·
   have hil : i < g.length := by simpa using hc
   apply W.skip; try simp only [Then, InBlk]
   have hgi : g[i]? = some g[i] := by simp [hil]
   have hmem : g[i] ∈ g := by simp
   obtain ⟨sv, u1, u2, u3, u4, bs, os, hs1, hs2⟩ := hg2 i g[i] hgi
   have hr := hru.rules _ hmem
   generalize g[i] = r at *
   have hsl : r.slots.length ≤ 8 := hr.few
   have hlen2 : ∀ m', opLen (cfg gl ng) 49 sv m' = .value (.int .i64 r.slots.length) m' := fun m' => K.ly49 hs1
   obtain ⟨m5, e5, hS5⟩ := hS4.var 51 [.string .empty, .string .empty, .bool false, .slice none 0 0] [.string r.before, .string r.after, .bool r.leaf, sv] (by simp) (by simp [hs1.plain]) rfl
   repeat apply W.seq
   apply W.block
   repeat apply W.seq
   apply W.regN; simp [hnt, q23, hfr, hS4.kn, K.iy22 hg1 hil, u1, u2, u3, u4, e5]
   generalize m4.nb = nb4 at *
   obtain ⟨J2, hJ2⟩ : ∃ J : Tr Value → Mem → Prop, J = fun t m' => S (cfg gl ng).toEnv σ m σ m' [(nb4, ⟨[.string r.before, .string r.after, .bool r.leaf, sv], none⟩), (nbg, ⟨[rv], none⟩)] := ⟨_, rfl⟩
   refine W.cut (ws := [28, 29, 30, 31, 32, 33, 34, 35, 36, 37, 27, 2, 39, 40, 41, 42, 43, 44, 45, 46, 38, 48, 49, 50, 51, 47]) (by kernel_rfl) J2 ?_ (fun t5 m6 hfr5 hJ5 => ?_)
   ·
    apply W.block
    have c1 : ¬ (16 : Int) < r.before.size := by have := hr.before; omega
    have c2 : ¬ (16 : Int) < r.after.size := by have := hr.after; omega
    have c4 : ¬ (8 : Int) < r.slots.length := by omega
    repeat apply W.seq
    apply W.regN; simp [hnt, hS5.c0, c1, c2]
    refine W.choose (by simp; rfl) (fun hc => ?_) fun hc => ?_
    · cases hc
    cases hlf : r.leaf with
    | true =>
     have c3 : r.slots = [] := hr.leaf hlf
     repeat apply W.seq
     apply W.regN; simp [hnt, hS5.c0, hlen2, hlf, c3]
     refine W.choose (by simp; rfl) (fun hc => ?_) fun hc => ?_
     · cases hc
     repeat apply W.seq
     apply W.regN; simp [hnt, hS5.c0, hlen2, c4]
     refine W.choose (by simp; rfl) (fun hc => ?_) fun hc => ?_
     · cases hc
     apply W.skip; try simp only [Then, InBlk]
     simp
     rw [hJ2]; exact hS5
    | false =>
     repeat apply W.seq
     apply W.regN; simp [hnt, hS5.c0, hlen2, hlf]
     refine W.choose (by simp; rfl) (fun hc => ?_) fun hc => ?_
     · cases hc
     repeat apply W.seq
     apply W.regN; simp [hnt, hS5.c0, hlen2, c4]
     refine W.choose (by simp; rfl) (fun hc => ?_) fun hc => ?_
     · cases hc
     apply W.skip; try simp only [Then, InBlk]
     simp
     rw [hJ2]; exact hS5
   rw [hJ2] at hJ5
   repeat apply W.seq
   apply W.regN; simp [hnt, hJ5.c0, hlen2, hfr5, hfr]
   apply W.block
   obtain ⟨I2, hI2⟩ : ∃ I2 : Nat → Tr Value → Mem → Prop, I2 = fun (k : Nat) (t : Tr Value) (m' : Mem) => t.get 55 = some (.int .i64 k) ∧ S (cfg gl ng).toEnv σ m σ m' [(nb4, ⟨[.string r.before, .string r.after, .bool r.leaf, sv], none⟩), (nbg, ⟨[rv], none⟩)] := ⟨_, rfl⟩
   refine W.upto (ws := [56, 57, 58, 6, 60, 61, 62, 59, 2, 64, 65, 66, 67, 63, 69, 70, 71, 72, 73, 74, 75, 76, 77, 78, 79, 80, 81, 68, 82, 55]) (by kernel_rfl) (r.slots.length) I2 0 (by omega) (by rw [hI2]; exact ⟨by simp, hJ5⟩) ?_
   intro k t2 m7 hk hfr2 hIi
   rw [hI2] at hIi
   obtain ⟨q55, hS7⟩ := hIi
   repeat apply W.seq
   apply W.regN; simp [hnt, q55, hfr2]
   repeat apply W.seq
   refine W.choose (by simp; rfl) (fun hc => ?_) fun hc => ?_
   ·
    have hkl : k < r.slots.length := by simpa using hc
    apply W.skip; try simp only [Then, InBlk]
    have hsm : r.slots[k] ∈ r.slots := by simp
    obtain ⟨kv, v1, v2, v3, v4⟩ := hs2 k r.slots[k] (by simp [hkl])
    have hso := hr.slots _ hsm
    generalize r.slots[k] = sl at *
    obtain ⟨m8, e8, hS8⟩ := hS7.var 55 [.int .u8 0, .slice none 0 0, .string .empty] [.int .u8 sl.many, kv, .string sl.between] (by simp) (by simp [v4.plain]) rfl
    have c1 : ¬ 2 < sl.many := by have := hso.many; omega
    have c2 : ¬ (16 : Int) < sl.between.size := by have := hso.between; omega
    repeat apply W.seq
    apply W.block
    repeat apply W.seq
    apply W.regN; simp [hnt, q55, hfr2, hS7.kn, K.iy49 hs1 hkl, v1, v2, v3, e8]
    apply W.block
    repeat apply W.seq
    apply W.regN; simp [hnt, hS8.c0, c1]
    refine W.choose (by simp; rfl) (fun hc => ?_) fun hc => ?_
    · cases hc
    repeat apply W.seq
    apply W.regN; simp [hnt, hS8.c0, c2]
    refine W.choose (by simp; rfl) (fun hc => ?_) fun hc => ?_
    · cases hc
    repeat apply W.seq
    apply W.regN; simp [hnt, hS8.c0, hS8.c2, v4.len, hso.some, hfr2, hfr5, hfr, hfr0, hlen]
    refine Ct.use (Ct.any hS8.wf hS8.holds (f46_ct (n := g.length) hS8.wf (IntsK.mono hS8.holds v4) (by have := hso.rise.len; omega))) (fun σ9 v9 m9 hl9 hv9 => ?_)
    obtain ⟨b, rfl, hb⟩ := hv9
    have hbt : b = true := hb.2 hso.rise
    subst hbt
    have hS9 := (hS8.grow hl9.grow).drop (List.sublist_cons_self _ _)
    simp [hnt]
    refine W.choose (by simp; rfl) (fun hc => ?_) fun hc => ?_
    · cases hc
    apply W.skip; try simp only [Then, InBlk]
    apply W.regN; simp [hnt, q55, hfr2, wr1 (show k < _ by omega)]
    exact ⟨k + 1, by omega, by omega, by rw [hI2]; exact ⟨by simp, hS9⟩⟩
   apply W.exit; try simp [Then, InBlk]
   apply W.regN; simp [hnt, hfr2, hfr5, q23, hfr, wr1 (show i < _ by omega)]
   exact ⟨i + 1, by omega, by omega, by rw [hI]; exact ⟨by simp, hS7.drop (List.sublist_cons_self _ _)⟩⟩
  apply W.exit; try simp [Then, InBlk]
  rw [hJ]; exact hS4
 rw [hJ] at hJ1
 repeat apply W.seq
 apply W.regN; simp [hnt, hJ1.c0, hfr1, hfr0]
 refine Ct.use (f43_ok hJ1.wf hJ1.holds hgV hru) (fun σ4 nv m4 hl4 hv4 => ?_)
 obtain ⟨ns, hn, hgood, hcalm⟩ := hv4
 obtain ⟨ns0, hmin, hdep⟩ := hok.least
 have e := hgood.eq hcalm hmin
 subst e
 have hfix := hmin.fixed hru
 have hS4 := hJ1.learn' hl4
 have hnl := hmin.len
 simp [hnt]
 repeat apply W.seq
 apply W.regN; simp [hnt, hn.len, hnl]
 apply W.block
 obtain ⟨I, hI⟩ : ∃ I : Nat → Tr Value → Mem → Prop, I = fun (i : Nat) (t : Tr Value) (m' : Mem) => t.get 88 = some (.int .i64 i) ∧ ∃ σ', σ4.le σ' ∧ S (cfg gl ng).toEnv σ m σ' m' [(nbg, ⟨[rv], none⟩)] := ⟨_, rfl⟩
 refine W.upto (ws := [89, 90, 91, 92, 8, 9, 93, 94, 95, 96, 97, 98, 99, 100, 101, 102, 2, 103, 88]) (by kernel_rfl) (g.length) I 0 (by omega) (by rw [hI]; exact ⟨by simp, σ4, Kn.le_refl _, hS4⟩) ?_
 intro i t m5 hi hfr hIi
 rw [hI] at hIi
 obtain ⟨q88, σ5, hle5, hS5⟩ := hIi
 repeat apply W.seq
 apply W.regN; simp [hnt, q88, hfr]
 repeat apply W.seq
 refine W.choose (by simp; rfl) (fun hc => ?_) fun hc => ?_
 ·
  have hil : i < g.length := by simpa using hc
  apply W.skip; try simp only [Then, InBlk]
  obtain ⟨b1, o1, e1, e2⟩ := (hn.mono hle5).at (gl := gl) (ng := ng) (i := i) (by omega)
  have hrg := hmin.rng i hil
  have c1 : ¬ 1024 < at' ns i := by omega
  have hsz := hfix.size 1024 i (by omega) (by omega)
  repeat apply W.seq
  apply W.block
  repeat apply W.seq
  apply W.regN; simp [hnt, q88, hfr, e1, hS5.kn, e2]
  repeat apply W.seq
  apply W.regN; simp [hnt, c1, hfr, hS5.c0, hfr1, hfr0]
  refine Ct.use (f50_ok 1024 i σ5 m5 rv nv g ns hS5.wf hS5.holds (hgV.mono (Kn.le_trans (Kn.le_trans hJ1.le hl4.le) hle5)) (hn.mono hle5) hmin hru hil (by omega)) (fun σ6 v6 m6 hl6 hv6 => ?_)
  have hS6 := hS5.learn' hl6
  simp [hnt]
  refine Ct.use (f58_ct hS6.wf hS6.holds hv6 (by omega)) (fun σ7 v7 m7 hl7 hv7 => ?_)
  subst hv7
  have hS7 := hS6.learn' hl7
  have c4 : ¬ (24 : Int) < depth (leastT g (pickR ns) 1024 i) := by have := hdep i hil; omega
  simp [hnt, c4]
  refine W.choose (by simp; rfl) (fun hc => ?_) fun hc => ?_
  · cases hc
  apply W.skip; try simp only [Then, InBlk]
  apply W.regN; simp [hnt, hfr, q88, wr1 (show i < _ by omega)]
  exact ⟨i + 1, by omega, by omega, by rw [hI]; exact ⟨by simp, σ7, Kn.le_trans (Kn.le_trans hle5 hl6.le) hl7.le, hS7⟩⟩
 apply W.exit; try simp [Then, InBlk]
 repeat apply W.seq
 apply W.regN; simp [hnt]
 apply W.ret
 refine ⟨.inr rfl, rfl, rfl, _, by simp [unwind.results, Tryz.f49]; rfl, _, hS5.learn, ?_⟩
 simp [retV]
end Go.Proofs.Lw
namespace Go.Proofs.Lw
open Go Go.Am
variable {gl : Nat → Nat → Option Value} {ng : Nat}
theorem f47_ok {m : Mem} {v : Value} {l : List Int} {n : Int} (h : IntsR (cfg gl ng).toEnv m v l) (hlen : l.length < 1048576) :
 C (cfg gl ng) 47 [v, .int .i64 n] m (fun out m' => out = .returned (.bool (l.contains n)) ∧ m' = m) := by
 refine C.of (c := _) Tryz.func47 rfl ?_
 generalize hx : ({ fn := 47, deferred := false, round := none, nt := Tryz.f47.ntmps } : Ctx) = x
 have hnt : x.nt = 17 := by rw [← hx]; rfl
 clear hx
 apply W.seq
 apply W.reg
 simp [wpO, upon, dstOk, hnt, guardOk, wantedV, opV, evalT, putT, EndQ, Then, flat]
 apply W.seq
 apply W.seq
 apply W.reg
 simp [wpO, upon, dstOk, hnt, guardOk, wantedV, opV, evalT, putT, EndQ, Then, flat, Tr.get_set, Tr.get_putAll, resolveV, invokeV, opBuiltin, h.len]
 apply W.block
 refine W.loop (fun s => s.tmps.get 7 = some v ∧ s.tmps.get 8 = some (.int .i64 l.length) ∧ s.tmps.get 1 = some (.int .i64 n) ∧ s.tmps.get 4 = some (.bool false) ∧ s.m = m ∧ s.defers = [] ∧ s.cm = none ∧
  ∃ i : Nat, s.tmps.get 9 = some (.int .i64 i) ∧ i ≤ l.length ∧ (∀ j, j < i → l[j]? ≠ some n))
  (fun s => l.length - (match s.tmps.get 9 with | some (.int _ i) => i.toNat | _ => 0)) ?_ ?_
 · simp [Tr.get_set, Tr.get_putAll]
   exact ⟨0, by simp⟩
 rintro ⟨t, ds, cm, m'⟩ ⟨h7, h8, h1, h4, rfl, rfl, rfl, i, h9, hi, hno⟩
 simp only at h7 h8 h1 h4 h9
 apply W.seq
 apply W.reg
 simp [wpO, upon, dstOk, hnt, guardOk, wantedV, opV, evalT, putT, EndQ, Then, flat, Tr.get_set, h7, h8, h9, opBin_lss]
 apply W.seq
 refine W.cond (t := decide (i < l.length)) (by simp [evalT, Tr.get_set]) ?_
 by_cases hil : i < l.length
 ·
  simp only [hil, decide_true, if_true]
  apply W.skip
  simp only [Then]
  obtain ⟨b, o, e1, e2⟩ := h.at (i := i) (n := l[i]) (by simp [hil])
  apply W.seq
  apply W.block
  apply W.seq
  apply W.reg
  simp [wpO, upon, dstOk, hnt, guardOk, wantedV, opV, evalT, putT, EndQ, Then, flat, Tr.get_set, h7, h9, e1, ld3 e2]
  apply W.seq
  apply W.reg
  simp [wpO, upon, dstOk, hnt, guardOk, wantedV, opV, evalT, putT, EndQ, Then, flat, Tr.get_set, h1, opBin_eql]
  refine W.cond (t := decide (l[i] = n)) (by simp [evalT, Tr.get_set]) ?_
  by_cases hin : l[i] = n
  ·
   simp only [hin, decide_true, if_true]
   apply W.seq
   apply W.reg
   simp [wpO, upon, dstOk, hnt, guardOk, wantedV, opV, evalT, putT, EndQ, Then, flat]
   apply W.ret
   simp [InBlk, Then, unwind.results, Tr.get_set, retV]
   rw [← hin]; simp
  simp only [hin, decide_false]
  apply W.skip
  simp only [InBlk, Then]
  apply W.reg
  simp [wpO, upon, dstOk, hnt, guardOk, wantedV, opV, evalT, putT, EndQ, Then, flat, Tr.get_set, h7, h8, h1, h4, h9, opBin_add]
  rw [wrap_i64 (by omega) (by omega)]
  refine ⟨⟨i + 1, by simp, by omega, fun j hj => ?_⟩, ?_⟩
  · by_cases hji : j = i
    · subst hji; simp [hil]; exact hin
    exact hno j (by omega)
  have e9 : ((i : Int) + 1).toNat = i + 1 := by omega
  rw [e9]
  omega
 simp only [hil, decide_false]
 apply W.exit
 simp [InBlk, Then]
 apply W.seq
 apply W.reg
 simp [wpO, upon, dstOk, hnt, guardOk, wantedV, opV, evalT, putT, EndQ, Then, flat]
 apply W.ret
 simp [unwind.results, Tr.get_set, retV]
 intro hc
 obtain ⟨j, hj, e⟩ := List.getElem_of_mem hc
 exact hno j (by omega) (by simp [hj, e])
end Go.Proofs.Lw
