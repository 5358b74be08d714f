/-
  PROVED here: steps on the way to the card of 'sleuthlaw06.ReduceTreeMinimal' (an abstract machine, its soundness, what each function computes). No conditions beyond those that each theorem states.
-/
import Derived.Test.YtfgpboldklboaaaGreatDoorAm22
namespace Go.Proofs.Lw
open Go Go.Am
set_option maxRecDepth 8000
variable {gl : Nat → Nat → Option Value} {ng : Nat}
theorem ap59 {σ0 σ : Kn} {m0 m : Mem} {L1 B L2 : List (Nat × Cl)} (h : S (cfg gl ng).toEnv σ0 m0 σ m (L1 ++ (B ++ L2))) {s x : Value} {len n : Nat} {vs new : List Value} (hB : BldV 27 3 s len vs B) (hs : Src (cfg gl ng).toEnv m x n new) (hnew : new.length = n * 3) (hp : new.all plainV = true) (hl : len + n ≤ 1048576) :
 ∃ s' m' B', opAppend (cfg gl ng).toEnv 59 (some 59) s x m = .value s' m' ∧ S (cfg gl ng).toEnv σ0 m0 σ m' (L1 ++ (B' ++ L2)) ∧ BldV 27 3 s' (len + n) (vs ++ new) B' :=
 app_ok (by kernel_rfl) (by kernel_rfl) (by kernel_rfl) h hB hs hnew hp hl
theorem S.appt {σ0 σ : Kn} {m0 m : Mem} {L1 B L2 : List (Nat × Cl)} (h : S (cfg gl ng).toEnv σ0 m0 σ m (L1 ++ (B ++ L2))) {s x y z : Value} {len : Nat} {vs : List Value} (hB : BldV 27 3 s len vs B) (hx : plainV x = true) (hy : plainV y = true) (hz : plainV z = true) (hl : len < 1048576) :
 ∃ s' m' B', opAppend (cfg gl ng).toEnv 59 (some 59) s (.slice (some ⟨m.nb, 0, none⟩) 1 (mkCap 1 true)) (m.new (.cells (cellsOf [x, y, z] 27))) = .value s' m' ∧ S (cfg gl ng).toEnv σ0 m0 σ m' (L1 ++ (B' ++ L2)) ∧ BldV 27 3 s' (len + 1) (vs ++ [x, y, z]) B' := by
 have h1 := h.new (vs := [x, y, z]) 27 (by simp [hx, hy, hz])
 obtain ⟨s', m', B', e, h2, h3⟩ := ap59 (L1 := (m.nb, ⟨[x, y, z], none⟩) :: L1) h1 hB (x := .slice (some ⟨m.nb, 0, none⟩) 1 (mkCap 1 true)) (n := 1) (new := [x, y, z]) (.inr ⟨_, 0, _, rfl, fun j x hj => by rw [Nat.zero_add, h1.c0]; exact hj⟩) rfl (by simp [hx, hy, hz]) (by omega)
 exact ⟨s', m', B', e, h2.drop (List.sublist_cons_self _ _), h3⟩
theorem S.apps {σ0 σ : Kn} {m0 m : Mem} {L1 B L2 : List (Nat × Cl)} (h : S (cfg gl ng).toEnv σ0 m0 σ m (L1 ++ (B ++ L2))) {s v : Value} {len : Nat} {vs : List Value} (hB : BldV 59 1 s len vs B) (hv : plainV v = true) (hl : len < 1048576) :
 ∃ s' m' B', opAppend (cfg gl ng).toEnv 25 (some 25) s (.slice (some ⟨m.nb, 0, none⟩) 1 (mkCap 1 true)) (m.new (.cells (cellsOf [v] 59))) = .value s' m' ∧ S (cfg gl ng).toEnv σ0 m0 σ m' (L1 ++ (B' ++ L2)) ∧ BldV 59 1 s' (len + 1) (vs ++ [v]) B' := by
 have h1 := h.new (vs := [v]) 59 (by simp [hv])
 obtain ⟨s', m', B', e, h2, h3⟩ := ap25 (L1 := (m.nb, ⟨[v], none⟩) :: L1) h1 hB (x := .slice (some ⟨m.nb, 0, none⟩) 1 (mkCap 1 true)) (n := 1) (new := [v]) (.inr ⟨_, 0, _, rfl, fun j x hj => by rw [Nat.zero_add, h1.c0]; exact hj⟩) rfl (by simp [hv]) (by omega)
 exact ⟨s', m', B', e, h2.drop (List.sublist_cons_self _ _), h3⟩
def CellsK (σ : Kn) (vs : List Value) (l : List T) : Prop := vs.length = l.length * 3 ∧ ∀ (j : Nat) (t : T), l[j]? = some t → ∃ x y z, vs[3 * j]? = some x ∧ vs[3 * j + 1]? = some y ∧ vs[3 * j + 2]? = some z ∧ TreeK σ (.agg #[x, y, z]) t
theorem CellsK.nil {σ : Kn} : CellsK σ [] [] := ⟨rfl, fun j t h => by simp at h⟩
theorem CellsK.mono {σ σ' : Kn} (h : σ.le σ') {vs : List Value} {l : List T} (hc : CellsK σ vs l) : CellsK σ' vs l := by
 refine ⟨hc.1, fun j t ht => ?_⟩
 obtain ⟨x, y, z, a1, a2, a3, a4⟩ := hc.2 j t ht
 exact ⟨x, y, z, a1, a2, a3, a4.mono h⟩
theorem CellsK.snoc {σ : Kn} {vs : List Value} {l : List T} (hc : CellsK σ vs l) {x y z : Value} {t : T} (ht : TreeK σ (.agg #[x, y, z]) t) : CellsK σ (vs ++ [x, y, z]) (l ++ [t]) := by
 have hl := hc.1
 refine ⟨by simp [hl]; omega, fun j u hu => ?_⟩
 rcases Nat.lt_trichotomy j l.length with h | h | h
 · rw [List.getElem?_append_left h] at hu
   obtain ⟨x', y', z', a1, a2, a3, a4⟩ := hc.2 j u hu
   exact ⟨x', y', z', by rw [List.getElem?_append_left (by omega)]; exact a1, by rw [List.getElem?_append_left (by omega)]; exact a2, by rw [List.getElem?_append_left (by omega)]; exact a3, a4⟩
 ·
  subst h
  simp at hu; subst hu
  refine ⟨x, y, z, ?_, ?_, ?_, ht⟩
  · rw [List.getElem?_append_right (by omega), show 3 * l.length - vs.length = 0 by omega]; rfl
  · rw [List.getElem?_append_right (by omega), show 3 * l.length + 1 - vs.length = 1 by omega]; rfl
  rw [List.getElem?_append_right (by omega), show 3 * l.length + 2 - vs.length = 2 by omega]; rfl
 rw [List.getElem?_eq_none (by simp; omega)] at hu; cases hu
theorem CellsK.tail {σ : Kn} {a b c : Value} {vs : List Value} {t : T} {l : List T} (hc : CellsK σ (a :: b :: c :: vs) (t :: l)) : CellsK σ vs l := by
 refine ⟨by have := hc.1; simp at this; omega, fun j u hu => ?_⟩
 obtain ⟨x, y, z, a1, a2, a3, a4⟩ := hc.2 (j + 1) u (by simpa using hu)
 rw [show 3 * (j + 1) = 3 * j + 3 by omega] at a1 a2 a3
 exact ⟨x, y, z, by simpa using a1, by rw [show 3 * j + 3 + 1 = (3 * j + 1) + 3 by omega] at a2; simpa using a2, by rw [show 3 * j + 3 + 2 = (3 * j + 2) + 3 by omega] at a3; simpa using a3, a4⟩
theorem CellsK.trees {σ : Kn} {b : Nat} : ∀ {l : List T} {vs : List Value} {o : Nat}, CellsK σ vs l → (∀ j v, vs[j]? = some v → σ b (o + j) = some v) → TreesK σ b o l
 | [], _, _, _, _ => by simp only [TreesK]
 | t :: l, vs, o, hc, hn => by
  have hl := hc.1
  obtain ⟨x, y, z, a1, a2, a3, a4⟩ := hc.2 0 t rfl
  simp only [TreesK]
  refine ⟨⟨x, y, z, by have := hn _ _ a1; simpa using this, by have := hn _ _ a2; simpa using this, by have := hn _ _ a3; simpa using this, a4⟩, ?_⟩
  match vs, hl with
  | a :: b' :: c :: vs', _ =>
   refine CellsK.trees (vs := vs') hc.tail (fun j v hj => ?_)
   have := hn (j + 3) v (by simpa using hj)
   rwa [show o + 3 + j = o + (j + 3) by omega]
  | [], h => simp at h
  | [_], h => simp at h; omega
  | [_, _], h => simp at h; omega
theorem beq_plain_slice {a : Option Addr} {n c : Nat} (k : Nat) : beqV k (.slice a n c) (.slice a n c) = true := by cases k <;> simp [beqV]
theorem f26_ok : ∀ (N : Nat) (t : T) (σ : Kn) (m : Mem) (tv : Value), wt t ≤ N → N < 1048576 → WF m → Holds (cfg gl ng).toEnv σ m → TreeK σ tv t →
 Ct gl ng 26 [tv] σ m (fun σ' v => TreeK σ' v t) := by
 intro N
 induction N with
 | zero => intro t σ m tv h; obtain ⟨k, tx, ss⟩ := t; simp only [wt] at h; omega
 | succ N ih =>
  intro t σ m tv hN hlim hw hh ht
  obtain ⟨k, tx, ss⟩ := t
  simp only [wt] at hN
  simp only [TreeK] at ht
  obtain ⟨sv, b, o, rfl, h2, h3⟩ := ht
  refine Ct.of (c := _) Tryz.func26 rfl 41 rfl (fun c hnt => ?_)
  have hlss := len_wtSS ss
  have hS := S.start hw hh
  obtain ⟨m1, nb1, hbx1, hS1⟩ := hS.box 27 #[.int .i64 k, .string tx, sv] (by simp [h2.plain])
  have hS2 := hS1.new (vs := [.int .i64 0, .string .empty, .slice none 0 0]) 27 (by simp)
  repeat apply W.seq
  apply W.regN; simp [hnt, hbx1]
  generalize m1.new (.cells (cellsOf [.int .i64 0, .string .empty, .slice none 0 0] 27)) = m2 at *
  generalize m1.nb = nb2 at *
  obtain ⟨m3, e3, hS3⟩ := hS2.var 27 [.int .i64 0, .string .empty, .slice none 0 0] [.int .i64 k, .string tx, .slice none 0 0] (by simp) (by simp) rfl
  have hbu := K.bu27_0_1 (gl := gl) (ng := ng) (m := m2) (x0 := .int .i64 k) (x1 := .string tx) (by simp) (by simp)
  repeat apply W.seq
  apply W.regN; simp [hnt, hS2.c1, hbu, e3]
  generalize m2.nb = nb3 at *
  repeat apply W.seq
  apply W.regN; simp [hnt, hS3.c2, K.ly25 h2]
  apply W.block
  obtain ⟨I, hI⟩ : ∃ I : Nat → Tr Value → Mem → Prop, I = fun (i : Nat) (t : Tr Value) (m' : Mem) => t.get 17 = some (.int .i64 i) ∧ ∃ σ' vs B s, σ.le σ' ∧ S (cfg gl ng).toEnv σ m σ' m' ([(nb3, ⟨[.int .i64 k, .string tx, s], none⟩), (nb2, ⟨[.int .i64 0, .string .empty, .slice none 0 0], none⟩), (nb1, ⟨[.int .i64 k, .string tx, sv], none⟩)] ++ (B ++ [])) ∧ BldV 59 1 s i vs B ∧ RowsK σ' vs (ss.take i) := ⟨_, rfl⟩
  refine W.upto (ws := [18, 19, 20, 5, 6, 21, 22, 23, 24, 25, 26, 8, 27, 28, 29, 30, 31, 32, 33, 34, 35, 36, 37, 38, 39, 17]) (by kernel_rfl) (ss.length) I 0 (by omega) (by rw [hI]; exact ⟨by simp, σ, [], [], .slice none 0 0, Kn.le_refl σ, hS3, .nil, by simpa using RowsK.nil⟩) ?_
  intro i t m4 hi hfr hIi
  rw [hI] at hIi
  obtain ⟨q17, σ4, vs, B, s, hle4, hS4, hB, hR⟩ := hIi
  repeat apply W.seq
  apply W.regN; simp [hnt, q17, hfr]
  repeat apply W.seq
  refine W.choose (by simp; rfl) (fun hc => ?_) fun hc => ?_
  ·
   have hil : i < ss.length := by simpa using hc
   apply W.skip; try simp only [Then, InBlk]
   have hsi : ss[i]? = some ss[i] := by simp [hil]
   obtain ⟨lv, b1, o1, a1, a2, a3⟩ := h3.get hsi
   have hwl := wtSS_get hsi
   have hll := len_nodesL ss[i]
   have hln := nodesL_le_wt ss[i]
   have htk : ss.take (i + 1) = ss.take i ++ [ss[i]] := by simp [hil]
   generalize ss[i] = l at *
   have a1' := hle4 _ _ _ a1
   have a3' := a3.mono hle4
   repeat apply W.seq
   apply W.block
   repeat apply W.seq
   apply W.regN; simp [hnt, q17, hfr, K.iy25 h2 hil, hS4.kn, a1']
   repeat apply W.seq
   apply W.regN; simp [hnt]
   obtain ⟨J, hJ⟩ : ∃ J : Tr Value → Mem → Prop, J = fun t m' => ∃ v σ' b o, t.get 6 = some v ∧ σ4.le σ' ∧ S (cfg gl ng).toEnv σ m σ' m' ([(nb3, ⟨[.int .i64 k, .string tx, s], none⟩), (nb2, ⟨[.int .i64 0, .string .empty, .slice none 0 0], none⟩), (nb1, ⟨[.int .i64 k, .string tx, sv], none⟩)] ++ (B ++ [])) ∧ SliceAt v l.length b o ∧ TreesK σ' b o l := ⟨_, rfl⟩
   refine W.cut (ws := [21, 22, 23, 6, 24, 25, 26, 8, 27, 28, 29, 30, 31, 6, 32, 23]) (by kernel_rfl) J ?_ (fun t5 m6 hfr5 hJ5 => ?_)
   ·
    repeat apply W.seq
    apply W.regN; simp [hnt, K.ly59 a2]
    apply W.block
    obtain ⟨I2, hI2⟩ : ∃ I2 : Nat → Tr Value → Mem → Prop, I2 = fun (j : Nat) (t : Tr Value) (m' : Mem) => t.get 23 = some (.int .i64 j) ∧ ∃ σ' vs2 B2 s2, t.get 6 = some s2 ∧ σ4.le σ' ∧ S (cfg gl ng).toEnv σ m σ' m' (([(nb3, ⟨[.int .i64 k, .string tx, s], none⟩), (nb2, ⟨[.int .i64 0, .string .empty, .slice none 0 0], none⟩), (nb1, ⟨[.int .i64 k, .string tx, sv], none⟩)] ++ B) ++ (B2 ++ [])) ∧ BldV 27 3 s2 j vs2 B2 ∧ CellsK σ' vs2 (l.take j) := ⟨_, rfl⟩
    refine W.upto (ws := [24, 25, 26, 8, 27, 28, 29, 30, 31, 6, 32, 23]) (by kernel_rfl) (l.length) I2 0 (by omega) (by rw [hI2]; exact ⟨by simp, σ4, [], [], .slice none 0 0, by simp, Kn.le_refl _, by simpa using hS4, .nil, by simpa using CellsK.nil⟩) ?_
    intro j t3 m5 hj hfr3 hIi
    rw [hI2] at hIi
    obtain ⟨q23, σ5, vs2, B2, s2, q6, hle5, hS5, hB2, hC⟩ := hIi
    repeat apply W.seq
    apply W.regN; simp [hnt, q23, hfr3]
    repeat apply W.seq
    refine W.choose (by simp; rfl) (fun hc => ?_) fun hc => ?_
    ·
     have hjl : j < l.length := by simpa using hc
     apply W.skip; try simp only [Then, InBlk]
     have hgj : l[j]? = some l[j] := by simp [hjl]
     obtain ⟨x1, y1, z1, w1, w2, w3, w4⟩ := (a3'.mono hle5).get hgj
     have hwj := wtL_get hgj
     have htk2 : l.take (j + 1) = l.take j ++ [l[j]] := by simp [hjl]
     generalize l[j] = tj at *
     obtain ⟨rfl, rfl, pz, _⟩ := w4.inv
     obtain ⟨m7, e7, hS7⟩ := hS5.var 27 [.int .i64 0, .string .empty, .slice none 0 0] [.int .i64 (kindT tj), .string (textT tj), z1] (by simp) (by simp [pz]) rfl
     repeat apply W.seq
     apply W.block
     repeat apply W.seq
     apply W.regN; simp [hnt, q23, hfr3, K.iy59 a2 hjl, hS5.kn, w1, w2, w3, e7]
     generalize m5.nb = nb8 at *
     apply W.regN; simp [hnt, q6, hS7.c0]
     refine Ct.use (ih tj σ5 m7 _ (by omega) (by omega) hS7.wf hS7.holds w4) (fun σ8 v8 m8 hl8 hv8 => ?_)
     obtain ⟨x, y, z, rfl, px, py, pz'⟩ := hv8.agg
     have hS8 := (hS7.learn' hl8).drop (List.sublist_cons_self _ _)
     obtain ⟨s', m9, B', e9, hS9, hB9⟩ := hS8.appt hB2 px py pz' (by omega)
     simp [hnt, bs59 px py pz', e9]
     apply W.regN; simp [hnt, q23, hfr3, wr1 (show j < _ by omega)]
     exact ⟨j + 1, by omega, by omega, by rw [hI2]; exact ⟨by simp, σ8, _, B', s', by simp, Kn.le_trans hle5 hl8.le, hS9, hB9, by rw [htk2]; exact (hC.mono hl8.le).snoc hv8⟩⟩
    have hje : j = l.length := by
     have : l.length ≤ j := by simpa using hc
     omega
    apply W.exit; try simp [Then, InBlk]
    rw [hJ]
    rw [hje] at hB2
    rw [hje, List.take_length] at hC
    obtain ⟨σ8, b8, hle8, hS8, hv8, hn8⟩ := hS5.done hB2
    exact ⟨s2, σ8, b8, 0, by simp [q6], Kn.le_trans hle5 hle8, by simpa using hS8, hv8, (hC.mono hle8).trees (fun j v hj => by rw [Nat.zero_add]; exact hn8 j v hj)⟩
   rw [hJ] at hJ5
   obtain ⟨v, σ6, b6, o6, p6, hle6, hS6, hv, hv2⟩ := hJ5
   obtain ⟨s', m8, B', e8, hS8, hB8⟩ := hS6.apps hB hv.plain (by omega)
   obtain ⟨m9, e9, hS9⟩ := hS8.set1 (i := 0) rfl (o := 2) (v := s') (by simp) hB8.plain
   apply W.regN; simp [hnt, hfr5, hfr, hS6.c0, p6, bs25 hv.plain, e8, hB8.plain, e9]
   apply W.regN; simp [hnt, hfr5, q17, wr1 (show i < _ by omega)]
   exact ⟨i + 1, by omega, by omega, by rw [hI]; exact ⟨by simp, σ6, _, B', s', Kn.le_trans hle4 hle6, hS9, hB8, by rw [htk]; exact (hR.mono hle6).snoc hv hv2⟩⟩
  have hil : i = ss.length := by
   have : ss.length ≤ i := by simpa using hc
   omega
  apply W.exit; try simp [Then, InBlk]
  rw [hil, List.take_length] at hR
  rw [hil] at hB
  obtain ⟨m7, e7, hS7⟩ := hS4.setAll (i := 1) rfl (vs := [.int .i64 k, .string tx, s]) rfl (by simp [hB.plain])
  repeat apply W.seq
  apply W.regN; simp [hnt, hfr, hS4.c0, e7]
  obtain ⟨σ8, b8, hle8, hS8, hv8, hn8⟩ := S.done (L1 := [(nb3, ⟨[.int .i64 k, .string tx, s], none⟩), (nb2, ⟨[.int .i64 k, .string tx, s], none⟩), (nb1, ⟨[.int .i64 k, .string tx, sv], none⟩)]) hS7 hB
  apply W.ret
  refine ⟨.inr rfl, rfl, rfl, _, by simp [unwind.results, Tryz.f26, addrOf, loadV, K.is27, K.zs27, Mem.loadN, hfr, hS7.c1]; rfl, _, hS8.learn, ?_⟩
  simp only [retV, TreeK]
  exact ⟨s, b8, 0, rfl, hv8, (hR.mono hle8).slots (fun j v hj => by rw [Nat.zero_add]; exact hn8 j v hj)⟩
end Go.Proofs.Lw
namespace Go.Proofs.Lw
open Go Go.Am
set_option maxRecDepth 8000
variable {gl : Nat → Nat → Option Value} {ng : Nat}
def nilS : Value := .slice none 0 0
theorem arr_get {pre tail : List Value} {v : Value} {i : Nat} (h : pre.length = i) : (pre ++ v :: tail)[i]? = some v := by
 subst h; simp
theorem arr_set {pre tail : List Value} {v w : Value} {i : Nat} (h : pre.length = i) : (pre ++ v :: tail).set i w = pre ++ w :: tail := by
 subst h; simp
theorem arr_rep {n i : Nat} (h : i < n) : List.replicate (n - i) nilS = nilS :: List.replicate (n - (i + 1)) nilS := by
 rw [show n - i = (n - (i + 1)) + 1 by omega, List.replicate_succ]
theorem f86_ok : ∀ (N : Nat) (t : T) (σ : Kn) (m : Mem) (tv : Value), wt t ≤ N → N < 1048576 → WF m → Holds (cfg gl ng).toEnv σ m → TreeK σ tv t →
 Ct gl ng 86 [tv] σ m (fun σ' v => TreeK σ' v t) := by
 intro N
 induction N with
 | zero => intro t σ m tv h; obtain ⟨k, tx, ss⟩ := t; simp only [wt] at h; omega
 | succ N ih =>
  intro t σ m tv hN hlim hw hh ht
  obtain ⟨k, tx, ss⟩ := t
  simp only [wt] at hN
  simp only [TreeK] at ht
  obtain ⟨sv, b, o, rfl, h2, h3⟩ := ht
  refine Ct.of (c := _) Tryz.func86 rfl 53 rfl (fun c hnt => ?_)
  have hlss := len_wtSS ss
  have hS := S.start hw hh
  obtain ⟨m1, nb1, hbx1, hS1⟩ := hS.box 27 #[.int .i64 k, .string tx, sv] (by simp [h2.plain])
  have hS2 := hS1.new (vs := [.int .i64 0, .string .empty, .slice none 0 0]) 27 (by simp)
  repeat apply W.seq
  apply W.regN; simp [hnt, hbx1]
  generalize m1.new (.cells (cellsOf [.int .i64 0, .string .empty, .slice none 0 0] 27)) = m2 at *
  generalize m1.nb = nb2 at *
  have hslen : ∀ m', opLen (cfg gl ng) 25 sv m' = .value (.int .i64 ss.length) m' := fun m' => K.ly25 h2
  have hmk := mk25 (gl := gl) (ng := ng) (m := m2) (n := ss.length) (by omega)
  have hS3 := hS2.new (vs := List.replicate ss.length nilS) 59 (by simp [nilS])
  generalize hav : Value.slice (some ⟨m2.nb, 0, none⟩) ss.length (mkCap ss.length true) = av at hmk
  have hpa : plainV av = true := by rw [← hav]; simp
  change opMakeSlice (cfg gl ng).toEnv 25 (.int .i64 ss.length) (.int .i64 ss.length) m2 = .value av (m2.new (.cells (cellsOf (List.replicate ss.length nilS) 59))) at hmk
  generalize m2.new (.cells (cellsOf (List.replicate ss.length nilS) 59)) = m3 at *
  have hbu := K.bu27_0_1_2 (gl := gl) (ng := ng) (m := m3) (x0 := .int .i64 k) (x1 := .string tx) (x2 := av) (by simp) (by simp) hpa
  have hA := hS3.new (vs := [.int .i64 0, .string .empty, .slice none 0 0]) 27 (by simp)
  obtain ⟨m4, e4, hS4⟩ := hS3.var 27 [.int .i64 0, .string .empty, .slice none 0 0] [.int .i64 k, .string tx, av] (by simp) (by simp [hpa]) rfl
  repeat apply W.seq
  refine W.regU [(7, 1), (7, 3), (9, 1), (9, 3), (9, 5), (9, 6)] [7, 8, 1, 3, 9, 10, 5, 6] (by as_aux_lemma => kernel_rfl) ?_
  simp [hnt, hS2.c1, hslen, hmk, hbu, e4]
  refine ⟨?_, ?_⟩
  · simp [looseOk, getS, againOk, quiet, still, beqV, hS2.c1, hS3.c2, hA.c3, hslen, hmk, beq_slice h2]
  have hax : ∀ i : Nat, i < ss.length → ∀ m', opIndexAddr (cfg gl ng).toEnv 25 av (.int .i64 i) m' = .value (.pointer (some ⟨m2.nb, i, none⟩)) m' := by
   intro i hi m'
   rw [← hav, K.ix25 hi, Nat.zero_add]
  generalize m2.nb = nba at *
  generalize m3.nb = nb3 at *
  clear hA
  repeat apply W.seq
  apply W.regN; simp [hnt]
  apply W.block
  obtain ⟨I, hI⟩ : ∃ I : Nat → Tr Value → Mem → Prop, I = fun (i : Nat) (t : Tr Value) (m' : Mem) => t.get 4 = some (.int .i64 i) ∧ ∃ σ' pre, σ.le σ' ∧ S (cfg gl ng).toEnv σ m σ' m' [(nb3, ⟨[.int .i64 k, .string tx, av], none⟩), (nba, ⟨pre ++ List.replicate (ss.length - i) nilS, none⟩), (nb2, ⟨[.int .i64 0, .string .empty, .slice none 0 0], none⟩), (nb1, ⟨[.int .i64 k, .string tx, sv], none⟩)] ∧ RowsK σ' pre (ss.take i) := ⟨_, rfl⟩
  refine W.upto (ws := [15, 16, 17, 18, 19, 5, 22, 23, 24, 25, 26, 27, 28, 29, 32, 33, 34, 35, 36, 37, 38, 39, 40, 41, 42, 43, 44, 45, 46, 47, 48, 49, 50, 51, 30, 31, 20, 21, 4]) (by kernel_rfl) (ss.length) I 0 (by omega) (by rw [hI]; exact ⟨by simp, σ, [], Kn.le_refl σ, hS4, by simpa using RowsK.nil⟩) ?_
  intro i t m5 hi hfr hIi
  rw [hI] at hIi
  obtain ⟨q4, σ5, pre, hle5, hS5, hR⟩ := hIi
  repeat apply W.seq
  apply W.regN; simp [hnt, q4, hfr, hS5.c3, hslen]
  refine W.choose (by simp; rfl) (fun hc => ?_) fun hc => ?_
  ·
   have hil : i < ss.length := by simpa using hc
   apply W.skip; try simp only [Then, InBlk]
   have hsi : ss[i]? = some ss[i] := by simp [hil]
   obtain ⟨lv, b1, o1, a1, a2, a3⟩ := h3.get hsi
   have hwl := wtSS_get hsi
   have hll := len_nodesL ss[i]
   have hln := nodesL_le_wt ss[i]
   have htk : ss.take (i + 1) = ss.take i ++ [ss[i]] := by simp [hil]
   have hpl : pre.length = i := by have := hR.1; rw [this]; simp; omega
   generalize ss[i] = l at *
   rw [arr_rep hil] at hS5
   repeat apply W.seq
   apply W.block
   repeat apply W.seq
   apply W.regN; simp [hnt]
   apply W.block
   obtain ⟨I2, hI2⟩ : ∃ I2 : Nat → Tr Value → Mem → Prop, I2 = fun (j : Nat) (t : Tr Value) (m' : Mem) => t.get 5 = some (.int .i64 j) ∧ ∃ σ' vs2 B2 s2, σ5.le σ' ∧ S (cfg gl ng).toEnv σ m σ' m' ([(nb3, ⟨[.int .i64 k, .string tx, av], none⟩), (nba, ⟨pre ++ s2 :: List.replicate (ss.length - (i + 1)) nilS, none⟩), (nb2, ⟨[.int .i64 0, .string .empty, .slice none 0 0], none⟩), (nb1, ⟨[.int .i64 k, .string tx, sv], none⟩)] ++ (B2 ++ [])) ∧ BldV 27 3 s2 j vs2 B2 ∧ CellsK σ' vs2 (l.take j) := ⟨_, rfl⟩
   refine W.upto (ws := [22, 23, 24, 25, 26, 27, 28, 29, 32, 33, 34, 35, 36, 37, 38, 39, 40, 41, 42, 43, 44, 45, 46, 47, 48, 49, 50, 51, 30, 31, 5]) (by kernel_rfl) (l.length) I2 0 (by omega) (by rw [hI2]; exact ⟨by simp, σ5, [], [], nilS, Kn.le_refl _, hS5, .nil, by simpa using CellsK.nil⟩) ?_
   intro j t3 m6 hj hfr3 hIi
   rw [hI2] at hIi
   obtain ⟨q5, σ6, vs2, B2, s2, hle6, hS6, hB2, hC⟩ := hIi
   have a1' := hle6 _ _ _ (hle5 _ _ _ a1)
   have a3' := (a3.mono hle5).mono hle6
   repeat apply W.seq
   apply W.regN; simp [hnt, q5, q4, hfr3, hfr, hS6.c3, hS6.kn, K.iy25 h2 hil, a1', K.ly59 a2]
   refine W.choose (by simp; rfl) (fun hc => ?_) fun hc => ?_
   ·
    have hjl : j < l.length := by simpa using hc
    apply W.skip; try simp only [Then, InBlk]
    have hgj : l[j]? = some l[j] := by simp [hjl]
    obtain ⟨x1, y1, z1, w1, w2, w3, w4⟩ := a3'.get hgj
    have hwj := wtL_get hgj
    have htk2 : l.take (j + 1) = l.take j ++ [l[j]] := by simp [hjl]
    generalize l[j] = tj at *
    have hget := arr_get (tail := List.replicate (ss.length - (i + 1)) nilS) (v := s2) hpl
    have hbs2 : beqV 9 s2 s2 = true := by obtain ⟨a, c', rfl⟩ := hB2.slice; exact beq_plain_slice 9
    have hbav : beqV 9 av av = true := by rw [← hav]; exact beq_plain_slice 9
    repeat apply W.seq
    apply W.block
    refine W.regU [(16, 1), (16, 4), (16, 7), (17, 1), (17, 4), (17, 7), (18, 1)] [16, 17, 1, 4, 7, 18, 19] (by as_aux_lemma => kernel_rfl) ?_
    simp [hnt, q4, q5, hfr3, hfr, hS6.c0, hS6.c1, hS6.c3, hS6.kn, hax i hil, hget, K.iy25 h2 hil, a1', K.iy59 a2 hjl, w1, w2, w3]
    refine Ct.use (ih tj σ6 m6 _ (by omega) (by omega) hS6.wf hS6.holds w4) (fun σ8 v8 m8 hl8 hv8 => ?_)
    obtain ⟨x, y, z, rfl, px, py, pz'⟩ := hv8.agg
    have hS8 := hS6.learn' hl8
    have hS8n := hS8.new (vs := [x, y, z]) 27 (by simp [px, py, pz'])
    obtain ⟨s', m9, B', e9, hS9, hB9⟩ := hS8.appt hB2 px py pz' (by omega)
    obtain ⟨m10, e10, hS10⟩ := hS9.set1 (i := 1) rfl (o := i) (v := s') (by simp [hpl]) hB9.plain
    simp only [List.set_cons_succ, List.set_cons_zero, arr_set hpl, List.cons_append] at hS10
    simp [hnt, bs59 px py pz', e9, hax i hil, hB9.plain, e10]
    refine ⟨?_, ?_⟩
    · simp [looseOk, getS, againOk, quiet, still, beqV, q4, hfr3, hfr, hS6.c0, hS6.c1, hS8.c0, hS8.c1, hS8n.c1, hS8n.c2, hS9.c0, hax i hil, hget, hbs2, hbav]
    apply W.regN; simp [hnt, q5, hfr3, wr1 (show j < _ by omega)]
    exact ⟨j + 1, by omega, by omega, by rw [hI2]; exact ⟨by simp, σ8, _, B', s', Kn.le_trans hle6 hl8.le, hS10, hB9, by rw [htk2]; exact (hC.mono hl8.le).snoc hv8⟩⟩
   have hje : j = l.length := by
    have : l.length ≤ j := by simpa using hc
    omega
   apply W.exit; try simp [Then, InBlk]
   rw [hje] at hB2
   rw [hje, List.take_length] at hC
   obtain ⟨σ8, b8, hle8, hS8, hv8, hn8⟩ := S.done (L1 := [(nb3, ⟨[.int .i64 k, .string tx, av], none⟩), (nba, ⟨pre ++ s2 :: List.replicate (ss.length - (i + 1)) nilS, none⟩), (nb2, ⟨[.int .i64 0, .string .empty, .slice none 0 0], none⟩), (nb1, ⟨[.int .i64 k, .string tx, sv], none⟩)]) hS6 hB2
   apply W.regN; simp [hnt, hfr3, q4, wr1 (show i < _ by omega)]
   exact ⟨i + 1, by omega, by omega, by rw [hI]; exact ⟨by simp, σ8, pre ++ [s2], Kn.le_trans hle5 (Kn.le_trans hle6 hle8), by simpa using hS8, by rw [htk]; exact (hR.mono (Kn.le_trans hle6 hle8)).snoc hv8 ((hC.mono hle8).trees (fun j v hj => by rw [Nat.zero_add]; exact hn8 j v hj))⟩⟩
  have hil : i = ss.length := by
   have : ss.length ≤ i := by simpa using hc
   omega
  apply W.exit; try simp [Then, InBlk]
  rw [hil, List.take_length] at hR
  rw [hil, Nat.sub_self, List.replicate_zero, List.append_nil] at hS5
  obtain ⟨m7, e7, hS7⟩ := hS5.setAll (i := 2) rfl (vs := [.int .i64 k, .string tx, av]) rfl (by simp [hpa])
  repeat apply W.seq
  apply W.regN; simp [hnt, hfr, hS5.c0, e7]
  obtain ⟨σ8, hle8, hS8, hn8⟩ := hS7.freeze (i := 1) rfl
  apply W.ret
  refine ⟨.inr rfl, rfl, rfl, _, by simp [unwind.results, Tryz.f86, addrOf, loadV, K.is27, K.zs27, Mem.loadN, hfr, hS7.c2]; rfl, _, hS8.learn, ?_⟩
  simp only [retV, TreeK]
  exact ⟨av, nba, 0, rfl, .inr ⟨_, hav.symm⟩, (hR.mono hle8).slots (fun j v hj => by rw [Nat.zero_add, hn8]; exact hj)⟩
end Go.Proofs.Lw
namespace Go.Proofs.Lw
open Go Go.Am
set_option maxRecDepth 8000
mutual
def replT (by' : T) (at' : Nat) : T → Nat → T
 | .mk k tx ss, n => if n = at' then by' else .mk k tx (replSS by' at' ss (n + 1))
def replSS (by' : T) (at' : Nat) : List (List T) → Nat → List (List T)
 | [], _ => []
 | l :: r, n => replL by' at' l n :: replSS by' at' r (n + nodesL l)
def replL (by' : T) (at' : Nat) : List T → Nat → List T
 | [], _ => []
 | t :: r, n => replT by' at' t n :: replL by' at' r (n + nodes t)
end
theorem replSS_get {by' : T} {a : Nat} : ∀ {ss : List (List T)} {n i : Nat} {l : List T}, ss[i]? = some l → (replSS by' a ss n)[i]? = some (replL by' a l (n + nodesSS (ss.take i)))
 | [], n, i, l, h => by simp at h
 | x :: r, n, 0, l, h => by simp at h; subst h; simp [replSS, nodesSS]
 | x :: r, n, i + 1, l, h => by
  have := replSS_get (by' := by') (a := a) (ss := r) (n := n + nodesL x) (i := i) (l := l) (by simpa using h)
  simp only [replSS, List.getElem?_cons_succ, this, List.take_succ_cons, nodesSS]
  rw [show n + nodesL x + nodesSS (r.take i) = n + (nodesL x + nodesSS (r.take i)) by omega]
theorem replL_get {by' : T} {a : Nat} : ∀ {l : List T} {n i : Nat} {t : T}, l[i]? = some t → (replL by' a l n)[i]? = some (replT by' a t (n + nodesL (l.take i)))
 | [], n, i, t, h => by simp at h
 | x :: r, n, 0, t, h => by simp at h; subst h; simp [replL, nodesL]
 | x :: r, n, i + 1, t, h => by
  have := replL_get (by' := by') (a := a) (l := r) (n := n + nodes x) (i := i) (t := t) (by simpa using h)
  simp only [replL, List.getElem?_cons_succ, this, List.take_succ_cons, nodesL]
  rw [show n + nodes x + nodesL (r.take i) = n + (nodes x + nodesL (r.take i)) by omega]
theorem replSS_len {by' : T} {a : Nat} : ∀ {ss : List (List T)} {n : Nat}, (replSS by' a ss n).length = ss.length
 | [], n => rfl
 | x :: r, n => by simp [replSS, replSS_len (ss := r)]
theorem replL_len {by' : T} {a : Nat} : ∀ {l : List T} {n : Nat}, (replL by' a l n).length = l.length
 | [], n => rfl
 | x :: r, n => by simp [replL, replL_len (l := r)]
theorem take_snoc {α : Type} {l : List α} {i : Nat} {x : α} (h : l[i]? = some x) : l.take (i + 1) = l.take i ++ [x] := by
 rw [List.take_add_one, h]; rfl
variable {gl : Nat → Nat → Option Value} {ng : Nat}
theorem TreeK.beq {σ : Kn} {x y z : Value} {t : T} (h : TreeK σ (.agg #[x, y, z]) t) (n : Nat) : beqV n x x = true ∧ beqV n y y = true ∧ beqV n z z = true := by
 obtain ⟨rfl, rfl, _, b, o, h4, _⟩ := h.inv
 exact ⟨by cases n <;> simp [beqV], by cases n <;> simp [beqV], beq_slice h4 n⟩
theorem f68_ok : ∀ (N : Nat) (t bt : T) (n a : Nat) (σ : Kn) (m : Mem) (tv bv : Value), wt t ≤ N → N < 1048576 → n + nodes t ≤ 2048 → wt bt < 1048576 → WF m → Holds (cfg gl ng).toEnv σ m → TreeK σ tv t → TreeK σ bv bt →
 Ct gl ng 68 [tv, .int .i64 n, .int .i64 a, bv] σ m (fun σ' v => ∃ v', v = .tuple #[v', .int .i64 ((n + nodes t : Nat) : Int)] ∧ TreeK σ' v' (replT bt a t n)) := by
 intro N
 induction N with
 | zero => intro t bt n a σ m tv bv h; obtain ⟨k, tx, ss⟩ := t; simp only [wt] at h; omega
 | succ N ih =>
  intro t bt n a σ m tv bv hN hlim hnn hbw hw hh ht hbt
  have ht0 := ht
  have hwt0 : wt t < 1048577 := by omega
  obtain ⟨k, tx, ss⟩ := t
  simp only [wt] at hN
  simp only [TreeK] at ht
  obtain ⟨sv, b, o, rfl, h2, h3⟩ := ht
  have hbt0 := hbt
  obtain ⟨bx, by', bz, rfl, pbx, pby, pbz⟩ := hbt.agg
  refine Ct.of (c := _) Tryz.func68 rfl 83 rfl (fun c hnt => ?_)
  have hlss := len_wtSS ss
  have hS := S.start hw hh
  obtain ⟨m1, nb4, hbx1, hS1⟩ := hS.box 27 #[.int .i64 k, .string tx, sv] (by simp [h2.plain])
  obtain ⟨m2', nb7, hbx2, hS1'⟩ := hS1.box 27 #[bx, by', bz] (by simp [pbx, pby, pbz])
  have hS2 := hS1'.new (vs := [.int .i64 0, .string .empty, .slice none 0 0]) 27 (by simp)
  repeat apply W.seq
  apply W.regN; simp [hnt, hbx1, hbx2]
  generalize m2'.new (.cells (cellsOf [.int .i64 0, .string .empty, .slice none 0 0] 27)) = m2 at *
  generalize m2'.nb = nb8 at *
  by_cases hna : n = a
  ·
   subst hna
   repeat apply W.seq
   apply W.regN; simp [hnt]
   refine W.choose (by simp; rfl) (fun hc => ?_) fun hc => ?_
   ·
    repeat apply W.seq
    refine W.regU [(1, 3), (6, 5)] [1, 2, 3, 6, 7, 5] (by as_aux_lemma => kernel_rfl) ?_
    simp [hnt, hS2.c1, hS2.c2]
    refine Ct.use (f86_ok 1048575 bt σ m2 _ (by omega) (by omega) hS2.wf hS2.holds hbt0) (fun σ3 v3 m3 hl3 hv3 => ?_)
    obtain ⟨x, y, z, rfl, px, py, pz⟩ := hv3.agg
    have hS3 := hS2.learn' hl3
    simp [hnt, hS3.c2]
    refine Ct.use (f7_ct hS3.wf hS3.holds (ht0.mono hl3.le) (by simp only [wt]; omega)) (fun σ4 v4 m4 hl4 hv4 => ?_)
    subst hv4
    have hS4 := hS3.learn' hl4
    obtain ⟨m5, e5, hS5⟩ := hS4.setAll (i := 0) rfl (vs := [x, y, z]) rfl (by simp [px, py, pz])
    have hwr : IntKind.i64.wrap ((n : Int) + nodes (T.mk k tx ss)) = ((n + nodes (T.mk k tx ss) : Nat) : Int) := by rw [wrap_i64 (by omega) (by omega)]; omega
    simp [hnt, e5]
    refine ⟨?_, ?_⟩
    · simp [looseOk, getS, againOk, quiet, still, beqV, hS2.c2, hS3.c2, hS4.c2, beq_slice h2]
    apply W.ret; try simp only [Then, InBlk]
    refine ⟨.inr rfl, rfl, rfl, _, by simp [unwind.results, Tryz.f68, addrOf, loadV, K.is27, K.zs27, Mem.loadN, hS5.c0]; rfl, _, hS5.learn, ?_⟩
    refine ⟨.agg #[x, y, z], ?_, ?_⟩
    · simp only [retV]; rw [hwr]; simp
    simp only [replT, if_pos rfl]; exact hv3.mono hl4.le
   cases hc
  have hna' : ¬ (n : Int) = a := by omega
  repeat apply W.seq
  apply W.regN; simp [hnt, hna']
  refine W.choose (by simp; rfl) (fun hc => ?_) fun hc => ?_
  · cases hc
  apply W.skip; try simp only [Then, InBlk]
  have hslen : ∀ m', opLen (cfg gl ng) 25 sv m' = .value (.int .i64 ss.length) m' := fun m' => K.ly25 h2
  have hmk := mk25 (gl := gl) (ng := ng) (m := m2) (n := ss.length) (by omega)
  have hS3 := hS2.new (vs := List.replicate ss.length nilS) 59 (by simp [nilS])
  generalize hav : Value.slice (some ⟨m2.nb, 0, none⟩) ss.length (mkCap ss.length true) = av at hmk
  have hpa : plainV av = true := by rw [← hav]; simp
  change opMakeSlice (cfg gl ng).toEnv 25 (.int .i64 ss.length) (.int .i64 ss.length) m2 = .value av (m2.new (.cells (cellsOf (List.replicate ss.length nilS) 59))) at hmk
  generalize m2.new (.cells (cellsOf (List.replicate ss.length nilS) 59)) = m3 at *
  have hbu := K.bu27_0_1_2 (gl := gl) (ng := ng) (m := m3) (x0 := .int .i64 k) (x1 := .string tx) (x2 := av) (by simp) (by simp) hpa
  have hA := hS3.new (vs := [.int .i64 0, .string .empty, .slice none 0 0]) 27 (by simp)
  obtain ⟨m4, e4, hS4⟩ := hS3.var 27 [.int .i64 0, .string .empty, .slice none 0 0] [.int .i64 k, .string tx, av] (by simp) (by simp [hpa]) rfl
  repeat apply W.seq
  refine W.regU [(7, 1), (7, 3), (9, 1), (9, 3), (9, 5), (9, 6)] [7, 8, 1, 3, 9, 10, 5, 6] (by as_aux_lemma => kernel_rfl) ?_
  simp [hnt, hS2.c2, hslen, hmk, hbu, e4]
  refine ⟨?_, ?_⟩
  · simp [looseOk, getS, againOk, quiet, still, beqV, hS2.c2, hS3.c3, hA.c4, hslen, hmk, beq_slice h2]
  have hax : ∀ i : Nat, i < ss.length → ∀ m', opIndexAddr (cfg gl ng).toEnv 25 av (.int .i64 i) m' = .value (.pointer (some ⟨m2.nb, i, none⟩)) m' := by
   intro i hi m'
   rw [← hav, K.ix25 hi, Nat.zero_add]
  generalize m2.nb = nba at *
  generalize m3.nb = nb10 at *
  clear hA
  have hnod : nodes (T.mk k tx ss) = 1 + nodesSS ss := by simp only [nodes]
  rw [hnod] at hnn
  repeat apply W.seq
  apply W.regN; simp [hnt, wr1 (show n < _ by omega)]
  repeat apply W.seq
  apply W.regN; simp [hnt]
  apply W.block
  obtain ⟨I, hI⟩ : ∃ I : Nat → Tr Value → Mem → Prop, I = fun (i : Nat) (t : Tr Value) (m' : Mem) => t.get 12 = some (.int .i64 i) ∧ t.get 11 = some (.int .i64 ((n + 1 + nodesSS (ss.take i) : Nat) : Int)) ∧ ∃ σ' pre, σ.le σ' ∧ S (cfg gl ng).toEnv σ m σ' m' [(nb10, ⟨[.int .i64 k, .string tx, av], none⟩), (nba, ⟨pre ++ List.replicate (ss.length - i) nilS, none⟩), (nb8, ⟨[.int .i64 0, .string .empty, .slice none 0 0], none⟩), (nb7, ⟨[bx, by', bz], none⟩), (nb4, ⟨[.int .i64 k, .string tx, sv], none⟩)] ∧ RowsK σ' pre ((replSS bt a ss (n + 1)).take i) := ⟨_, rfl⟩
  refine W.upto (ws := [36, 37, 38, 39, 40, 13, 43, 44, 45, 46, 47, 48, 49, 50, 54, 55, 56, 57, 58, 59, 60, 61, 62, 63, 64, 65, 53, 66, 67, 14, 15, 68, 69, 70, 71, 72, 73, 74, 75, 76, 77, 78, 79, 80, 11, 51, 52, 41, 42, 12]) (by kernel_rfl) (ss.length) I 0 (by omega) (by rw [hI]; exact ⟨by simp, by simp [nodesSS], σ, [], Kn.le_refl σ, hS4, by simpa using RowsK.nil⟩) ?_
  intro i t m5 hi hfr hIi
  rw [hI] at hIi
  obtain ⟨q12, q11, σ5, pre, hle5, hS5, hR⟩ := hIi
  repeat apply W.seq
  apply W.regN; simp [hnt, q12, hfr, hS5.c4, hslen]
  refine W.choose (by simp; rfl) (fun hc => ?_) fun hc => ?_
  ·
   have hil : i < ss.length := by simpa using hc
   apply W.skip; try simp only [Then, InBlk]
   have hsi : ss[i]? = some ss[i] := by simp [hil]
   obtain ⟨lv, b1, o1, a1, a2, a3⟩ := h3.get hsi
   have hwl := wtSS_get hsi
   have hll := len_nodesL ss[i]
   have hln := nodesL_le_wt ss[i]
   have htk := take_snoc (replSS_get (by' := bt) (a := a) (n := n + 1) hsi)
   have htkn := nodesSS_take hsi
   have hle1 := nodesSS_le_take (l := ss) (i := i + 1)
   have hpl : pre.length = i := by have := hR.1; rw [this]; simp [replSS_len]; omega
   generalize ss[i] = l at *
   rw [arr_rep hil] at hS5
   repeat apply W.seq
   apply W.block
   repeat apply W.seq
   apply W.regN; simp [hnt]
   apply W.block
   obtain ⟨I2, hI2⟩ : ∃ I2 : Nat → Tr Value → Mem → Prop, I2 = fun (j : Nat) (t : Tr Value) (m' : Mem) => t.get 13 = some (.int .i64 j) ∧ t.get 11 = some (.int .i64 ((n + 1 + nodesSS (ss.take i) + nodesL (l.take j) : Nat) : Int)) ∧ ∃ σ' vs2 B2 s2, σ5.le σ' ∧ S (cfg gl ng).toEnv σ m σ' m' ([(nb10, ⟨[.int .i64 k, .string tx, av], none⟩), (nba, ⟨pre ++ s2 :: List.replicate (ss.length - (i + 1)) nilS, none⟩), (nb8, ⟨[.int .i64 0, .string .empty, .slice none 0 0], none⟩), (nb7, ⟨[bx, by', bz], none⟩), (nb4, ⟨[.int .i64 k, .string tx, sv], none⟩)] ++ (B2 ++ [])) ∧ BldV 27 3 s2 j vs2 B2 ∧ CellsK σ' vs2 ((replL bt a l (n + 1 + nodesSS (ss.take i))).take j) := ⟨_, rfl⟩
   refine W.upto (ws := [43, 44, 45, 46, 47, 48, 49, 50, 54, 55, 56, 57, 58, 59, 60, 61, 62, 63, 64, 65, 53, 66, 67, 14, 15, 68, 69, 70, 71, 72, 73, 74, 75, 76, 77, 78, 79, 80, 11, 51, 52, 13]) (by kernel_rfl) (l.length) I2 0 (by omega) (by rw [hI2]; exact ⟨by simp, by simp [q11, nodesL], σ5, [], [], nilS, Kn.le_refl _, hS5, .nil, by simpa using CellsK.nil⟩) ?_
   intro j t3 m6 hj hfr3 hIi
   rw [hI2] at hIi
   obtain ⟨q13, q11', σ6, vs2, B2, s2, hle6, hS6, hB2, hC⟩ := hIi
   have a1' := hle6 _ _ _ (hle5 _ _ _ a1)
   have a3' := (a3.mono hle5).mono hle6
   repeat apply W.seq
   apply W.regN; simp [hnt, q13, q12, hfr3, hfr, hS6.c4, hS6.kn, K.iy25 h2 hil, a1', K.ly59 a2]
   refine W.choose (by simp; rfl) (fun hc => ?_) fun hc => ?_
   ·
    have hjl : j < l.length := by simpa using hc
    apply W.skip; try simp only [Then, InBlk]
    have hgj : l[j]? = some l[j] := by simp [hjl]
    obtain ⟨x1, y1, z1, w1, w2, w3, w4⟩ := a3'.get hgj
    have hwj := wtL_get hgj
    have htk2 := take_snoc (replL_get (by' := bt) (a := a) (n := n + 1 + nodesSS (ss.take i)) hgj)
    have htkn2 := nodesL_take hgj
    have hle2 := nodesL_le_take (l := l) (i := j + 1)
    generalize l[j] = tj at *
    have hget := arr_get (tail := List.replicate (ss.length - (i + 1)) nilS) (v := s2) hpl
    have hbs2 : beqV 9 s2 s2 = true := by obtain ⟨a, c', rfl⟩ := hB2.slice; exact beq_plain_slice 9
    have hbav : beqV 9 av av = true := by rw [← hav]; exact beq_plain_slice 9
    obtain ⟨nn, hnn'⟩ : ∃ nn : Nat, nn = n + 1 + nodesSS (ss.take i) + nodesL (l.take j) := ⟨_, rfl⟩
    rw [← hnn'] at q11' htk2
    obtain ⟨ex1, ey1, ez1⟩ := w4.beq 8
    obtain ⟨ex2, ey2, ez2⟩ := hbt0.beq 8
    repeat apply W.seq
    apply W.block
    repeat apply W.seq
    refine W.regU [(15, 1), (15, 4), (15, 7), (15, 10)] [15, 16, 1, 4, 7, 10] (by as_aux_lemma => kernel_rfl) ?_
    simp [hnt, q12, q13, q11', hfr3, hfr, hS6.c3, hS6.c4, hS6.kn, K.iy25 h2 hil, a1', K.iy59 a2 hjl, w1, w2, w3]
    refine Ct.use (ih tj bt nn a σ6 m6 _ _ (by omega) (by omega) (by omega) hbw hS6.wf hS6.holds w4 ((hbt0.mono hle5).mono hle6)) (fun σ7 v7 m7 hl7 hv7 => ?_)
    obtain ⟨v7', rfl, hv7⟩ := hv7
    obtain ⟨x, y, z, rfl, px, py, pz'⟩ := hv7.agg
    have hS7 := hS6.learn' hl7
    have hS7a := hS7.new (vs := [.int .i64 0, .string .empty, .slice none 0 0]) 27 (by simp)
    obtain ⟨m8, e8, hS8⟩ := hS7.var 27 [.int .i64 0, .string .empty, .slice none 0 0] [x, y, z] (by simp) (by simp [px, py, pz']) rfl
    simp [hnt, e8]
    refine ⟨?_, ?_⟩
    · simp [looseOk, getS, againOk, quiet, still, beqV, q12, q13, hfr3, hfr, hS6.c3, hS6.c4, hS6.kn, hS7a.c4, hS7a.c5, hS7a.kn, hl7.le _ _ _ a1', hl7.le _ _ _ w1, hl7.le _ _ _ w2, hl7.le _ _ _ w3, K.iy25 h2 hil, a1', K.iy59 a2 hjl, w1, w2, w3, beq_slice h2, beq_slice a2, ex1, ey1, ez1, ex2, ey2, ez2]
    have hS8n := hS8.new (vs := [x, y, z]) 27 (by simp [px, py, pz'])
    obtain ⟨s', m9, B', e9, hS9, hB9⟩ := hS8.appt (L1 := (m7.nb, ⟨[x, y, z], none⟩) :: [(nb10, ⟨[.int .i64 k, .string tx, av], none⟩), (nba, ⟨pre ++ s2 :: List.replicate (ss.length - (i + 1)) nilS, none⟩), (nb8, ⟨[.int .i64 0, .string .empty, .slice none 0 0], none⟩), (nb7, ⟨[bx, by', bz], none⟩), (nb4, ⟨[.int .i64 k, .string tx, sv], none⟩)]) hB2 px py pz' (by omega)
    obtain ⟨m10, e10, hS10⟩ := hS9.set1 (i := 2) rfl (o := i) (v := s') (by simp [hpl]) hB9.plain
    simp only [List.set_cons_succ, List.set_cons_zero, arr_set hpl, List.cons_append] at hS10
    repeat apply W.seq
    refine W.regU [(9, 1), (9, 4), (9, 7), (10, 1)] [9, 10, 1, 4, 7, 11] (by as_aux_lemma => kernel_rfl) ?_
    simp [hnt, q12, hfr3, hfr, hS8.c0, hS8.c1, hS8.c2, hax i hil, hget, bs59 px py pz', e9, hB9.plain, e10]
    refine ⟨?_, ?_⟩
    · simp [looseOk, getS, againOk, quiet, still, beqV, q12, hfr3, hfr, hS8.c0, hS8.c1, hS8.c2, hS8n.c1, hS8n.c2, hS8n.c3, hS9.c0, hS9.c1, hS9.c2, hax i hil, hget, hbs2, hbav]
    apply W.regN; simp [hnt]
    apply W.regN; simp [hnt, q13, hfr3, wr1 (show j < _ by omega)]
    exact ⟨j + 1, by omega, by omega, by rw [hI2]; exact ⟨by simp, by simp; omega, σ7, _, B', s', Kn.le_trans hle6 hl7.le, hS10.drop (List.sublist_cons_self _ _), hB9, by rw [htk2]; exact (hC.mono hl7.le).snoc hv7⟩⟩
   have hje : j = l.length := by
    have : l.length ≤ j := by simpa using hc
    omega
   apply W.exit; try simp [Then, InBlk]
   rw [hje] at hB2 q11'
   rw [List.take_length] at q11'
   rw [hje, ← replL_len (by' := bt) (a := a) (l := l) (n := n + 1 + nodesSS (ss.take i)), List.take_length] at hC
   obtain ⟨σ8, b8, hle8, hS8, hv8, hn8⟩ := S.done (L1 := [(nb10, ⟨[.int .i64 k, .string tx, av], none⟩), (nba, ⟨pre ++ s2 :: List.replicate (ss.length - (i + 1)) nilS, none⟩), (nb8, ⟨[.int .i64 0, .string .empty, .slice none 0 0], none⟩), (nb7, ⟨[bx, by', bz], none⟩), (nb4, ⟨[.int .i64 k, .string tx, sv], none⟩)]) hS6 hB2
   apply W.regN; simp [hnt, hfr3, q12, wr1 (show i < _ by omega)]
   exact ⟨i + 1, by omega, by omega, by rw [hI]; exact ⟨by simp, by simp [q11']; omega, σ8, pre ++ [s2], Kn.le_trans hle5 (Kn.le_trans hle6 hle8), by simpa using hS8, by rw [htk]; exact (hR.mono (Kn.le_trans hle6 hle8)).snoc (by rw [replL_len]; exact hv8) ((hC.mono hle8).trees (fun j v hj => by rw [Nat.zero_add]; exact hn8 j v hj))⟩⟩
  have hil : i = ss.length := by
   have : ss.length ≤ i := by simpa using hc
   omega
  apply W.exit; try simp [Then, InBlk]
  rw [hil] at q11
  rw [List.take_length] at q11
  rw [hil, ← replSS_len (by' := bt) (a := a) (ss := ss) (n := n + 1), List.take_length] at hR
  rw [hil, Nat.sub_self, List.replicate_zero, List.append_nil] at hS5
  obtain ⟨m7, e7, hS7⟩ := hS5.setAll (i := 2) rfl (vs := [.int .i64 k, .string tx, av]) rfl (by simp [hpa])
  repeat apply W.seq
  apply W.regN; simp [hnt, hfr, hS5.c0, e7, q11]
  obtain ⟨σ8, hle8, hS8, hn8⟩ := hS7.freeze (i := 1) rfl
  apply W.ret
  refine ⟨.inr rfl, rfl, rfl, _, by simp [unwind.results, Tryz.f68, addrOf, loadV, K.is27, K.zs27, Mem.loadN, hfr, hS7.c2]; rfl, _, hS8.learn, ?_⟩
  refine ⟨.agg #[.int .i64 k, .string tx, av], ?_, ?_⟩
  · simp only [retV, hnod]
    congr 3
    simp; omega
  simp only [replT, if_neg hna, TreeK]
  exact ⟨av, nba, 0, rfl, .inr ⟨_, by rw [replSS_len]; exact hav.symm⟩, (hR.mono hle8).slots (fun j v hj => by rw [Nat.zero_add, hn8]; exact hj)⟩
end Go.Proofs.Lw
