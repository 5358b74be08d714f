/-
  PROVED here: steps on the way to the card of 'sleuthlaw06.ReduceTreeMinimal' (an abstract machine, its soundness, what each function computes). No conditions beyond those that each theorem states.
-/
import Derived.Test.YtfgpboldklboaaaGreatDoorAm26
namespace Go.Proofs.Lw
open Go Go.Am
set_option maxRecDepth 8000
variable {gl : Nat → Nat → Option Value} {ng : Nat}
def SpotP (σ : Kn) (vs : List Value) (j : Nat) (e : SpotD) (size : Int) : Prop := ∃ x y z kv, (∀ i v, [x, y, z, .int .u8 e.2.1.many, kv, .string e.2.1.between, .int .i64 e.2.2, .int .i64 size][i]? = some v → vs[8 * j + i]? = some v) ∧ TreeK σ (.agg #[x, y, z]) e.1 ∧ IntsK σ kv e.2.1.kinds
structure SpotsP (σ : Kn) (vs : List Value) (l : List SpotD) : Prop where
 len : vs.length = l.length * 8
 plain : vs.all plainV = true
 at' : ∀ (j : Nat) (e : SpotD), l[j]? = some e → SpotP σ vs j e (nodes e.1)
theorem SpotP.mono {σ σ' : Kn} (h : σ.le σ') {vs : List Value} {j : Nat} {e : SpotD} {s : Int} (hc : SpotP σ vs j e s) : SpotP σ' vs j e s := by
 obtain ⟨x, y, z, kv, a1, a2, a3⟩ := hc
 exact ⟨x, y, z, kv, a1, a2.mono h, a3.mono h⟩
theorem SpotsP.nil {σ : Kn} : SpotsP σ [] [] := ⟨rfl, rfl, fun j t h => by simp at h⟩
theorem SpotsP.mono {σ σ' : Kn} (h : σ.le σ') {vs : List Value} {l : List SpotD} (hc : SpotsP σ vs l) : SpotsP σ' vs l := ⟨hc.len, hc.plain, fun j e he => (hc.at' j e he).mono h⟩
theorem SpotP.shift {σ : Kn} {vs ws : List Value} {j n : Nat} {e : SpotD} {s : Int} (h : SpotP σ ws j e s) (hl : vs.length = n * 8) : SpotP σ (vs ++ ws) (n + j) e s := by
 obtain ⟨x, y, z, kv, a1, a2, a3⟩ := h
 refine ⟨x, y, z, kv, fun i v hi => ?_, a2, a3⟩
 rw [List.getElem?_append_right (by omega), show 8 * (n + j) + i - vs.length = 8 * j + i by omega]
 exact a1 i v hi
theorem SpotP.left {σ : Kn} {vs ws : List Value} {j : Nat} {e : SpotD} {s : Int} (h : SpotP σ vs j e s) : SpotP σ (vs ++ ws) j e s := by
 obtain ⟨x, y, z, kv, a1, a2, a3⟩ := h
 refine ⟨x, y, z, kv, fun i v hi => ?_, a2, a3⟩
 rw [List.getElem?_append_left (lt_of_get (a1 i v hi))]
 exact a1 i v hi
theorem SpotsP.app {σ : Kn} {vs ws : List Value} {l r : List SpotD} (h : SpotsP σ vs l) (h' : SpotsP σ ws r) : SpotsP σ (vs ++ ws) (l ++ r) := by
 refine ⟨by simp [h.len, h'.len]; omega, by rw [List.all_append, h.plain, h'.plain]; rfl, fun j e he => ?_⟩
 by_cases hj : j < l.length
 · rw [List.getElem?_append_left hj] at he
   exact (h.at' j e he).left
 rw [List.getElem?_append_right (by omega)] at he
 have := (h'.at' _ e he).shift h.len
 rwa [show l.length + (j - l.length) = j by omega] at this
def SpotsW (σ : Kn) (v : Value) (l : List SpotD) : Prop := ∃ b vs, SliceAt v l.length b 0 ∧ SpotsP σ vs l ∧ ∀ j x, vs[j]? = some x → σ b j = some x
theorem SpotsW.mono {σ σ' : Kn} (h : σ.le σ') {v : Value} {l : List SpotD} (hv : SpotsW σ v l) : SpotsW σ' v l := by
 obtain ⟨b, vs, h1, h2, h3⟩ := hv
 exact ⟨b, vs, h1, h2.mono h, fun j x hx => h _ _ _ (h3 j x hx)⟩
theorem SpotsW.len {σ : Kn} {v : Value} {l : List SpotD} (h : SpotsW σ v l) {m : Mem} : opLen (cfg gl ng) 83 v m = .value (.int .i64 l.length) m := by
 obtain ⟨b, vs, h1, _⟩ := h
 exact K.ly83 h1
theorem SpotsW.plain {σ : Kn} {v : Value} {l : List SpotD} (h : SpotsW σ v l) : plainV v = true := by
 obtain ⟨b, vs, h1, _⟩ := h
 exact h1.plain
theorem SpotsW.at {σ : Kn} {v : Value} {l : List SpotD} (h : SpotsW σ v l) {i : Nat} {e : SpotD} (hi : l[i]? = some e) : ∃ b x y z kv, (∀ m, opIndexAddr (cfg gl ng).toEnv 83 v (.int .i64 i) m = .value (.pointer (some ⟨b, 8 * i, none⟩)) m) ∧
 σ b (8 * i) = some x ∧ σ b (8 * i + 1) = some y ∧ σ b (8 * i + 2) = some z ∧ σ b (8 * i + 3) = some (.int .u8 e.2.1.many) ∧ σ b (8 * i + 4) = some kv ∧ σ b (8 * i + 5) = some (.string e.2.1.between) ∧ σ b (8 * i + 6) = some (.int .i64 e.2.2) ∧ σ b (8 * i + 7) = some (.int .i64 (nodes e.1)) ∧
 TreeK σ (.agg #[x, y, z]) e.1 ∧ IntsK σ kv e.2.1.kinds := by
 obtain ⟨b, vs, h1, h2, h3⟩ := h
 obtain ⟨x, y, z, kv, a1, a2, a3⟩ := h2.at' i e hi
 refine ⟨b, x, y, z, kv, fun m => ?_, ?_, ?_, ?_, ?_, ?_, ?_, ?_, ?_, a2, a3⟩
 · rw [K.iy83 h1 (lt_of_get hi), Nat.zero_add]
 · exact h3 _ _ (a1 0 x rfl)
 · exact h3 _ _ (a1 1 y rfl)
 · exact h3 _ _ (a1 2 z rfl)
 · exact h3 _ _ (a1 3 _ rfl)
 · exact h3 _ _ (a1 4 _ rfl)
 · exact h3 _ _ (a1 5 _ rfl)
 · exact h3 _ _ (a1 6 _ rfl)
 exact h3 _ _ (a1 7 _ rfl)
theorem SpotsW.src {E : Env} {σ : Kn} {m : Mem} {v : Value} {l : List SpotD} (hh : Holds E σ m) (h : SpotsW σ v l) : ∃ vs, SpotsP σ vs l ∧ Src E m v l.length vs := by
 obtain ⟨b, vs, h1, h2, h3⟩ := h
 refine ⟨vs, h2, ?_⟩
 rcases h1 with ⟨rfl, h0⟩ | ⟨c, rfl⟩
 · have := h2.len
   rw [h0] at this
   exact .inl ⟨rfl, h0, List.eq_nil_of_length_eq_zero (by omega)⟩
 exact .inr ⟨b, 0, c, rfl, fun j x hj => by rw [Nat.zero_add]; exact hh _ _ _ (h3 j x hj)⟩
theorem bs83 {m : Mem} {a0 a1 a2 a3 a4 a5 a6 a7 : Value} (h : [a0, a1, a2, a3, a4, a5, a6, a7].all plainV = true) : opBuildSlice (cfg gl ng).toEnv 83 1 [(0, .agg #[a0, a1, a2, a3, a4, a5, a6, a7])] m =
 .value (.slice (some ⟨m.nb, 0, none⟩) 1 (mkCap 1 true)) (m.new (.cells (cellsOf [a0, a1, a2, a3, a4, a5, a6, a7] 86))) := by
 have hu : und (cfg gl ng).toEnv 83 = some (.slice 86) := by kernel_rfl
 have hi : ((cfg gl ng).toEnv.P.info? 86).isSome = true := by kernel_rfl
 have hs : szOf (cfg gl ng).toEnv 86 = 8 := by kernel_rfl
 have hz : zeroOf (cfg gl ng).toEnv 86 = some (.agg #[.int .i64 0, .string .empty, .slice none 0 0, .int .u8 0, .slice none 0 0, .string .empty, .int .i64 0, .int .i64 0]) := by kernel_rfl
 have e : Instr.fill (fun i => some (i * 8, 8)) ((Array.range (1 * 8)).map ((Value.agg #[Value.int .i64 0, .string .empty, .slice none 0 0, .int .u8 0, .slice none 0 0, .string .empty, .int .i64 0, .int .i64 0]).cells[· % (Value.agg #[Value.int .i64 0, .string .empty, .slice none 0 0, .int .u8 0, .slice none 0 0, .string .empty, .int .i64 0, .int .i64 0]).cells.size]!)) [(0, .agg #[a0, a1, a2, a3, a4, a5, a6, a7])] = some #[a0, a1, a2, a3, a4, a5, a6, a7] := by
  rw [fill_eq]
  kernel_rfl
 unfold opBuildSlice
 simp only [hu, defd_agg, List.all_cons, List.all_nil, Bool.and_self, hi, hs, Bool.true_and]
 rw [if_pos (by decide), if_neg (by decide)]
 simp only [hz]
 rw [e]
 simp only [Mem.newCells]
 rw [if_pos h]
theorem ap83 {σ0 σ : Kn} {m0 m : Mem} {L1 B L2 : List (Nat × Cl)} (h : S (cfg gl ng).toEnv σ0 m0 σ m (L1 ++ (B ++ L2))) {s x : Value} {len n : Nat} {vs new : List Value} (hB : BldV 86 8 s len vs B) (hs : Src (cfg gl ng).toEnv m x n new) (hnew : new.length = n * 8) (hp : new.all plainV = true) (hl : len + n ≤ 1048576) :
 ∃ s' m' B', opAppend (cfg gl ng).toEnv 83 (some 83) s x m = .value s' m' ∧ S (cfg gl ng).toEnv σ0 m0 σ m' (L1 ++ (B' ++ L2)) ∧ BldV 86 8 s' (len + n) (vs ++ new) B' :=
 app_ok (by kernel_rfl) (by kernel_rfl) (by kernel_rfl) h hB hs hnew hp hl
theorem BldV.put {e : TypeId} {es : Nat} {σ0 σ : Kn} {m0 m : Mem} {L1 B L2 : List (Nat × Cl)} (h : S (cfg gl ng).toEnv σ0 m0 σ m (L1 ++ (B ++ L2))) {s : Value} {len : Nat} {vs : List Value} (hB : BldV e es s len vs B) {o : Nat} {v : Value} (ho : o < vs.length) (hp : plainV v = true) :
 ∃ b c m' B', s = .slice (some ⟨b, 0, none⟩) len c ∧ m.write b o [v] = some m' ∧ S (cfg gl ng).toEnv σ0 m0 σ m' (L1 ++ (B' ++ L2)) ∧ BldV e es s len (vs.set o v) B' := by
 obtain ⟨hl, hB⟩ := hB
 have go : ∀ (b : Nat) (x : Option TypeId), B = [(b, ⟨vs, x⟩)] → ∃ m', m.write b o [v] = some m' ∧ S (cfg gl ng).toEnv σ0 m0 σ m' (L1 ++ ([(b, ⟨vs.set o v, x⟩)] ++ L2)) := by
  intro b x hb
  subst hb
  have h1 := h.perm (L' := (b, ⟨vs, x⟩) :: (L1 ++ L2)) (by
   simp only [List.singleton_append]
   exact List.perm_middle)
  obtain ⟨m', e1, h2⟩ := h1.set1 (i := 0) rfl (o := o) (v := v) ho hp
  refine ⟨m', e1, ?_⟩
  exact h2.perm (by
   simp only [List.singleton_append, List.set_cons_zero]
   exact List.perm_middle.symm)
 rcases hB with ⟨rfl, rfl, rfl⟩ | ⟨b, rfl, hb⟩ | ⟨b, rfl, hb⟩
 · rw [Nat.zero_mul] at hl; omega
 · obtain ⟨m', h1, h2⟩ := go b _ hb
   exact ⟨b, _, m', _, rfl, h1, h2, by simpa using hl, .inr (.inl ⟨b, rfl, rfl⟩)⟩
 obtain ⟨m', h1, h2⟩ := go b _ hb
 exact ⟨b, _, m', _, rfl, h1, h2, by simpa using hl, .inr (.inr ⟨b, rfl, rfl⟩)⟩
theorem f44_ok : ∀ (N : Nat) (t : T) (sl0 : SlotD) (d : Nat) (g : List RuleD) (σ : Kn) (m : Mem) (rv tv kv0 : Value), wt t ≤ N → N < 1048576 → nodes t ≤ 2048 → d + depth t ≤ 2048 → WF m → Holds (cfg gl ng).toEnv σ m → RulesV σ rv g → RulesOk g → OkN g t → TreeK σ tv t → IntsK σ kv0 sl0.kinds →
 Ct gl ng 44 [.agg #[rv], tv, .agg #[.int .u8 sl0.many, kv0, .string sl0.between], .int .i64 d] σ m (fun σ' v => SpotsW σ' v ((t, sl0, d) :: below g t d)) := by
 intro N
 induction N with
 | zero => intro t sl0 d g σ m rv tv kv0 h; obtain ⟨k, tx, ss⟩ := t; simp only [wt] at h; omega
 | succ N ih =>
  intro t sl0 d g σ m rv tv kv0 hN hlim hnn hdd hw hh hg hru hok ht hk0
  have hokN := hok
  have htK := ht
  obtain ⟨k, tx, ss⟩ := t
  simp only [wt] at hN
  have hnod : nodes (T.mk k tx ss) = 1 + nodesSS ss := by simp only [nodes]
  have hdep : depth (T.mk k tx ss) = dSS ss + 1 := by simp only [depth]
  rw [hnod] at hnn
  rw [hdep] at hdd
  simp only [OkN] at hok
  obtain ⟨⟨r, hnf⟩, hok⟩ := hok
  have hokS := OkSS_iff.1 hok
  obtain ⟨kn, rfl⟩ : ∃ kn : Nat, k = kn := ⟨k.toNat, by have := hnf.pos; omega⟩
  have hgk : g[kn]? = some r := by have := hnf.rule; simpa using this
  have hkl := lt_of_get hgk
  have hd2 := hnf.len
  obtain ⟨bg, og, hg1, hg2⟩ := id hg
  obtain ⟨slv, r1, r2, r3, r4, bs, os, hs1, hs2⟩ := hg2 kn r hgk
  have hr := hru.rules r (List.mem_of_getElem? hgk)
  simp only [TreeK] at ht
  obtain ⟨sv, b, o, rfl, h2, h3⟩ := ht
  have hlss := len_wtSS ss
  refine Ct.of (c := _) Tryz.func44 rfl 58 rfl (fun c hnt => ?_)
  have hS := S.start hw hh
  obtain ⟨m1, nb4, hbx1, hS1⟩ := hS.box 24 #[rv] (by simp [hg1.plain])
  obtain ⟨m2, nb5, hbx2, hS2⟩ := hS1.box 27 #[.int .i64 kn, .string tx, sv] (by simp [h2.plain])
  obtain ⟨m3, nb6, hbx3, hS3⟩ := hS2.box 55 #[.int .u8 sl0.many, kv0, .string sl0.between] (by simp [hk0.plain])
  repeat apply W.seq
  apply W.regN; simp [hnt, hbx1, hbx2, hbx3]
  obtain ⟨hd0, hhd⟩ : ∃ l : List Value, l = [.int .i64 kn, .string tx, sv, .int .u8 sl0.many, kv0, .string sl0.between, .int .i64 d, .int .i64 0] := ⟨_, rfl⟩
  have hhp : hd0.all plainV = true := by rw [hhd]; simp [h2.plain, hk0.plain]
  have hhl : hd0.length = 8 := by rw [hhd]; rfl
  have hS4 := hS3.new (vs := hd0) 86 hhp
  have hbu := K.bu86_0_1_2 (gl := gl) (ng := ng) (m := m3) (x0_0 := .int .i64 kn) (x0_1 := .string tx) (x0_2 := sv) (x1_0 := .int .u8 sl0.many) (x1_1 := kv0) (x1_2 := .string sl0.between) (x2 := .int .i64 d) (by simp)
  have hbs : opBuildSlice (cfg gl ng).toEnv 83 1 [(0, .agg #[.int .i64 kn, .string tx, sv, .int .u8 sl0.many, kv0, .string sl0.between, .int .i64 d, .int .i64 0])] m3 = .value (.slice (some ⟨m3.nb, 0, none⟩) 1 (mkCap 1 true)) (m3.new (.cells (cellsOf hd0 86))) := by
   rw [hhd]
   exact bs83 (by simp [h2.plain, hk0.plain])
  repeat apply W.seq
  apply W.regN; simp [hnt, hS3.c0, hS3.c1, hbu, hbs]
  generalize hm4 : m3.new (.cells (cellsOf hd0 86)) = m4 at *
  generalize m3.nb = nb9 at *
  obtain ⟨La, hLa⟩ : ∃ La : List (Nat × Cl), La = [(nb6, ⟨[.int .u8 sl0.many, kv0, .string sl0.between], none⟩), (nb5, ⟨[.int .i64 kn, .string tx, sv], none⟩), (nb4, ⟨[rv], none⟩)] := ⟨_, rfl⟩
  have hS4' : S (cfg gl ng).toEnv σ m σ m4 (La ++ ([(nb9, ⟨hd0, none⟩)] ++ [])) := by rw [hLa]; exact hS4.perm (List.perm_append_comm (l₁ := [(nb9, _)]))
  have hB4 : BldV 86 8 (.slice (some ⟨nb9, 0, none⟩) 1 (mkCap 1 true)) 1 (hd0 ++ []) [(nb9, ⟨hd0, none⟩)] := ⟨by simp [hhl], .inr (.inr ⟨nb9, rfl, by simp⟩)⟩
  have hSc5 : ∀ {σ' m' B'}, S (cfg gl ng).toEnv σ m σ' m' (La ++ B') → ∀ o, m'.load (cfg gl ng).toEnv nb5 o = [Value.int .i64 kn, .string tx, sv][o]? := fun h o => h.mem (b := nb5) (k := ⟨[.int .i64 kn, .string tx, sv], none⟩) (by rw [hLa]; simp) o
  have hSc4 : ∀ {σ' m' B'}, S (cfg gl ng).toEnv σ m σ' m' (La ++ B') → ∀ o, m'.load (cfg gl ng).toEnv nb4 o = [rv][o]? := fun h o => h.mem (b := nb4) (k := ⟨[rv], none⟩) (by rw [hLa]; simp) o
  have hslen : ∀ m', opLen (cfg gl ng) 25 sv m' = .value (.int .i64 ss.length) m' := fun m' => K.ly25 h2
  have hbel := below_app (tx := tx) (ss := ss) (d := d) hgk
  have hwb := below_len (d := d) hokN
  rw [hnod] at hwb
  repeat apply W.seq
  apply W.regN; simp [hnt, hSc5 hS4', hslen]
  apply W.block
  obtain ⟨I, hI⟩ : ∃ I : Nat → Tr Value → Mem → Prop, I = fun (i : Nat) (t : Tr Value) (m' : Mem) => t.get 22 = some (.int .i64 i) ∧ ∃ σ' s2 vs2 B2 A, σ.le σ' ∧ t.get 9 = some s2 ∧ S (cfg gl ng).toEnv σ m σ' m' (La ++ (B2 ++ [])) ∧ BldV 86 8 s2 (1 + A.length) (hd0 ++ vs2) B2 ∧ SpotsP σ' vs2 A ∧ A ++ belowSS g (ss.drop i) (r.slots.drop i) (d + 1) = below g (.mk kn tx ss) d := ⟨_, rfl⟩
  refine W.upto (ws := [23, 24, 25, 26, 10, 11, 27, 28, 29, 30, 31, 32, 13, 33, 34, 35, 36, 37, 38, 39, 40, 41, 42, 43, 44, 45, 46, 47, 48, 49, 9, 50, 51, 22]) (by kernel_rfl) (ss.length) I 0 (by omega) (by rw [hI]; exact ⟨by simp, σ, _, [], _, [], Kn.le_refl _, by simp, hS4', hB4, SpotsP.nil, by rw [hbel]; rfl⟩) ?_
  intro i t m5 hi hfr hIi
  rw [hI] at hIi
  obtain ⟨q22, σ5, s5, vs5, B5, A5, hle5, q9, hS5, hB5, hP5, hA⟩ := hIi
  repeat apply W.seq
  apply W.regN; simp [hnt, q22, hfr]
  repeat apply W.seq
  refine W.choose (by simp; rfl) (fun hc => ?_) fun hc => ?_
  ·
   have hil : i < ss.length := by simpa using hc
   apply W.skip; try simp only [Then, InBlk]
   have hil2 : i < r.slots.length := by omega
   have hgi : r.slots[i]? = some r.slots[i] := by simp [hil2]
   have hsm : r.slots[i] ∈ r.slots := by simp
   have hsi : ss[i]? = some ss[i] := by simp [hil]
   have hmi : ss[i] ∈ ss := by simp
   obtain ⟨kv, u1, u2, u3, u4⟩ := hs2 i r.slots[i] hgi
   obtain ⟨lv, b1, o1, a1, a2, a3⟩ := h3.get hsi
   have hwl := wtSS_get hsi
   have hll := len_nodesL ss[i]
   have hln1 := nodesL_le_wt ss[i]
   have hds := dSS_mem hmi
   have hdrop : ss.drop i = ss[i] :: ss.drop (i + 1) := List.drop_eq_getElem_cons hil
   have hdrop2 : r.slots.drop i = r.slots[i] :: r.slots.drop (i + 1) := List.drop_eq_getElem_cons hil2
   rw [hdrop, hdrop2] at hA
   simp only [belowSS] at hA
   generalize r.slots[i] = sl at *
   generalize ss[i] = x at *
   repeat apply W.seq
   apply W.block
   repeat apply W.seq
   apply W.regN; simp [hnt, q22, hfr, K.iy25 h2 hil, hS5.kn, hle5 _ _ _ a1]
   repeat apply W.seq
   apply W.regN; simp [hnt, K.ly59 a2]
   apply W.block
   obtain ⟨I2, hI2⟩ : ∃ I2 : Nat → Tr Value → Mem → Prop, I2 = fun (j : Nat) (t : Tr Value) (m' : Mem) => t.get 29 = some (.int .i64 j) ∧ ∃ σ' s2 vs2 B2 A, σ.le σ' ∧ t.get 9 = some s2 ∧ S (cfg gl ng).toEnv σ m σ' m' (La ++ (B2 ++ [])) ∧ BldV 86 8 s2 (1 + A.length) (hd0 ++ vs2) B2 ∧ SpotsP σ' vs2 A ∧ A ++ (belowL g (x.drop j) sl (d + 1) ++ belowSS g (ss.drop (i + 1)) (r.slots.drop (i + 1)) (d + 1)) = below g (.mk kn tx ss) d := ⟨_, rfl⟩
   refine W.upto (ws := [30, 31, 32, 13, 33, 34, 35, 36, 37, 38, 39, 40, 41, 42, 43, 44, 45, 46, 47, 48, 49, 9, 50, 29]) (by kernel_rfl) (x.length) I2 0 (by omega) (by rw [hI2]; exact ⟨by simp, σ5, s5, vs5, B5, A5, hle5, by simp [q9], hS5, hB5, hP5, hA⟩) ?_
   clear hS5 hB5 hP5 hA q9 hle5
   clear σ5 s5 vs5 B5 A5
   intro j t3 m6 hj hfr3 hIi
   rw [hI2] at hIi
   obtain ⟨q29, σ5, s5, vs5, B5, A5, hle5, q9, hS5, hB5, hP5, hA⟩ := hIi
   repeat apply W.seq
   apply W.regN; simp [hnt, q29, hfr3]
   repeat apply W.seq
   refine W.choose (by simp; rfl) (fun hc => ?_) fun hc => ?_
   ·
    have hjl : j < x.length := by simpa using hc
    apply W.skip; try simp only [Then, InBlk]
    have hgj : x[j]? = some x[j] := by simp [hjl]
    have hmj : x[j] ∈ x := by simp
    obtain ⟨x1, y1, z1, w1, w2, w3, w4⟩ := (a3.mono hle5).get hgj
    have hwj := wtL_get hgj
    have hdj := dL_mem hmj
    have hokj := hokS x hmi _ hmj
    have hnj := nodes_le_wt x[j]
    have hdrop3 : x.drop j = x[j] :: x.drop (j + 1) := List.drop_eq_getElem_cons hjl
    rw [hdrop3] at hA
    simp only [belowL] at hA
    generalize x[j] = tj at *
    have hAlen : A5.length + nodes tj ≤ nodesSS ss := by
     have h1 := congrArg List.length hA
     have h2 := below_len (d := d + 1) hokj
     simp only [List.length_append, List.length_cons] at h1
     omega
    obtain ⟨e1, e2', pz, _⟩ := w4.inv
    have hwd : IntKind.i64.wrap ((d : Int) + 1) = ((d + 1 : Nat) : Int) := by rw [wrap_i64 (by omega) (by omega)]; omega
    obtain ⟨m7, e7, hS7⟩ := hS5.var 27 [.int .i64 0, .string .empty, .slice none 0 0] [x1, y1, z1] (by simp) (by simp [e1, e2', pz]) rfl
    have hS7a := hS7.drop (List.sublist_cons_self _ _)
    repeat apply W.seq
    apply W.block
    repeat apply W.seq
    apply W.regN; simp [hnt, q29, hfr3, K.iy59 a2 hjl, hS5.kn, w1, w2, w3, e7]
    generalize m6.nb = nb13 at *
    have u1' := hle5 _ _ _ u1
    have u2' := hle5 _ _ _ u2
    have u3' := hle5 _ _ _ u3
    have r4' := hle5 _ _ _ r4
    refine W.regU [] [] (by as_aux_lemma => kernel_rfl) ?_
    simp [hnt, q9, hfr3, hfr, hS7.c0, hSc4 hS7a, hSc5 hS7a, K.iy22 hg1 hkl, hS7.kn, r4', K.iy49 hs1 hil2, u1', u2', u3', hwd, looseOk]
    refine Ct.use (ih tj sl (d + 1) g σ5 m7 rv _ kv (by omega) (by omega) (by omega) (by omega) hS7.wf hS7.holds (hg.mono hle5) hru hokj w4 (u4.mono hle5)) (fun σ8 v8 m8 hl8 hv8 => ?_)
    have hS8 := hS7a.learn' hl8
    obtain ⟨vs8, hP8, hsrc⟩ := hv8.src hS8.holds
    have h8l := hP8.len
    have hbl := below_len (d := d + 1) hokj
    obtain ⟨s9, m9, B9, e9, hS9, hB9⟩ := ap83 hS8 hB5 hsrc h8l hP8.plain (by simp only [List.length_cons]; omega)
    simp [hnt, e9, looseOk]
    apply W.regN; simp [hnt, q29, hfr3, wr1 (show j < _ by omega)]
    exact ⟨j + 1, by omega, by omega, by rw [hI2]; exact ⟨by simp, σ8, s9, vs5 ++ vs8, B9, A5 ++ ((tj, sl, d + 1) :: below g tj (d + 1)), Kn.le_trans hle5 hl8.le, by simp, hS9, by simpa [Nat.add_assoc] using hB9, (hP5.mono hl8.le).app hP8, by rw [← hA]; simp⟩⟩
   have hje : j = x.length := by
    have : x.length ≤ j := by simpa using hc
    omega
   apply W.exit; try simp [Then, InBlk]
   apply W.regN; simp [hnt, hfr3, q22, wr1 (show i < _ by omega)]
   rw [hje, List.drop_length] at hA
   simp only [belowL, List.nil_append] at hA
   exact ⟨i + 1, by omega, by omega, by rw [hI]; exact ⟨by simp, σ5, s5, vs5, B5, A5, hle5, by simp [q9], hS5, hB5, hP5, hA⟩⟩
  have hil : i = ss.length := by
   have : ss.length ≤ i := by simpa using hc
   omega
  apply W.exit; try simp [Then, InBlk]
  rw [hil, List.drop_length] at hA
  simp only [belowSS, List.append_nil] at hA
  subst hA
  obtain ⟨b6, c6, m6, B6, rfl, e6, hS6, hB6⟩ := BldV.put hS5 hB5 (o := 7) (v := .int .i64 ((1 + (below g (T.mk kn tx ss) d).length : Nat) : Int)) (by simp [hhl]; omega) (by simp)
  have e6' : m5.write b6 7 [.int .i64 (1 + ((below g (T.mk kn tx ss) d).length : Int))] = some m6 := by rw [← e6]; congr 3
  have hix0 : opIndexAddr (cfg gl ng).toEnv 83 (.slice (some ⟨b6, 0, none⟩) (1 + (below g (T.mk kn tx ss) d).length) c6) (.int .i64 0) m5 = .value (.pointer (some ⟨b6, 0, none⟩)) m5 := K.ix83 (i := 0) (by omega)
  repeat apply W.seq
  apply W.regN; simp [hnt, q9, hix0, e6']
  repeat apply W.seq
  apply W.regN; simp [hnt, q9]
  obtain ⟨σ7, b7, hle7, hS7, hv7, hn7⟩ := hS6.done hB6
  apply W.ret
  refine ⟨.inr rfl, rfl, rfl, _, by simp [unwind.results, Tryz.f44]; rfl, _, hS7.learn, ?_⟩
  refine ⟨b7, _, by simpa [retV, Nat.add_comm] using hv7, ⟨?_, ?_, fun j e he => ?_⟩, hn7⟩
  · have := hP5.len
    simp [hhl, this]; omega
  ·
   rw [List.all_eq_true]
   intro v hv
   rcases List.mem_or_eq_of_mem_set hv with hv | rfl
   · rcases List.mem_append.1 hv with hv | hv
     · exact List.all_eq_true.1 hhp v hv
     exact List.all_eq_true.1 hP5.plain v hv
   rfl
  have hset : (hd0 ++ vs5).set 7 (.int .i64 ((1 + (below g (T.mk kn tx ss) d).length : Nat) : Int)) = hd0.set 7 (.int .i64 ((1 + (below g (T.mk kn tx ss) d).length : Nat) : Int)) ++ vs5 := by
   rw [List.set_append, if_pos (by omega)]
  rw [hset]
  cases j with
  | zero =>
   simp only [List.getElem?_cons_zero, Option.some.injEq] at he
   subst he
   refine SpotP.left ⟨.int .i64 kn, .string tx, sv, kv0, fun i v hi => ?_, htK.mono (Kn.le_trans hle5 hle7), hk0.mono (Kn.le_trans hle5 hle7)⟩
   rw [hhd, Nat.mul_zero, Nat.zero_add, ← hi]
   rw [hnod, show 1 + (below g (T.mk kn tx ss) d).length = 1 + nodesSS ss by omega]
   rfl
  | succ j =>
   simp only [List.getElem?_cons_succ] at he
   have := ((hP5.mono hle7).at' j e he).shift (vs := hd0.set 7 (.int .i64 ((1 + (below g (T.mk kn tx ss) d).length : Nat) : Int))) (n := 1) (by simp [hhl])
   rw [Nat.add_comm 1 j] at this
   exact this
theorem f45_ok {σ : Kn} {m : Mem} {nv x y z kv : Value} {g : List RuleD} {ns : List Int} {e : SpotD} (hw : WF m) (hh : Holds (cfg gl ng).toEnv σ m) (hn : IntsK σ nv ns) (hmin : MinL g ns) (hs : SlotOk g.length e.2.1) (hfew : g.length ≤ 32) (hx : plainV x = true) (hy : plainV y = true) (hz : plainV z = true) (hk : IntsK σ kv e.2.1.kinds) :
 Ct gl ng 45 [nv, .agg #[x, y, z, .int .u8 e.2.1.many, kv, .string e.2.1.between, .int .i64 e.2.2, .int .i64 (nodes e.1)]] σ m (fun _ r => r = .bool (canD ns e)) := by
 refine Ct.of (c := _) Tryz.func45 rfl 22 rfl (fun c hnt => ?_)
 have hS := S.start hw hh
 obtain ⟨m1, nb3, hbx, hS1⟩ := hS.box 86 #[x, y, z, .int .u8 e.2.1.many, kv, .string e.2.1.between, .int .i64 e.2.2, .int .i64 (nodes e.1)] (by simp [hx, hy, hz, hk.plain])
 repeat apply W.seq
 apply W.regN; simp [hnt, hbx]
 have hlen := hs.rise.len
 have hnl := hmin.len
 have hpk := hmin.pick hs
 have hlm := low_mem (sizes := ns) hs.some
 have hlk := hs.rise.kinds _ hlm
 obtain ⟨cn, hcn⟩ : ∃ cn : Nat, low ns e.2.1.kinds = cn := ⟨(low ns e.2.1.kinds).toNat, by omega⟩
 obtain ⟨b9, o9, ix9, s9⟩ := hn.at (gl := gl) (ng := ng) (i := cn) (by omega)
 by_cases hm : e.2.1.many = 0
 ·
  repeat apply W.seq
  refine W.regU [(12, 6)] [12, 13, 6] (by as_aux_lemma => kernel_rfl) ?_
  simp [hnt, hS1.c0, hm]
  refine Ct.use (Ct.any hS1.wf hS1.holds (f72_ok hS1.wf (IntsK.mono hS1.holds hk) (IntsK.mono hS1.holds hn) (by rw [hnl]; exact hs.rise.kinds) hs.some (by omega))) (fun σ3 v3 m3 hl3 hv3 => ?_)
  subst hv3
  have hS3 := hS1.grow hl3.grow
  simp [hnt, hcn, ix9, hS3.kn, s9]
  refine ⟨?_, ?_⟩
  · simp [looseOk, getS, againOk, quiet, still, beqV, hS1.c0, hS3.c0, hm]
  apply W.ret
  refine ⟨.inr rfl, rfl, rfl, _, by simp [unwind.results, Tryz.f45]; rfl, _, hS3.learn, ?_⟩
  simp [retV, canD, hm, hpk, hcn]
 repeat apply W.seq
 refine W.regU [(12, 6)] [12, 13, 6] (by as_aux_lemma => kernel_rfl) ?_
 simp [hnt, hS1.c0, hm]
 refine ⟨?_, ?_⟩
 · simp [looseOk, getS, againOk, quiet, still, beqV, hS1.c0, hm]
 apply W.ret
 refine ⟨.inr rfl, rfl, rfl, _, by simp [unwind.results, Tryz.f45]; rfl, _, hS1.learn, ?_⟩
 simp [retV, canD, hm]
end Go.Proofs.Lw
