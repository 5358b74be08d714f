/-
  PROVED here: steps on the way to the card of 'sleuthlaw06.ReduceTreeMinimal' (an abstract machine, its soundness, what each function computes). No conditions beyond those that each theorem states.
-/
import Derived.Test.YtfgpboldklboaaaGreatDoorAm19
namespace Go.Proofs.Lw
open Go Go.Am
set_option maxRecDepth 8000
@[simp] theorem empty_lit : (ByteArray.mk #[]) = ByteArray.empty := rfl
def kindT : T → Int
 | .mk k _ _ => k
def textT : T → ByteArray
 | .mk _ tx _ => tx
def slotsT : T → List (List T)
 | .mk _ _ ss => ss
structure SlotFit (s : SlotD) (l : List T) : Prop where
 one : s.many = 0 → l.length = 1
 maybe : s.many = 1 → l.length ≤ 1
 kinds : ∀ x ∈ l, kindT x ∈ s.kinds
structure NodeFit (g : List RuleD) (k : Int) (tx : ByteArray) (ss : List (List T)) (r : RuleD) : Prop where
 pos : 0 ≤ k
 rule : g[k.toNat]? = some r
 text : tx.size ≤ 16
 leaf : tx ≠ .empty → r.leaf = true
 len : ss.length = r.slots.length
 fit : ∀ (i : Nat) (s : SlotD) (l : List T), r.slots[i]? = some s → ss[i]? = some l → SlotFit s l
mutual
def OkN (g : List RuleD) : T → Prop
 | .mk k tx ss => (∃ r, NodeFit g k tx ss r) ∧ OkSS g ss
def OkSS (g : List RuleD) : List (List T) → Prop
 | [] => True
 | l :: r => OkL g l ∧ OkSS g r
def OkL (g : List RuleD) : List T → Prop
 | [] => True
 | t :: r => OkN g t ∧ OkL g r
end
theorem OkL_iff {g : List RuleD} : ∀ {l : List T}, OkL g l ↔ ∀ x ∈ l, OkN g x
 | [] => by simp [OkL]
 | t :: r => by simp [OkL, OkL_iff (l := r)]
theorem OkSS_iff {g : List RuleD} : ∀ {ss : List (List T)}, OkSS g ss ↔ ∀ l ∈ ss, ∀ x ∈ l, OkN g x
 | [] => by simp [OkSS]
 | l :: r => by simp [OkSS, OkSS_iff (ss := r), OkL_iff]
theorem TreeK.inv {σ : Kn} {x y z : Value} {t : T} (h : TreeK σ (.agg #[x, y, z]) t) : x = .int .i64 (kindT t) ∧ y = .string (textT t) ∧ plainV z = true ∧ ∃ b o, SliceAt z (slotsT t).length b o ∧ SlotsK σ b o (slotsT t) := by
 obtain ⟨k, tx, ss⟩ := t
 simp only [TreeK] at h
 obtain ⟨sv, b, o, h1, h2, h3⟩ := h
 simp at h1
 obtain ⟨rfl, rfl, rfl⟩ := h1
 exact ⟨rfl, rfl, h2.plain, b, o, h2, h3⟩
variable {gl : Nat → Nat → Option Value} {ng : Nat}
theorem f41_ct {m : Mem} {v : Value} {l : List Int} {n : Int} (hw : WF m) (h : IntsK (m.load (cfg gl ng).toEnv) v l) (hlen : l.length < 1048576) :
 Ct gl ng 41 [v, .int .i64 n] (m.load (cfg gl ng).toEnv) m (fun _ r => r = .bool (decide (n ∈ l))) := by
 refine C.mono (f41_ok h hlen) (fun out m' ho => ?_)
 obtain ⟨rfl, rfl⟩ := ho
 exact ⟨_, _, rfl, Learn.refl hw Holds.self, by simp⟩
theorem f47_ct {m : Mem} {v : Value} {l : List Int} {n : Int} (hw : WF m) (h : IntsK (m.load (cfg gl ng).toEnv) v l) (hlen : l.length < 1048576) :
 Ct gl ng 47 [v, .int .i64 n] (m.load (cfg gl ng).toEnv) m (fun _ r => r = .bool (decide (n ∈ l))) := by
 refine C.mono (f47_ok h hlen) (fun out m' ho => ?_)
 obtain ⟨rfl, rfl⟩ := ho
 exact ⟨_, _, rfl, Learn.refl hw Holds.self, by simp⟩
theorem f16_ok : ∀ (N : Nat) (t : T) (σ : Kn) (m : Mem) (rv tv : Value) (g : List RuleD), wt t ≤ N → N < 1048576 → WF m → Holds (cfg gl ng).toEnv σ m → RulesV σ rv g → RulesOk g → TreeK σ tv t →
 Ct gl ng 16 [.agg #[rv], tv] σ m (fun _ v => Err (OkN g t) v) := by
 intro N
 induction N with
 | zero => intro t σ m rv tv g h; obtain ⟨k, tx, ss⟩ := t; simp only [wt] at h; omega
 | succ N ih =>
  intro t σ m rv tv g hN hlim hw hh hg hru ht
  obtain ⟨k, tx, ss⟩ := t
  simp only [wt] at hN
  simp only [TreeK] at ht
  obtain ⟨sv, b, o, rfl, h2, h3⟩ := ht
  refine Ct.of (c := _) Tryz.func16 rfl 139 rfl (fun c hnt => ?_)
  have hgV := hg
  obtain ⟨bg, og, hg1, hg2⟩ := hg
  have hfew := hru.few
  have hlss := len_wtSS ss
  have hS := S.start hw hh
  obtain ⟨m1, nb2, hbx1, hS1⟩ := hS.box 24 #[rv] (by simp [hg1.plain])
  obtain ⟨m2, nb3, hbx2, hS2⟩ := hS1.box 27 #[.int .i64 k, .string tx, sv] (by simp [h2.plain])
  have hlen : ∀ m', opLen (cfg gl ng) 22 rv m' = .value (.int .i64 g.length) m' := fun m' => K.ly22 hg1
  have hslen : ∀ m', opLen (cfg gl ng) 25 sv m' = .value (.int .i64 ss.length) m' := fun m' => K.ly25 h2
  repeat apply W.seq
  apply W.regN; simp [hnt, hbx1, hbx2]
  have hbad : ∀ {P : Prop}, (OkN g (.mk k tx ss) → P) → ¬ P → ¬ OkN g (.mk k tx ss) := fun h h' h'' => h' (h h'')
  by_cases c1 : k < 0
  ·
   repeat apply W.seq
   apply W.regN; simp [hnt, hS2.c0, hS2.c1, c1]
   refine W.choose (by simp; rfl) (fun hc => ?_) fun hc => ?_
   · repeat apply W.seq
     apply W.regN; simp [hnt]
     apply W.ret; try simp only [Then, InBlk]
     refine ⟨.inr rfl, rfl, rfl, _, by simp [unwind.results, Tryz.f16]; rfl, _, hS2.learn, ?_⟩
     exact .bad (by decide) (fun h => by simp only [OkN] at h; obtain ⟨⟨r, hr⟩, _⟩ := h; have := hr.pos; omega)
   cases hc
  obtain ⟨kn, rfl⟩ : ∃ kn : Nat, k = kn := ⟨k.toNat, by omega⟩
  by_cases c2 : g.length ≤ kn
  ·
   repeat apply W.seq
   apply W.regN; simp [hnt, hS2.c0, hS2.c1, hlen, c2]
   refine W.choose (by simp; rfl) (fun hc => ?_) fun hc => ?_
   · repeat apply W.seq
     apply W.regN; simp [hnt]
     apply W.ret; try simp only [Then, InBlk]
     refine ⟨.inr rfl, rfl, rfl, _, by simp [unwind.results, Tryz.f16]; rfl, _, hS2.learn, ?_⟩
     exact .bad (by decide) (fun h => by simp only [OkN] at h; obtain ⟨⟨r, hr⟩, _⟩ := h; have := lt_of_get hr.rule; omega)
   simp [c2] at hc
  repeat apply W.seq
  apply W.regN; simp [hnt, hS2.c0, hS2.c1, hlen, c2]
  refine W.choose (by simp; rfl) (fun hc => ?_) fun hc => ?_
  · cases hc
  apply W.skip; try simp only [Then, InBlk]
  have hkl : kn < g.length := by omega
  have hgk : g[kn]? = some g[kn] := by simp [hkl]
  obtain ⟨slv, r1, r2, r3, r4, bs, os, hs1, hs2⟩ := hg2 kn g[kn] hgk
  have hr := hru.rules g[kn] (by simp)
  generalize g[kn] = r at *
  have hsl : r.slots.length ≤ 8 := hr.few
  have hnode : OkN g (.mk kn tx ss) → NodeFit g kn tx ss r := by
   intro h
   simp only [OkN] at h
   obtain ⟨⟨r', hr'⟩, _⟩ := h
   have := hr'.rule
   simp only [Int.toNat_natCast] at this
   rw [hgk] at this; cases this
   exact hr'
  have hllen : ∀ m', opLen (cfg gl ng) 49 slv m' = .value (.int .i64 r.slots.length) m' := fun m' => K.ly49 hs1
  obtain ⟨m3, e3, hS3⟩ := hS2.var 51 [.string .empty, .string .empty, .bool false, .slice none 0 0] [.string r.before, .string r.after, .bool r.leaf, slv] (by simp) (by simp [hs1.plain]) rfl
  repeat apply W.seq
  apply W.regN; simp [hnt, hS2.c0, hS2.c1, hS2.kn, K.iy22 hg1 hkl, r1, r2, r3, r4, e3]
  generalize m2.nb = nb5 at *
  by_cases c3 : (16 : Int) < tx.size
  ·
   repeat apply W.seq
   apply W.regN; simp [hnt, hS3.c1, c3]
   refine W.choose (by simp; rfl) (fun hc => ?_) fun hc => ?_
   · repeat apply W.seq
     apply W.regN; simp [hnt]
     apply W.ret; try simp only [Then, InBlk]
     refine ⟨.inr rfl, rfl, rfl, _, by simp [unwind.results, Tryz.f16]; rfl, _, hS3.learn, ?_⟩
     exact .bad (by decide) (fun h => by have := (hnode h).text; omega)
   simp [c3] at hc
  repeat apply W.seq
  apply W.regN; simp [hnt, hS3.c1, c3]
  refine W.choose (by simp; rfl) (fun hc => ?_) fun hc => ?_
  · simp [c3] at hc
  apply W.skip; try simp only [Then, InBlk]
  obtain ⟨L, hL⟩ : ∃ L : List (Nat × Cl), L = [(nb5, ⟨[.string r.before, .string r.after, .bool r.leaf, slv], none⟩), (nb3, ⟨[.int .i64 kn, .string tx, sv], none⟩), (nb2, ⟨[rv], none⟩)] := ⟨_, rfl⟩
  obtain ⟨J, hJ⟩ : ∃ J : Tr Value → Mem → Prop, J = fun t m' => S (cfg gl ng).toEnv σ m σ m' L ∧ (tx ≠ .empty → r.leaf = true) ∧ ss.length = r.slots.length := ⟨_, rfl⟩
  refine W.cut (ws := [33, 34, 35, 36, 37, 38, 39, 40, 41, 42, 43, 44, 45, 46, 47, 48, 49, 4]) (by kernel_rfl) J ?_ (fun t0 m4 hfr0 hJ0 => ?_)
  ·
   by_cases c4 : ss.length = r.slots.length
   ·
    by_cases c5 : tx = .empty
    ·
     repeat apply W.seq
     apply W.regN; simp [hnt, hS3.c1, hS3.c0, c5, hslen, hllen, c4]
     refine W.choose (by simp; rfl) (fun hc => ?_) fun hc => ?_
     · cases hc
     apply W.skip; try simp only [Then, InBlk]
     simp
     rw [hJ, hL]
     exact ⟨hS3, fun h => absurd c5 h, c4⟩
    cases hlf : r.leaf with
    | true =>
     repeat apply W.seq
     apply W.regN; simp [hnt, hS3.c1, hS3.c0, c5, hlf, hslen, hllen, c4]
     refine W.choose (by simp; rfl) (fun hc => ?_) fun hc => ?_
     · cases hc
     apply W.skip; try simp only [Then, InBlk]
     simp
     rw [hJ, hL]
     exact ⟨hS3, fun _ => hlf, c4⟩
    | false =>
     repeat apply W.seq
     apply W.regN; simp [hnt, hS3.c1, hS3.c0, c5, hlf]
     refine W.choose (by simp; rfl) (fun hc => ?_) fun hc => ?_
     · repeat apply W.seq
       apply W.regN; simp [hnt]
       apply W.ret; try simp only [Then, InBlk]
       refine ⟨.inr rfl, rfl, rfl, _, by simp [unwind.results, Tryz.f16]; rfl, _, hS3.learn, ?_⟩
       exact .bad (by decide) (fun h => by have := (hnode h).leaf c5; rw [hlf] at this; cases this)
     cases hc
   have c4' : ¬ OkN g (.mk kn tx ss) := fun h => c4 (hnode h).len
   have c4i : ¬ (ss.length : Int) = r.slots.length := by omega
   by_cases c5 : tx = .empty
   ·
    repeat apply W.seq
    apply W.regN; simp [hnt, hS3.c1, hS3.c0, c5, hslen, hllen, c4i]
    refine W.choose (by simp; rfl) (fun hc => ?_) fun hc => ?_
    · repeat apply W.seq
      apply W.regN; simp [hnt]
      apply W.ret; try simp only [Then, InBlk]
      refine ⟨.inr rfl, rfl, rfl, _, by simp [unwind.results, Tryz.f16]; rfl, _, hS3.learn, ?_⟩
      exact .bad (by decide) (by simpa [c5] using c4')
    cases hc
   cases hlf : r.leaf with
   | true =>
    repeat apply W.seq
    apply W.regN; simp [hnt, hS3.c1, hS3.c0, c5, hlf, hslen, hllen, c4i]
    refine W.choose (by simp; rfl) (fun hc => ?_) fun hc => ?_
    · repeat apply W.seq
      apply W.regN; simp [hnt]
      apply W.ret; try simp only [Then, InBlk]
      refine ⟨.inr rfl, rfl, rfl, _, by simp [unwind.results, Tryz.f16]; rfl, _, hS3.learn, ?_⟩
      exact .bad (by decide) c4'
    cases hc
   | false =>
    repeat apply W.seq
    apply W.regN; simp [hnt, hS3.c1, hS3.c0, c5, hlf]
    refine W.choose (by simp; rfl) (fun hc => ?_) fun hc => ?_
    · repeat apply W.seq
      apply W.regN; simp [hnt]
      apply W.ret; try simp only [Then, InBlk]
      refine ⟨.inr rfl, rfl, rfl, _, by simp [unwind.results, Tryz.f16]; rfl, _, hS3.learn, ?_⟩
      exact .bad (by decide) c4'
    cases hc
  rw [hJ] at hJ0
  obtain ⟨hS4, d1, d2⟩ := hJ0
  have hSc0 : ∀ {σ' m'}, S (cfg gl ng).toEnv σ m σ' m' L → ∀ o, m'.load (cfg gl ng).toEnv nb5 o = [Value.string r.before, .string r.after, .bool r.leaf, slv][o]? := fun h o => h.cell (i := 0) (by rw [hL]; rfl) o
  have hSc1 : ∀ {σ' m'}, S (cfg gl ng).toEnv σ m σ' m' L → ∀ o, m'.load (cfg gl ng).toEnv nb3 o = [Value.int .i64 kn, .string tx, sv][o]? := fun h o => h.cell (i := 1) (by rw [hL]; rfl) o
  have hSc2 : ∀ {σ' m'}, S (cfg gl ng).toEnv σ m σ' m' L → ∀ o, m'.load (cfg gl ng).toEnv nb2 o = [rv][o]? := fun h o => h.cell (i := 2) (by rw [hL]; rfl) o
  obtain ⟨J2, hJ2⟩ : ∃ J : Tr Value → Mem → Prop, J = fun t m' => S (cfg gl ng).toEnv σ m σ m' L ∧ ∀ (i : Nat) (s : SlotD) (l : List T), r.slots[i]? = some s → ss[i]? = some l → SlotFit s l := ⟨_, rfl⟩
  refine W.cut (ws := [4, 50, 51, 52, 53, 54, 57, 58, 59, 60, 61, 62, 7, 63, 64, 65, 66, 67, 68, 69, 70, 71, 72, 73, 74, 75, 76, 77, 78, 79, 80, 81, 82, 83, 84, 85, 86, 4, 8, 87, 88, 89, 92, 93, 94, 95, 96, 97, 98, 99, 100, 101, 102, 103, 104, 105, 106, 107, 108, 90, 91, 55, 56, 6]) (by kernel_rfl) J2 ?_ (fun t1 m5 hfr1 hJ1 => ?_)
  ·
   repeat apply W.seq
   apply W.regN; simp [hnt]
   apply W.block
   obtain ⟨I, hI⟩ : ∃ I : Nat → Tr Value → Mem → Prop, I = fun (i : Nat) (t : Tr Value) (m' : Mem) => t.get 6 = some (.int .i64 i) ∧ S (cfg gl ng).toEnv σ m σ m' L ∧ ∀ (j : Nat) (s : SlotD) (l : List T), j < i → r.slots[j]? = some s → ss[j]? = some l → SlotFit s l := ⟨_, rfl⟩
   refine W.upto (ws := [50, 51, 52, 53, 54, 57, 58, 59, 60, 61, 62, 7, 63, 64, 65, 66, 67, 68, 69, 70, 71, 72, 73, 74, 75, 76, 77, 78, 79, 80, 81, 82, 83, 84, 85, 86, 4, 8, 87, 88, 89, 92, 93, 94, 95, 96, 97, 98, 99, 100, 101, 102, 103, 104, 105, 106, 107, 108, 90, 91, 55, 56, 6]) (by kernel_rfl) (r.slots.length) I 0 (by omega) (by rw [hI]; exact ⟨by simp, hS4, fun j s l h => absurd h (by omega)⟩) ?_
   intro i t m5 hi hfr hIi
   rw [hI] at hIi
   obtain ⟨q6, hS5, hdone⟩ := hIi
   repeat apply W.seq
   apply W.regN; simp [hnt, q6, hSc0 hS5, hfr, hfr0, hllen]
   refine W.choose (by simp; rfl) (fun hc => ?_) fun hc => ?_
   ·
    have hil : i < r.slots.length := by simpa using hc
    apply W.skip; try simp only [Then, InBlk]
    have hgi : r.slots[i]? = some r.slots[i] := by simp [hil]
    have hsm : r.slots[i] ∈ r.slots := by simp
    have hsi : ss[i]? = some (ss[i]'(by omega)) := by simp
    obtain ⟨kv, u1, u2, u3, u4⟩ := hs2 i r.slots[i] hgi
    have hso := hr.slots _ hsm
    obtain ⟨lv, b1, o1, a1, a2, a3⟩ := h3.get hsi
    have hwl := wtSS_get hsi
    have hll := len_nodesL (ss[i]'(by omega))
    have hln := nodesL_le_wt (ss[i]'(by omega))
    generalize r.slots[i] = sl at *
    generalize (ss[i]'(by omega)) = l at *
    have hfit : ¬ SlotFit sl l → ¬ OkN g (.mk kn tx ss) := fun h h' => h ((hnode h').fit i sl l hgi hsi)
    repeat apply W.seq
    apply W.block
    repeat apply W.seq
    apply W.regN; simp [hnt, q6, hSc1 hS5, hS5.kn, hfr, hfr0, K.iy25 h2 (show i < ss.length by omega), a1, K.ly59 a2]
    obtain ⟨J3, hJ3⟩ : ∃ J : Tr Value → Mem → Prop, J = fun t m' => S (cfg gl ng).toEnv σ m σ m' L ∧ (sl.many = 0 → l.length = 1) ∧ (sl.many = 1 → l.length ≤ 1) := ⟨_, rfl⟩
    refine W.cut (ws := [63, 64, 65, 66, 67, 68, 69, 70, 71, 72, 73, 74, 75, 76, 77, 78, 79, 80, 81, 82, 83, 84, 85, 86, 4]) (by kernel_rfl) J3 ?_ (fun t2 m6 hfr2 hJ3' => ?_)
    ·
     by_cases e0 : sl.many = 0
     ·
      by_cases e1 : l.length = 1
      · repeat apply W.seq
        apply W.regN; simp [hnt, q6, hSc0 hS5, hS5.kn, hfr, hfr0, K.iy49 hs1 hil, u1, e0, e1]
        refine W.choose (by simp; rfl) (fun hc => ?_) fun hc => ?_
        · cases hc
        apply W.skip; try simp only [Then, InBlk]
        simp
        rw [hJ3]
        exact ⟨hS5, fun _ => e1, fun _ => by omega⟩
      have e1' : ¬ (l.length : Int) = 1 := by omega
      repeat apply W.seq
      apply W.regN; simp [hnt, q6, hSc0 hS5, hS5.kn, hfr, hfr0, K.iy49 hs1 hil, u1, e0, e1']
      refine W.choose (by simp; rfl) (fun hc => ?_) fun hc => ?_
      · repeat apply W.seq
        apply W.regN; simp [hnt]
        apply W.ret; try simp only [Then, InBlk]
        refine ⟨.inr rfl, rfl, rfl, _, by simp [unwind.results, Tryz.f16]; rfl, _, hS5.learn, ?_⟩
        exact .bad (by decide) (hfit (fun h => e1 (h.one e0)))
      cases hc
     by_cases e2 : sl.many = 1
     ·
      by_cases e3 : (1 : Int) < l.length
      · repeat apply W.seq
        apply W.regN; simp [hnt, q6, hSc0 hS5, hS5.kn, hfr, hfr0, K.iy49 hs1 hil, u1, e2, e3]
        refine W.choose (by simp; rfl) (fun hc => ?_) fun hc => ?_
        · repeat apply W.seq
          apply W.regN; simp [hnt]
          apply W.ret; try simp only [Then, InBlk]
          refine ⟨.inr rfl, rfl, rfl, _, by simp [unwind.results, Tryz.f16]; rfl, _, hS5.learn, ?_⟩
          exact .bad (by decide) (hfit (fun h => by have := h.maybe e2; omega))
        cases hc
      repeat apply W.seq
      apply W.regN; simp [hnt, q6, hSc0 hS5, hS5.kn, hfr, hfr0, K.iy49 hs1 hil, u1, e2, e3]
      refine W.choose (by simp; rfl) (fun hc => ?_) fun hc => ?_
      · cases hc
      apply W.skip; try simp only [Then, InBlk]
      simp
      rw [hJ3]
      exact ⟨hS5, fun h => absurd h e0, fun _ => by omega⟩
     repeat apply W.seq
     apply W.regN; simp [hnt, q6, hSc0 hS5, hS5.kn, hfr, hfr0, K.iy49 hs1 hil, u1, e0, e2]
     refine W.choose (by simp; rfl) (fun hc => ?_) fun hc => ?_
     · cases hc
     apply W.skip; try simp only [Then, InBlk]
     simp
     rw [hJ3]
     exact ⟨hS5, fun h => absurd h e0, fun h => absurd h e2⟩
    rw [hJ3] at hJ3'
    obtain ⟨hS6, f1, f2⟩ := hJ3'
    repeat apply W.seq
    apply W.regN; simp [hnt]
    apply W.block
    obtain ⟨I2, hI2⟩ : ∃ I2 : Nat → Tr Value → Mem → Prop, I2 = fun (j : Nat) (t : Tr Value) (m' : Mem) => t.get 8 = some (.int .i64 j) ∧ S (cfg gl ng).toEnv σ m σ m' L ∧ ∀ (x : Nat) (y : T), x < j → l[x]? = some y → kindT y ∈ sl.kinds := ⟨_, rfl⟩
    refine W.upto (ws := [87, 88, 89, 92, 93, 94, 95, 96, 97, 98, 99, 100, 101, 102, 103, 104, 105, 106, 107, 108, 4, 90, 91, 8]) (by kernel_rfl) (l.length) I2 0 (by omega) (by rw [hI2]; exact ⟨by simp, hS6, fun j s h => absurd h (by omega)⟩) ?_
    intro j t3 m7 hj hfr3 hIi
    rw [hI2] at hIi
    obtain ⟨q8, hS7, hkd⟩ := hIi
    repeat apply W.seq
    apply W.regN; simp [hnt, q8, hfr3, hfr2, hfr, hfr0]
    refine W.choose (by simp; rfl) (fun hc => ?_) fun hc => ?_
    ·
     have hjl : j < l.length := by simpa using hc
     apply W.skip; try simp only [Then, InBlk]
     have hgj : l[j]? = some l[j] := by simp [hjl]
     obtain ⟨x1, y1, z1, w1, w2, w3, w4⟩ := a3.get hgj
     have hkx := hfit
     have hmem : l[j] ∈ l := by simp
     generalize l[j] = tj at *
     obtain ⟨rfl, _⟩ := w4.inv
     repeat apply W.seq
     apply W.block
     repeat apply W.seq
     refine W.regU [] [] (by as_aux_lemma => kernel_rfl) ?_
     simp [hnt, q6, q8, hSc0 hS7, hSc1 hS7, hS7.kn, hfr3, hfr2, hfr, hfr0, K.iy49 hs1 hil, u2, K.iy25 h2 (show i < ss.length by omega), a1, K.iy59 a2 hjl, w1]
     refine Ct.use (Ct.any hS7.wf hS7.holds (f41_ct hS7.wf (IntsK.mono hS7.holds u4) (by have := hso.rise.len; omega))) (fun σ9 v9 m9 hl9 hv9 => ?_)
     subst hv9
     have hS9 := hS7.grow hl9.grow
     by_cases e4 : kindT tj ∈ sl.kinds
     · simp [hnt, looseOk, e4]
       refine W.choose (by simp; rfl) (fun hc => ?_) fun hc => ?_
       · cases hc
       apply W.skip; try simp only [Then, InBlk]
       apply W.regN; simp [hnt, q8, hfr3, wr1 (show j < _ by omega)]
       exact ⟨j + 1, by omega, by omega, by rw [hI2]; exact ⟨by simp, hS9, fun x y hx hy => by by_cases hxj : x = j; exact (by rw [hxj, hgj] at hy; cases hy; exact e4); exact hkd x y (by omega) hy⟩⟩
     simp [hnt, looseOk, e4]
     refine W.choose (by simp; rfl) (fun hc => ?_) fun hc => ?_
     · repeat apply W.seq
       apply W.regN; simp [hnt]
       apply W.ret; try simp only [Then, InBlk]
       refine ⟨.inr rfl, rfl, rfl, _, by simp [unwind.results, Tryz.f16]; rfl, _, hS9.learn, ?_⟩
       exact .bad (by decide) (hfit (fun h => e4 (h.kinds _ hmem)))
     cases hc
    apply W.exit; try simp [Then, InBlk]
    apply W.regN; simp [hnt, q6, hfr3, hfr2, hfr, wr1 (show i < _ by omega)]
    have hf : SlotFit sl l := ⟨f1, f2, fun x hx => by
     obtain ⟨j', hj'⟩ := List.mem_iff_getElem?.1 hx
     have h' : l.length ≤ j := by simpa using hc
     exact hkd j' x (by have := lt_of_get hj'; omega) hj'⟩
    exact ⟨i + 1, by omega, by omega, by rw [hI]; exact ⟨by simp, hS7, fun x s y hx hs hy => by by_cases hxi : x = i; exact (by subst hxi; rw [hgi] at hs; rw [hsi] at hy; cases hs; cases hy; exact hf); exact hdone x s y (by omega) hs hy⟩⟩
   apply W.exit; try simp [Then, InBlk]
   rw [hJ2]
   have h' : r.slots.length ≤ i := by simpa using hc
   exact ⟨hS5, fun x s l hs hl => hdone x s l (by have := lt_of_get hs; omega) hs hl⟩
  rw [hJ2] at hJ1
  obtain ⟨hS6, hfit⟩ := hJ1
  have hnf : NodeFit g kn tx ss r := ⟨by omega, by simpa using hgk, by omega, d1, d2, hfit⟩
  repeat apply W.seq
  apply W.regN; simp [hnt]
  apply W.block
  obtain ⟨I, hI⟩ : ∃ I : Nat → Tr Value → Mem → Prop, I = fun (i : Nat) (t : Tr Value) (m' : Mem) => t.get 9 = some (.int .i64 i) ∧ S (cfg gl ng).toEnv σ m σ m' L ∧ ∀ (j : Nat) (l : List T), j < i → ss[j]? = some l → OkL g l := ⟨_, rfl⟩
  refine W.upto (ws := [109, 110, 111, 112, 113, 10, 116, 117, 118, 119, 120, 121, 122, 123, 126, 127, 128, 129, 130, 131, 132, 133, 134, 135, 11, 136, 137, 138, 4, 124, 125, 114, 115, 9]) (by kernel_rfl) (ss.length) I 0 (by omega) (by rw [hI]; exact ⟨by simp, hS6, fun j s h => absurd h (by omega)⟩) ?_
  intro i t m7 hi hfr hIi
  rw [hI] at hIi
  obtain ⟨q9, hS7, hdone⟩ := hIi
  repeat apply W.seq
  apply W.regN; simp [hnt, q9, hSc1 hS7, hfr, hfr1, hfr0, hslen]
  refine W.choose (by simp; rfl) (fun hc => ?_) fun hc => ?_
  ·
   have hil : i < ss.length := by simpa using hc
   apply W.skip; try simp only [Then, InBlk]
   have hsi : ss[i]? = some ss[i] := by simp [hil]
   have hmi : ss[i] ∈ ss := by simp
   obtain ⟨lv, b1, o1, a1, a2, a3⟩ := h3.get hsi
   have hwl := wtSS_get hsi
   have hll := len_nodesL ss[i]
   have hln := nodesL_le_wt ss[i]
   generalize ss[i] = l at *
   repeat apply W.seq
   apply W.block
   repeat apply W.seq
   apply W.regN; simp [hnt]
   apply W.block
   obtain ⟨I2, hI2⟩ : ∃ I2 : Nat → Tr Value → Mem → Prop, I2 = fun (j : Nat) (t : Tr Value) (m' : Mem) => t.get 10 = some (.int .i64 j) ∧ S (cfg gl ng).toEnv σ m σ m' L ∧ ∀ (x : Nat) (y : T), x < j → l[x]? = some y → OkN g y := ⟨_, rfl⟩
   refine W.upto (ws := [116, 117, 118, 119, 120, 121, 122, 123, 126, 127, 128, 129, 130, 131, 132, 133, 134, 135, 11, 136, 137, 138, 4, 124, 125, 10]) (by kernel_rfl) (l.length) I2 0 (by omega) (by rw [hI2]; exact ⟨by simp, hS7, fun j s h => absurd h (by omega)⟩) ?_
   intro j t3 m8 hj hfr3 hIi
   rw [hI2] at hIi
   obtain ⟨q10, hS8, hkd⟩ := hIi
   repeat apply W.seq
   apply W.regN; simp [hnt, q10, hfr3, hfr, hfr1, hfr0, q9, hSc1 hS8, hS8.kn, K.iy25 h2 hil, a1, K.ly59 a2]
   refine W.choose (by simp; rfl) (fun hc => ?_) fun hc => ?_
   ·
    have hjl : j < l.length := by simpa using hc
    apply W.skip; try simp only [Then, InBlk]
    have hgj : l[j]? = some l[j] := by simp [hjl]
    have hmj : l[j] ∈ l := by simp
    obtain ⟨x1, y1, z1, w1, w2, w3, w4⟩ := a3.get hgj
    have hwj := wtL_get hgj
    generalize l[j] = tj at *
    repeat apply W.seq
    apply W.block
    repeat apply W.seq
    refine W.regU [] [] (by as_aux_lemma => kernel_rfl) ?_
    simp [hnt, q9, q10, hSc1 hS8, hSc2 hS8, hS8.kn, hfr3, hfr, hfr1, hfr0, K.iy25 h2 hil, a1, K.iy59 a2 hjl, w1, w2, w3]
    refine Ct.use (ih tj σ m8 rv _ g (by omega) (by omega) hS8.wf hS8.holds hgV hru w4) (fun σ9 v9 m9 hl9 hv9 => ?_)
    obtain ⟨e, rfl, he⟩ := hv9
    have hS9 := hS8.grow hl9.grow
    simp [hnt, looseOk]
    by_cases e4 : e = 0
    ·
     repeat apply W.seq
     apply W.regN; simp [hnt, e4]
     refine W.choose (by simp; rfl) (fun hc => ?_) fun hc => ?_
     · cases hc
     apply W.skip; try simp only [Then, InBlk]
     apply W.regN; simp [hnt, q10, hfr3, wr1 (show j < _ by omega)]
     have hok := he.1 e4
     exact ⟨j + 1, by omega, by omega, by rw [hI2]; exact ⟨by simp, hS9, fun x y hx hy => by by_cases hxj : x = j; exact (by rw [hxj, hgj] at hy; cases hy; exact hok); exact hkd x y (by omega) hy⟩⟩
    repeat apply W.seq
    apply W.regN; simp [hnt, e4]
    refine W.choose (by simp; rfl) (fun hc => ?_) fun hc => ?_
    · repeat apply W.seq
      apply W.regN; simp [hnt]
      apply W.ret; try simp only [Then, InBlk]
      refine ⟨.inr rfl, rfl, rfl, _, by simp [unwind.results, Tryz.f16]; rfl, _, hS9.learn, ?_⟩
      exact .bad e4 (fun h => by simp only [OkN] at h; exact e4 (he.2 (OkSS_iff.1 h.2 l hmi tj hmj)))
    cases hc
   apply W.exit; try simp [Then, InBlk]
   apply W.regN; simp [hnt, q9, hfr3, hfr, wr1 (show i < _ by omega)]
   have hf : OkL g l := OkL_iff.2 (fun x hx => by
    obtain ⟨j', hj'⟩ := List.mem_iff_getElem?.1 hx
    have h' : l.length ≤ j := by simpa using hc
    exact hkd j' x (by have := lt_of_get hj'; omega) hj')
   exact ⟨i + 1, by omega, by omega, by rw [hI]; exact ⟨by simp, hS8, fun x y hx hy => by by_cases hxi : x = i; exact (by subst hxi; rw [hsi] at hy; cases hy; exact hf); exact hdone x y (by omega) hy⟩⟩
  apply W.exit; try simp [Then, InBlk]
  repeat apply W.seq
  apply W.regN; simp [hnt]
  apply W.ret
  refine ⟨.inr rfl, rfl, rfl, _, by simp [unwind.results, Tryz.f16]; rfl, _, hS7.learn, ?_⟩
  refine .ok ?_
  simp only [OkN]
  refine ⟨⟨r, hnf⟩, OkSS_iff.2 (fun l hl => ?_)⟩
  obtain ⟨j', hj'⟩ := List.mem_iff_getElem?.1 hl
  have h' : ss.length ≤ i := by simpa using hc
  exact OkL_iff.1 (hdone j' l (by have := lt_of_get hj'; omega) hj')
end Go.Proofs.Lw
