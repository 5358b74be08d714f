/-
  PROVED here: steps on the way to the card of 'sleuthlaw06.ReduceTreeMinimal' (an abstract machine, its soundness, what each function computes). No conditions beyond those that each theorem states.
-/
import Derived.Test.YtfgpboldklboaaaGreatDoorAm16
import Derived.Test.YtfgpboldklboaaaGreatDoorAm13
namespace Go.Proofs.Lw
open Go Go.Am
set_option maxRecDepth 8000
variable {gl : Nat → Nat → Option Value} {ng : Nat}
def Err (P : Prop) (r : Value) : Prop := ∃ e : Int, r = .int .i64 e ∧ (e = 0 ↔ P)
theorem Err.bad {P : Prop} {e : Int} (h : e ≠ 0) (hp : ¬ P) : Err P (.int .i64 e) := ⟨e, rfl, fun h' => absurd h' h, fun h' => absurd h' hp⟩
theorem Err.ok {P : Prop} (hp : P) : Err P (.int .i64 0) := ⟨0, rfl, fun _ => hp, fun _ => rfl⟩
theorem f69_ct {m : Mem} {v : Value} {l : List Int} {n : Int} (hw : WF m) (h : IntsK (m.load (cfg gl ng).toEnv) v l) (hlen : l.length < 9223372036854775808) :
 Ct gl ng 69 [v, .int .i64 n] (m.load (cfg gl ng).toEnv) m (fun _ r => ∃ b, r = .bool b ∧ (b = true ↔ Rises l n)) := by
 refine C.mono (f69_ok h hlen) (fun out m' ho => ?_)
 obtain ⟨⟨b, rfl, hb⟩, rfl⟩ := ho
 exact ⟨_, _, rfl, Learn.refl hw Holds.self, b, rfl, hb⟩
theorem f46_ct {m : Mem} {v : Value} {l : List Int} {n : Int} (hw : WF m) (h : IntsK (m.load (cfg gl ng).toEnv) v l) (hlen : l.length < 9223372036854775808) :
 Ct gl ng 46 [v, .int .i64 n] (m.load (cfg gl ng).toEnv) m (fun _ r => ∃ b, r = .bool b ∧ (b = true ↔ Rises l n)) := by
 refine C.mono (f46_ok h hlen) (fun out m' ho => ?_)
 obtain ⟨⟨b, rfl, hb⟩, rfl⟩ := ho
 exact ⟨_, _, rfl, Learn.refl hw Holds.self, b, rfl, hb⟩
def RuleLen (r : RuleD) : Prop := r.slots.length < 4611686018427387904 ∧ ∀ s ∈ r.slots, 0 ≤ s.many ∧ s.kinds.length < 9223372036854775808
theorem f38_ok {σ : Kn} {m : Mem} {sv : Value} {r : RuleD} {n : Nat} (hw : WF m) (hh : Holds (cfg gl ng).toEnv σ m) (hs : SlotsV σ sv r.slots) (hl : RuleLen r) :
 Ct gl ng 38 [.agg #[.string r.before, .string r.after, .bool r.leaf, sv], .int .i64 n] σ m (fun _ v => Err (RuleOk n r) v) := by
 refine Ct.of (c := _) Tryz.func38 rfl 65 rfl (fun c hnt => ?_)
 obtain ⟨bs, os, hs1, hs2⟩ := hs
 have hS := S.start hw hh
 obtain ⟨m1, nb, hbx, hS1⟩ := hS.box 51 #[.string r.before, .string r.after, .bool r.leaf, sv] (by simp [hs1.plain])
 have hlen : ∀ m', opLen (cfg gl ng) 49 sv m' = .value (.int .i64 r.slots.length) m' := fun m' => K.ly49 hs1
 repeat apply W.seq
 apply W.regN; simp [hnt, hbx]
 obtain ⟨J, hJ⟩ : ∃ J : Tr Value → Mem → Prop, J = fun t m' => S (cfg gl ng).toEnv σ m σ m' [(nb, ⟨[.string r.before, .string r.after, .bool r.leaf, sv], none⟩)] ∧ r.before.size ≤ 16 ∧ r.after.size ≤ 16 ∧ (r.leaf = true → r.slots = []) ∧ r.slots.length ≤ 8 := ⟨_, rfl⟩
 refine W.cut (ws := [8, 9, 10, 11, 12, 13, 14, 15, 16, 17, 7, 4, 19, 20, 21, 22, 23, 24, 25, 26, 18, 28, 29, 30, 31, 27]) (by kernel_rfl) J ?_ (fun t0 m3 hfr0 hJ0 => ?_)
 ·
  apply W.block
  by_cases c1 : (16 : Int) < r.before.size
  ·
   repeat apply W.seq
   apply W.regN; simp [hnt, hS1.c0, c1]
   refine W.choose (by simp; rfl) (fun hc => ?_) fun hc => ?_
   · repeat apply W.seq
     apply W.regN; simp [hnt]
     apply W.ret; try simp only [Then, InBlk]
     refine ⟨.inr rfl, rfl, rfl, _, by simp [unwind.results, Tryz.f38]; rfl, _, hS1.learn, ?_⟩
     exact .bad (by decide) (fun h => by have := h.before; omega)
   cases hc
  by_cases c2 : (16 : Int) < r.after.size
  ·
   repeat apply W.seq
   apply W.regN; simp [hnt, hS1.c0, c1, c2]
   refine W.choose (by simp; rfl) (fun hc => ?_) fun hc => ?_
   · repeat apply W.seq
     apply W.regN; simp [hnt]
     apply W.ret; try simp only [Then, InBlk]
     refine ⟨.inr rfl, rfl, rfl, _, by simp [unwind.results, Tryz.f38]; rfl, _, hS1.learn, ?_⟩
     exact .bad (by decide) (fun h => by have := h.after; omega)
   cases hc
  repeat apply W.seq
  apply W.regN; simp [hnt, hS1.c0, c1, c2]
  refine W.choose (by simp; rfl) (fun hc => ?_) fun hc => ?_
  · cases hc
  clear hc
  cases hlf : r.leaf with
  | false =>
   repeat apply W.seq
   apply W.regN; simp [hnt, hS1.c0, hlf]
   refine W.choose (by simp; rfl) (fun hc => ?_) fun hc => ?_
   · cases hc
   repeat apply W.seq
   apply W.regN; simp [hnt, hS1.c0, hlen]
   refine W.choose (by simp; rfl) (fun hc => ?_) fun hc => ?_
   · have c4 : 8 < r.slots.length := by simp at hc; omega
     repeat apply W.seq
     apply W.regN; simp [hnt]
     apply W.ret; try simp only [Then, InBlk]
     refine ⟨.inr rfl, rfl, rfl, _, by simp [unwind.results, Tryz.f38]; rfl, _, hS1.learn, ?_⟩
     exact .bad (by decide) (fun h => by have := h.few; omega)
   have c4 : r.slots.length ≤ 8 := by simp at hc; omega
   apply W.skip; try simp only [Then, InBlk]
   rw [hJ]
   simp
   exact ⟨hS1, by omega, by omega, by simp [hlf], c4⟩
  | true =>
   by_cases c3 : 0 < r.slots.length
   ·
    repeat apply W.seq
    apply W.regN; simp [hnt, hS1.c0, hlf, hlen, c3]
    refine W.choose (by simp; rfl) (fun hc => ?_) fun hc => ?_
    · repeat apply W.seq
      apply W.regN; simp [hnt]
      apply W.ret; try simp only [Then, InBlk]
      refine ⟨.inr rfl, rfl, rfl, _, by simp [unwind.results, Tryz.f38]; rfl, _, hS1.learn, ?_⟩
      exact .bad (by decide) (fun h => by have := h.leaf hlf; rw [this] at c3; simp at c3)
    cases hc
   repeat apply W.seq
   apply W.regN; simp [hnt, hS1.c0, hlf, hlen, c3]
   refine W.choose (by simp; rfl) (fun hc => ?_) fun hc => ?_
   · cases hc
   clear hc
   have c3' : r.slots = [] := List.eq_nil_of_length_eq_zero (by omega)
   repeat apply W.seq
   apply W.regN; simp [hnt, hS1.c0, hlen]
   refine W.choose (by simp; rfl) (fun hc => ?_) fun hc => ?_
   · have c4 : 8 < r.slots.length := by simp at hc; omega
     repeat apply W.seq
     apply W.regN; simp [hnt]
     apply W.ret; try simp only [Then, InBlk]
     refine ⟨.inr rfl, rfl, rfl, _, by simp [unwind.results, Tryz.f38]; rfl, _, hS1.learn, ?_⟩
     exact .bad (by decide) (fun h => by have := h.few; omega)
   have c4 : r.slots.length ≤ 8 := by simp at hc; omega
   apply W.skip; try simp only [Then, InBlk]
   rw [hJ]
   simp
   exact ⟨hS1, by omega, by omega, fun _ => c3', c4⟩
 rw [hJ] at hJ0
 obtain ⟨hS2, d1, d2, d3, d4⟩ := hJ0
 repeat apply W.seq
 apply W.regN; simp [hnt]
 apply W.block
 obtain ⟨I, hI⟩ : ∃ I : Nat → Tr Value → Mem → Prop, I = fun (i : Nat) (t : Tr Value) (m' : Mem) => t.get 5 = some (.int .i64 i) ∧ S (cfg gl ng).toEnv σ m σ m' [(nb, ⟨[.string r.before, .string r.after, .bool r.leaf, sv], none⟩)] ∧ ∀ j s, j < i → r.slots[j]? = some s → SlotOk n s := ⟨_, rfl⟩
 refine W.upto (ws := [32, 33, 34, 35, 36, 39, 40, 41, 42, 43, 6, 45, 46, 47, 44, 4, 49, 50, 51, 52, 48, 54, 55, 56, 57, 58, 59, 60, 61, 62, 63, 64, 53, 37, 38, 5]) (by kernel_rfl) (r.slots.length) I 0 (by omega) (by rw [hI]; exact ⟨by simp, hS2, fun j s h => absurd h (by omega)⟩) ?_
 intro i t m4 hi hfr hIi
 rw [hI] at hIi
 obtain ⟨q5, hS4, hdone⟩ := hIi
 repeat apply W.seq
 apply W.regN; simp [hnt, q5, hS4.c0, hfr, hfr0, hlen]
 refine W.choose (by simp; rfl) (fun hc => ?_) fun hc => ?_
 ·
  have hil : i < r.slots.length := by simpa using hc
  apply W.skip; try simp only [Then, InBlk]
  have hmem : r.slots[i] ∈ r.slots := by simp
  have hgi : r.slots[i]? = some r.slots[i] := by simp [hil]
  obtain ⟨kv, u1, u2, u3, u4⟩ := hs2 i r.slots[i] hgi
  obtain ⟨hmn, hkl⟩ := hl.2 _ hmem
  have hbad : ¬ SlotOk n r.slots[i] → ¬ RuleOk n r := fun h h' => h (h'.slots _ hmem)
  generalize r.slots[i] = sl at *
  obtain ⟨m6, e6, hS6⟩ := hS4.var 55 [.int .u8 0, .slice none 0 0, .string .empty] [.int .u8 sl.many, kv, .string sl.between] (by simp) (by simp [u4.plain]) rfl
  have hS6' := hS6.drop (List.sublist_cons_self _ _)
  repeat apply W.seq
  apply W.block
  repeat apply W.seq
  apply W.regN; simp [hnt, q5, hfr, hfr0, hS4.c0, hS4.kn, K.iy49 hs1 hil, u1, u2, u3, e6]
  apply W.block
  by_cases c1 : 2 < sl.many
  ·
   repeat apply W.seq
   apply W.regN; simp [hnt, hS6.c0, c1]
   refine W.choose (by simp; rfl) (fun hc => ?_) fun hc => ?_
   · repeat apply W.seq
     apply W.regN; simp [hnt]
     apply W.ret; try simp only [Then, InBlk]
     refine ⟨.inr rfl, rfl, rfl, _, by simp [unwind.results, Tryz.f38]; rfl, _, hS6.learn, ?_⟩
     exact .bad (by decide) (hbad (fun h => by have := h.many; omega))
   cases hc
  repeat apply W.seq
  apply W.regN; simp [hnt, hS6.c0, c1]
  refine W.choose (by simp; rfl) (fun hc => ?_) fun hc => ?_
  · cases hc
  by_cases c2 : (16 : Int) < sl.between.size
  ·
   repeat apply W.seq
   apply W.regN; simp [hnt, hS6.c0, c2]
   refine W.choose (by simp; rfl) (fun hc => ?_) fun hc => ?_
   · repeat apply W.seq
     apply W.regN; simp [hnt]
     apply W.ret; try simp only [Then, InBlk]
     refine ⟨.inr rfl, rfl, rfl, _, by simp [unwind.results, Tryz.f38]; rfl, _, hS6.learn, ?_⟩
     exact .bad (by decide) (hbad (fun h => by have := h.between; omega))
   cases hc
  repeat apply W.seq
  apply W.regN; simp [hnt, hS6.c0, c2]
  refine W.choose (by simp; rfl) (fun hc => ?_) fun hc => ?_
  · cases hc
  by_cases c3 : sl.kinds = []
  ·
   have c3' : sl.kinds.length = 0 := by rw [c3]; rfl
   repeat apply W.seq
   apply W.regN; simp [hnt, hS6.c0, u4.len, c3']
   refine W.choose (by simp; rfl) (fun hc => ?_) fun hc => ?_
   · repeat apply W.seq
     apply W.regN; simp [hnt]
     apply W.ret; try simp only [Then, InBlk]
     refine ⟨.inr rfl, rfl, rfl, _, by simp [unwind.results, Tryz.f38]; rfl, _, hS6.learn, ?_⟩
     exact .bad (by decide) (hbad (fun h => h.some c3))
   cases hc
  have c3' : ¬ sl.kinds = [] := c3
  repeat apply W.seq
  apply W.regN; simp [hnt, hS6.c0, hfr, hfr0, u4.len, c3]
  refine Ct.use (Ct.any hS6.wf hS6.holds (f69_ct hS6.wf (IntsK.mono hS6.holds u4) hkl)) (fun σ7 v7 m7 hl7 hv7 => ?_)
  obtain ⟨b, rfl, hb⟩ := hv7
  have hS7 := hS6.grow hl7.grow
  simp [hnt]
  cases b with
  | false =>
   refine W.choose (by simp; rfl) (fun hc => ?_) fun hc => ?_
   · repeat apply W.seq
     apply W.regN; simp [hnt]
     apply W.ret; try simp only [Then, InBlk]
     refine ⟨.inr rfl, rfl, rfl, _, by simp [unwind.results, Tryz.f38]; rfl, _, hS7.learn, ?_⟩
     exact .bad (by decide) (hbad (fun h => by have := hb.2 h.rise; cases this))
   cases hc
  | true =>
   refine W.choose (by simp; rfl) (fun hc => ?_) fun hc => ?_
   · cases hc
   apply W.skip; try simp only [Then, InBlk]
   apply W.regN; simp [hnt, hfr, q5, wr1 (show i < _ by omega)]
   have hok : SlotOk n sl := ⟨⟨hmn, by omega⟩, by omega, c3, hb.1 rfl⟩
   exact ⟨i + 1, by omega, by omega, by rw [hI]; exact ⟨by simp, hS7.drop (List.sublist_cons_self _ _), fun j s hj hs => by by_cases hji : j = i; exact (by rw [hji, hgi] at hs; cases hs; exact hok); exact hdone j s (by omega) hs⟩⟩
 have hil : i = r.slots.length := by
  have : r.slots.length ≤ i := by simpa using hc
  omega
 apply W.exit; try simp [Then, InBlk]
 repeat apply W.seq
 apply W.regN; simp [hnt]
 apply W.ret
 refine ⟨.inr rfl, rfl, rfl, _, by simp [unwind.results, Tryz.f38]; rfl, _, hS4.learn, ?_⟩
 refine .ok ⟨d1, d2, d3, d4, fun s hs => ?_⟩
 obtain ⟨j, hj⟩ := List.mem_iff_getElem?.1 hs
 refine hdone j s ?_ hj
 rcases Nat.lt_or_ge j r.slots.length with h | h
 · omega
 rw [List.getElem?_eq_none h] at hj; cases hj
end Go.Proofs.Lw
namespace Go.Proofs.Lw
open Go Go.Am
variable {g : List RuleD} {nodes : List Int}
theorem Sk.pos {k : Nat} {a : Int} (h : Sk g k a) : 0 < a :=
 Sk.rec (motive_1 := fun _ a _ => 0 < a) (motive_2 := fun _ n _ => 0 ≤ n) (fun _ _ ih => by omega) (by omega) (fun _ _ ih => ih) (fun _ _ _ _ ih1 ih2 => by omega) h
theorem SkL.nonneg {l : List SlotD} {a : Int} (h : SkL g l a) : 0 ≤ a :=
 SkL.rec (motive_1 := fun _ a _ => 0 < a) (motive_2 := fun _ n _ => 0 ≤ n) (fun _ _ ih => by omega) (by omega) (fun _ _ ih => ih) (fun _ _ _ _ ih1 ih2 => by omega) h
theorem choiceGo_min (nodes : List Int) : ∀ (kinds : List Int) (best : Int), (∀ k ∈ kinds, 0 ≤ k) →
 (0 ≤ best → 0 ≤ choiceGo nodes kinds best ∧ at' nodes (choiceGo nodes kinds best) ≤ at' nodes best) ∧
 (∀ k ∈ kinds, 0 < at' nodes k → 0 ≤ choiceGo nodes kinds best ∧ at' nodes (choiceGo nodes kinds best) ≤ at' nodes k)
 | [], best, _ => ⟨fun h => ⟨h, Int.le_refl _⟩, fun k h => by simp at h⟩
 | k :: r, best, hk => by
  simp only [choiceGo]
  have h0 := hk k (by simp)
  have hr : ∀ x ∈ r, 0 ≤ x := fun x hx => hk x (by simp [hx])
  split
  ·
   rename_i hc
   obtain ⟨i1, i2⟩ := choiceGo_min nodes r k hr
   refine ⟨fun hb => ⟨(i1 h0).1, ?_⟩, fun x hx hp => ?_⟩
   · have := (i1 h0).2; omega
   rcases List.mem_cons.1 hx with rfl | hx
   · exact i1 h0
   exact i2 x hx hp
  rename_i hc
  obtain ⟨i1, i2⟩ := choiceGo_min nodes r best hr
  refine ⟨i1, fun x hx hp => ?_⟩
  rcases List.mem_cons.1 hx with rfl | hx
  · have hb : 0 ≤ best := by omega
    have := i1 hb
    exact ⟨this.1, by omega⟩
  exact i2 x hx hp
structure Fixed (g : List RuleD) (nodes : List Int) : Prop where
 good : Good g nodes
 calm : ∀ k, k < g.length → Calm g nodes k
 rules : RulesOk g
def pickR (nodes : List Int) (s : SlotD) : Int := choiceGo nodes s.kinds (-1)
theorem lt_of_get {α : Type} {l : List α} {k : Nat} {x : α} (h : l[k]? = some x) : k < l.length := by
 rcases Nat.lt_or_ge k l.length with h' | h'
 · exact h'
 rw [List.getElem?_eq_none h'] at h; cases h
theorem rules_kinds (h : RulesOk g) {k : Nat} {r : RuleD} (hk : g[k]? = some r) {s : SlotD} (hs : s ∈ r.slots) : KindsOk s.kinds g.length :=
 ((h.rules r (List.mem_of_getElem? hk)).slots s hs).rise.kinds
theorem Sk.inv {k : Nat} {a : Int} (h : Sk g k a) : ∃ r n, g[k]? = some r ∧ a = n + 1 ∧ SkL g r.slots n := by
 cases h with
 | mk hk hs => exact ⟨_, _, hk, rfl, hs⟩
theorem Fixed.minL (h : Fixed g nodes) {l : List SlotD} {n : Int} (hs : SkL g l n) : ∀ n0 : Int, 0 < n0 → n0 + n ≤ 1024 → (∀ s ∈ l, KindsOk s.kinds nodes.length) → 0 < calcR nodes l n0 ∧ calcR nodes l n0 ≤ n0 + n :=
 (SkL.rec (motive_1 := fun k a _ => a ≤ 1024 → 0 < at' nodes k ∧ at' nodes k ≤ a)
  (motive_2 := fun l n _ => 0 ≤ n ∧ ∀ n0 : Int, 0 < n0 → n0 + n ≤ 1024 → (∀ s ∈ l, KindsOk s.kinds nodes.length) → 0 < calcR nodes l n0 ∧ calcR nodes l n0 ≤ n0 + n)
  (fun {k r n} hk _ ih ha => by
   have hkl := lt_of_get hk
   obtain ⟨h1, h2⟩ := ih.2 1 (by omega) (by omega) (fun s hs => by rw [h.good.len]; exact rules_kinds h.rules hk hs)
   have hc := h.calm k hkl r hk
   have hr := h.good.rng k
   omega)
  ⟨by omega, fun n0 h0 h1 _ => by simp [calcR, h0]⟩
  (fun {s l n} hm _ ih => ⟨ih.1, fun n0 h0 h1 hk => by
   simp only [calcR, if_neg (Int.not_le.2 h0), if_pos hm]
   exact ih.2 n0 h0 h1 (fun s hs => hk s (by simp [hs]))⟩)
  (fun {s l k a n} hm hk ha hl ih1 ih2 => ⟨by have := ha.pos; omega, fun n0 h0 h1 hko => by
   have hap := ha.pos
   obtain ⟨p1, p2⟩ := ih1 (by omega)
   have hmin := (choiceGo_min nodes s.kinds (-1) (fun x hx => (hko s (by simp) x hx).1)).2 k hk p1
   have hpos := (choiceGo_spec nodes s.kinds (-1) (fun x hx => (hko s (by simp) x hx).1) (.inl (by omega))).resolve_left (by omega)
   have hm' : ¬ s.many ≠ 0 := by omega
   simp only [calcR, if_neg (Int.not_le.2 h0), if_neg hm']
   rw [if_neg (by omega)]
   have := ih2.2 (n0 + at' nodes (choiceGo nodes s.kinds (-1))) (by omega) (by omega) (fun s hs => hko s (by simp [hs]))
   omega⟩) hs).2
theorem Fixed.min (h : Fixed g nodes) {k : Nat} {a : Int} (hs : Sk g k a) (ha : a ≤ 1024) : 0 < at' nodes k ∧ at' nodes k ≤ a := by
 obtain ⟨r, n, hk, rfl, hl⟩ := hs.inv
 have hkl := lt_of_get hk
 have hn := hl.nonneg
 obtain ⟨h1, h2⟩ := h.minL hl 1 (by omega) (by omega) (fun s hs => by rw [h.good.len]; exact rules_kinds h.rules hk hs)
 have hc := h.calm k hkl r hk
 have hr := h.good.rng k
 omega
def sumR (nodes : List Int) : List SlotD → Int
 | [] => 0
 | s :: l => (if s.many = 0 then at' nodes (pickR nodes s) else 0) + sumR nodes l
theorem calcR_sum : ∀ {l : List SlotD} {n : Int}, 0 < calcR nodes l n → 0 < n ∧ (∀ s ∈ l, s.many = 0 → 0 ≤ pickR nodes s) ∧ calcR nodes l n = n + sumR nodes l
 | [], n, h => by simp [calcR] at h; simp [calcR, sumR, h]
 | s :: l, n, h => by
  simp only [calcR] at h ⊢
  rcases Int.lt_or_le 0 n with h0 | h0
  ·
   rw [if_neg (by omega)] at h ⊢
   by_cases hm : s.many = 0
   ·
    have hm' : ¬ s.many ≠ 0 := by omega
    rw [if_neg hm'] at h ⊢
    by_cases hc : choiceGo nodes s.kinds (-1) < 0 ∨ 1024 < n + at' nodes (choiceGo nodes s.kinds (-1))
    · rw [if_pos hc, calcR_0 (by omega)] at h; omega
    rw [if_neg hc] at h ⊢
    obtain ⟨i1, i2, i3⟩ := calcR_sum h
    refine ⟨h0, fun x hx hxm => ?_, ?_⟩
    · rcases List.mem_cons.1 hx with rfl | hx
      · unfold pickR; omega
      exact i2 x hx hxm
    rw [i3]; simp only [sumR, if_pos hm, pickR]; omega
   rw [if_pos hm] at h ⊢
   obtain ⟨i1, i2, i3⟩ := calcR_sum h
   refine ⟨h0, fun x hx hxm => ?_, ?_⟩
   · rcases List.mem_cons.1 hx with rfl | hx
     · exact absurd hxm hm
     exact i2 x hx hxm
   rw [i3]; simp only [sumR, if_neg hm]; omega
  rw [if_pos h0] at h; omega
theorem Fixed.sum (h : Fixed g nodes) {k : Nat} {r : RuleD} (hk : g[k]? = some r) (h0 : at' nodes k ≠ 0) :
 (∀ s ∈ r.slots, s.many = 0 → 0 ≤ pickR nodes s ∧ pickR nodes s < g.length ∧ 0 < at' nodes (pickR nodes s) ∧ pickR nodes s ∈ s.kinds) ∧ at' nodes k = 1 + sumR nodes r.slots := by
 have hkl := lt_of_get hk
 have hr := h.good.rng k
 obtain ⟨r', n, hk', e, hl⟩ := (h.good.has k h0).inv
 rw [hk] at hk'; cases hk'
 have hko : ∀ s ∈ r.slots, KindsOk s.kinds nodes.length := fun s hs => by rw [h.good.len]; exact rules_kinds h.rules hk hs
 obtain ⟨h1, h2⟩ := h.minL hl 1 (by omega) (by omega) hko
 have hc := h.calm k hkl r hk
 obtain ⟨h3, h4, h5⟩ := calcR_sum h1
 refine ⟨fun s hs hm => ?_, by omega⟩
 have hp := h4 s hs hm
 have h6 := (choiceGo_spec nodes s.kinds (-1) (fun x hx => (hko s hs x hx).1) (.inl (by omega))).resolve_left (by unfold pickR at hp; omega)
 have h7 := choiceGo_lt nodes s.kinds (-1) (hko s hs) (by omega)
 rw [h.good.len] at h7
 exact ⟨hp, h7, h6.2.1, h6.2.2.resolve_right (by unfold pickR at hp; omega)⟩
theorem sumR_nonneg (hg : Good g nodes) : ∀ (l : List SlotD), 0 ≤ sumR nodes l
 | [] => by simp [sumR]
 | s :: l => by
  have := sumR_nonneg hg l
  have := hg.rng (pickR nodes s)
  simp only [sumR]; split <;> omega
theorem sumR_mem (hg : Good g nodes) : ∀ {l : List SlotD} {s : SlotD}, s ∈ l → s.many = 0 → at' nodes (pickR nodes s) ≤ sumR nodes l
 | [], s, h, _ => by simp at h
 | x :: l, s, h, hm => by
  have h1 := sumR_nonneg hg l
  have h2 := hg.rng (pickR nodes x)
  rcases List.mem_cons.1 h with rfl | h
  · simp only [sumR, if_pos hm]; omega
  have := sumR_mem hg h hm
  simp only [sumR]; split <;> omega
def leastT (g : List RuleD) (pick : SlotD → Int) : Nat → Nat → T
 | 0, k => .mk k .empty []
 | f + 1, k => match g[k]? with
  | none => .mk k .empty []
  | some r => .mk k .empty (r.slots.map fun s => if s.many = 0 then [leastT g pick f (pick s).toNat] else [])
theorem leastT_fuel (h : Fixed g nodes) : ∀ (N M k : Nat), at' nodes k ≠ 0 → at' nodes k ≤ N → at' nodes k ≤ M → leastT g (pickR nodes) N k = leastT g (pickR nodes) M k := by
 intro N
 induction N with
 | zero => intro M k h0 h1; have := h.good.rng k; omega
 | succ N ih =>
  intro M k h0 h1 h2
  cases M with
  | zero => have := h.good.rng k; omega
  | succ M =>
   simp only [leastT]
   cases hk : g[k]? with
   | none => rfl
   | some r =>
    simp only
    congr 1
    apply List.map_congr_left
    intro s hs
    split
    · rename_i hm
      obtain ⟨p1, p2⟩ := h.sum hk h0
      obtain ⟨q1, q2, q3, q4⟩ := p1 s hs hm
      have := sumR_mem h.good hs hm
      rw [ih M (pickR nodes s).toNat (by rw [Int.toNat_of_nonneg q1]; omega) (by rw [Int.toNat_of_nonneg q1]; omega) (by rw [Int.toNat_of_nonneg q1]; omega)]
    rfl
end Go.Proofs.Lw
namespace Go.Proofs.Lw
open Go Go.Am
set_option maxRecDepth 8000
variable {gl : Nat → Nat → Option Value} {ng : Nat}
theorem mk_of {E : Env} {t e : TypeId} {z : Value} (hu : und E t = some (.slice e)) (hi : ((E.P.info? e).map fun i => decide (i.size = 1) && decide (i.bytes ≤ 1048576)) = some true) (hz : zeroOf E e = some z) (hp : plainV z = true) {m : Mem} {n : Nat} (hn : n ≤ 1048576) :
 opMakeSlice E t (.int .i64 n) (.int .i64 n) m = .value (.slice (some ⟨m.nb, 0, none⟩) n (mkCap n true)) (m.new (.cells (cellsOf (List.replicate n z) e))) := by
 cases h1 : E.P.info? e with
 | none => rw [h1] at hi; cases hi
 | some i =>
  rw [h1] at hi
  simp at hi
  obtain ⟨h2, h3⟩ := hi
  have hcond : (decide ((0 : Int) ≤ n) && decide ((n : Int) ≤ n) && decide ((n : Int) ≤ 1048576) && decide (i.bytes ≤ 1048576)) = true := by
   simp; omega
  unfold opMakeSlice
  rw [hu]
  simp only [h1]
  rw [hcond]
  simp only [if_true, Int.toNat_natCast, h2, Nat.mul_one]
  by_cases h0 : n = 0
  · subst h0
    simp [Mem.newCells, mkCap]
  rw [if_neg h0, hz]
  simp only
  have e : ((Array.range n).map fun j => z.cells[j % z.cells.size]!).toList = List.replicate n z := by
   rw [Array.toList_map, Array.toList_range]
   apply List.ext_getElem
   · simp
   intro j h1 h2
   simp [plain_cells hp, Nat.mod_one]
  rw [e]
  unfold Mem.newCells
  rw [if_pos (by simp [hp])]
theorem mk25 {m : Mem} {n : Nat} (hn : n ≤ 1048576) : opMakeSlice (cfg gl ng).toEnv 25 (.int .i64 n) (.int .i64 n) m =
 .value (.slice (some ⟨m.nb, 0, none⟩) n (mkCap n true)) (m.new (.cells (cellsOf (List.replicate n (.slice none 0 0)) 59))) :=
 mk_of (by kernel_rfl) (by kernel_rfl) (by kernel_rfl) rfl hn
theorem info27' : ((cfg gl ng).toEnv.P.info? 27).isSome = true := by kernel_rfl
theorem zero27' : zeroOf (cfg gl ng).toEnv 27 = some (.agg #[.int .i64 0, .string .empty, .slice none 0 0]) := by kernel_rfl
theorem und59' : und (cfg gl ng).toEnv 59 = some (.slice 27) := by kernel_rfl
theorem sz27' : szOf (cfg gl ng).toEnv 27 = 3 := by kernel_rfl
theorem bs59 {m : Mem} {x y z : Value} (hx : plainV x = true) (hy : plainV y = true) (hz : plainV z = true) : opBuildSlice (cfg gl ng).toEnv 59 1 [(0, .agg #[x, y, z])] m =
 .value (.slice (some ⟨m.nb, 0, none⟩) 1 (mkCap 1 true)) (m.new (.cells (cellsOf [x, y, z] 27))) := by
 have e : Instr.fill (fun i => some (i * szOf (cfg gl ng).toEnv 27, szOf (cfg gl ng).toEnv 27)) ((Array.range (1 * szOf (cfg gl ng).toEnv 27)).map ((Value.agg #[Value.int .i64 0, .string .empty, .slice none 0 0]).cells[· % (Value.agg #[Value.int .i64 0, .string .empty, .slice none 0 0]).cells.size]!)) [(0, .agg #[x, y, z])] = some #[x, y, z] := by
  rw [fill_eq, sz27']
  kernel_rfl
 unfold opBuildSlice
 simp only [und59', defd_agg, List.all_cons, List.all_nil, Bool.and_self, info27', sz27', Bool.true_and]
 rw [if_pos (by decide), if_neg (by decide)]
 simp only [zero27']
 rw [sz27'] at e
 rw [e]
 simp [Mem.newCells, hx, hy, hz]
theorem TreeK.agg {σ : Kn} {v : Value} {t : T} (h : TreeK σ v t) : ∃ x y z, v = .agg #[x, y, z] ∧ plainV x = true ∧ plainV y = true ∧ plainV z = true := by
 obtain ⟨k, tx, ss⟩ := t
 simp only [TreeK] at h
 obtain ⟨sv, b, o, rfl, h2, h3⟩ := h
 exact ⟨_, _, _, rfl, by simp, by simp, h2.plain⟩
theorem S.tree1 {E : Env} {σ0 σ : Kn} {m0 m : Mem} {L : List (Nat × Cl)} (h : S E σ0 m0 σ m L) {x y z : Value} {t : T} (ht : TreeK σ (.agg #[x, y, z]) t) (hx : plainV x = true) (hy : plainV y = true) (hz : plainV z = true) :
 ∃ σ', σ.le σ' ∧ S E σ0 m0 σ' (m.new (.cells (cellsOf [x, y, z] 27))) L ∧ TreesK σ' m.nb 0 [t] := by
 obtain ⟨σ', hle, h', hn⟩ := (h.new (vs := [x, y, z]) 27 (by simp [hx, hy, hz])).freeze (i := 0) rfl
 refine ⟨σ', hle, h', ?_⟩
 simp only [TreesK, and_true]
 exact ⟨x, y, z, by rw [hn]; rfl, by rw [hn]; rfl, by rw [hn]; rfl, ht.mono hle⟩
theorem beq_slice {v : Value} {n b o : Nat} (h : SliceAt v n b o) (k : Nat) : beqV k v v = true := by
 rcases h with ⟨rfl, _⟩ | ⟨c, rfl⟩ <;> (cases k <;> simp [beqV])
def RowsK (σ : Kn) (vs : List Value) (ss : List (List T)) : Prop := vs.length = ss.length ∧ ∀ (j : Nat) (l : List T), ss[j]? = some l → ∃ v b o, vs[j]? = some v ∧ SliceAt v l.length b o ∧ TreesK σ b o l
theorem RowsK.mono {σ σ' : Kn} (h : σ.le σ') {vs : List Value} {ss : List (List T)} (hr : RowsK σ vs ss) : RowsK σ' vs ss := by
 refine ⟨hr.1, fun j l hl => ?_⟩
 obtain ⟨v, b, o, h1, h2, h3⟩ := hr.2 j l hl
 exact ⟨v, b, o, h1, h2, h3.mono h⟩
theorem RowsK.set {σ : Kn} {vs : List Value} {ss : List (List T)} (hr : RowsK σ vs ss) {i : Nat} {v : Value} {l : List T} {b o : Nat} (hi : i < ss.length) (hv : SliceAt v l.length b o) (ht : TreesK σ b o l) : RowsK σ (vs.set i v) (ss.set i l) := by
 refine ⟨by simp [hr.1], fun j x hx => ?_⟩
 rw [List.getElem?_set] at hx ⊢
 by_cases hij : i = j
 · subst hij
   rw [if_pos rfl, if_pos hi] at hx
   cases hx
   exact ⟨v, b, o, by simp [hr.1, hi], hv, ht⟩
 rw [if_neg hij] at hx ⊢
 exact hr.2 j x hx
theorem RowsK.slots {σ : Kn} {nb : Nat} : ∀ {ss : List (List T)} {vs : List Value} {o : Nat}, RowsK σ vs ss → (∀ j v, vs[j]? = some v → σ nb (o + j) = some v) → SlotsK σ nb o ss
 | [], _, _, _, _ => by simp only [SlotsK]
 | l :: r, vs, o, h, hn => by
  obtain ⟨v, b, o', h1, h2, h3⟩ := h.2 0 l rfl
  cases vs with
  | nil => simp at h1
  | cons x vs =>
   simp at h1
   subst h1
   simp only [SlotsK]
   refine ⟨⟨x, b, o', by simpa using hn 0 x rfl, h2, h3⟩, RowsK.slots (vs := vs) ⟨by simpa using h.1, fun j l' hl' => by simpa using h.2 (j + 1) l' (by simpa using hl')⟩ (fun j v hv => ?_)⟩
   have := hn (j + 1) v (by simpa using hv)
   rwa [show o + 1 + j = o + (j + 1) by omega]
theorem splice_one {l : List Value} {k : Nat} {v : Value} (hk : k < l.length) : splice l k [v] = l.set k v := by
 unfold splice
 apply List.ext_getElem?
 intro j
 rw [List.getElem?_set]
 rcases Nat.lt_trichotomy j k with h | h | h
 · rw [List.append_assoc, List.getElem?_append_left (by simp; omega), List.getElem?_take, if_pos h, if_neg (by omega)]
 · subst h
   rw [List.append_assoc, List.getElem?_append_right (by simp; omega), if_pos rfl, if_pos hk]
   have : min j l.length = j := by omega
   simp [this]
 rw [List.getElem?_append_right (by simp; omega), if_neg (by omega), List.getElem?_drop]
 simp
 congr 1
 omega
theorem S.set1 {E : Env} {σ0 σ : Kn} {m0 m : Mem} {L : List (Nat × Cl)} (h : S E σ0 m0 σ m L) {i b : Nat} {k : Cl} (hi : L[i]? = some (b, k)) {o : Nat} {v : Value} (hn : o < k.vs.length) (hp : plainV v = true) :
 ∃ m', m.write b o [v] = some m' ∧ S E σ0 m0 σ m' (L.set i (b, { k with vs := k.vs.set o v })) := by
 obtain ⟨m', e, h'⟩ := h.write hi (o := o) (vs := [v]) (by simp; omega) (by simp [hp])
 rw [splice_one hn] at h'
 exact ⟨m', e, h'⟩
theorem S.setAll {E : Env} {σ0 σ : Kn} {m0 m : Mem} {L : List (Nat × Cl)} (h : S E σ0 m0 σ m L) {i b : Nat} {k : Cl} (hi : L[i]? = some (b, k)) {vs : List Value} (hn : k.vs.length = vs.length) (hp : vs.all plainV = true) :
 ∃ m', m.write b 0 vs = some m' ∧ S E σ0 m0 σ m' (L.set i (b, { k with vs })) := by
 obtain ⟨m', e, h'⟩ := h.write hi (o := 0) (vs := vs) (by omega) hp
 have : splice k.vs 0 vs = vs := by simp [splice, hn]
 rw [this] at h'
 exact ⟨m', e, h'⟩
def rowsAt (l : List (List T)) (i : Nat) : List (List T) := l.take i ++ List.replicate (l.length - i) []
theorem rowsAt_get {l : List (List T)} {i j : Nat} (hj : j < l.length) : (rowsAt l i)[j]? = if j < i then l[j]? else some [] := by
 unfold rowsAt
 split
 · rename_i h
   rw [List.getElem?_append_left (by simp; omega), List.getElem?_take, if_pos h]
 rename_i h
 rw [List.getElem?_append_right (by simp; omega), List.getElem?_replicate, if_pos (by simp; omega)]
theorem rowsAt_len {l : List (List T)} {i : Nat} (hi : i ≤ l.length) : (rowsAt l i).length = l.length := by simp [rowsAt]; omega
theorem rowsAt_end {l : List (List T)} : rowsAt l l.length = l := by simp [rowsAt]
theorem rowsAt_succ {l : List (List T)} {i : Nat} {x : List T} (hi : l[i]? = some x) : (rowsAt l i).set i x = rowsAt l (i + 1) := by
 have hil := lt_of_get hi
 apply List.ext_getElem?
 intro j
 rcases Nat.lt_or_ge j l.length with hj | hj
 ·
  rw [List.getElem?_set, rowsAt_get hj, rowsAt_get hj, rowsAt_len (by omega)]
  by_cases hij : i = j
  · subst hij; rw [if_pos rfl, if_pos hil, if_pos (by omega), hi]
  rw [if_neg hij]
  by_cases h2 : j < i
  · rw [if_pos h2, if_pos (by omega)]
  rw [if_neg h2, if_neg (by omega)]
 rw [List.getElem?_eq_none (by rw [List.length_set, rowsAt_len (by omega)]; exact hj), List.getElem?_eq_none (by rw [rowsAt_len (by omega)]; exact hj)]
theorem rowsAt_skip {l : List (List T)} {i : Nat} (hi : l[i]? = some []) : rowsAt l (i + 1) = rowsAt l i := by
 rw [← rowsAt_succ hi]
 have hil := lt_of_get hi
 apply List.ext_getElem?
 intro j
 rw [List.getElem?_set]
 by_cases h : i = j
 · subst h
   rw [if_pos rfl, rowsAt_len (by omega), if_pos hil, rowsAt_get hil, if_neg (by omega)]
 rw [if_neg h]
theorem f40_ok : ∀ (N : Nat) (k : Nat) (σ : Kn) (m : Mem) (rv nv : Value) (g : List RuleD) (nodes : List Int), WF m → Holds (cfg gl ng).toEnv σ m → RulesV σ rv g → IntsK σ nv nodes → Fixed g nodes → k < g.length → at' nodes k ≠ 0 → at' nodes k ≤ N →
 Ct gl ng 40 [.agg #[rv], nv, .int .i64 k] σ m (fun σ' r => TreeK σ' r (leastT g (pickR nodes) N k)) := by
 intro N
 induction N with
 | zero => intro k σ m rv nv g nodes _ _ _ _ hf _ h0 h1; have := hf.good.rng k; omega
 | succ N ih =>
  intro k σ m rv nv g nodes hw hh hg hn hf hk h0 hN
  refine Ct.of (c := _) Tryz.func40 rfl 51 rfl (fun c hnt => ?_)
  have hgV := hg
  obtain ⟨bg, og, hg1, hg2⟩ := hg
  have hgk : g[k]? = some g[k] := by simp [hk]
  obtain ⟨sv, r1, r2, r3, r4, hsV⟩ := hg2 k g[k] hgk
  have hr := hf.rules.rules g[k] (by simp)
  have hsum := hf.sum hgk h0
  have hT : leastT g (pickR nodes) (N + 1) k = .mk k .empty (g[k].slots.map fun s => if s.many = 0 then [leastT g (pickR nodes) N (pickR nodes s).toNat] else []) := by simp only [leastT, hgk]
  have hko : ∀ s ∈ g[k].slots, KindsOk s.kinds g.length := fun s hs => rules_kinds hf.rules hgk hs
  have hmem := fun s (hs : s ∈ g[k].slots) (hm : s.many = 0) => sumR_mem hf.good hs hm
  generalize g[k] = r at *
  obtain ⟨bs, os, hs1, hs2⟩ := hsV
  have hsl : r.slots.length ≤ 8 := hr.few
  have hS := S.start hw hh
  obtain ⟨m1, nbg, hbx, hS1⟩ := hS.box 24 #[rv] (by simp [hg1.plain])
  have hS2 := hS1.new (vs := [.int .i64 0, .string .empty, .slice none 0 0]) 27 (by simp)
  repeat apply W.seq
  apply W.regN; simp [hnt, hbx]
  generalize m1.new (.cells (cellsOf [.int .i64 0, .string .empty, .slice none 0 0] 27)) = m2 at *
  generalize m1.nb = nb6 at *
  obtain ⟨m3, e3, hS3⟩ := hS2.var 51 [.string .empty, .string .empty, .bool false, .slice none 0 0] [.string r.before, .string r.after, .bool r.leaf, sv] (by simp) (by simp [hs1.plain]) rfl
  repeat apply W.seq
  apply W.regN; simp [hnt, hS2.c1, hS2.kn, K.iy22 hg1 hk, r1, r2, r3, r4, e3]
  generalize m2.nb = nb7 at *
  have hlen : ∀ m', opLen (cfg gl ng) 49 sv m' = .value (.int .i64 r.slots.length) m' := fun m' => K.ly49 hs1
  have hmk := mk25 (gl := gl) (ng := ng) (m := m3) (n := r.slots.length) (by omega)
  have hS4 := hS3.new (vs := List.replicate r.slots.length (.slice none 0 0)) 59 (by simp)
  generalize hav : Value.slice (some ⟨m3.nb, 0, none⟩) r.slots.length (mkCap r.slots.length true) = av at hmk
  have hpa : plainV av = true := by rw [← hav]; simp
  have hbu := K.bu27_0_2 (gl := gl) (ng := ng) (m := m3.new (.cells (cellsOf (List.replicate r.slots.length (.slice none 0 0)) 59))) (x0 := .int .i64 k) (x2 := av) (by simp) hpa
  generalize m3.new (.cells (cellsOf (List.replicate r.slots.length (.slice none 0 0)) 59)) = m4 at *
  obtain ⟨m5, e5, hS5⟩ := hS4.var 27 [.int .i64 0, .string .empty, .slice none 0 0] [.int .i64 k, .string .empty, av] (by simp) (by simp [hpa]) rfl
  repeat apply W.seq
  apply W.regN; simp [hnt, hS3.c0, hlen, hmk, hbu, e5]
  generalize m4.nb = nb8 at *
  have hax : ∀ i : Nat, i < r.slots.length → ∀ m', opIndexAddr (cfg gl ng).toEnv 25 av (.int .i64 i) m' = .value (.pointer (some ⟨m3.nb, i, none⟩)) m' := by
   intro i hi m'
   rw [← hav, K.ix25 hi, Nat.zero_add]
  generalize m3.nb = nba at *
  obtain ⟨rows, hrows⟩ : ∃ rows : List (List T), rows = r.slots.map fun s => if s.many = 0 then [leastT g (pickR nodes) N (pickR nodes s).toNat] else [] := ⟨_, rfl⟩
  have hrl : rows.length = r.slots.length := by rw [hrows]; simp
  have hnlen := hf.good.len
  have hfew := hf.rules.few
  repeat apply W.seq
  apply W.regN; simp [hnt]
  apply W.block
  obtain ⟨I, hI⟩ : ∃ I : Nat → Tr Value → Mem → Prop, I = fun (i : Nat) (t : Tr Value) (m' : Mem) => t.get 9 = some (.int .i64 i) ∧ ∃ σ' vs, σ.le σ' ∧ S (cfg gl ng).toEnv σ m σ' m' [(nb8, ⟨[.int .i64 k, .string .empty, av], none⟩), (nba, ⟨vs, none⟩), (nb7, ⟨[.string r.before, .string r.after, .bool r.leaf, sv], none⟩), (nb6, ⟨[.int .i64 0, .string .empty, .slice none 0 0], none⟩), (nbg, ⟨[rv], none⟩)] ∧ RowsK σ' vs (rowsAt rows i) := ⟨_, rfl⟩
  refine W.upto (ws := [21, 22, 23, 24, 25, 28, 29, 30, 31, 32, 33, 34, 35, 36, 37, 38, 39, 40, 41, 42, 43, 44, 45, 46, 47, 48, 49, 26, 27, 9]) (by kernel_rfl) (r.slots.length) I 0 (by omega) (by rw [hI]; exact ⟨by simp, σ, _, Kn.le_refl σ, hS5, by simp [rowsAt, hrl], fun j l hl => by simp [rowsAt, List.getElem?_replicate] at hl; obtain ⟨hj, rfl⟩ := hl; exact ⟨.slice none 0 0, 0, 0, by simp [List.getElem?_replicate]; omega, .inl ⟨rfl, rfl⟩, by simp only [TreesK]⟩⟩) ?_
  intro i t m6 hi hfr hIi
  rw [hI] at hIi
  obtain ⟨q9, σ6, vs, hle6, hS6, hR⟩ := hIi
  have hvl : vs.length = r.slots.length := by rw [hR.1, rowsAt_len (by omega), hrl]
  repeat apply W.seq
  apply W.regN; simp [hnt, q9, hfr, hS6.c2, hlen]
  refine W.choose (by simp; rfl) (fun hc => ?_) fun hc => ?_
  ·
   have hil : i < r.slots.length := by simpa using hc
   apply W.skip; try simp only [Then, InBlk]
   have hgi : r.slots[i]? = some r.slots[i] := by simp [hil]
   have hsm : r.slots[i] ∈ r.slots := by simp
   have hrow : rows[i]? = some (if r.slots[i].many = 0 then [leastT g (pickR nodes) N (pickR nodes r.slots[i]).toNat] else []) := by rw [hrows]; simp [hgi]
   obtain ⟨kv, u1, u2, u3, u4⟩ := hs2 i r.slots[i] hgi
   have u1' := hle6 _ _ _ u1
   have u2' := hle6 _ _ _ u2
   have u3' := hle6 _ _ _ u3
   have u4' := u4.mono hle6
   have hko' := hko _ hsm
   have hsum' := hsum.1 _ hsm
   have hmem' := hmem _ hsm
   have hrl' := ((hr.slots _ hsm).rise).len
   generalize r.slots[i] = sl at *
   repeat apply W.seq
   apply W.block
   by_cases hmany : sl.many = 0
   ·
    obtain ⟨s1, s2, s3, s4⟩ := hsum' hmany
    have s5 := hmem' hmany
    rw [if_pos hmany] at hrow
    repeat apply W.seq
    apply W.regN; simp [hnt, q9, hfr, hS6.c2, hS6.kn, K.iy49 hs1 hil, u1', hmany]
    refine W.choose (by simp; rfl) (fun hc => ?_) fun hc => ?_
    ·
     refine W.regU [(11, 1), (11, 3), (12, 1), (13, 1)] [11, 12, 1, 3, 13, 14] (by as_aux_lemma => kernel_rfl) ?_
     simp [hnt, q9, hfr, hS6.c0, hS6.c2, hS6.c4, hS6.kn, K.iy49 hs1 hil, u1', u2', u3']
     refine Ct.use (Ct.any hS6.wf hS6.holds (f66_ok hS6.wf (IntsK.mono hS6.holds u4') (IntsK.mono hS6.holds (hn.mono hle6)) (by simp) (by simp) (by rw [hnlen]; exact hko') (by omega))) (fun σ7 v7 m7 hl7 hv7 => ?_)
     subst hv7
     have hS7 := hS6.grow hl7.grow
     obtain ⟨cn, hcn⟩ : ∃ cn : Nat, choiceGo nodes sl.kinds (-1) = cn := ⟨(choiceGo nodes sl.kinds (-1)).toNat, by unfold pickR at s1; omega⟩
     have hcn' : pickR nodes sl = cn := hcn
     rw [hcn'] at s1 s2 s3 s5 hrow
     simp [hnt, hcn]
     refine Ct.use (ih cn σ6 m7 rv nv g nodes hS7.wf hS7.holds (hgV.mono hle6) (hn.mono hle6) hf (by omega) (by omega) (by omega)) (fun σ8 v8 m8 hl8 hv8 => ?_)
     obtain ⟨x, y, z, rfl, px, py, pz⟩ := hv8.agg
     have hS8 := hS7.learn' hl8
     obtain ⟨σ9, hle9, hS9, ht9⟩ := hS8.tree1 hv8 px py pz
     obtain ⟨m10, e10, hS10⟩ := hS9.set1 (i := 1) rfl (o := i) (v := .slice (some ⟨m8.nb, 0, none⟩) 1 (mkCap 1 true)) (by simp [hvl, hil]) (by simp)
     simp [hnt, bs59 px py pz, hax i hil, e10]
     refine ⟨?_, ?_⟩
     · simp [looseOk, getS, againOk, quiet, still, beqV, hfr, q9, hS6.c0, hS6.c4, hS7.c0, hS7.c4, hS8.c0, hS8.c4, hS9.c0, hS9.c4, beq_slice hg1, show beqV 9 av av = true by rw [← hav]; simp [beqV]]
     apply W.regN; simp [hnt, q9, wr1 (show i < _ by omega)]
     exact ⟨i + 1, by omega, by omega, by rw [hI]; exact ⟨by simp, σ9, _, Kn.le_trans hle6 (Kn.le_trans hl8.le hle9), hS10, by rw [← rowsAt_succ hrow]; exact (hR.mono (Kn.le_trans hl8.le hle9)).set (by rw [rowsAt_len (by omega)]; omega) (.inr ⟨_, rfl⟩) (by rw [Int.toNat_natCast]; exact ht9)⟩⟩
    cases hc
   rw [if_neg hmany] at hrow
   repeat apply W.seq
   apply W.regN; simp [hnt, q9, hfr, hS6.c2, hS6.kn, K.iy49 hs1 hil, u1', hmany]
   refine W.choose (by simp; rfl) (fun hc => ?_) fun hc => ?_
   · cases hc
   apply W.skip; try simp only [Then, InBlk]
   apply W.regN; simp [hnt, hfr, q9, wr1 (show i < _ by omega)]
   exact ⟨i + 1, by omega, by omega, by rw [hI]; exact ⟨by simp, σ6, vs, hle6, hS6, by rw [rowsAt_skip hrow]; exact hR⟩⟩
  have hil : i = r.slots.length := by
   have : r.slots.length ≤ i := by simpa using hc
   omega
  apply W.exit; try simp [Then, InBlk]
  rw [hil, ← hrl, rowsAt_end] at hR
  obtain ⟨m7, e7, hS7⟩ := hS6.setAll (i := 3) rfl (vs := [.int .i64 k, .string .empty, av]) rfl (by simp [hpa])
  repeat apply W.seq
  apply W.regN; simp [hnt, hfr, hS6.c0, e7]
  obtain ⟨σ8, hle8, hS8, hn8⟩ := hS7.freeze (i := 1) rfl
  apply W.ret
  refine ⟨.inr rfl, rfl, rfl, _, by simp [unwind.results, Tryz.f40, addrOf, loadV, K.is27, K.zs27, Mem.loadN, hfr, hS7.c3]; rfl, _, hS8.learn, ?_⟩
  simp only [retV, hT, TreeK]
  refine ⟨av, nba, 0, rfl, .inr ⟨mkCap r.slots.length true, ?_⟩, ?_⟩
  · rw [List.length_map]; exact hav.symm
  rw [← hrows]
  exact (hR.mono hle8).slots (fun j v hj => by rw [Nat.zero_add, hn8]; exact hj)
end Go.Proofs.Lw
namespace Go.Proofs.Lw
open Go Go.Am
variable {g : List RuleD} {ns : List Int}
theorem Fixed.size (h : Fixed g ns) : ∀ (N k : Nat), at' ns k ≠ 0 → at' ns k ≤ N → (wt (leastT g (pickR ns) N k) : Int) ≤ 9 * at' ns k ∧ (nodes (leastT g (pickR ns) N k) : Int) = at' ns k := by
 intro N
 induction N with
 | zero => intro k h0 h1; have := h.good.rng k; omega
 | succ N ih =>
  intro k h0 h1
  have hr := h.good.rng k
  have hkl : k < g.length := by
   rcases Nat.lt_or_ge k g.length with h' | h'
   · exact h'
   exfalso; apply h0; simp only [at', Int.toNat_natCast, List.getD_eq_getElem?_getD]; rw [List.getElem?_eq_none (by rw [h.good.len]; exact h')]; rfl
  have hk : g[k]? = some g[k] := by simp [hkl]
  have hru := h.rules.rules g[k] (by simp)
  obtain ⟨h2, h3⟩ := h.sum hk h0
  simp only [leastT, hk]
  generalize g[k] = r at *
  have key : ∀ l : List SlotD, (∀ s ∈ l, s ∈ r.slots) → (wtSS (l.map fun s => if s.many = 0 then [leastT g (pickR ns) N (pickR ns s).toNat] else []) : Int) ≤ l.length + 9 * sumR ns l ∧
   (nodesSS (l.map fun s => if s.many = 0 then [leastT g (pickR ns) N (pickR ns s).toNat] else []) : Int) = sumR ns l := by
   intro l
   induction l with
   | nil => intro _; simp [wtSS, nodesSS, sumR]
   | cons s l ihl =>
    intro hl
    obtain ⟨i1, i2⟩ := ihl (fun x hx => hl x (by simp [hx]))
    simp only [List.map_cons, wtSS, nodesSS, sumR, List.length_cons]
    by_cases hm : s.many = 0
    · obtain ⟨p1, p2, p3, p4⟩ := h2 s (hl s (by simp)) hm
      have p5 := sumR_mem h.good (hl s (by simp)) hm
      obtain ⟨j1, j2⟩ := ih (pickR ns s).toNat (by rw [Int.toNat_of_nonneg p1]; omega) (by rw [Int.toNat_of_nonneg p1]; omega)
      rw [Int.toNat_of_nonneg p1] at j1 j2
      simp only [if_pos hm, wtL, nodesL]
      omega
    simp only [if_neg hm, wtL, nodesL]
    omega
  obtain ⟨k1, k2⟩ := key r.slots (fun s hs => hs)
  have hfew := hru.few
  simp only [wt, nodes]
  have : (r.slots.length : Int) ≤ 8 := by omega
  omega
structure MinL (g : List RuleD) (ns : List Int) : Prop where
 len : ns.length = g.length
 rng : ∀ k : Nat, k < g.length → 0 < at' ns k ∧ at' ns k ≤ 1024
 has : ∀ k : Nat, k < g.length → Sk g k (at' ns k)
 min : ∀ (k : Nat) (a : Int), k < g.length → Sk g k a → at' ns k ≤ a
theorem list_at' {a b : List Int} (hl : a.length = b.length) (h : ∀ k : Nat, k < a.length → at' a k = at' b k) : a = b := by
 apply List.ext_getElem hl
 intro i h1 h2
 have := h i h1
 simpa [at', h1, h2] using this
theorem MinL.eq {a b : List Int} (h : MinL g a) (h' : MinL g b) : a = b :=
 list_at' (by rw [h.len, h'.len]) (fun k hk => by
  rw [h.len] at hk
  have h1 := h.min k _ hk (h'.has k hk)
  have h2 := h'.min k _ hk (h.has k hk)
  omega)
theorem Fixed.minl (h : Fixed g ns) (h0 : ∀ k : Nat, k < g.length → at' ns k ≠ 0) : MinL g ns := by
 refine ⟨h.good.len, fun k hk => ?_, fun k hk => h.good.has k (h0 k hk), fun k a hk hs => ?_⟩
 · have := h.good.rng k; have := h0 k hk; omega
 rcases Int.lt_or_le 1024 a with h1 | h1
 · have := h.good.rng k; omega
 exact (h.min hs h1).2
theorem Fixed.of_minl (h : Fixed g ns) {ns0 : List Int} (h' : MinL g ns0) : ns = ns0 := by
 have h0 : ∀ k : Nat, k < g.length → at' ns k ≠ 0 := fun k hk => by
  have := h'.rng k hk
  have := h.min (h'.has k hk) (by omega)
  omega
 exact (h.minl h0).eq h'
structure OkG (g : List RuleD) : Prop where
 rules : RulesOk g
 least : ∃ ns, MinL g ns ∧ ∀ k, k < g.length → depth (leastT g (pickR ns) 1024 k) ≤ 24
theorem lowGo_min (sizes : List Int) : ∀ (kinds : List Int) (best : Int), at' sizes (lowGo sizes kinds best) ≤ at' sizes best ∧ ∀ k ∈ kinds, at' sizes (lowGo sizes kinds best) ≤ at' sizes k
 | [], best => ⟨Int.le_refl _, fun k h => by simp at h⟩
 | k :: r, best => by
  simp only [lowGo]
  split
  · rename_i hc
    obtain ⟨i1, i2⟩ := lowGo_min sizes r k
    exact ⟨by omega, fun x hx => by rcases List.mem_cons.1 hx with rfl | hx; exact i1; exact i2 x hx⟩
  rename_i hc
  obtain ⟨i1, i2⟩ := lowGo_min sizes r best
  exact ⟨i1, fun x hx => by rcases List.mem_cons.1 hx with rfl | hx; omega; exact i2 x hx⟩
theorem low_min {sizes kinds : List Int} {k : Int} (h : k ∈ kinds) : at' sizes (low sizes kinds) ≤ at' sizes k := (lowGo_min sizes kinds _).2 k h
theorem calcP_le (hm : ∀ (k : Nat) (a : Int), Sk g k a → at' ns k ≤ a) : ∀ {l : List SlotD} {n : Int}, SkL g l n → ∀ n0, calcP ns l n0 ≤ n0 + n
 | [], n, h, n0 => by cases h; simp [calcP]
 | s :: l, n, h, n0 => by
  cases h with
  | skip hs hl => simp only [calcP, if_neg hs]; exact calcP_le hm hl n0
  | one hs hk ha hl =>
   rename_i k a n
   simp only [calcP, if_pos hs]
   have h1 := calcP_le hm hl (min (n0 + at' ns (low ns s.kinds)) much)
   have h2 := low_min (sizes := ns) hk
   have h3 := hm k a ha
   omega
theorem GoodP.min (h : GoodP g ns) (hc : ∀ k, k < g.length → CalmP g ns k) {k : Nat} {a : Int} (hs : Sk g k a) : at' ns k ≤ a :=
 Sk.rec (motive_1 := fun k a _ => at' ns k ≤ a) (motive_2 := fun l n _ => 0 ≤ n ∧ ∀ n0, calcP ns l n0 ≤ n0 + n)
  (fun {k r n} hk _ ih => by
   have hkl := lt_of_get hk
   have h1 := ih.2 1
   have h2 := hc k hkl r hk
   omega)
  ⟨by omega, fun n0 => by simp [calcP]⟩
  (fun {s l n} hs _ ih => ⟨ih.1, fun n0 => by simp only [calcP, if_neg hs]; exact ih.2 n0⟩)
  (fun {s l k a n} hs hk ha hl ih1 ih2 => ⟨by have := ha.pos; omega, fun n0 => by
   simp only [calcP, if_pos hs]
   have h1 := ih2.2 (Min.min (n0 + at' ns (low ns s.kinds)) much)
   have h2 := low_min (sizes := ns) hk
   omega⟩) hs
theorem GoodP.eq (h : GoodP g ns) (hc : ∀ k, k < g.length → CalmP g ns k) {ns0 : List Int} (h' : MinL g ns0) : ns = ns0 :=
 list_at' (by rw [h.len, h'.len]) (fun k hk => by
  rw [h.len] at hk
  have h1 := h.min hc (h'.has k hk)
  have h2 := h'.rng k hk
  have hmuch : much = 1073741824 := rfl
  have h3 := h'.min k _ hk (h.has k hk (by omega))
  omega)
theorem lowGo_choice {ns : List Int} : ∀ (kinds : List Int) (best : Int), (∀ k ∈ kinds, 0 < at' ns k ∧ 0 ≤ k) → 0 ≤ best → choiceGo ns kinds best = lowGo ns kinds best
 | [], best, _, _ => rfl
 | k :: r, best, hk, hb => by
  simp only [choiceGo, lowGo]
  have h1 := hk k (by simp)
  have e : (0 < at' ns k ∧ (best < 0 ∨ at' ns k < at' ns best)) ↔ at' ns k < at' ns best := ⟨fun h => h.2.resolve_left (by omega), fun h => ⟨h1.1, .inr h⟩⟩
  simp only [e]
  exact lowGo_choice r _ (fun x hx => hk x (by simp [hx])) (by split <;> omega)
theorem low_choice {ns kinds : List Int} (hne : kinds ≠ []) (hk : ∀ k ∈ kinds, 0 < at' ns k ∧ 0 ≤ k) : choiceGo ns kinds (-1) = low ns kinds := by
 cases kinds with
 | nil => exact absurd rfl hne
 | cons k r =>
  have h1 := hk k (by simp)
  have e : (0 < at' ns k ∧ ((-1 : Int) < 0 ∨ at' ns k < at' ns (-1))) := ⟨h1.1, .inl (by omega)⟩
  simp only [choiceGo, if_pos e, low, List.headD_cons, lowGo, Int.lt_irrefl, if_false]
  exact lowGo_choice r k (fun x hx => hk x (by simp [hx])) h1.2
theorem MinL.pick (h : MinL g ns) {s : SlotD} (hs : SlotOk g.length s) : pickR ns s = low ns s.kinds :=
 low_choice hs.some (fun k hk => by
  have := hs.rise.kinds k hk
  obtain ⟨kn, rfl⟩ : ∃ kn : Nat, k = kn := ⟨k.toNat, by omega⟩
  exact ⟨(h.rng kn (by omega)).1, this.1⟩)
end Go.Proofs.Lw
