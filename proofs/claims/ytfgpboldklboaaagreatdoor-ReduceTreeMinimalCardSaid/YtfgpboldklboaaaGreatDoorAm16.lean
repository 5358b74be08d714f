/-
  PROVED here: steps on the way to the card of 'sleuthlaw06.ReduceTreeMinimal' (an abstract machine, its soundness, what each function computes). No conditions beyond those that each theorem states.
-/
import Derived.Test.YtfgpboldklboaaaGreatDoorAm15
namespace Go.Proofs.Lw
open Go Go.Am
set_option maxRecDepth 8000
mutual
inductive Sk (g : List RuleD) : Nat → Int → Prop where
 | mk {k : Nat} {r : RuleD} {n : Int} (h : g[k]? = some r) (hs : SkL g r.slots n) : Sk g k (n + 1)
inductive SkL (g : List RuleD) : List SlotD → Int → Prop where
 | nil : SkL g [] 0
 | skip {s : SlotD} {l : List SlotD} {n : Int} (h : s.many ≠ 0) (hl : SkL g l n) : SkL g (s :: l) n
 | one {s : SlotD} {l : List SlotD} {k : Nat} {a n : Int} (h : s.many = 0) (hk : (k : Int) ∈ s.kinds) (ha : Sk g k a) (hl : SkL g l n) : SkL g (s :: l) (a + n)
end
theorem SkL.snoc {g : List RuleD} {s : SlotD} : ∀ {l : List SlotD} {a b : Int}, SkL g l a → SkL g [s] b → SkL g (l ++ [s]) (a + b)
 | [], a, b, h, h' => by cases h; simpa using h'
 | t :: l, a, b, h, h' => by
  cases h with
  | skip h hl => exact .skip h (hl.snoc h')
  | one h hk ha hl => rw [Int.add_assoc]; exact .one h hk ha (hl.snoc h')
def calcR (nodes : List Int) : List SlotD → Int → Int
 | [], n => n
 | s :: l, n => if n ≤ 0 then n else if s.many ≠ 0 then calcR nodes l n else
  let c := choiceGo nodes s.kinds (-1)
  if c < 0 ∨ 1024 < n + at' nodes c then calcR nodes l 0 else calcR nodes l (n + at' nodes c)
theorem calcR_0 {nodes : List Int} : ∀ {l : List SlotD} {n : Int}, n ≤ 0 → calcR nodes l n = n
 | [], n, _ => rfl
 | s :: l, n, h => by simp [calcR, h]
structure Good (g : List RuleD) (nodes : List Int) : Prop where
 len : nodes.length = g.length
 rng : ∀ k, 0 ≤ at' nodes k ∧ at' nodes k ≤ 1024
 has : ∀ k : Nat, at' nodes k ≠ 0 → Sk g k (at' nodes k)
def Calm (g : List RuleD) (nodes : List Int) (k : Nat) : Prop := ∀ r, g[k]? = some r → ¬ (0 < calcR nodes r.slots 1 ∧ (at' nodes k = 0 ∨ calcR nodes r.slots 1 < at' nodes k))
def mass : List Int → Nat
 | [] => 0
 | x :: l => (if x = 0 then 1025 else x.toNat) + mass l
theorem mass_set : ∀ {l : List Int} {k : Nat} {n : Int}, k < l.length → 0 < n → n ≤ 1024 → (∀ x ∈ l, 0 ≤ x) → (at' l k = 0 ∨ n < at' l k) → mass (l.set k n) < mass l
 | [], k, n, h, _, _, _, _ => by simp at h
 | x :: l, 0, n, _, h1, h2, h3, h4 => by
  have := h3 x (by simp)
  simp only [at', List.set_cons_zero, mass] at h4 ⊢
  simp at h4
  split <;> split <;> omega
 | x :: l, k + 1, n, h, h1, h2, h3, h4 => by
  have := mass_set (l := l) (k := k) (n := n) (by simpa using h) h1 h2 (fun y hy => h3 y (by simp [hy])) (by simpa [at'] using h4)
  simp only [List.set_cons_succ, mass]; omega
theorem at'_mem {l : List Int} {x : Int} (h : x ∈ l) : ∃ k : Nat, k < l.length ∧ at' l k = x := by
 obtain ⟨k, hk, e⟩ := List.getElem_of_mem h
 exact ⟨k, hk, by simp [at', hk, e]⟩
theorem at'_set {l : List Int} {k j : Nat} {n : Int} (hk : k < l.length) : at' (l.set k n) j = if j = k then n else at' l j := by
 simp only [at', Int.toNat_natCast, List.getD_eq_getElem?_getD, List.getElem?_set]
 by_cases h : k = j
 · subst h; simp [hk]
 rw [if_neg h, if_neg (fun e => h e.symm)]
theorem choiceGo_spec (nodes : List Int) : ∀ (kinds : List Int) (best : Int), (∀ k ∈ kinds, 0 ≤ k) → (best < 0 ∨ 0 < at' nodes best) →
 choiceGo nodes kinds best < 0 ∨ (0 ≤ choiceGo nodes kinds best ∧ 0 < at' nodes (choiceGo nodes kinds best) ∧ (choiceGo nodes kinds best ∈ kinds ∨ choiceGo nodes kinds best = best)) := by
 intro kinds
 induction kinds with
 | nil =>
  intro best _ h
  simp only [choiceGo]
  rcases Int.lt_or_le best 0 with hb | hb
  · exact .inl hb
  exact .inr ⟨hb, h.resolve_left (by omega), by simp⟩
 | cons k r ih =>
  intro best hk h
  simp only [choiceGo]
  have h0 := hk k (by simp)
  split
  · rename_i hc
    rcases ih k (fun x hx => hk x (by simp [hx])) (.inr hc.1) with h1 | ⟨h1, h2, h3⟩
    · exact .inl h1
    exact .inr ⟨h1, h2, .inl (by rcases h3 with h3 | h3 <;> simp [h3])⟩
  rcases ih best (fun x hx => hk x (by simp [hx])) h with h1 | ⟨h1, h2, h3⟩
  · exact .inl h1
  exact .inr ⟨h1, h2, by rcases h3 with h3 | h3 <;> simp [h3]⟩
theorem choiceGo_lt (nodes : List Int) : ∀ (kinds : List Int) (best : Int), KindsOk kinds nodes.length → best < nodes.length → choiceGo nodes kinds best < nodes.length := by
 intro kinds
 induction kinds with
 | nil => intro best _ h; exact h
 | cons k r ih =>
  intro best hk h
  simp only [choiceGo]
  refine ih _ (fun x hx => hk x (by simp [hx])) ?_
  have := hk k (by simp)
  split <;> omega
theorem at'_nat {l : List Int} {j : Int} : at' l j = at' l (j.toNat : Nat) := by simp only [at', Int.toNat_natCast]
theorem Good.set {g : List RuleD} {nodes : List Int} (h : Good g nodes) {k : Nat} {r : RuleD} {n : Int} (hk : g[k]? = some r) (h0 : 0 < n) (h1 : n ≤ 1024) (hs : ∃ p, n = p + 1 ∧ SkL g r.slots p) : Good g (nodes.set k n) := by
 have hkl : k < nodes.length := by
  rw [h.len]
  rcases Nat.lt_or_ge k g.length with h | h
  · exact h
  rw [List.getElem?_eq_none h] at hk; cases hk
 obtain ⟨p, rfl, hp⟩ := hs
 refine ⟨by simp [h.len], fun j => ?_, fun j hj => ?_⟩
 · rw [at'_nat, at'_set hkl]
   split
   · omega
   exact h.rng _
 rw [at'_set hkl] at hj ⊢
 split
 · rename_i e; subst e; exact .mk hk hp
 rename_i e; rw [if_neg e] at hj; exact h.has j hj
theorem Good.mass {g : List RuleD} {nodes : List Int} (h : Good g nodes) {k : Nat} {n : Int} (hk : k < g.length) (h0 : 0 < n) (h1 : n ≤ 1024) (hs : at' nodes k = 0 ∨ n < at' nodes k) : mass (nodes.set k n) < mass nodes :=
 mass_set (by rw [h.len]; exact hk) h0 h1 (fun x hx => by obtain ⟨j, _, e⟩ := at'_mem hx; rw [← e]; exact (h.rng _).1) hs
variable {gl : Nat → Nat → Option Value} {ng : Nat}
theorem f39_ok {σ : Kn} {m : Mem} {rv : Value} {g : List RuleD} (hw : WF m) (hh : Holds (cfg gl ng).toEnv σ m) (hg : RulesV σ rv g) (hok : RulesOk g) :
 Ct gl ng 39 [.agg #[rv]] σ m (fun σ' r => ∃ nodes, IntsK σ' r nodes ∧ Good g nodes ∧ ∀ k, k < g.length → Calm g nodes k) := by
 refine Ct.of (c := _) Tryz.func39 rfl 91 rfl (fun c hnt => ?_)
 obtain ⟨bg, og, hg1, hg2⟩ := hg
 have hS := S.start hw hh
 obtain ⟨m1, nbg, hbx, hS1⟩ := hS.box 24 #[rv] (by simp [hg1.plain])
 have hfew := hok.few
 have hlen : ∀ m', opLen (cfg gl ng) 22 rv m' = .value (.int .i64 g.length) m' := fun m' => K.ly22 hg1
 have hmk := mk53 (gl := gl) (ng := ng) (m := m1) (n := g.length) (by omega)
 have hS2 := hS1.new (vs := List.replicate g.length (iv 0)) 3 (by simp [iv])
 generalize hnv : Value.slice (some ⟨m1.nb, 0, none⟩) g.length (mkCap g.length true) = nv at hmk
 repeat apply W.seq
 apply W.regN; simp [hnt, hbx]
 repeat apply W.seq
 apply W.regN; simp [hnt, hS1.c0, hlen, hmk]
 repeat apply W.seq
 apply W.regN; simp [hnt]
 apply W.block
 generalize m1.new (.cells (cellsOf (List.replicate g.length (iv 0)) 3)) = m2 at *
 have hix : ∀ i : Nat, i < g.length → ∀ m', opIndexAddr (cfg gl ng).toEnv 53 nv (.int .i64 i) m' = .value (.pointer (some ⟨m1.nb, i, none⟩)) m' := by
  intro i hi m'
  rw [← hnv, K.ix53 hi, Nat.zero_add]
 have hrep : List.replicate g.length (iv 0) = (List.replicate g.length 0).map iv := by simp
 rw [hrep] at hS2
 generalize m1.nb = nb at *
 have hgood0 : Good g (List.replicate g.length 0) := by
  have h0 : ∀ k, at' (List.replicate g.length 0) k = 0 := by
   intro k; simp only [at', List.getD_eq_getElem?_getD, List.getElem?_replicate]; split <;> rfl
  exact ⟨by simp, fun k => by rw [h0]; omega, fun k hk => absurd (h0 k) hk⟩
 obtain ⟨I0, hI0⟩ : ∃ I0 : Nat → Tr Value → Mem → Prop, I0 = fun (M : Nat) (t : Tr Value) (m' : Mem) => ∃ nodes again, t.get 3 = some nv ∧ t.get 4 = some (.bool again) ∧ S (cfg gl ng).toEnv σ m σ m' [(nb, ⟨nodes.map iv, none⟩), (nbg, ⟨[rv], none⟩)] ∧ Good g nodes ∧ M = 2 * mass nodes + (if again then 1 else 0) ∧ (again = false → ∀ k, k < g.length → Calm g nodes k) := ⟨_, rfl⟩
 refine W.down (ws := [14, 4, 5, 15, 16, 17, 18, 19, 6, 7, 22, 23, 24, 25, 26, 27, 28, 29, 30, 31, 32, 33, 34, 37, 38, 39, 40, 41, 42, 43, 44, 45, 8, 46, 47, 48, 49, 50, 51, 9, 52, 53, 54, 55, 56, 57, 58, 59, 60, 61, 62, 63, 64, 65, 66, 67, 68, 35, 36, 69, 70, 71, 72, 73, 74, 75, 76, 77, 78, 79, 80, 81, 82, 83, 84, 85, 86, 87, 88, 89, 20, 21]) (by kernel_rfl) I0 (2 * mass (List.replicate g.length 0) + 1) (by rw [hI0]; exact ⟨_, true, by simp, by simp, hS2, hgood0, by simp, by simp⟩) ?_
 intro M t m3 hfr hIi
 rw [hI0] at hIi
 obtain ⟨nodes, again, q3, q4, hS3, hgood, hM, hcalm⟩ := hIi
 have hnl := hgood.len
 repeat apply W.seq
 apply W.regN; simp [hnt, q4]
 refine W.choose (by simp; rfl) (fun hc => ?_) fun hc => ?_
 ·
  subst hc
  apply W.skip; try simp only [Then, InBlk]
  apply W.block
  repeat apply W.seq
  apply W.regN; simp [hnt]
  repeat apply W.seq
  apply W.regN; simp [hnt]
  apply W.block
  obtain ⟨I1, hI1⟩ : ∃ I1 : Nat → Tr Value → Mem → Prop, I1 = fun (k : Nat) (t : Tr Value) (m' : Mem) => t.get 5 = some (.int .i64 k) ∧ t.get 3 = some nv ∧ ∃ nodes' again', t.get 4 = some (.bool again') ∧ S (cfg gl ng).toEnv σ m σ m' [(nb, ⟨nodes'.map iv, none⟩), (nbg, ⟨[rv], none⟩)] ∧ Good g nodes' ∧ (again' = false → nodes' = nodes ∧ ∀ j, j < k → Calm g nodes j) ∧ (again' = true → mass nodes' < mass nodes) := ⟨_, rfl⟩
  refine W.upto (ws := [15, 16, 17, 18, 19, 6, 7, 22, 23, 24, 25, 26, 27, 28, 29, 30, 31, 32, 33, 34, 37, 38, 39, 40, 41, 42, 43, 44, 45, 8, 46, 47, 48, 49, 50, 51, 9, 52, 53, 54, 55, 56, 57, 58, 59, 60, 61, 62, 63, 64, 65, 66, 67, 68, 35, 36, 69, 70, 71, 72, 73, 74, 75, 76, 77, 78, 79, 80, 81, 82, 83, 84, 85, 86, 87, 88, 89, 4, 20, 21, 5]) (by kernel_rfl) (g.length) I1 0 (by omega) (by rw [hI1]; exact ⟨by simp, by simp [q3], nodes, false, by simp, hS3, hgood, by simp, by simp⟩) ?_
  intro k t2 m4 hk hfr2 hIi
  rw [hI1] at hIi
  obtain ⟨q5, q3', nodes', again', q4', hS4, hgood', hno, hyes⟩ := hIi
  have hnl' := hgood'.len
  repeat apply W.seq
  apply W.regN; simp [hnt, hS4.c1, hfr2, hfr, q5, hlen]
  refine W.choose (by simp; rfl) (fun hc => ?_) fun hc => ?_
  ·
   have hkl : k < g.length := by simpa using hc
   apply W.skip; try simp only [Then, InBlk]
   obtain ⟨sv, r1, r2, r3, r4, bs, os, hs1, hs2⟩ := hg2 k g[k] (by simp [hkl])
   have hr := hok.rules g[k] (by simp)
   have hgk : g[k]? = some g[k] := by simp [hkl]
   generalize g[k] = r at *
   have hsl : r.slots.length ≤ 8 := hr.few
   repeat apply W.seq
   apply W.block
   repeat apply W.seq
   apply W.regN; simp [hnt]
   obtain ⟨J, hJ⟩ : ∃ J : Tr Value → Mem → Prop, J = fun t m' => ∃ n : Int, t.get 6 = some (.int .i64 n) ∧ S (cfg gl ng).toEnv σ m σ m' [(nb, ⟨nodes'.map iv, none⟩), (nbg, ⟨[rv], none⟩)] ∧ n = calcR nodes' r.slots 1 ∧ 0 ≤ n ∧ n ≤ 1024 ∧ (0 < n → ∃ p, n = p + 1 ∧ SkL g r.slots p) := ⟨_, rfl⟩
   refine W.cut (ws := [22, 23, 24, 25, 26, 27, 28, 29, 30, 31, 32, 33, 34, 37, 38, 39, 40, 41, 42, 43, 44, 45, 8, 46, 47, 48, 49, 50, 51, 9, 52, 53, 54, 55, 56, 57, 58, 59, 60, 61, 62, 6, 63, 64, 65, 66, 67, 68, 35, 36, 7]) (by kernel_rfl) J ?_ (fun t4 m8 hfr4 hJ4 => ?_)
   ·
    repeat apply W.seq
    apply W.regN; simp [hnt]
    apply W.block
    obtain ⟨I2, hI2⟩ : ∃ I2 : Nat → Tr Value → Mem → Prop, I2 = fun (i : Nat) (t : Tr Value) (m' : Mem) => t.get 7 = some (.int .i64 i) ∧ S (cfg gl ng).toEnv σ m σ m' [(nb, ⟨nodes'.map iv, none⟩), (nbg, ⟨[rv], none⟩)] ∧ ∃ n : Int, t.get 6 = some (.int .i64 n) ∧ 0 ≤ n ∧ n ≤ 1024 ∧ calcR nodes' (r.slots.drop i) n = calcR nodes' r.slots 1 ∧ (0 < n → ∃ p, n = p + 1 ∧ SkL g (r.slots.take i) p) := ⟨_, rfl⟩
    refine W.upto (ws := [22, 23, 24, 25, 26, 27, 28, 29, 30, 31, 32, 33, 34, 37, 38, 39, 40, 41, 42, 43, 44, 45, 8, 46, 47, 48, 49, 50, 51, 9, 52, 53, 54, 55, 56, 57, 58, 59, 60, 61, 62, 6, 63, 64, 65, 66, 67, 68, 35, 36, 7]) (by kernel_rfl) (r.slots.length) I2 0 (by omega) (by rw [hI2]; exact ⟨by simp, hS4, 1, by simp, by omega, by omega, rfl, fun _ => ⟨0, by omega, by simpa using .nil⟩⟩) ?_
    intro i t3 m5 hi hfr3 hIi
    rw [hI2] at hIi
    obtain ⟨q7, hS5, n, q6, hn0, hn1, hcalc, hsk⟩ := hIi
    by_cases hil : i < r.slots.length
    ·
     by_cases hnp : 0 < n
     ·
      repeat apply W.seq
      apply W.regN; simp [hnt, hS5.c1, hS5.kn, hfr3, hfr2, hfr, q5, q6, q7, K.iy22 hg1 hkl, r4, K.ly49 hs1, hil, hnp]
      refine W.choose (by simp; rfl) (fun hc => ?_) fun hc => ?_
      ·
       apply W.skip; try simp only [Then, InBlk]
       obtain ⟨kv, u1, u2, u3, u4⟩ := hs2 i r.slots[i] (by simp [hil])
       have hso := hr.slots r.slots[i] (by simp)
       have hdrop : r.slots.drop i = r.slots[i] :: r.slots.drop (i + 1) := List.drop_eq_getElem_cons hil
       have htake : r.slots.take (i + 1) = r.slots.take i ++ [r.slots[i]] := by simp [hil]
       generalize r.slots[i] = sl at *
       obtain ⟨m6, e6, hS6⟩ := hS5.var 55 [.int .u8 0, .slice none 0 0, .string .empty] [.int .u8 sl.many, kv, .string sl.between] (by simp) (by simp [u4.plain]) rfl
       have hS6' := hS6.drop (List.sublist_cons_self _ _)
       repeat apply W.seq
       apply W.block
       repeat apply W.seq
       apply W.regN; simp [hnt, hS5.c1, hS5.kn, hfr3, hfr2, hfr, q5, q6, q7, K.iy22 hg1 hkl, r4, K.iy49 hs1 hil, u1, u2, u3, e6]
       by_cases hmany : sl.many = 0
       ·
        repeat apply W.seq
        apply W.regN; simp [hnt, hS6.c0, hmany]
        refine W.choose (by simp; rfl) (fun hc => ?_) fun hc => ?_
        · cases hc
        apply W.skip; try simp only [Then, InBlk]
        obtain ⟨hci, hcl⟩ : choiceGo nodes' sl.kinds (-1) < nodes'.length ∧ True := ⟨choiceGo_lt nodes' sl.kinds (-1) (by rw [hnl']; exact hso.rise.kinds) (by omega), trivial⟩
        have hcs := choiceGo_spec nodes' sl.kinds (-1) (fun x hx => (hso.rise.kinds x hx).1) (.inl (by omega))
        have hN := hS6.ints (i := 1) (l := nodes') (x := none) rfl (mkCap g.length true)
        rw [hnl', hnv] at hN
        repeat apply W.seq
        apply W.regN; simp [hnt, hS6.c0, hfr3, hfr2, hfr, q3']
        refine Ct.use (Ct.any hS6.wf hS6.holds (f66_ok hS6.wf (IntsK.mono hS6.holds u4) hN (by simp) (by simp) (by rw [hnl']; exact hso.rise.kinds) (by have := hso.rise.len; omega))) (fun σ7 v7 m7 hl7 hv7 => ?_)
        subst hv7
        have hS7 := hS6.grow hl7.grow
        have hS7' := hS7.drop (List.sublist_cons_self _ _)
        have hcalc2 : (if choiceGo nodes' sl.kinds (-1) < 0 ∨ 1024 < n + at' nodes' (choiceGo nodes' sl.kinds (-1)) then calcR nodes' (r.slots.drop (i + 1)) 0 else calcR nodes' (r.slots.drop (i + 1)) (n + at' nodes' (choiceGo nodes' sl.kinds (-1)))) = calcR nodes' r.slots 1 := by
         rw [← hcalc, hdrop]; simp [calcR, hmany, Int.not_le.2 hnp]
        generalize choiceGo nodes' sl.kinds (-1) = cc at *
        simp
        by_cases hneg : cc < 0
        · repeat apply W.seq
          apply W.regN; simp [hnt, hneg]
          refine W.choose (by simp; rfl) (fun hc => ?_) fun hc => ?_
          · apply W.regN; simp [hnt]
            apply W.regN; simp [hnt, q7, wr1 (show i < _ by omega)]
            exact ⟨i + 1, by omega, by omega, by rw [hI2]; exact ⟨by simp, hS7', 0, by simp, by omega, by omega, by rw [← hcalc2, if_pos (.inl hneg)], fun h => absurd h (by omega)⟩⟩
          cases hc
        obtain ⟨hc0, hcp, hcm⟩ := hcs.resolve_left hneg
        obtain ⟨cn, rfl⟩ : ∃ cn : Nat, cc = cn := ⟨cc.toNat, by omega⟩
        have hcn : cn < nodes'.length := by omega
        have hrg := hgood'.rng cn
        have hix := hix cn (by omega)
        have hld := map_at hcn
        by_cases hbig : 1024 < n + at' nodes' cn
        · repeat apply W.seq
          apply W.regN; simp [hnt, hneg, q6, hfr3, hfr2, hfr, q3', hix, hS7.c1, hld, wrap_i64 (n := n + at' nodes' cn) (by omega) (by omega), hbig]
          refine W.choose (by simp; rfl) (fun hc => ?_) fun hc => ?_
          · apply W.regN; simp [hnt]
            apply W.regN; simp [hnt, q7, wr1 (show i < _ by omega)]
            exact ⟨i + 1, by omega, by omega, by rw [hI2]; exact ⟨by simp, hS7', 0, by simp, by omega, by omega, by rw [← hcalc2, if_pos (.inr hbig)], fun h => absurd h (by omega)⟩⟩
          cases hc
        repeat apply W.seq
        apply W.regN; simp [hnt, hneg, q6, hfr3, hfr2, hfr, q3', hix, hS7.c1, hld, wrap_i64 (n := n + at' nodes' cn) (by omega) (by omega), hbig]
        refine W.choose (by simp; rfl) (fun hc => ?_) fun hc => ?_
        · cases hc
        apply W.regN; simp [hnt, q6, hfr3, hfr2, hfr, q3', hix, hS7.c1, hld, wrap_i64 (n := n + at' nodes' cn) (by omega) (by omega)]
        apply W.regN; simp [hnt, q7, wr1 (show i < _ by omega)]
        have hsk' : 0 < n + at' nodes' cn → ∃ p, n + at' nodes' cn = p + 1 ∧ SkL g (r.slots.take (i + 1)) p := by
         intro _
         obtain ⟨p, h1, h2⟩ := hsk hnp
         refine ⟨p + at' nodes' cn, by omega, ?_⟩
         rw [htake]
         refine h2.snoc ?_
         rw [← Int.add_zero (at' nodes' cn)]
         exact .one hmany (hcm.resolve_right (by omega)) (hgood'.has cn (by omega)) .nil
        exact ⟨i + 1, by omega, by omega, by rw [hI2]; exact ⟨by simp, hS7', n + at' nodes' cn, by simp, by omega, by omega, by rw [← hcalc2, if_neg (by omega)], hsk'⟩⟩
       repeat apply W.seq
       apply W.regN; simp [hnt, hS6.c0, hmany]
       refine W.choose (by simp; rfl) (fun hc => ?_) fun hc => ?_
       · apply W.exit; try simp [Then, InBlk]
         apply W.regN; simp [hnt, q7, wr1 (show i < _ by omega)]
         exact ⟨i + 1, by omega, by omega, by rw [hI2]; exact ⟨by simp, hS6', n, by simp [q6], hn0, hn1, by rw [← hcalc, hdrop]; simp [calcR, hmany, Int.not_le.2 hnp], fun _ => by obtain ⟨p, h1, h2⟩ := hsk hnp; exact ⟨p, h1, by rw [htake, ← Int.add_zero p]; exact h2.snoc (.skip hmany .nil)⟩⟩⟩
       cases hc
      cases hc
     repeat apply W.seq
     apply W.regN; simp [hnt, hS5.c1, hS5.kn, hfr3, hfr2, hfr, q5, q6, q7, K.iy22 hg1 hkl, r4, K.ly49 hs1, hil, hnp]
     have hn00 : n = 0 := by omega
     subst hn00
     refine W.choose (by simp; rfl) (fun hc => ?_) fun hc => ?_
     · cases hc
     apply W.exit; try simp [Then, InBlk]
     have hz : calcR nodes' r.slots 1 = 0 := by rw [← hcalc]; exact calcR_0 (by omega)
     rw [hJ]
     exact ⟨0, by simp [q6], hS5, hz.symm, by omega, by omega, fun h => absurd h (by omega)⟩
    repeat apply W.seq
    apply W.regN; simp [hnt, hS5.c1, hS5.kn, hfr3, hfr2, hfr, q5, q6, q7, K.iy22 hg1 hkl, r4, K.ly49 hs1, hil]
    have hie : i = r.slots.length := by omega
    refine W.choose (by simp; rfl) (fun hc => ?_) fun hc => ?_
    · cases hc
    apply W.exit; try simp [Then, InBlk]
    rw [hJ]
    refine ⟨n, by simp [q6], hS5, ?_, hn0, hn1, fun h => ?_⟩
    · rw [← hcalc, hie]; simp [calcR]
    obtain ⟨p, h1, h2⟩ := hsk h
    rw [hie, List.take_length] at h2
    exact ⟨p, h1, h2⟩
   rw [hJ] at hJ4
   obtain ⟨n, p6, hS8, hcn, hn0, hn1, hsk⟩ := hJ4
   have hkn : k < nodes'.length := by omega
   have hix := hix k (by omega)
   have hld := map_at hkn
   have hrg := hgood'.rng k
   obtain ⟨m9, e9, hS9⟩ := hS8.seti (i := 0) (l := nodes') (x := none) rfl hkn n
   have put : 0 < n → (at' nodes' k = 0 ∨ n < at' nodes' k) → Good g (nodes'.set k n) ∧ mass (nodes'.set k n) < mass nodes := by
    intro h1 h2
    refine ⟨hgood'.set hgk h1 hn1 (hsk h1), ?_⟩
    have h3 := hgood'.mass hkl h1 hn1 h2
    cases again' with
    | true => have := hyes rfl; omega
    | false => have := (hno rfl).1; subst this; exact h3
   have stay : ¬ (0 < n ∧ (at' nodes' k = 0 ∨ n < at' nodes' k)) → (again' = false → nodes' = nodes ∧ ∀ j, j < k + 1 → Calm g nodes j) := by
    intro h1 h2
    obtain ⟨h3, h4⟩ := hno h2
    refine ⟨h3, fun j hj => ?_⟩
    by_cases hjk : j = k
    · subst hjk
      intro r' hr'
      rw [hgk] at hr'; cases hr'
      rw [← h3, ← hcn]
      exact h1
    exact h4 j (by omega)
   by_cases c1 : 0 < n
   ·
    by_cases c2 : at' nodes' k = 0
    ·
     repeat apply W.seq
     apply W.regN; simp [hnt, p6, hfr4, hfr2, hfr, q3', q5, hix, hS8.c0, hld, c1, c2]
     refine W.choose (by simp; rfl) (fun hc => ?_) fun hc => ?_
     · obtain ⟨g1, g2⟩ := put c1 (.inl c2)
       repeat apply W.seq
       apply W.regN; simp [hnt, p6, hfr4, hfr2, hfr, q3', q5, hix, e9]
       apply W.regN; simp [hnt]
       apply W.regN; simp [hnt, hfr4, q5, wr1 (show k < _ by omega)]
       exact ⟨k + 1, by omega, by omega, by rw [hI1]; exact ⟨by simp, by simp [hfr4, q3'], nodes'.set k n, true, by simp, hS9, g1, by simp, fun _ => g2⟩⟩
     cases hc
    by_cases c3 : n < at' nodes' k
    ·
     repeat apply W.seq
     apply W.regN; simp [hnt, p6, hfr4, hfr2, hfr, q3', q5, hix, hS8.c0, hld, c1, c2, c3]
     refine W.choose (by simp; rfl) (fun hc => ?_) fun hc => ?_
     · obtain ⟨g1, g2⟩ := put c1 (.inr c3)
       repeat apply W.seq
       apply W.regN; simp [hnt, p6, hfr4, hfr2, hfr, q3', q5, hix, e9]
       apply W.regN; simp [hnt]
       apply W.regN; simp [hnt, hfr4, q5, wr1 (show k < _ by omega)]
       exact ⟨k + 1, by omega, by omega, by rw [hI1]; exact ⟨by simp, by simp [hfr4, q3'], nodes'.set k n, true, by simp, hS9, g1, by simp, fun _ => g2⟩⟩
     cases hc
    repeat apply W.seq
    apply W.regN; simp [hnt, p6, hfr4, hfr2, hfr, q3', q5, hix, hS8.c0, hld, c1, c2, c3]
    refine W.choose (by simp; rfl) (fun hc => ?_) fun hc => ?_
    · cases hc
    apply W.skip; try simp only [Then, InBlk]
    apply W.regN; simp [hnt, hfr4, q5, wr1 (show k < _ by omega)]
    exact ⟨k + 1, by omega, by omega, by rw [hI1]; exact ⟨by simp, by simp [hfr4, q3'], nodes', again', by simp [hfr4, q4'], hS8, hgood', stay (by omega), hyes⟩⟩
   repeat apply W.seq
   apply W.regN; simp [hnt, p6, hfr4, hfr2, hfr, q3', q5, hix, hS8.c0, hld, c1]
   refine W.choose (by simp; rfl) (fun hc => ?_) fun hc => ?_
   · cases hc
   apply W.skip; try simp only [Then, InBlk]
   apply W.regN; simp [hnt, hfr4, q5, wr1 (show k < _ by omega)]
   exact ⟨k + 1, by omega, by omega, by rw [hI1]; exact ⟨by simp, by simp [hfr4, q3'], nodes', again', by simp [hfr4, q4'], hS8, hgood', stay (by omega), hyes⟩⟩
  have hkl : k = g.length := by
   have : g.length ≤ k := by simpa using hc
   omega
  apply W.exit; try simp [Then, InBlk]
  refine ⟨2 * mass nodes' + (if again' then 1 else 0), ?_, ?_⟩
  · cases again' with
    | true => have := hyes rfl; simp at hM ⊢; omega
    | false => have := (hno rfl).1; subst this; simp at hM ⊢; omega
  rw [hI0]
  refine ⟨nodes', again', by simp [q3'], by simp [q4'], hS4, hgood', rfl, fun h => ?_⟩
  obtain ⟨h1, h2⟩ := hno h
  subst h1
  exact fun j hj => h2 j (by omega)
 subst hc
 apply W.exit; try simp [Then, InBlk]
 repeat apply W.seq
 apply W.regN; simp [hnt, q3]
 obtain ⟨σ', hle, hS9, hnb⟩ := hS3.freeze (i := 0) rfl
 apply W.ret
 refine ⟨.inr rfl, rfl, rfl, _, by simp [unwind.results, Tryz.f39]; rfl, _, hS9.learn, ?_⟩
 refine ⟨nodes, ⟨nb, 0, .inr ⟨mkCap g.length true, by rw [hnl]; exact hnv.symm⟩, fun i n hi => ?_⟩, hgood, hcalm rfl⟩
 rw [Nat.zero_add, hnb]
 simp [hi, iv]
end Go.Proofs.Lw
namespace Go.Proofs.Lw
open Go Go.Am
set_option maxRecDepth 8000
def lowGo (sizes : List Int) : List Int → Int → Int
 | [], best => best
 | k :: r, best => lowGo sizes r (if at' sizes k < at' sizes best then k else best)
theorem lowGo_mem (sizes : List Int) : ∀ (kinds : List Int) (best : Int), lowGo sizes kinds best ∈ kinds ∨ lowGo sizes kinds best = best
 | [], best => .inr rfl
 | k :: r, best => by
  simp only [lowGo]
  split
  · rcases lowGo_mem sizes r k with h | h <;> simp [h]
  rcases lowGo_mem sizes r best with h | h <;> simp [h]
def low (sizes kinds : List Int) : Int := lowGo sizes kinds (kinds.headD 0)
theorem low_mem {sizes kinds : List Int} (h : kinds ≠ []) : low sizes kinds ∈ kinds := by
 cases kinds with
 | nil => exact absurd rfl h
 | cons k r =>
  rcases lowGo_mem sizes (k :: r) k with h | h
  · exact h
  simp only [low, List.headD_cons, h]; simp
variable {gl : Nat → Nat → Option Value} {ng : Nat}
theorem f72_ok {m : Mem} {kv nv : Value} {kinds nodes : List Int} (hw : WF m) (hk : IntsK (m.load (cfg gl ng).toEnv) kv kinds) (hn : IntsK (m.load (cfg gl ng).toEnv) nv nodes)
 (hko : KindsOk kinds nodes.length) (hne : kinds ≠ []) (hlen : kinds.length < 1048576) :
 Ct gl ng 72 [nv, kv] (m.load (cfg gl ng).toEnv) m (fun _ r => r = .int .i64 (low nodes kinds)) := by
 refine Ct.of (c := _) Tryz.func72 rfl 29 rfl (fun c hnt => ?_)
 have hS := S.start hw (Holds.self (E := (cfg gl ng).toEnv))
 generalize hσ : m.load (cfg gl ng).toEnv = σ at *
 have hpos : 0 < kinds.length := by cases kinds with | nil => exact absurd rfl hne | cons => simp
 have hat : ∀ i, i < kinds.length → ∃ kn : Nat, at' kinds i = kn ∧ kn < nodes.length := by
  intro i hi
  have := hko kinds[i] (by simp)
  refine ⟨kinds[i].toNat, by simp [at', hi]; omega, by omega⟩
 obtain ⟨k0, hk0, hk0l⟩ := hat 0 hpos
 obtain ⟨b0, o0, e0, e0'⟩ := hk.at (gl := gl) (ng := ng) hpos
 have e00 : ∀ m, opIndexAddr (cfg gl ng).toEnv 53 kv (.int .i64 0) m = .value (.pointer (some ⟨b0, o0, none⟩)) m := fun m => e0 m
 rw [hk0] at e0'
 have hlow : lowGo nodes kinds k0 = low nodes kinds := by
  cases kinds with
  | nil => exact absurd rfl hne
  | cons k r => simp [at'] at hk0; simp [low, hk0]
 repeat apply W.seq
 apply W.regN; simp [hnt]
 repeat apply W.seq
 apply W.regN; simp [hnt, e00, hS.kn, e0']
 repeat apply W.seq
 apply W.regN; simp [hnt, hk.len]
 apply W.block
 obtain ⟨I0, hI0⟩ : ∃ I0 : Nat → Tr Value → Mem → Prop, I0 = fun (i : Nat) (t : Tr Value) (m' : Mem) => t.get 13 = some (.int .i64 i) ∧ S (cfg gl ng).toEnv σ m σ m' [] ∧ ∃ bn : Nat, t.get 5 = some (.int .i64 bn) ∧ bn < nodes.length ∧ lowGo nodes (kinds.drop i) bn = low nodes kinds := ⟨_, rfl⟩
 refine W.upto (ws := [14, 15, 16, 7, 17, 18, 19, 20, 21, 22, 23, 24, 25, 26, 5, 27, 13]) (by kernel_rfl) (kinds.length) I0 0 (by omega) (by rw [hI0]; exact ⟨by simp, hS, k0, by simp, hk0l, hlow⟩) ?_
 intro i t m' hi hfr hIi
 rw [hI0] at hIi
 obtain ⟨q13, hS2, bn, q5, hb, hch⟩ := hIi
 repeat apply W.seq
 apply W.regN; simp [hnt, hfr, q13]
 repeat apply W.seq
 refine W.choose (by simp; rfl) (fun hc => ?_) fun hc => ?_
 ·
  have hil : i < kinds.length := by simpa using hc
  apply W.skip; try simp only [Then, InBlk]
  have hdrop : kinds.drop i = kinds[i] :: kinds.drop (i + 1) := List.drop_eq_getElem_cons hil
  obtain ⟨b1, o1, e1, e2⟩ := hk.at (gl := gl) (ng := ng) hil
  obtain ⟨kn, hkn, hknl⟩ := hat i hil
  have hki : kinds[i] = (kn : Int) := by rw [← hkn]; simp [at', hil]
  rw [hkn] at e2
  obtain ⟨b2, o2, e3, e4⟩ := hn.at (gl := gl) (ng := ng) hknl
  obtain ⟨b3, o3, e5, e6⟩ := hn.at (gl := gl) (ng := ng) hb
  have hch2 : lowGo nodes (kinds.drop (i + 1)) (if at' nodes kn < at' nodes bn then (kn : Int) else bn) = low nodes kinds := by rw [← hch, hdrop, hki]; rfl
  repeat apply W.seq
  apply W.block
  repeat apply W.seq
  apply W.regN; simp [hnt, hS2.kn, hfr, q13, e1, e2]
  by_cases c1 : at' nodes kn < at' nodes bn
  ·
   repeat apply W.seq
   apply W.regD (by kernel_rfl); simp [hnt, hS2.kn, hfr, q13, q5, e3, e4, e5, e6, c1]
   refine W.choose (by simp; rfl) (fun hc => ?_) fun hc => ?_
   · apply W.regN; simp [hnt]
     apply W.regN; simp [hnt, hfr, q13, wr1 (show i < _ by omega)]
     exact ⟨i + 1, by omega, by omega, by rw [hI0]; exact ⟨by simp, hS2, kn, by simp, hknl, by rw [if_pos c1] at hch2; exact hch2⟩⟩
   cases hc
  repeat apply W.seq
  apply W.regD (by kernel_rfl); simp [hnt, hS2.kn, hfr, q13, q5, e3, e4, e5, e6, c1]
  refine W.choose (by simp; rfl) (fun hc => ?_) fun hc => ?_
  · cases hc
  apply W.skip; try simp only [Then, InBlk]
  apply W.regN; simp [hnt, hfr, q13, wr1 (show i < _ by omega)]
  exact ⟨i + 1, by omega, by omega, by rw [hI0]; exact ⟨by simp, hS2, bn, by simp [q5], hb, by rw [if_neg c1] at hch2; exact hch2⟩⟩
 have hil : i = kinds.length := by
  have : kinds.length ≤ i := by simpa using hc
  omega
 apply W.exit; try simp [Then, InBlk]
 repeat apply W.seq
 apply W.regN; simp [hnt, q5]
 apply W.ret
 refine ⟨.inr rfl, rfl, rfl, _, by simp [unwind.results, Tryz.f72]; rfl, _, hS2.learn, ?_⟩
 rw [hil] at hch
 simp [lowGo] at hch
 simp [retV, hch]
def much : Int := 1073741824
def calcP (nodes : List Int) : List SlotD → Int → Int
 | [], n => n
 | s :: l, n => calcP nodes l (if s.many = 0 then min (n + at' nodes (low nodes s.kinds)) much else n)
structure GoodP (g : List RuleD) (nodes : List Int) : Prop where
 len : nodes.length = g.length
 rng : ∀ k : Nat, k < g.length → 0 < at' nodes k ∧ at' nodes k ≤ much
 has : ∀ k : Nat, k < g.length → at' nodes k < much → Sk g k (at' nodes k)
def CalmP (g : List RuleD) (nodes : List Int) (k : Nat) : Prop := ∀ r, g[k]? = some r → ¬ calcP nodes r.slots 1 < at' nodes k
def massP : List Int → Nat
 | [] => 0
 | x :: l => x.toNat + massP l
theorem massP_set : ∀ {l : List Int} {k : Nat} {n : Int}, k < l.length → 0 < n → n < at' l k → massP (l.set k n) < massP l
 | [], k, n, h, _, _ => by simp at h
 | x :: l, 0, n, _, h1, h4 => by
  simp only [at', List.set_cons_zero, massP] at h4 ⊢
  simp at h4
  omega
 | x :: l, k + 1, n, h, h1, h4 => by
  have := massP_set (l := l) (k := k) (n := n) (by simpa using h) h1 (by simpa [at'] using h4)
  simp only [List.set_cons_succ, massP]; omega
theorem GoodP.set {g : List RuleD} {nodes : List Int} (h : GoodP g nodes) {k : Nat} {r : RuleD} {n : Int} (hk : g[k]? = some r) (h0 : 0 < n) (h1 : n ≤ much) (hs : n < much → ∃ p, n = p + 1 ∧ SkL g r.slots p) : GoodP g (nodes.set k n) := by
 have hkl : k < nodes.length := by
  rw [h.len]
  rcases Nat.lt_or_ge k g.length with h | h
  · exact h
  rw [List.getElem?_eq_none h] at hk; cases hk
 refine ⟨by simp [h.len], fun j hj => ?_, fun j hj hlt => ?_⟩
 · rw [at'_set hkl]
   split
   · omega
   exact h.rng _ hj
 rw [at'_set hkl] at hlt ⊢
 split
 · rename_i e; subst e; rw [if_pos rfl] at hlt
   obtain ⟨p, rfl, hp⟩ := hs hlt
   exact .mk hk hp
 rename_i e; rw [if_neg e] at hlt; exact h.has j hj hlt
theorem f43_ok {σ : Kn} {m : Mem} {rv : Value} {g : List RuleD} (hw : WF m) (hh : Holds (cfg gl ng).toEnv σ m) (hg : RulesV σ rv g) (hok : RulesOk g) :
 Ct gl ng 43 [.agg #[rv]] σ m (fun σ' r => ∃ nodes, IntsK σ' r nodes ∧ GoodP g nodes ∧ ∀ k, k < g.length → CalmP g nodes k) := by
 refine Ct.of (c := _) Tryz.func43 rfl 66 rfl (fun c hnt => ?_)
 obtain ⟨bg, og, hg1, hg2⟩ := hg
 have hS := S.start hw hh
 obtain ⟨m1, nbg, hbx, hS1⟩ := hS.box 24 #[rv] (by simp [hg1.plain])
 have hfew := hok.few
 have hlen : ∀ m', opLen (cfg gl ng) 22 rv m' = .value (.int .i64 g.length) m' := fun m' => K.ly22 hg1
 have hmk := mk53 (gl := gl) (ng := ng) (m := m1) (n := g.length) (by omega)
 have hS2 := hS1.new (vs := List.replicate g.length (iv 0)) 3 (by simp [iv])
 generalize hnv : Value.slice (some ⟨m1.nb, 0, none⟩) g.length (mkCap g.length true) = nv at hmk
 have hnlen : ∀ m', opLen (cfg gl ng) 53 nv m' = .value (.int .i64 g.length) m' := fun m' => by rw [← hnv]; exact K.len53
 repeat apply W.seq
 apply W.regN; simp [hnt, hbx]
 repeat apply W.seq
 apply W.regN; simp [hnt, hS1.c0, hlen, hmk]
 generalize m1.new (.cells (cellsOf (List.replicate g.length (iv 0)) 3)) = m2 at *
 have hix : ∀ i : Nat, i < g.length → ∀ m', opIndexAddr (cfg gl ng).toEnv 53 nv (.int .i64 i) m' = .value (.pointer (some ⟨m1.nb, i, none⟩)) m' := by
  intro i hi m'
  rw [← hnv, K.ix53 hi, Nat.zero_add]
 have hrep : List.replicate g.length (iv 0) = (List.replicate g.length 0).map iv := by simp
 rw [hrep] at hS2
 generalize m1.nb = nb at *
 obtain ⟨J0, hJ0⟩ : ∃ J : Tr Value → Mem → Prop, J = fun t m' => S (cfg gl ng).toEnv σ m σ m' [(nb, ⟨(List.replicate g.length much).map iv, none⟩), (nbg, ⟨[rv], none⟩)] := ⟨_, rfl⟩
 refine W.cut (ws := [15, 16, 17, 18, 19, 4, 20, 21, 22, 23]) (by kernel_rfl) J0 ?_ (fun t0 m3 hfr0 hJ => ?_)
 ·
  repeat apply W.seq
  apply W.regN; simp [hnt, hnlen]
  apply W.block
  obtain ⟨I, hI⟩ : ∃ I : Nat → Tr Value → Mem → Prop, I = fun (i : Nat) (t : Tr Value) (m' : Mem) => t.get 17 = some (.int .i64 i) ∧ ∃ l : List Int, l.length = g.length ∧ (∀ j : Nat, j < i → l[j]? = some much) ∧ S (cfg gl ng).toEnv σ m σ m' [(nb, ⟨l.map iv, none⟩), (nbg, ⟨[rv], none⟩)] := ⟨_, rfl⟩
  refine W.upto (ws := [18, 19, 4, 20, 21, 22, 23, 17]) (by kernel_rfl) (g.length) I 0 (by omega) (by rw [hI]; exact ⟨by simp, _, by simp, fun j hj => absurd hj (by omega), hS2⟩) ?_
  intro i t m4 hi hfr hIi
  rw [hI] at hIi
  obtain ⟨q17, l, hl1, hl2, hS4⟩ := hIi
  repeat apply W.seq
  apply W.regN; simp [hnt, q17, hfr]
  repeat apply W.seq
  refine W.choose (by simp; rfl) (fun hc => ?_) fun hc => ?_
  ·
   have hil : i < g.length := by simpa using hc
   apply W.skip; try simp only [Then, InBlk]
   obtain ⟨m5, e5, hS5⟩ := hS4.seti (i := 0) (l := l) (x := none) rfl (k := i) (by omega) much
   have e5' : m4.write nb i [.int .i64 1073741824] = some m5 := e5
   repeat apply W.seq
   apply W.block
   repeat apply W.seq
   apply W.regN; simp [hnt, q17]
   apply W.regN; simp [hnt, q17, hfr, hix i hil, e5']
   apply W.regN; simp [hnt, q17, wr1 (show i < _ by omega)]
   exact ⟨i + 1, by omega, by omega, by rw [hI]; exact ⟨by simp, l.set i much, by simp [hl1], fun j hj => by rw [List.getElem?_set]; by_cases hij : i = j <;> simp [hij] <;> first | omega | exact hl2 j (by omega), hS5⟩⟩
  have hil : i = g.length := by
   have : g.length ≤ i := by simpa using hc
   omega
  apply W.exit; try simp [Then, InBlk]
  rw [hJ0]
  have : List.replicate g.length much = l := by
   apply List.ext_getElem?
   intro j
   rw [List.getElem?_replicate]
   split
   · rename_i hj; rw [hl2 j (by omega)]
   rw [List.getElem?_eq_none (by omega)]
  rw [this]; exact hS4
 rw [hJ0] at hJ
 have hgood0 : GoodP g (List.replicate g.length much) := by
  have h0 : ∀ k : Nat, k < g.length → at' (List.replicate g.length much) k = much := by
   intro k hk; simp only [at', List.getD_eq_getElem?_getD, List.getElem?_replicate, Int.toNat_natCast]; rw [if_pos hk]; rfl
  exact ⟨by simp, fun k hk => by rw [h0 k hk]; decide, fun k hk h => absurd (h0 k hk) (by omega)⟩
 repeat apply W.seq
 apply W.regN; simp [hnt]
 apply W.block
 obtain ⟨I0, hI0⟩ : ∃ I0 : Nat → Tr Value → Mem → Prop, I0 = fun (M : Nat) (t : Tr Value) (m' : Mem) => ∃ nodes again, t.get 3 = some nv ∧ t.get 5 = some (.bool again) ∧ S (cfg gl ng).toEnv σ m σ m' [(nb, ⟨nodes.map iv, none⟩), (nbg, ⟨[rv], none⟩)] ∧ GoodP g nodes ∧ M = 2 * massP nodes + (if again then 1 else 0) ∧ (again = false → ∀ k, k < g.length → CalmP g nodes k) := ⟨_, rfl⟩
 refine W.down (ws := [24, 5, 25, 26, 27, 28, 29, 30, 31, 32, 7, 6, 8, 33, 34, 35, 36, 37, 38, 39, 10, 40, 41, 42, 43, 44, 45, 46, 47, 48, 49, 50, 51, 52, 53, 54, 55, 56, 57, 58, 59, 60, 61, 62, 63, 64]) (by kernel_rfl) I0 (2 * massP (List.replicate g.length much) + 1) (by rw [hI0]; exact ⟨_, true, by simp [hfr0], by simp, hJ, hgood0, by simp, by simp⟩) ?_
 intro M t m3 hfr hIi
 rw [hI0] at hIi
 obtain ⟨nodes, again, q3, q4, hS3, hgood, hM, hcalm⟩ := hIi
 have hnl := hgood.len
 repeat apply W.seq
 apply W.regN; simp [hnt, q4]
 refine W.choose (by simp; rfl) (fun hc => ?_) fun hc => ?_
 ·
  subst hc
  apply W.skip; try simp only [Then, InBlk]
  apply W.block
  repeat apply W.seq
  apply W.regN; simp [hnt]
  repeat apply W.seq
  apply W.regN; simp [hnt, hS3.c1, hlen, hfr, hfr0]
  apply W.block
  obtain ⟨I1, hI1⟩ : ∃ I1 : Nat → Tr Value → Mem → Prop, I1 = fun (k : Nat) (t : Tr Value) (m' : Mem) => t.get 28 = some (.int .i64 k) ∧ t.get 3 = some nv ∧ ∃ nodes' again', t.get 5 = some (.bool again') ∧ S (cfg gl ng).toEnv σ m σ m' [(nb, ⟨nodes'.map iv, none⟩), (nbg, ⟨[rv], none⟩)] ∧ GoodP g nodes' ∧ (again' = false → nodes' = nodes ∧ ∀ j, j < k → CalmP g nodes j) ∧ (again' = true → massP nodes' < massP nodes) := ⟨_, rfl⟩
  refine W.upto (ws := [29, 30, 31, 32, 7, 6, 8, 33, 34, 35, 36, 37, 38, 39, 10, 40, 41, 42, 43, 44, 45, 46, 47, 48, 49, 50, 51, 52, 53, 54, 55, 56, 57, 58, 59, 60, 61, 62, 63, 5, 64, 28]) (by kernel_rfl) (g.length) I1 0 (by omega) (by rw [hI1]; exact ⟨by simp, by simp [q3], nodes, false, by simp, hS3, hgood, by simp, by simp⟩) ?_
  intro k t2 m4 hk hfr2 hIi
  rw [hI1] at hIi
  obtain ⟨q28, q3', nodes', again', q4', hS4, hgood', hno, hyes⟩ := hIi
  have hnl' := hgood'.len
  repeat apply W.seq
  apply W.regN; simp [hnt, hfr2, hfr, hfr0, q28]
  repeat apply W.seq
  refine W.choose (by simp; rfl) (fun hc => ?_) fun hc => ?_
  ·
   have hkl : k < g.length := by simpa using hc
   apply W.skip; try simp only [Then, InBlk]
   obtain ⟨sv, r1, r2, r3, r4, bs, os, hs1, hs2⟩ := hg2 k g[k] (by simp [hkl])
   have hr := hok.rules g[k] (by simp)
   have hgk : g[k]? = some g[k] := by simp [hkl]
   generalize g[k] = r at *
   have hsl : r.slots.length ≤ 8 := hr.few
   obtain ⟨m5, e5, hS5⟩ := hS4.var 51 [.string .empty, .string .empty, .bool false, .slice none 0 0] [.string r.before, .string r.after, .bool r.leaf, sv] (by simp) (by simp [hs1.plain]) rfl
   repeat apply W.seq
   apply W.block
   repeat apply W.seq
   apply W.regN; simp [hnt, hfr2, hfr, hfr0, q28, K.iy22 hg1 hkl, hS4.kn, r1, r2, r3, r4, e5]
   generalize m4.nb = nr at *
   repeat apply W.seq
   apply W.regN; simp [hnt]
   obtain ⟨J, hJ⟩ : ∃ J : Tr Value → Mem → Prop, J = fun t m' => ∃ n : Int, t.get 8 = some (.int .i64 n) ∧ S (cfg gl ng).toEnv σ m σ m' [(nb, ⟨nodes'.map iv, none⟩), (nbg, ⟨[rv], none⟩)] ∧ n = calcP nodes' r.slots 1 ∧ 0 < n ∧ n ≤ much ∧ (n < much → ∃ p, n = p + 1 ∧ SkL g r.slots p) := ⟨_, rfl⟩
   refine W.cut (ws := [33, 34, 35, 36, 37, 38, 39, 10, 40, 41, 42, 43, 44, 45, 46, 47, 48, 49, 50, 51, 52, 8, 53]) (by kernel_rfl) J ?_ (fun t4 m8 hfr4 hJ4 => ?_)
   ·
    repeat apply W.seq
    apply W.regN; simp [hnt, hS5.c0, K.ly49 hs1]
    apply W.block
    obtain ⟨I2, hI2⟩ : ∃ I2 : Nat → Tr Value → Mem → Prop, I2 = fun (i : Nat) (t : Tr Value) (m' : Mem) => t.get 36 = some (.int .i64 i) ∧ S (cfg gl ng).toEnv σ m σ m' [(nr, ⟨[.string r.before, .string r.after, .bool r.leaf, sv], none⟩), (nb, ⟨nodes'.map iv, none⟩), (nbg, ⟨[rv], none⟩)] ∧ ∃ n : Int, t.get 8 = some (.int .i64 n) ∧ 0 < n ∧ n ≤ much ∧ calcP nodes' (r.slots.drop i) n = calcP nodes' r.slots 1 ∧ (n < much → ∃ p, n = p + 1 ∧ SkL g (r.slots.take i) p) := ⟨_, rfl⟩
    refine W.upto (ws := [37, 38, 39, 10, 40, 41, 42, 43, 44, 45, 46, 47, 48, 49, 50, 51, 52, 8, 53, 36]) (by kernel_rfl) (r.slots.length) I2 0 (by omega) (by rw [hI2]; exact ⟨by simp, hS5, 1, by simp, by omega, by decide, rfl, fun _ => ⟨0, by omega, by simpa using .nil⟩⟩) ?_
    intro i t3 m6 hi hfr3 hIi
    rw [hI2] at hIi
    obtain ⟨q36, hS6, n, q8, hn0, hn1, hcalc, hsk⟩ := hIi
    repeat apply W.seq
    apply W.regN; simp [hnt, hfr3, q36]
    repeat apply W.seq
    refine W.choose (by simp; rfl) (fun hc => ?_) fun hc => ?_
    ·
     have hil : i < r.slots.length := by simpa using hc
     apply W.skip; try simp only [Then, InBlk]
     obtain ⟨kv, u1, u2, u3, u4⟩ := hs2 i r.slots[i] (by simp [hil])
     have hso := hr.slots r.slots[i] (by simp)
     have hdrop : r.slots.drop i = r.slots[i] :: r.slots.drop (i + 1) := List.drop_eq_getElem_cons hil
     have htake : r.slots.take (i + 1) = r.slots.take i ++ [r.slots[i]] := by simp [hil]
     generalize r.slots[i] = sl at *
     obtain ⟨m7, e7, hS7⟩ := hS6.var 55 [.int .u8 0, .slice none 0 0, .string .empty] [.int .u8 sl.many, kv, .string sl.between] (by simp) (by simp [u4.plain]) rfl
     have hS7' := hS7.drop (List.sublist_cons_self _ _)
     repeat apply W.seq
     apply W.block
     repeat apply W.seq
     apply W.regN; simp [hnt, hfr3, q36, K.iy49 hs1 hil, hS6.kn, u1, u2, u3, e7]
     by_cases hmany : sl.many = 0
     ·
      repeat apply W.seq
      apply W.regN; simp [hnt, hS7.c0, hmany]
      refine W.choose (by simp; rfl) (fun hc => ?_) fun hc => ?_
      ·
       have hN := hS7.ints (i := 2) (l := nodes') (x := none) rfl (mkCap g.length true)
       rw [hnl', hnv] at hN
       apply W.regN; simp [hnt, hS7.c0, hfr3, hfr2, hfr, hfr0, q3', q8]
       refine Ct.use (Ct.any hS7.wf hS7.holds (f72_ok hS7.wf (IntsK.mono hS7.holds u4) hN (by rw [hnl']; exact hso.rise.kinds) hso.some (by have := hso.rise.len; omega))) (fun σ9 v9 m9 hl9 hv9 => ?_)
       subst hv9
       have hS9 := hS7.grow hl9.grow
       have hS9' := hS9.drop (List.sublist_cons_self _ _)
       have hlm := low_mem (sizes := nodes') hso.some
       have hlk := hso.rise.kinds _ hlm
       have hcalc2 : calcP nodes' (r.slots.drop (i + 1)) (min (n + at' nodes' (low nodes' sl.kinds)) much) = calcP nodes' r.slots 1 := by
        rw [← hcalc, hdrop]; simp [calcP, hmany]
       generalize low nodes' sl.kinds = cc at *
       obtain ⟨cn, rfl⟩ : ∃ cn : Nat, cc = cn := ⟨cc.toNat, by omega⟩
       have hcn : cn < g.length := by omega
       have hrg := hgood'.rng cn hcn
       have hix' := hix cn hcn
       have hld := map_at (l := nodes') (i := cn) (by omega)
       have hmuch : much = 1073741824 := rfl
       simp [hnt, hix', hS9.c2, hld, wrap_i64 (n := n + at' nodes' cn) (by omega) (by omega)]
       apply W.regN; simp [hnt, hfr3, q36, wr1 (show i < _ by omega)]
       have hsk' : min (n + at' nodes' cn) much < much → ∃ p, min (n + at' nodes' cn) much = p + 1 ∧ SkL g (r.slots.take (i + 1)) p := by
        intro hlt
        obtain ⟨p, h1, h2⟩ := hsk (by omega)
        refine ⟨p + at' nodes' cn, by omega, ?_⟩
        rw [htake]
        refine h2.snoc ?_
        rw [← Int.add_zero (at' nodes' cn)]
        exact .one hmany hlm (hgood'.has cn hcn (by omega)) .nil
       exact ⟨i + 1, by omega, by omega, by rw [hI2]; exact ⟨by simp, hS9', min (n + at' nodes' cn) much, by simp [hmuch], by omega, by omega, hcalc2, hsk'⟩⟩
      cases hc
     repeat apply W.seq
     apply W.regN; simp [hnt, hS7.c0, hmany]
     refine W.choose (by simp; rfl) (fun hc => ?_) fun hc => ?_
     · cases hc
     apply W.skip; try simp only [Then, InBlk]
     apply W.regN; simp [hnt, hfr3, q36, wr1 (show i < _ by omega)]
     exact ⟨i + 1, by omega, by omega, by rw [hI2]; exact ⟨by simp, hS7', n, by simp [q8], hn0, hn1, by rw [← hcalc, hdrop]; simp [calcP, hmany], fun h => by obtain ⟨p, h1, h2⟩ := hsk h; exact ⟨p, h1, by rw [htake, ← Int.add_zero p]; exact h2.snoc (.skip hmany .nil)⟩⟩⟩
    have hie : i = r.slots.length := by
     have : r.slots.length ≤ i := by simpa using hc
     omega
    apply W.exit; try simp [Then, InBlk]
    rw [hJ]
    refine ⟨n, by simp [q8], hS6.drop (List.sublist_cons_self _ _), ?_, hn0, hn1, fun h => ?_⟩
    · rw [← hcalc, hie]; simp [calcP]
    obtain ⟨p, h1, h2⟩ := hsk h
    rw [hie, List.take_length] at h2
    exact ⟨p, h1, h2⟩
   rw [hJ] at hJ4
   obtain ⟨n, p8, hS8, hcn, hn0, hn1, hsk⟩ := hJ4
   have hkn : k < nodes'.length := by omega
   have hix' := hix k hkl
   have hld := map_at hkn
   obtain ⟨m9, e9, hS9⟩ := hS8.seti (i := 0) (l := nodes') (x := none) rfl hkn n
   by_cases c1 : n < at' nodes' k
   ·
    repeat apply W.seq
    apply W.regN; simp [hnt, p8, hfr4, hfr2, hfr, hfr0, q3', hix', hS8.c0, hld, c1]
    refine W.choose (by simp; rfl) (fun hc => ?_) fun hc => ?_
    ·
     repeat apply W.seq
     apply W.regN; simp [hnt, p8, hfr4, hfr2, hfr, hfr0, q3', hix', e9]
     apply W.regN; simp [hnt]
     apply W.regN; simp [hnt, hfr4, hfr2, q28, wr1 (show k < _ by omega)]
     have g1 := hgood'.set hgk hn0 hn1 hsk
     have g2 := massP_set hkn hn0 c1
     have g3 : massP (nodes'.set k n) < massP nodes := by
      cases again' with
      | true => have := hyes rfl; omega
      | false => have := (hno rfl).1; subst this; exact g2
     exact ⟨k + 1, by omega, by omega, by rw [hI1]; exact ⟨by simp, by simp [hfr4, hfr2, hfr, hfr0], nodes'.set k n, true, by simp, hS9, g1, by simp, fun _ => g3⟩⟩
    cases hc
   repeat apply W.seq
   apply W.regN; simp [hnt, p8, hfr4, hfr2, hfr, hfr0, q3', hix', hS8.c0, hld, c1]
   refine W.choose (by simp; rfl) (fun hc => ?_) fun hc => ?_
   · cases hc
   apply W.skip; try simp only [Then, InBlk]
   apply W.regN; simp [hnt, hfr4, hfr2, q28, wr1 (show k < _ by omega)]
   have stay : again' = false → nodes' = nodes ∧ ∀ j, j < k + 1 → CalmP g nodes j := by
    intro h2
    obtain ⟨h3, h4⟩ := hno h2
    refine ⟨h3, fun j hj => ?_⟩
    by_cases hjk : j = k
    · subst hjk
      intro r' hr'
      rw [hgk] at hr'; cases hr'
      rw [← h3, ← hcn]
      exact c1
    exact h4 j (by omega)
   exact ⟨k + 1, by omega, by omega, by rw [hI1]; exact ⟨by simp, by simp [hfr4, hfr2, hfr, hfr0], nodes', again', by simp [hfr4, q4'], hS8, hgood', stay, hyes⟩⟩
  have hkl : k = g.length := by
   have : g.length ≤ k := by simpa using hc
   omega
  apply W.exit; try simp [Then, InBlk]
  refine ⟨2 * massP nodes' + (if again' then 1 else 0), ?_, ?_⟩
  · cases again' with
    | true => have := hyes rfl; simp at hM ⊢; omega
    | false => have := (hno rfl).1; subst this; simp at hM ⊢; omega
  rw [hI0]
  refine ⟨nodes', again', by simp [q3'], by simp [q4'], hS4, hgood', rfl, fun h => ?_⟩
  obtain ⟨h1, h2⟩ := hno h
  subst h1
  exact fun j hj => h2 j (by omega)
 subst hc
 apply W.exit; try simp [Then, InBlk]
 repeat apply W.seq
 apply W.regN; simp [hnt, q3]
 obtain ⟨σ', hle, hS9, hnb⟩ := hS3.freeze (i := 0) rfl
 apply W.ret
 refine ⟨.inr rfl, rfl, rfl, _, by simp [unwind.results, Tryz.f43]; rfl, _, hS9.learn, ?_⟩
 refine ⟨nodes, ⟨nb, 0, .inr ⟨mkCap g.length true, by rw [hnl]; exact hnv.symm⟩, fun i n hi => ?_⟩, hgood, hcalm rfl⟩
 rw [Nat.zero_add, hnb]
 simp [hi, iv]
end Go.Proofs.Lw
