/-
  PROVED here: steps on the way to the card of 'sleuthlaw06.ReduceTreeMinimal' (an abstract machine, its soundness, what each function computes). No conditions beyond those that each theorem states.
-/
import Derived.Test.YtfgpboldklboaaaGreatDoorAm10
import Derived.Test.YtfgpboldklboaaaGreatDoorAm18
import Derived.Test.YtfgpboldklboaaaGreatDoorAm22
import Derived.ProofKit
import Derived.LaidMore
import Derived.Lib.SmallJoins
import Derived.Deep.Strs
import Derived.OpenShut
namespace Go.Proofs.Lw
open Go Go.Am Go.ChangeShapes Go.Deep
set_option maxRecDepth 8000
def encV (w : World) : Value → Option Value
 | .bool b => some (.bool b)
 | .int k n => some (.int k n)
 | .string s => some (.string s)
 | .slice none 0 0 => some (.slice none 0 0)
 | .slice (some a) l c => if c = 0 then (if l = 0 then some (.slice (some ⟨0, 0, none⟩) 0 1) else none) else
  if a.block < w.heap.size ∧ l ≤ c ∧ a.spot = none then some (.slice (some ⟨2 * a.block, a.off, none⟩) l (2 * c + 1)) else none
 | _ => none
def glW (w : World) (b o : Nat) : Option Value := (w.cell? ⟨b, o, none⟩).bind (encV w)
def knW (w : World) : Kn := fun b o => if b % 2 = 0 then glW w (b / 2) o else none
theorem encV_ok {w : World} {v u : Value} (h : encV w v = some u) : plainV u = true ∧ ∀ ρ, VR ρ w.heap.size u v := by
 unfold encV at h
 split at h
 · cases h; exact ⟨rfl, fun ρ => .bool _⟩
 · cases h; exact ⟨rfl, fun ρ => .int _ _⟩
 · cases h; exact ⟨rfl, fun ρ => .string _⟩
 · cases h; exact ⟨rfl, fun ρ => .snil⟩
 ·
  rename_i a l c
  split at h
  ·
   rename_i hc
   split at h
   · rename_i hl
     subst hc hl
     cases h
     exact ⟨rfl, fun ρ => .slice0 a⟩
   cases h
  split at h
  ·
   rename_i hc hx
   obtain ⟨h1, h2, h3⟩ := hx
   cases h
   refine ⟨rfl, fun ρ => ?_⟩
   obtain ⟨b, o, sp⟩ := a
   simp only at h1 h3 ⊢
   subst h3
   refine .slice (b' := b) (s := 0) ?_ (.inl ⟨by unfold exact; rw [beq_iff_eq]; omega, by unfold capOf; omega⟩) (fun _ => by omega) h2
   unfold Emb.at
   rw [if_neg (by omega), if_pos (by omega)]
   simp
  cases h
 cases h
theorem cell_lt {w : World} {b o : Nat} {v : Value} (h : w.cell? ⟨b, o, none⟩ = some v) : b < w.heap.size := by
 unfold World.cell? at h
 rcases Nat.lt_or_ge b w.heap.size with h1 | h1
 · exact h1
 simp only at h
 rw [Array.getElem?_eq_none h1] at h
 cases h
theorem knW_of {w : World} {b o : Nat} {v u : Value} (h : w.cell? ⟨b, o, none⟩ = some v) (hu : encV w v = some u) : knW w (2 * b) o = some u := by
 unfold knW glW
 rw [if_pos (by omega), show 2 * b / 2 = b by omega, h]
 exact hu
theorem fixW (w : World) (ng : Nat) : Fix (cfg (glW w) ng).toEnv w := by
 refine ⟨fun b o v h => ?_⟩
 have h' : glW w b o = some v := h
 unfold glW at h'
 obtain ⟨x, h1, h2⟩ := Option.bind_eq_some_iff.1 h'
 exact ⟨cell_lt h1, (encV_ok h2).1, x, h1, (encV_ok h2).2⟩
theorem holdsW (w : World) (ng : Nat) : Holds (cfg (glW w) ng).toEnv (knW w) Mem.empty := by
 intro b o v h
 unfold knW at h
 split at h
 · rename_i hb
   unfold Mem.load
   rw [if_neg (by omega)]
   exact h
 cases h
theorem wf_empty : WF Mem.empty := fun k _ => rfl
theorem startW (w : World) (ng : Nat) : MR (cfg (glW w) ng).toEnv w (fun _ => none) Mem.empty w := by
 refine ⟨fixW w ng, fun b _ => rfl, Nat.le_refl _, rfl, rfl, rfl, fun k L h => (by cases h), fun k L bl h => (by cases h), fun k k' L L' bl bl' h => (by cases h), fun k _ => rfl⟩
section
variable {H : Type} {enc : TypeId × Value → H} {W : World}
def Ws (t : TypeId) (d : DataW H) : Prop := ∀ n ∈ d.weights Tryz.prog t, n ≤ reachBytes
theorem choose_list {A : Type} {Q : Nat → A → Prop} : ∀ (n : Nat), (∀ i, i < n → ∃ a, Q i a) → ∃ l : List A, l.length = n ∧ ∀ i a, l[i]? = some a → Q i a := by
 intro n h
 induction n with
 | zero => exact ⟨[], rfl, fun i a e => by simp at e⟩
 | succ n ih =>
  obtain ⟨l, h1, h2⟩ := ih (fun i hi => h i (by omega))
  obtain ⟨a, ha⟩ := h n (by omega)
  refine ⟨l ++ [a], by simp [h1], fun i x e => ?_⟩
  rcases Nat.lt_or_ge i l.length with hi | hi
  · rw [List.getElem?_append_left hi] at e; exact h2 i x e
  rw [List.getElem?_append_right hi] at e
  have : i - l.length = 0 := by
   rcases Nat.eq_zero_or_pos (i - l.length) with h0 | h0
   · exact h0
   rw [List.getElem?_eq_none (by simp only [List.length_cons, List.length_nil]; omega)] at e; cases e
  rw [this] at e
  simp at e
  subst e
  rw [show i = n by omega]
  exact ha
theorem cells_get {w : World} {b o : Nat} {n : Nat} {cs : List Value} (h : w.cells? 0 ⟨b, o, none⟩ n = some cs) : cs.length = n ∧ ∀ (j : Nat) (v : Value), cs[j]? = some v → w.cell? ⟨b, o + j, none⟩ = some v := by
 unfold World.cells? at h
 rw [if_pos (Nat.zero_le _)] at h
 have hl : cs.length = n := by simpa using mapM_some_length h
 refine ⟨hl, fun j v e => ?_⟩
 have hj : j < n := by
  rw [← hl]
  rcases Nat.lt_or_ge j cs.length with h1 | h1
  · exact h1
  rw [List.getElem?_eq_none h1] at e; cases e
 have := mapM_some_get h j j (by simp [hj])
 rw [e, addr_add] at this
 exact this
theorem cells_spot {w : World} {a : Addr} {n : Nat} {cs : List Value} (hn : 0 < n) (h : w.cells? 0 a n = some cs) : a.spot = none ∧ a.block < w.heap.size := by
 unfold World.cells? at h
 rw [if_pos (Nat.zero_le _)] at h
 have hl : cs.length = n := by simpa using mapM_some_length h
 have := mapM_some_get h 0 0 (by simp [hn])
 rw [List.getElem?_eq_getElem (by omega)] at this
 have e0 : a.add 0 = a := by simp [Addr.add]
 rw [e0] at this
 unfold World.cell? at this
 rcases Nat.lt_or_ge a.block w.heap.size with h1 | h1
 ·
  refine ⟨?_, h1⟩
  split at this
  ·
   split at this
   · cases this
   rename_i hs
   cases hh : a.spot with
   | none => rfl
   | some x => rw [hh] at hs; simp at hs
  cases this
 rw [Array.getElem?_eq_none h1] at this
 cases this
theorem open_sl {A : Type} {t e : TypeId} {c : Nat} (ht : Tryz.prog.underlying t = some (.slice e)) (hc : Tryz.prog.cellsOf e = c) (hcp : 0 < c) (hby : 0 < Tryz.prog.bytesOf e) (Rel : List Value → A → Prop) {n : Nat}
 (he : ∀ m, m < n → ∀ cs x, DataW.trod enc Tryz.prog W 0 (fun _ => true) true m e cs = some x → Ws e x.1 → ∃ a, Rel cs a) {cs : List Value} {x : DataW H × List MemPlace}
 (h : DataW.trod enc Tryz.prog W 0 (fun _ => true) true n t cs = some x) (hw : Ws t x.1) :
 ∃ (v u : Value) (l : List A) (b o : Nat), cs = [v] ∧ encV W v = some u ∧ SliceAt u l.length (2 * b) o ∧ l.length < 4611686018427387904 ∧
  ∀ i a, l[i]? = some a → ∃ cs', Rel cs' a ∧ cs'.length = c ∧ ∀ (j : Nat) (v : Value), cs'[j]? = some v → W.cell? ⟨b, o + c * i + j, none⟩ = some v := by
 rcases DataW.trod_slice ht h with ⟨rfl, rfl⟩ | ⟨a, len, cap, elems, rest, m, rfl, rfl, rfl, _, hl, _, hlen, hel, hre, _⟩
 · exact ⟨_, .slice none 0 0, [], 0, 0, rfl, rfl, .inl ⟨rfl, rfl⟩, by simp, fun i a e => by simp at e⟩
 have hwl : (elems.length + rest.length) * Tryz.prog.bytesOf e ≤ reachBytes := hw _ (by simp [DataW.weights, ht])
 have hll : len < 4611686018427387904 := by
  have h1 : elems.length + rest.length ≤ (elems.length + rest.length) * Tryz.prog.bytesOf e := Nat.le_mul_of_pos_right _ hby
  have h2 : reachBytes < 2 ^ 47 := reachBytes_lt
  omega
 have hwe : ∀ y ∈ elems, Ws e y.1 := by
  intro y hy k hk
  refine hw k ?_
  have : ∀ (l : List (DataW H)) (d : DataW H), d ∈ l → k ∈ d.weights Tryz.prog e → k ∈ DataW.weightsAll Tryz.prog e l := by
   intro l
   induction l with
   | nil => intro d hd; simp at hd
   | cons z r ih =>
    intro d hd hk
    simp only [DataW.weightsAll, List.mem_append]
    rcases List.mem_cons.1 hd with rfl | hd
    · exact .inl hk
    exact .inr (ih d hd hk)
  have h3 := this (elems.map (·.1)) y.1 (List.mem_map_of_mem hy) hk
  simp [DataW.weights, ht, h3]
 rcases Nat.eq_zero_or_pos cap with h0 | h0
 · subst h0
   have hl0 : len = 0 := by omega
   subst hl0
   exact ⟨_, .slice (some ⟨0, 0, none⟩) 0 1, [], 0, 0, rfl, by simp [encV], .inr ⟨_, rfl⟩, by simp, fun i a e => by simp at e⟩
 have hsp : a.spot = none ∧ a.block < W.heap.size := by
  rcases Nat.eq_zero_or_pos len with h1 | h1
  ·
   subst h1
   have hr := hre rfl
   have := hr.2 0 (by omega)
   rw [List.getElem?_eq_getElem (by omega)] at this
   obtain ⟨cs', q1, _⟩ := Option.bind_eq_some_iff.1 this
   have e0 : a.add ((0 + 0) * Tryz.prog.cellsOf e) = a := by simp [Addr.add]
   rw [e0] at q1
   exact cells_spot (by omega) q1
  have := hel 0 h1
  rw [List.getElem?_eq_getElem (by omega)] at this
  obtain ⟨cs', q1, _⟩ := Option.bind_eq_some_iff.1 this
  have e0 : a.add (0 * Tryz.prog.cellsOf e) = a := by simp [Addr.add]
  rw [e0] at q1
  exact cells_spot (by omega) q1
 obtain ⟨b, o, sp⟩ := a
 simp only at hsp
 obtain ⟨rfl, hb⟩ := hsp
 obtain ⟨l, g1, g2⟩ := choose_list (Q := fun i a => ∃ cs', Rel cs' a ∧ cs'.length = c ∧ ∀ (j : Nat) (v : Value), cs'[j]? = some v → W.cell? ⟨b, o + c * i + j, none⟩ = some v) len (fun i hi => by
  have := hel i hi
  rw [List.getElem?_eq_getElem (by omega)] at this
  obtain ⟨cs', q1, q2⟩ := Option.bind_eq_some_iff.1 this
  obtain ⟨a', ha'⟩ := he m (by omega) cs' _ q2 (hwe _ (List.getElem_mem _))
  rw [addr_add, hc] at q1
  obtain ⟨q3, q4⟩ := cells_get q1
  refine ⟨a', cs', ha', q3, fun j v e => ?_⟩
  rw [Nat.mul_comm c i]
  exact q4 j v e)
 refine ⟨_, .slice (some ⟨2 * b, o, none⟩) len (2 * cap + 1), l, b, o, rfl, ?_, .inr ⟨_, by rw [g1]⟩, by omega, g2⟩
 simp only [encV]
 rw [if_neg (by omega), if_pos ⟨hb, hl, trivial⟩]
theorem open_i {t : TypeId} {k : IntKind} (ht : Tryz.prog.underlying t = some (.int k)) {n : Nat} {cs : List Value} {x : DataW H × List MemPlace}
 (h : DataW.trod enc Tryz.prog W 0 (fun _ => true) true n t cs = some x) : ∃ i, cs = [.int k i] ∧ (Lit.int k i).wf = true := by
 obtain ⟨i, h1, _, h3⟩ := DataW.trod_int ht h
 exact ⟨i, h1, h3⟩
theorem open_s {t : TypeId} (ht : Tryz.prog.underlying t = some .string) {n : Nat} {cs : List Value} {x : DataW H × List MemPlace}
 (h : DataW.trod enc Tryz.prog W 0 (fun _ => true) true n t cs = some x) : ∃ s, cs = [.string s] := by
 obtain ⟨s, h1, _⟩ := DataW.trod_string ht h
 exact ⟨s, h1⟩
theorem open_b {t : TypeId} (ht : Tryz.prog.underlying t = some .bool) {n : Nat} {cs : List Value} {x : DataW H × List MemPlace}
 (h : DataW.trod enc Tryz.prog W 0 (fun _ => true) true n t cs = some x) : ∃ b, cs = [.bool b] := by
 obtain ⟨s, h1, _⟩ := DataW.trod_bool ht h
 exact ⟨s, h1⟩
theorem c3 : Tryz.prog.cellsOf 3 = 1 := by kernel_rfl
theorem c53 : Tryz.prog.cellsOf 53 = 1 := by kernel_rfl
theorem c55 : Tryz.prog.cellsOf 55 = 3 := by kernel_rfl
theorem c51 : Tryz.prog.cellsOf 51 = 4 := by kernel_rfl
theorem c27 : Tryz.prog.cellsOf 27 = 3 := by kernel_rfl
theorem c59 : Tryz.prog.cellsOf 59 = 1 := by kernel_rfl
theorem c24 : Tryz.prog.cellsOf 24 = 1 := by kernel_rfl
theorem c31 : Tryz.prog.cellsOf 31 = 4 := by kernel_rfl
theorem c9 : Tryz.prog.cellsOf 9 = 1 := by kernel_rfl
theorem c4 : Tryz.prog.cellsOf 4 = 1 := by kernel_rfl
theorem c49 : Tryz.prog.cellsOf 49 = 1 := by kernel_rfl
theorem c52 : Tryz.prog.cellsOf 52 = 1 := by kernel_rfl
theorem c25 : Tryz.prog.cellsOf 25 = 1 := by kernel_rfl
theorem c22 : Tryz.prog.cellsOf 22 = 1 := by kernel_rfl
theorem c28 : Tryz.prog.cellsOf 28 = 1 := by kernel_rfl
theorem c29 : Tryz.prog.cellsOf 29 = 1 := by kernel_rfl
theorem c5 : Tryz.prog.cellsOf 5 = 1 := by kernel_rfl
theorem b3 : 0 < Tryz.prog.bytesOf 3 := of_decide_eq_true (by kernel_rfl)
theorem b53 : 0 < Tryz.prog.bytesOf 53 := of_decide_eq_true (by kernel_rfl)
theorem b55 : 0 < Tryz.prog.bytesOf 55 := of_decide_eq_true (by kernel_rfl)
theorem b51 : 0 < Tryz.prog.bytesOf 51 := of_decide_eq_true (by kernel_rfl)
theorem b27 : 0 < Tryz.prog.bytesOf 27 := of_decide_eq_true (by kernel_rfl)
theorem b59 : 0 < Tryz.prog.bytesOf 59 := of_decide_eq_true (by kernel_rfl)
def RI (W : World) (cs : List Value) (l : List Int) : Prop := ∃ v u, cs = [v] ∧ encV W v = some u ∧ IntsK (knW W) u l ∧ l.length < 4611686018427387904
theorem open_ints {n : Nat} {cs : List Value} {x : DataW H × List MemPlace} (h : DataW.trod enc Tryz.prog W 0 (fun _ => true) true n 53 cs = some x) (hw : Ws 53 x.1) : ∃ l, RI W cs l := by
 obtain ⟨v, u, l, b, o, rfl, h1, h2, h3, h4⟩ := open_sl Tryz.underlying53 c3 (by omega) b3 (fun cs (i : Int) => cs = [.int .i64 i]) (fun m _ cs x hx _ => by
  obtain ⟨i, q, _⟩ := open_i Tryz.underlying3 hx
  exact ⟨i, q⟩) h hw
 refine ⟨l, v, u, rfl, h1, ⟨2 * b, o, h2, fun i k e => ?_⟩, h3⟩
 obtain ⟨cs', rfl, _, q⟩ := h4 i k e
 have := q 0 _ rfl
 rw [Nat.one_mul, Nat.add_zero] at this
 exact knW_of this rfl
def RL (W : World) (cs : List Value) (l : List (List Int)) : Prop := ∃ v u, cs = [v] ∧ encV W v = some u ∧ ListsK (knW W) u l
theorem open_lists {n : Nat} {cs : List Value} {x : DataW H × List MemPlace} (h : DataW.trod enc Tryz.prog W 0 (fun _ => true) true n 28 cs = some x) (hw : Ws 28 x.1) : ∃ l, RL W cs l := by
 obtain ⟨v, u, l, b, o, rfl, h1, h2, h3, h4⟩ := open_sl Tryz.underlying28 c53 (by omega) b53 (RI W) (fun m _ cs x hx hw => open_ints hx hw) h hw
 refine ⟨l, v, u, rfl, h1, 2 * b, o, h2, fun i k e => ?_⟩
 obtain ⟨cs', ⟨v', u', rfl, q1, q2, _⟩, _, q⟩ := h4 i k e
 have := q 0 _ rfl
 rw [Nat.one_mul, Nat.add_zero] at this
 exact ⟨u', knW_of this q1, q2⟩
def RS (W : World) (cs : List Value) (s : SlotD) : Prop := ∃ v u, cs = [.int .u8 s.many, v, .string s.between] ∧ encV W v = some u ∧ IntsK (knW W) u s.kinds ∧ 0 ≤ s.many ∧ s.kinds.length < 4611686018427387904
theorem open_slot {n : Nat} {cs : List Value} {x : DataW H × List MemPlace} (h : DataW.trod enc Tryz.prog W 0 (fun _ => true) true n 55 cs = some x) (hw : Ws 55 x.1) : ∃ s, RS W cs s := by
 obtain ⟨y0, y1, y2, m, rfl, hl, t0, t1, t2⟩ := trod_struct3 Tryz.underlying55 h
 rw [c55] at hl
 match cs, hl with
 | [a0, a1, a2], _ =>
  simp only [c52, c53, c9, List.drop, List.take] at t0 t1 t2
  obtain ⟨i, e0, wf⟩ := open_i Tryz.underlying52 t0
  obtain ⟨l, v, u, e1, q1, q2, q3⟩ := open_ints t1 (fun k hk => hw k (by simp [DataW.weights, Tryz.underlying55, DataW.weightsEach, hk]))
  obtain ⟨s, e2⟩ := open_s Tryz.underlying9 t2
  simp only [List.cons.injEq, and_true] at e0 e1 e2
  subst e0 e1 e2
  refine ⟨⟨i, l, s⟩, _, u, rfl, q1, q2, ?_, q3⟩
  have h0 : decide (IntKind.min .u8 ≤ i) = true := by
   simp only [Lit.wf, Bool.and_eq_true] at wf
   exact wf.1
  have h1 : IntKind.min .u8 ≤ i := of_decide_eq_true h0
  exact h1
def RR (W : World) (cs : List Value) (r : RuleD) : Prop := ∃ v u, cs = [.string r.before, .string r.after, .bool r.leaf, v] ∧ encV W v = some u ∧ SlotsV (knW W) u r.slots ∧ RuleLen r
theorem open_rule {n : Nat} {cs : List Value} {x : DataW H × List MemPlace} (h : DataW.trod enc Tryz.prog W 0 (fun _ => true) true n 51 cs = some x) (hw : Ws 51 x.1) : ∃ s, RR W cs s := by
 obtain ⟨y0, y1, y2, y3, m, rfl, hl, t0, t1, t2, t3⟩ := Go.Joins.trod_struct4 Tryz.underlying51 h
 rw [c51] at hl
 match cs, hl with
 | [a0, a1, a2, a3], _ =>
  simp only [c9, c4, c49, List.drop, List.take] at t0 t1 t2 t3
  obtain ⟨s0, e0⟩ := open_s Tryz.underlying9 t0
  obtain ⟨s1, e1⟩ := open_s Tryz.underlying9 t1
  obtain ⟨s2, e2⟩ := open_b Tryz.underlying4 t2
  obtain ⟨v, u, l, b, o, e3, h1, h2, h3, h4⟩ := open_sl Tryz.underlying49 c55 (by omega) b55 (RS W) (fun m _ cs x hx hw => open_slot hx hw) t3 (fun k hk => hw k (by simp [DataW.weights, Tryz.underlying51, DataW.weightsEach, hk]))
  simp only [List.cons.injEq, and_true] at e0 e1 e2 e3
  subst e0 e1 e2 e3
  refine ⟨⟨s0, s1, s2, l⟩, _, u, rfl, h1, ⟨2 * b, o, h2, fun i s hs => ?_⟩, h3, fun s hs => ?_⟩
  · obtain ⟨cs', ⟨v', u', rfl, q1, q2, _, _⟩, _, q⟩ := h4 i s hs
    exact ⟨u', knW_of (q 0 _ rfl) rfl, knW_of (q 1 _ rfl) q1, knW_of (q 2 _ rfl) rfl, q2⟩
  obtain ⟨i, hi⟩ := List.mem_iff_getElem?.1 hs
  obtain ⟨cs', ⟨v', u', rfl, q1, q2, q3, q4⟩, _, q⟩ := h4 i s hi
  exact ⟨q3, by omega⟩
theorem open_gram {n : Nat} {cs : List Value} {x : DataW H × List MemPlace} (h : DataW.trod enc Tryz.prog W 0 (fun _ => true) true n 24 cs = some x) (hw : Ws 24 x.1) :
 ∃ g v u, cs = [v] ∧ encV W v = some u ∧ RulesV (knW W) u g ∧ GramLen g := by
 obtain ⟨y0, m, rfl, hl, t0⟩ := trod_struct1 Tryz.underlying24 h
 rw [c24] at hl
 match cs, hl with
 | [a0], _ =>
  simp only [c22, List.drop, List.take] at t0
  obtain ⟨v, u, l, b, o, e3, h1, h2, h3, h4⟩ := open_sl Tryz.underlying22 c51 (by omega) b51 (RR W) (fun m _ cs x hx hw => open_rule hx hw) t0 (fun k hk => hw k (by simp [DataW.weights, Tryz.underlying24, DataW.weightsEach, hk]))
  refine ⟨l, v, u, e3, h1, ⟨2 * b, o, h2, fun i s hs => ?_⟩, h3, fun s hs => ?_⟩
  · obtain ⟨cs', ⟨v', u', rfl, q1, q2, _⟩, _, q⟩ := h4 i s hs
    exact ⟨u', knW_of (q 0 _ rfl) rfl, knW_of (q 1 _ rfl) rfl, knW_of (q 2 _ rfl) rfl, knW_of (q 3 _ rfl) q1, q2⟩
  obtain ⟨i, hi⟩ := List.mem_iff_getElem?.1 hs
  obtain ⟨cs', ⟨v', u', rfl, q1, q2, q3⟩, _, q⟩ := h4 i s hi
  exact q3
def RT (W : World) (cs : List Value) (t : T) : Prop := ∃ x y z u, cs = [x, y, z] ∧ encV W x = some x ∧ encV W y = some y ∧ encV W z = some u ∧ TreeK (knW W) (.agg #[x, y, u]) t
def RTs (W : World) (cs : List Value) (l : List T) : Prop := ∃ v u b o, cs = [v] ∧ encV W v = some u ∧ SliceAt u l.length b o ∧ TreesK (knW W) b o l
theorem treesK_of {W : World} {b : Nat} : ∀ (l : List T) (o : Nat), (∀ i t, l[i]? = some t → ∃ cs, RT W cs t ∧ cs.length = 3 ∧ ∀ (j : Nat) (v : Value), cs[j]? = some v → W.cell? ⟨b, o + 3 * i + j, none⟩ = some v) → TreesK (knW W) (2 * b) o l
 | [], _, _ => by simp only [TreesK]
 | t :: r, o, h => by
  simp only [TreesK]
  obtain ⟨cs, ⟨x, y, z, u, rfl, q1, q2, q3, q4⟩, _, q⟩ := h 0 t rfl
  refine ⟨⟨x, y, u, knW_of (q 0 _ rfl) q1, knW_of (q 1 _ rfl) q2, knW_of (q 2 _ rfl) q3, q4⟩, treesK_of r (o + 3) (fun i t' ht' => ?_)⟩
  obtain ⟨cs, g1, g2, g3⟩ := h (i + 1) t' (by simpa using ht')
  exact ⟨cs, g1, g2, fun j v e => by rw [show o + 3 + 3 * i + j = o + 3 * (i + 1) + j by omega]; exact g3 j v e⟩
theorem slotsK_of {W : World} {b : Nat} : ∀ (l : List (List T)) (o : Nat), (∀ i t, l[i]? = some t → ∃ cs, RTs W cs t ∧ cs.length = 1 ∧ ∀ (j : Nat) (v : Value), cs[j]? = some v → W.cell? ⟨b, o + 1 * i + j, none⟩ = some v) → SlotsK (knW W) (2 * b) o l
 | [], _, _ => by simp only [SlotsK]
 | t :: r, o, h => by
  simp only [SlotsK]
  obtain ⟨cs, ⟨v, u, b', o', rfl, q1, q2, q3⟩, _, q⟩ := h 0 t rfl
  refine ⟨⟨u, b', o', knW_of (q 0 _ rfl) q1, q2, q3⟩, slotsK_of r (o + 1) (fun i t' ht' => ?_)⟩
  obtain ⟨cs, g1, g2, g3⟩ := h (i + 1) t' (by simpa using ht')
  exact ⟨cs, g1, g2, fun j v e => by rw [show o + 1 + 1 * i + j = o + 1 * (i + 1) + j by omega]; exact g3 j v e⟩
theorem open_tree : ∀ (n : Nat) (cs : List Value) (x : DataW H × List MemPlace), DataW.trod enc Tryz.prog W 0 (fun _ => true) true n 27 cs = some x → Ws 27 x.1 → ∃ t, RT W cs t := by
 intro n
 induction n using Nat.strongRecOn with
 | ind n ih =>
  intro cs x h hw
  obtain ⟨xs, m, rfl, rfl, hl, hlen, hf⟩ := DataW.trod_struct Tryz.underlying27 h
  rw [c27] at hl
  match xs, hlen with
  | [y0, y1, y2], _ =>
   match cs, hl with
   | [a0, a1, a2], _ =>
    have t0 : DataW.trod enc Tryz.prog W 0 (fun _ => true) true m 3 (List.take (Tryz.prog.cellsOf 3) [a0, a1, a2]) = some y0 := hf 0 _ rfl
    have t1 : DataW.trod enc Tryz.prog W 0 (fun _ => true) true m 9 (List.take (Tryz.prog.cellsOf 9) [a1, a2]) = some y1 := hf 1 _ rfl
    have t2 : DataW.trod enc Tryz.prog W 0 (fun _ => true) true m 25 (List.take (Tryz.prog.cellsOf 25) [a2]) = some y2 := hf 2 _ rfl
    rw [c3] at t0
    rw [c9] at t1
    rw [c25] at t2
    simp only [List.take] at t0 t1 t2
    obtain ⟨i, e0, _⟩ := open_i Tryz.underlying3 t0
    obtain ⟨s, e1⟩ := open_s Tryz.underlying9 t1
    obtain ⟨v, u, l, b, o, e2, h1, h2, _, h4⟩ := open_sl (n := m) Tryz.underlying25 c59 (by omega) b59 (RTs W) (fun m' hm' cs x hx hw => by
     obtain ⟨v, u, l, b, o, e2, h1, h2, _, h4⟩ := open_sl (n := m') Tryz.underlying59 c27 (by omega) b27 (RT W) (fun m2 hm2 cs x hx hw => ih m2 (by omega) cs x hx hw) hx hw
     exact ⟨l, v, u, 2 * b, o, e2, h1, h2, treesK_of l o h4⟩) t2 (fun k hk => hw k (by simp [DataW.weights, Tryz.underlying27, DataW.weightsEach, hk]))
    simp only [List.cons.injEq, and_true] at e0
    simp only [List.cons.injEq, and_true] at e1
    simp only [List.cons.injEq, and_true] at e2
    subst e0 e1 e2
    refine ⟨.mk i s l, _, _, _, u, rfl, rfl, rfl, h1, ?_⟩
    simp only [TreeK]
    exact ⟨u, 2 * b, o, rfl, h2, slotsK_of l o h4⟩
theorem open_or {n : Nat} {cs : List Value} {x : DataW H × List MemPlace} (h : DataW.trod enc Tryz.prog W 0 (fun _ => true) true n 31 cs = some x) (hw : Ws 31 x.1) :
 ∃ o v1 v2 u1 u2, cs = [v1, v2, .int .u64 o.salt, .int .u8 o.loose] ∧ encV W v1 = some u1 ∧ encV W v2 = some u2 ∧ OrK (knW W) (.agg #[u1, u2, .int .u64 o.salt, .int .u8 o.loose]) o := by
 obtain ⟨y0, y1, y2, y3, m, rfl, hl, t0, t1, t2, t3⟩ := Go.Joins.trod_struct4 Tryz.underlying31 h
 rw [c31] at hl
 match cs, hl with
 | [a0, a1, a2, a3], _ =>
  simp only [c28, c29, c5, List.drop, List.take] at t0 t1 t2 t3
  obtain ⟨l0, v0, u0, e0, p0, q0⟩ := open_lists t0 (fun k hk => hw k (by simp [DataW.weights, Tryz.underlying31, DataW.weightsEach, hk]))
  obtain ⟨l1, v1, u1, e1, p1, q1⟩ := open_lists t1 (fun k hk => hw k (by simp [DataW.weights, Tryz.underlying31, DataW.weightsEach, hk]))
  obtain ⟨i2, e2, _⟩ := open_i Tryz.underlying29 t2
  obtain ⟨i3, e3, _⟩ := open_i Tryz.underlying5 t3
  simp only [List.cons.injEq, and_true] at e0 e1 e2 e3
  subst e0 e1 e2 e3
  exact ⟨⟨l0, l1, i2, i3⟩, _, _, u0, u1, rfl, p0, p1, u0, u1, rfl, q0, q1⟩
end
end Go.Proofs.Lw
