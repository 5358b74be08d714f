/-
  PROVED here: steps on the way to the card of 'sleuthlaw06.ReduceTreeMinimal' (an abstract machine, its soundness, what each function computes). No conditions beyond those that each theorem states.
-/
import Derived.Test.YtfgpboldklboaaaGreatDoorAm32
namespace Go.Proofs.Lw
open Go Go.Am
variable {g : List RuleD} {ns : List Int} {bt : T} {a : Nat}
theorem spots_L {t : T} : spotsOf g t = belowL g [t] zeroSlot 1 := by simp [spotsOf, belowL]
mutual
theorem below_nodes : ∀ {t : T} {d : Nat}, ∀ e ∈ below g t d, nodes e.1 < nodes t
 | .mk k tx ss, d => by
  intro e he
  simp only [below] at he
  have := belowSS_nodes e he
  simp only [nodes]; omega
theorem belowSS_nodes : ∀ {ss : List (List T)} {sl : List SlotD} {d : Nat}, ∀ e ∈ belowSS g ss sl d, nodes e.1 ≤ nodesSS ss
 | [], _, d => by intro e he; simp [belowSS] at he
 | _ :: _, [], d => by intro e he; simp [belowSS] at he
 | l :: r, s :: sl, d => by
  intro e he
  simp only [belowSS, List.mem_append] at he
  simp only [nodesSS]
  rcases he with he | he
  · have := belowL_nodes e he; omega
  have := belowSS_nodes e he; omega
theorem belowL_nodes : ∀ {l : List T} {s : SlotD} {d : Nat}, ∀ e ∈ belowL g l s d, nodes e.1 ≤ nodesL l
 | [], _, d => by intro e he; simp [belowL] at he
 | t :: r, s, d => by
  intro e he
  simp only [belowL, List.mem_cons, List.mem_append] at he
  simp only [nodesL]
  rcases he with rfl | he | he
  · simp only; omega
  · have := below_nodes e he; omega
  have := belowL_nodes e he; omega
end
def SubAt (g : List RuleD) (l : List SpotD) : Prop := ∀ (j : Nat) (e : SpotD), l[j]? = some e → OkN g e.1 ∧ ∀ i, i + 1 < nodes e.1 → l[j + (i + 1)]? = (below g e.1 e.2.2)[i]?
theorem SubAt.app {l r : List SpotD} (h : SubAt g l) (h' : SubAt g r) : SubAt g (l ++ r) := by
 intro j e he
 by_cases hj : j < l.length
 ·
  rw [List.getElem?_append_left hj] at he
  obtain ⟨h1, h2⟩ := h j e he
  refine ⟨h1, fun i hi => ?_⟩
  have h3 := h2 i hi
  have hb := below_len (d := e.2.2) h1
  have h4 : (below g e.1 e.2.2)[i]? = some (below g e.1 e.2.2)[i] := by simp
  rw [h4] at h3
  rw [List.getElem?_append_left (lt_of_get h3), h3, h4]
 rw [List.getElem?_append_right (by omega)] at he
 obtain ⟨h1, h2⟩ := h' _ e he
 refine ⟨h1, fun i hi => ?_⟩
 rw [List.getElem?_append_right (by omega), ← h2 i hi]
 congr 1; omega
mutual
theorem below_sub : ∀ {t : T} {d : Nat}, OkN g t → SubAt g (below g t d)
 | .mk k tx ss, d, h => by
  simp only [OkN] at h
  simp only [below]
  exact belowSS_sub h.2
theorem belowSS_sub : ∀ {ss : List (List T)} {sl : List SlotD} {d : Nat}, OkSS g ss → SubAt g (belowSS g ss sl d)
 | [], _, d, _ => by intro j e he; simp [belowSS] at he
 | _ :: _, [], d, _ => by intro j e he; simp [belowSS] at he
 | l :: r, s :: sl, d, h => by
  simp only [OkSS] at h
  simp only [belowSS]
  exact (belowL_sub h.1).app (belowSS_sub h.2)
theorem belowL_sub : ∀ {l : List T} {s : SlotD} {d : Nat}, OkL g l → SubAt g (belowL g l s d)
 | [], _, d, _ => by intro j e he; simp [belowL] at he
 | t :: r, s, d, h => by
  simp only [OkL] at h
  have h1 := below_sub (d := d) h.1
  have h2 := belowL_sub (s := s) (d := d) h.2
  simp only [belowL]
  have hb := below_len (d := d) h.1
  intro j e he
  cases j with
  | zero =>
   simp at he; subst he
   refine ⟨h.1, fun i hi => ?_⟩
   simp only at hi ⊢
   rw [show 0 + (i + 1) = i + 1 by omega, List.getElem?_cons_succ, List.getElem?_append_left (by omega)]
  | succ j =>
   rw [List.getElem?_cons_succ] at he
   obtain ⟨h3, h4⟩ := (h1.app h2) j e he
   refine ⟨h3, fun i hi => ?_⟩
   rw [show j + 1 + (i + 1) = (j + (i + 1)) + 1 by omega, List.getElem?_cons_succ]
   exact h4 i hi
end
theorem spots_sub {t : T} (h : OkN g t) {a b : Nat} {ea eb : SpotD} (hea : (spotsOf g t)[a]? = some ea) (heb : (spotsOf g t)[b]? = some eb) (hab : a < b) (hbn : b < a + nodes ea.1) : OkN g ea.1 ∧ OkN g eb.1 ∧ nodes eb.1 < nodes ea.1 := by
 rw [spots_L] at hea heb
 have hs := belowL_sub (g := g) (s := zeroSlot) (d := 1) (l := [t]) (by simp [OkL, h])
 obtain ⟨h1, h2⟩ := hs a ea hea
 have h3 := h2 (b - a - 1) (by omega)
 rw [show a + (b - a - 1 + 1) = b by omega, heb] at h3
 exact ⟨h1, (hs b eb heb).1, below_nodes _ (List.mem_of_getElem? h3.symm)⟩
mutual
theorem repl_same : ∀ {t : T} {n : Nat}, a < n ∨ n + nodes t ≤ a → replT bt a t n = t
 | .mk k tx ss, n, h => by
  simp only [nodes] at h
  simp only [replT]
  rw [if_neg (by omega), replSS_same (by omega)]
theorem replSS_same : ∀ {ss : List (List T)} {n : Nat}, a < n ∨ n + nodesSS ss ≤ a → replSS bt a ss n = ss
 | [], n, _ => by simp only [replSS]
 | l :: r, n, h => by
  simp only [nodesSS] at h
  simp only [replSS]
  rw [replL_same (by omega), replSS_same (by omega)]
theorem replL_same : ∀ {l : List T} {n : Nat}, a < n ∨ n + nodesL l ≤ a → replL bt a l n = l
 | [], n, _ => by simp only [replL]
 | t :: r, n, h => by
  simp only [nodesL] at h
  have := nodes_pos t
  simp only [replL]
  rw [repl_same (by omega), replL_same (by omega)]
end
mutual
theorem repl_ok (hb : OkN g bt) : ∀ {t : T} {n d : Nat} {e : SpotD}, OkN g t → n < a → (below g t d)[a - (n + 1)]? = some e → kindT bt ∈ e.2.1.kinds →
 OkN g (replT bt a t n) ∧ nodes (replT bt a t n) + nodes e.1 = nodes t + nodes bt ∧ kindT (replT bt a t n) = kindT t
 | .mk k tx ss, n, d, e, ht, hna, he, hk => by
  simp only [OkN] at ht
  obtain ⟨⟨r, hn⟩, h2⟩ := ht
  have es : slotsOf g k = r.slots := by simp only [slotsOf, hn.rule]
  simp only [below, es] at he
  simp only [replT]
  rw [if_neg (by omega)]
  obtain ⟨q1, q2, q3⟩ := replSS_ok hb (n := n + 1) h2 (by omega) he hk hn.fit
  simp only [OkN, nodes]
  exact ⟨⟨⟨r, ⟨hn.pos, hn.rule, hn.text, hn.leaf, by rw [replSS_len]; exact hn.len, q3⟩⟩, q1⟩, by omega, rfl⟩
theorem replSS_ok (hb : OkN g bt) : ∀ {ss : List (List T)} {sl : List SlotD} {n d : Nat} {e : SpotD}, OkSS g ss → n ≤ a → (belowSS g ss sl d)[a - n]? = some e → kindT bt ∈ e.2.1.kinds →
 (∀ (i : Nat) (s : SlotD) (l : List T), sl[i]? = some s → ss[i]? = some l → SlotFit s l) →
 OkSS g (replSS bt a ss n) ∧ nodesSS (replSS bt a ss n) + nodes e.1 = nodesSS ss + nodes bt ∧ (∀ (i : Nat) (s : SlotD) (l : List T), sl[i]? = some s → (replSS bt a ss n)[i]? = some l → SlotFit s l)
 | [], _, n, d, e, _, _, he, _, _ => by simp [belowSS] at he
 | _ :: _, [], n, d, e, _, _, he, _, _ => by simp [belowSS] at he
 | l :: r, s :: sl, n, d, e, h, hna, he, hk, hf => by
  simp only [OkSS] at h
  simp only [belowSS] at he
  have hll := belowL_len (s := s) (d := d) h.1
  have h0 := hf 0 s l (by simp) (by simp)
  simp only [replSS, OkSS, nodesSS]
  by_cases hal : a < n + nodesL l
  ·
   rw [List.getElem?_append_left (by omega)] at he
   obtain ⟨q1, q2, q3⟩ := replL_ok hb h.1 hna he hk
   rw [replSS_same (by omega)]
   refine ⟨⟨q1, h.2⟩, by omega, fun i s' l' a1 a2 => ?_⟩
   cases i with
   | zero =>
    simp at a1 a2
    subst a1; subst a2
    refine ⟨fun hm => by rw [replL_len]; exact h0.one hm, fun hm => by rw [replL_len]; exact h0.maybe hm, fun x hx => ?_⟩
    rcases q3 x hx with ⟨y, hy, e⟩ | hx
    · rw [e]; exact h0.kinds y hy
    exact hx
   | succ i => exact hf (i + 1) s' l' (by simpa using a1) (by simpa using a2)
  rw [List.getElem?_append_right (by omega), show a - n - (belowL g l s d).length = a - (n + nodesL l) by omega] at he
  obtain ⟨q1, q2, q3⟩ := replSS_ok hb h.2 (by omega) he hk (fun i s' l' a1 a2 => hf (i + 1) s' l' (by simpa using a1) (by simpa using a2))
  rw [replL_same (by omega)]
  refine ⟨⟨h.1, q1⟩, by omega, fun i s' l' a1 a2 => ?_⟩
  cases i with
  | zero =>
   simp at a1 a2
   subst a1; subst a2
   exact h0
  | succ i => exact q3 i s' l' (by simpa using a1) (by simpa using a2)
theorem replL_ok (hb : OkN g bt) : ∀ {l : List T} {s : SlotD} {n d : Nat} {e : SpotD}, OkL g l → n ≤ a → (belowL g l s d)[a - n]? = some e → kindT bt ∈ e.2.1.kinds →
 OkL g (replL bt a l n) ∧ nodesL (replL bt a l n) + nodes e.1 = nodesL l + nodes bt ∧ ∀ x ∈ replL bt a l n, (∃ y ∈ l, kindT x = kindT y) ∨ kindT x ∈ s.kinds
 | [], _, n, d, e, _, _, he, _ => by simp [belowL] at he
 | t :: r, s, n, d, e, h, hna, he, hk => by
  simp only [OkL] at h
  simp only [belowL] at he
  have hbl := below_len (d := d) h.1
  have hnp := nodes_pos t
  simp only [replL, OkL, nodesL]
  by_cases ha : a = n
  ·
   subst ha
   rw [Nat.sub_self] at he
   simp only [List.getElem?_cons_zero, Option.some.injEq] at he
   subst he
   have e1 : replT bt a t a = bt := by obtain ⟨k, tx, ss⟩ := t; simp [replT]
   rw [e1, replL_same (by omega)]
   refine ⟨⟨hb, h.2⟩, by simp only; omega, fun x hx => ?_⟩
   rcases List.mem_cons.1 hx with rfl | hx
   · exact .inr hk
   exact .inl ⟨x, by simp [hx], rfl⟩
  rw [show a - n = (a - (n + 1)) + 1 by omega, List.getElem?_cons_succ] at he
  by_cases hat : a < n + nodes t
  ·
   rw [List.getElem?_append_left (by omega)] at he
   obtain ⟨q1, q2, q3⟩ := repl_ok hb h.1 (by omega) he hk
   rw [replL_same (by omega)]
   refine ⟨⟨q1, h.2⟩, by omega, fun x hx => ?_⟩
   rcases List.mem_cons.1 hx with rfl | hx
   · exact .inl ⟨t, by simp, q3⟩
   exact .inl ⟨x, by simp [hx], rfl⟩
  rw [List.getElem?_append_right (by omega), show a - (n + 1) - (below g t d).length = a - (n + nodes t) by omega] at he
  obtain ⟨q1, q2, q3⟩ := replL_ok hb h.2 (by omega) he hk
  rw [repl_same (by omega)]
  refine ⟨⟨h.1, q1⟩, by omega, fun x hx => ?_⟩
  rcases List.mem_cons.1 hx with rfl | hx
  · exact .inl ⟨x, by simp, rfl⟩
  rcases q3 x hx with ⟨y, hy, e⟩ | hx
  · exact .inl ⟨y, by simp [hy], e⟩
  exact .inr hx
end
theorem hoist_ok {t : T} {b : Nat} {ea eb : SpotD} (ht : OkN g t) (hea : (spotsOf g t)[a]? = some ea) (heb : (spotsOf g t)[b]? = some eb) (hab : a < b) (hc : canH (spotsOf g t) ea eb a b = true) :
 OkN g (replT eb.1 a t 0) ∧ nodes (replT eb.1 a t 0) < nodes t ∧ a < nodes (replT eb.1 a t 0) := by
 simp only [canH, Bool.and_eq_true, decide_eq_true_eq] at hc
 obtain ⟨hbn, hc⟩ := hc
 obtain ⟨h1, h2, h3⟩ := spots_sub ht hea heb hab hbn
 have hnp := nodes_pos eb.1
 by_cases ha : a = 0
 ·
  subst ha
  have : ea = (t, zeroSlot, 1) := by simp [spotsOf] at hea; exact hea.symm
  subst this
  have e1 : replT eb.1 0 t 0 = eb.1 := by obtain ⟨k, tx, ss⟩ := t; simp [replT]
  rw [e1]
  exact ⟨h2, h3, hnp⟩
 rw [if_neg ha] at hc
 simp only [decide_eq_true_eq] at hc
 have hea' : (below g t 1)[a - (0 + 1)]? = some ea := by
  simp only [spotsOf] at hea
  rw [show a = (a - 1) + 1 by omega, List.getElem?_cons_succ] at hea
  exact hea
 obtain ⟨q1, q2, _⟩ := repl_ok (a := a) h2 ht (by omega) hea' hc
 have hal := lt_of_get hea
 have hbl := lt_of_get heb
 have hsl : (spotsOf g t).length = nodes t := by have := below_len (d := 1) ht; simp [spotsOf]; omega
 have hs := belowL_sub (g := g) (s := zeroSlot) (d := 1) (l := [t]) (by simp [OkL, ht])
 have hend : a + nodes ea.1 ≤ nodes t := by
  rcases Nat.lt_or_ge 1 (nodes ea.1) with h | h
  ·
   have h4 := (hs a ea (by rw [← spots_L]; exact hea)).2 (nodes ea.1 - 2) (by omega)
   have hb := below_len (d := ea.2.2) h1
   have h5 : (below g ea.1 ea.2.2)[nodes ea.1 - 2]? = some ((below g ea.1 ea.2.2)[nodes ea.1 - 2]'(by omega)) := by simp
   rw [h5, ← spots_L] at h4
   have := lt_of_get h4
   omega
  omega
 exact ⟨q1, by omega, by omega⟩
end Go.Proofs.Lw
namespace Go.Proofs.Lw
open Go Go.Am
def atDepth (l : List SpotD) (d : Nat) : Bool := l.any fun e => decide (e.2.2 = d)
def levC (ns : List Int) (l : List SpotD) (d n : Nat) : List Int := ((List.range n).filter fun i => match l[i]? with | some e => decide (e.2.2 = d) && canD ns e | none => false).map fun (i : Nat) => (i : Int)
def levelC (g : List RuleD) (ns : List Int) (t : T) (d : Nat) : List Int := levC ns (spotsOf g t) d (spotsOf g t).length
def levelsQ (g : List RuleD) (ns : List Int) : Nat → Nat → T → Qs T
 | 0, _, t => .ret t
 | f + 1, d, t => if 24 < depth t then .ret t else if atDepth (spotsOf g t) d then
  (if (levelC g ns t d).length = 0 then levelsQ g ns f (d + 1) t
   else (minQ (fun set => .ask (standsT g ns t (levelC g ns t d) set) .ret) (levelC g ns t d)).bind fun s => levelsQ g ns f (d + 1) (standsT g ns t (levelC g ns t d) s))
  else .ret t
def hoistsQ (g : List RuleD) : Nat → Nat → Nat → T → Qs T
 | 0, _, _, t => .ret t
 | f + 1, a, b, t => match (spotsOf g t)[a]? with
  | none => .ret t
  | some ea => if b < a + nodes ea.1 then
   (match (spotsOf g t)[b]? with
   | none => .ret t
   | some eb => if canH (spotsOf g t) ea eb a b then .ask (replT eb.1 a t 0) fun x => if x then hoistsQ g f a (a + 1) (replT eb.1 a t 0) else hoistsQ g f a (b + 1) t
    else hoistsQ g f a (b + 1) t)
   else hoistsQ g f (a + 1) (a + 2) t
def fuelH (t : T) (a b : Nat) : Nat := nodes t * 10000 + (20 - a) * 100 + (50 - b)
def roundsQ (g : List RuleD) (ns : List Int) : Nat → T → Qs T
 | 0, t => .ret t
 | f + 1, t => (levelsQ g ns 31 2 t).bind fun t1 => (hoistsQ g (fuelH t1 0 1 + 1) 0 1 t1).bind fun t2 => if nodes t ≤ nodes t2 then .ret t2 else roundsQ g ns f t2
def treeQ (g : List RuleD) (ns : List Int) (t : T) : Qs (Option T) := .ask t fun b => if b then (roundsQ g ns (nodes t + 1) t).bind fun t' => .ret (some t') else .ret none
structure GoodT (g : List RuleD) (t : T) : Prop where
 ok : OkN g t
 few : nodes t ≤ 14
variable {g : List RuleD} {ns : List Int} {t : T}
theorem GoodT.wt (h : GoodT g t) (hr : RulesOk g) : Lw.wt t < 1048575 := by have := wt_le hr h.ok; have := h.few; omega
theorem GoodT.deep (h : GoodT g t) : depth t ≤ 14 := Nat.le_trans (depth_le_nodes t) h.few
theorem spots_len (h : OkN g t) : (spotsOf g t).length = nodes t := by have := below_len (d := 1) h; simp [spotsOf]; omega
theorem levC_mem {l : List SpotD} {d n : Nat} {x : Int} (h : x ∈ levC ns l d n) : ∃ (i : Nat) (e : SpotD), x = i ∧ i < n ∧ l[i]? = some e ∧ e.2.2 = d ∧ canD ns e = true := by
 simp only [levC, List.mem_map, List.mem_filter, List.mem_range] at h
 obtain ⟨i, ⟨h1, h2⟩, rfl⟩ := h
 cases he : l[i]? with
 | none => rw [he] at h2; cases h2
 | some e =>
  rw [he] at h2
  simp at h2
  exact ⟨i, e, rfl, h1, he, h2⟩
theorem levC_len {l : List SpotD} {d n : Nat} : (levC ns l d n).length ≤ n := by
 unfold levC
 rw [List.length_map]
 exact Nat.le_trans (List.length_filter_le _ _) (by simp)
theorem levC_succ {l : List SpotD} {d n : Nat} {e : SpotD} (h : l[n]? = some e) : levC ns l d (n + 1) = if e.2.2 = d ∧ canD ns e = true then levC ns l d n ++ [(n : Int)] else levC ns l d n := by
 unfold levC
 rw [List.range_succ, List.filter_append, List.map_append]
 by_cases h1 : e.2.2 = d
 · by_cases h2 : canD ns e = true
   · simp [h, h1, h2]
   simp [h, h1, h2]
 simp [h, h1]
theorem spots_0 : (spotsOf g t)[0]? = some (t, zeroSlot, 1) := rfl
theorem spots_succ {i : Nat} : (spotsOf g t)[i + 1]? = (below g t 1)[i]? := by simp [spotsOf]
theorem levelC_pos {d : Nat} (hd : 2 ≤ d) : (0 : Int) ∉ levelC g ns t d := by
 intro h
 obtain ⟨i, e, h1, _, h3, h4, _⟩ := levC_mem h
 have : i = 0 := by omega
 subst this
 rw [spots_0] at h3
 cases h3
 simp at h4
 omega
theorem levelC_can {d : Nat} {out : List Int} (hd : 2 ≤ d) (ho : ∀ x ∈ out, x ∈ levelC g ns t d) : CanAll ns out (below g t 1) 1 := by
 intro j e he hj
 obtain ⟨i, e', h1, _, h3, _, h5⟩ := levC_mem (ho _ hj)
 have : i = j + 1 := by omega
 subst this
 rw [spots_succ, he] at h3
 cases h3
 exact h5
theorem stands_good (hm : MinL g ns) (hr : RulesOk g) (h : GoodT g t) {d : Nat} (hd : 2 ≤ d) (set : List Int) : GoodT g (standsT g ns t (levelC g ns t d) set) := by
 have h1 := prun_nodes (out := minusD (levelC g ns t d) set) hm hr (n := 0) (d := 1) h.ok (levelC_can hd (fun x hx => (List.mem_filter.1 hx).1))
 exact ⟨prun_ok hm hr h.ok, Nat.le_trans h1.1 h.few⟩
theorem atDepth_le (h : GoodT g t) {d : Nat} (ha : atDepth (spotsOf g t) d = true) : d ≤ 14 := by
 unfold atDepth at ha
 rw [List.any_eq_true] at ha
 obtain ⟨e, he, hd⟩ := ha
 simp only [decide_eq_true_eq] at hd
 have h1 := h.deep
 simp only [spotsOf, List.mem_cons] at he
 rcases he with rfl | he
 · have : 1 ≤ depth t := by obtain ⟨k, tx, ss⟩ := t; simp only [depth]; omega
   simp only at hd; omega
 have := below_depth e he; omega
end Go.Proofs.Lw
namespace Go.Proofs.Lw
open Go Go.Am
set_option maxRecDepth 8000
variable {gl : Nat → Nat → Option Value} {ng : Nat} {g : List RuleD} {ns : List Int}
theorem BldV.cut {σ0 σ : Kn} {m0 m : Mem} {O : List (Nat × OE)} {L1 B L2 : List (Nat × Cl)} (h : S (cfg gl ng).toEnv σ0 m0 σ m (L1 ++ (B ++ L2))) (hO : OL m0 m O) (ha : AllB O) {s : Value} {l : List Int} (hB : BldV 3 1 s l.length (l.map iv) B) :
 ∃ σ' O', σ.le σ' ∧ S (cfg gl ng).toEnv σ0 m0 σ' m (L1 ++ L2) ∧ OL m0 m (O' ++ O) ∧ IntsK σ' s l ∧ Cut O' s := by
 obtain ⟨σ', b, hle, hS, hv, hn⟩ := h.done hB
 have hi : IntsK σ' s l := ⟨b, 0, hv, fun i n hi => by rw [Nat.zero_add]; exact hn i _ (by simp [hi, iv])⟩
 obtain ⟨_, ⟨rfl, _, _⟩ | ⟨b', rfl, rfl⟩ | ⟨b', rfl, rfl⟩⟩ := hB
 · exact ⟨σ', [], hle, hS, hO, hi, fun a n c e => by cases e⟩
 ·
  have h' := h.perm (L' := (b', ⟨l.map iv, some 3⟩) :: (L1 ++ L2)) (by
   simp only [List.singleton_append]
   exact List.perm_middle)
  have hodd := (h'.own 0 b' _ rfl).1.1
  refine ⟨σ', [(b' / 2, .slk 3)], hle, hS, hO.slk ha h' (i := 0) rfl, hi, fun a n c e => ?_⟩
  cases e
  exact ⟨by simp [capOf, mkCap], .inr ⟨hodd, by simp⟩⟩
 refine ⟨σ', [], hle, hS, hO, hi, fun a n c e => ?_⟩
 cases e
 exact ⟨by simp [capOf, mkCap]; omega, .inl (by simp [exact, mkCap])⟩
theorem any_succ {α : Type} {l : List α} {p : α → Bool} {j : Nat} {x : α} (h : l[j]? = some x) : (l.take (j + 1)).any p = ((l.take j).any p || p x) := by
 rw [take_snoc h, List.any_append]; simp
theorem f31_ok {σ0 σ : Kn} {m0 m : Mem} {L : List (Nat × Cl)} {sb mb : Nat} {av rv tv : Value} {A : List Int} {Kw : Known} {t : T} (hs : Srch gl ng σ0 m0 σ m L [] sb av A mb Kw) (hg : RulesV σ rv g) (hru : RulesOk g) (hmin : MinL g ns) (ht : TreeK σ tv t) (hok : GoodT g t) :
 C (cfg gl ng) 31 [.pointer (some ⟨sb, 0, none⟩), .agg #[rv], tv] m (ROk gl ng σ0 m0 σ L [] sb av A mb (fun t' σ' v => TreeK σ' v t') (runQ (textG g) A (levelsQ g ns 31 2 t) Kw)) := by
 generalize hR : runQ (textG g) A (levelsQ g ns 31 2 t) Kw = R
 generalize hQ : ROk gl ng σ0 m0 σ L [] sb av A mb (fun t' σ' v => TreeK σ' v t') R = Q
 refine ofU (c := _) Tryz.func31 rfl 58 rfl (fun c' hnt _ _ => ?_)
 obtain ⟨bg, og, hg1, _⟩ := id hg
 have hS := hs.s
 have ht0 := ht
 obtain ⟨x, y, z, rfl, px, py, pz⟩ := ht.agg
 obtain ⟨m1, nb3, hbx1, hS1⟩ := hS.boxs 70 (.pointer (some ⟨sb, 0, none⟩)) (by simp)
 have hO1 := hs.o.box hS.wf hbx1
 obtain ⟨m2, nb4, hbx2, hS2⟩ := hS1.box 24 #[rv] (by simp [hg1.plain])
 have hO2 := hO1.box hS1.wf hbx2
 obtain ⟨m3, nb5, hbx3, hS3⟩ := hS2.box 27 #[x, y, z] (by simp [px, py, pz])
 have hO3 := hO2.box hS2.wf hbx3
 have hS4 := hS3.new (vs := [.int .i64 0, .string .empty, .slice none 0 0]) 27 (by simp)
 have hO4 := hO3.new hS3.wf (.cells (cellsOf [.int .i64 0, .string .empty, .slice none 0 0] 27))
 repeat apply W.seq
 apply W.regN; simp [hnt, hbx1, hbx2, hbx3]
 generalize m3.new (.cells (cellsOf [.int .i64 0, .string .empty, .slice none 0 0] 27)) = m4 at *
 generalize m3.nb = nb6 at *
 obtain ⟨σ5, hle5, hS5, hn5⟩ := hS4.freeze (i := 3) rfl
 obtain ⟨σ6, hle6, hS6, hn6⟩ := hS5.freeze (i := 2) rfl
 simp only [List.eraseIdx_cons_succ, List.eraseIdx_cons_zero] at hS6
 have hle : σ.le σ6 := Kn.le_trans hle5 hle6
 obtain ⟨P, hP⟩ : ∃ P : List Value → List (Nat × Cl), P = fun vs => (nb6, ⟨[.int .i64 0, .string .empty, .slice none 0 0], none⟩) :: (nb5, ⟨vs, none⟩) :: L := ⟨_, rfl⟩
 have h6 : Srch gl ng σ0 m0 σ6 m4 (P [x, y, z]) [] sb av A mb Kw := ⟨by rw [hP]; exact hS6.perm (List.perm_middle (l₁ := [_, _])), hO4, hs.odd, hs.av.mono hle, hs.le, hs.lim⟩
 have ks : σ6 nb3 0 = some (.pointer (some ⟨sb, 0, none⟩)) := hle6 _ _ _ ((hn5 0).trans rfl)
 have kg : σ6 nb4 0 = some rv := (hn6 0).trans rfl
 have hc5 : ∀ {σ' m' vs K' L'} , S (cfg gl ng).toEnv σ0 m0 σ' m' (sCl sb av K' mb :: (L' ++ P vs)) → ∀ o, m'.load (cfg gl ng).toEnv nb5 o = vs[o]? := fun {_ _ vs _ _} h o => S.mem h (b := nb5) (k := ⟨vs, none⟩) (by rw [hP]; simp) o
 clear hS1 hS2 hS3 hS4 hS5 hS6 hO1 hO2 hO3 hO4
 repeat apply W.seq
 apply W.regN; simp [hnt, h6.s.kn, kg]
 refine Ct.use (f43_ok h6.s.wf h6.s.holds (hg.mono hle) hru) (fun σ7 nv m7 hl7 hv7 => ?_)
 obtain ⟨ns', hnv, hgood, hcalm⟩ := hv7
 have e1 := hgood.eq hcalm hmin
 subst e1
 have h7 := h6.learn hl7
 have hle7 := Kn.le_trans hle hl7.le
 have ks7 := hl7.le _ _ _ ks
 have kg7 := hl7.le _ _ _ kg
 have hfew := hru.few
 simp [hnt]
 repeat apply W.seq
 apply W.regN; simp [hnt]
 have hend : ∀ {t' : T} {K' : Known} {σ' : Kn} {m' : Mem} {vs : List Value} {tt : Tr Value} {x y z : Value}, σ7.le σ' → Srch gl ng σ0 m0 σ' m' ((nb6, ⟨[x, y, z], none⟩) :: (nb5, ⟨vs, none⟩) :: L) [] sb av A mb K' → TreeK σ' (.agg #[x, y, z]) t' → R = .done t' K' → tt.get 6 = some (.pointer (some ⟨nb6, 0, none⟩)) → U (cfg gl ng) Tryz.f31 none [] ⟨tt, [], none, m'⟩ Q := by
  intro t' K' σ' m' vs tt x y z hle' h' ht' hR' h6'
  refine U.ret (vs := [.agg #[x, y, z]]) (by simp [unwind.results, Tryz.f31, addrOf, loadV, K.is27, K.zs27, Mem.loadN, h6', h'.s.c1]) rfl ?_
  rw [← hQ, hR']
  exact ⟨σ', Kn.le_trans hle7 hle', _, rfl, ht', ⟨h'.s.drop (List.Sublist.cons_cons _ (List.sublist_append_right [_, _] L)), h'.o, h'.odd, h'.av, h'.le, h'.lim⟩⟩
 apply W.block
 obtain ⟨II, hII⟩ : ∃ II : Nat → Tr Value → Mem → Prop, II = fun i t1 m' => ∃ (σ' : Kn) (K' : Known) (u : T) (x y z : Value) (d : Nat), t1.get 8 = some (.int .i64 d) ∧ d + i = 32 ∧ 2 ≤ d ∧ σ7.le σ' ∧ Srch gl ng σ0 m0 σ' m' (P [x, y, z]) [] sb av A mb K' ∧ TreeK σ' (.agg #[x, y, z]) u ∧ GoodT g u ∧ runQ (textG g) A (levelsQ g ns' (i + 1) d u) K' = R := ⟨_, rfl⟩
 refine W.down (ws := [17, 18, 19, 9, 10, 22, 23, 24, 25, 26, 27, 28, 29, 30, 31, 12, 11, 32, 33, 34, 35, 36, 37, 38, 39, 40, 41, 42, 43, 44, 45, 46, 47, 48, 49, 50, 13, 51, 14, 52, 53, 54, 55, 56, 20, 21, 8]) (by kernel_rfl) II 30 (by rw [hII]; exact ⟨σ7, Kw, t, x, y, z, 2, by simp, rfl, by omega, Kn.le_refl _, h7, ht0.mono hle7, hok, hR⟩) (fun i t1 m8 hfr hI => ?_)
 rw [hII] at hI
 obtain ⟨σ8, K8, u, x8, y8, z8, d, q8, hdi, hd2, hle8, h8, hu, hgu, hR8⟩ := hI
 have hdeep := hgu.deep
 have hwu := hgu.wt hru
 have hdn : ¬ 24 < depth u := by omega
 have hdp : ((depth u : Nat) : Int) ≤ 24 := by omega
 have ks8 := hle8 _ _ _ ks7
 have kg8 := hle8 _ _ _ kg7
 have hg8 := hg.mono (Kn.le_trans hle7 hle8)
 have hsl := spots_len hgu.ok
 have hnod := hgu.few
 have hd24 : d ≤ 32 := by omega
 repeat apply W.seq
 apply W.regN; simp [hnt, hfr, hc5 (L' := []) h8.s]
 refine Ct.use (f58_ct h8.s.wf h8.s.holds hu (by omega)) (fun σ9 v9 m9 hl9 hv9 => ?_)
 subst hv9
 have h9 := h8.learn hl9
 simp [hnt, hdp]
 refine W.choose (by simp; rfl) (fun hc => ?_) fun hc => ?_
 ·
  apply W.skip; try simp only [Then, InBlk]
  simp only [levelsQ, if_neg hdn] at hR8
  repeat apply W.seq
  apply W.block
  have hS10 := h9.s.new (vs := [.slice none 0 0]) 53 (by simp)
  have hO10 := h9.o.new h9.s.wf (.cells (cellsOf [.slice none 0 0] 53))
  repeat apply W.seq
  apply W.regN; simp [hnt]
  generalize m9.new (.cells (cellsOf [.slice none 0 0] 53)) = m10 at *
  generalize m9.nb = nb9 at *
  have h10 : Srch gl ng σ0 m0 σ9 m10 ((nb9, ⟨[.slice none 0 0], none⟩) :: P [x8, y8, z8]) [] sb av A mb K8 := ⟨hS10.swap, hO10, h9.odd, h9.av, h9.le, h9.lim⟩
  clear hS10 hO10
  have kg9 := hl9.le _ _ _ kg8
  repeat apply W.seq
  apply W.regN; simp [hnt]
  have hbu := K.bu55_ (gl := gl) (ng := ng) (m := m10)
  repeat apply W.seq
  apply W.regN; simp [hnt, hfr, h10.s.kn, kg9, hc5 (L' := [_]) h10.s, hbu]
  refine Ct.use (f44_ok (wt u) u zeroSlot 1 g σ9 m10 rv _ (.slice none 0 0) (Nat.le_refl _) (by omega) (by omega) (by omega) h10.s.wf h10.s.holds (hg8.mono hl9.le) hru hgu.ok (hu.mono hl9.le) ⟨0, 0, .inl ⟨rfl, rfl⟩, fun i n h => by simp [zeroSlot] at h⟩) (fun σ11 v11 m11 hl11 hv11 => ?_)
  have hv11 : SpotsW σ11 v11 (spotsOf g u) := hv11
  have h11 := h10.learn hl11
  have hle11 : σ8.le σ11 := Kn.le_trans hl9.le hl11.le
  have hnv11 := hnv.mono (Kn.le_trans hle8 hle11)
  simp [hnt, hv11.len]
  apply W.block
  obtain ⟨I2, hI2⟩ : ∃ I2 : Nat → Tr Value → Mem → Prop, I2 = fun (j : Nat) (t' : Tr Value) (m' : Mem) => t'.get 27 = some (.int .i64 j) ∧ t'.get 10 = some (.bool (((spotsOf g u).take j).any fun e => decide (e.2.2 = d))) ∧ ∃ cv B, Srch gl ng σ0 m0 σ11 m' ((nb9, ⟨[cv], none⟩) :: (P [x8, y8, z8] ++ (B ++ []))) [] sb av A mb K8 ∧ BldV 3 1 cv (levC ns' (spotsOf g u) d j).length ((levC ns' (spotsOf g u) d j).map iv) B := ⟨_, rfl⟩
  refine W.upto (ws := [28, 29, 30, 31, 12, 11, 32, 33, 34, 35, 10, 36, 37, 38, 39, 40, 41, 42, 43, 27]) (by kernel_rfl) ((spotsOf g u).length) I2 0 (by omega) (by rw [hI2]; exact ⟨by simp, by simp, .slice none 0 0, [], by simpa using h11, by simpa [levC] using BldV.nil⟩) ?_
  intro j t2 m12 hj hfr2 hIi
  rw [hI2] at hIi
  obtain ⟨q27, q10, cv, B, h12, hB⟩ := hIi
  repeat apply W.seq
  apply W.regN; simp [hnt, q27, hfr2]
  repeat apply W.seq
  refine W.choose (by simp; rfl) (fun hc => ?_) fun hc => ?_
  ·
   have hjl : j < (spotsOf g u).length := by simpa using hc
   apply W.skip; try simp only [Then, InBlk]
   obtain ⟨e, hej⟩ : ∃ e, (spotsOf g u)[j]? = some e := ⟨_, List.getElem?_eq_getElem hjl⟩
   obtain ⟨be, xe, ye, ze, kve, ixe, s0, s1, s2, s3, s4, s5, s6, s7, w1, w2⟩ := hv11.at (gl := gl) (ng := ng) hej
   obtain ⟨re1, re2, pze, _⟩ := w1.inv
   have pxe : plainV xe = true := by rw [re1]; simp
   have pye : plainV ye = true := by rw [re2]; simp
   have hS12 := h12.s
   obtain ⟨m13, e13, hS13⟩ := hS12.var 86 [.int .i64 0, .string .empty, .slice none 0 0, .int .u8 0, .slice none 0 0, .string .empty, .int .i64 0, .int .i64 0] [xe, ye, ze, .int .u8 e.2.1.many, kve, .string e.2.1.between, .int .i64 e.2.2, .int .i64 (nodes e.1)] (by simp) (by simp [pxe, pye, pze, w2.plain]) rfl
   have hO13 := (h12.o.new hS12.wf _).write e13
   have hcl := levC_len (ns := ns') (l := spotsOf g u) (d := d) (n := j)
   repeat apply W.seq
   apply W.block
   repeat apply W.seq
   apply W.regN; simp [hnt, q27, hfr2, ixe, hS12.kn, s0, s1, s2, s3, s4, s5, s6, s7, e13]
   generalize m12.nb = nb12 at *
   have hany := any_succ (p := fun e => decide (e.2.2 = d)) hej
   have hlc := levC_succ (ns := ns') (d := d) hej
   have h13 : Srch gl ng σ0 m0 σ11 m13 ((nb9, ⟨[cv], none⟩) :: (P [x8, y8, z8] ++ (B ++ []))) [] sb av A mb K8 := ⟨hS13.drop (List.sublist_cons_self _ _), hO13, h12.odd, h12.av, h12.le, h12.lim⟩
   by_cases hde : e.2.2 = d
   ·
    have hde' : (e.2.2 : Int) = d := by omega
    repeat apply W.seq
    apply W.regN; simp [hnt, hS13.c0, hfr2, q8, hde]
    refine W.choose (by simp; rfl) (fun hc => ?_) fun hc => ?_
    · cases hc
    apply W.skip; try simp only [Then, InBlk]
    have hj1 : 1 ≤ j := by
     rcases Nat.eq_zero_or_pos j with h0 | h0
     · subst h0
       rw [spots_0] at hej
       cases hej
       simp at hde; omega
     exact h0
    have hso : SlotOk g.length e.2.1 := by
     have hem : e ∈ below g u 1 := by
      rw [show j = (j - 1) + 1 by omega, spots_succ] at hej
      exact List.mem_of_getElem? hej
     exact (below_ok hru hgu.ok e hem).slot
    repeat apply W.seq
    apply W.regN; simp [hnt]
    repeat apply W.seq
    apply W.regN; simp [hnt, hS13.c0, hfr2, hfr]
    have hf45 := f45_ok (gl := gl) (ng := ng) (e := e) hS13.wf hS13.holds hnv11 hmin hso hfew pxe pye pze w2
    refine Ct.use hf45 (fun σ14 v14 m14 hl14 hv14 => ?_)
    subst hv14
    have h14 := (h13.s.grow hl14.grow)
    have hO14 := hO13.grow hS13.wf hl14.grow
    simp [hnt]
    cases hcan : canD ns' e with
    | true =>
     refine W.choose (by simp; rfl) (fun hc => ?_) fun hc => ?_
     ·
      have hS14 : S (cfg gl ng).toEnv σ0 m0 σ11 m14 ((sCl sb av K8.length mb :: (nb9, ⟨[cv], none⟩) :: P [x8, y8, z8]) ++ (B ++ [])) := h14
      obtain ⟨s', m15, B', e15, hS15, hB15⟩ := hS14.appi hB (j : Int) (by omega)
      have hO15 := (hO14.new h14.wf _).app (fun p hp => by simp at hp; subst hp; exact ⟨_, rfl⟩) (Grow.new h14.wf _).wf e15
      have e15' : opAppend (cfg gl ng).toEnv 53 (some 53) cv (.slice (some ⟨m14.nb, 0, none⟩) 1 (mkCap 1 true)) (m14.new (.cells (cellsOf [.int .i64 j] 3))) = .value s' m15 := e15
      obtain ⟨m16, e16, hS16⟩ := hS15.set1 (i := 1) (b := nb9) (k := ⟨[cv], none⟩) rfl (o := 0) (v := s') (by simp) hB15.plain
      have hO16 := hO15.write e16
      apply W.regN; simp [hnt, hfr2, hS14.c1, q27, bs53, e15', hB15.plain, e16]
      apply W.regN; simp [hnt, hfr2, q27, wr1 (show j < _ by omega)]
      have h16 : Srch gl ng σ0 m0 σ11 m16 ((nb9, ⟨[s'], none⟩) :: (P [x8, y8, z8] ++ (B' ++ []))) [] sb av A mb K8 := ⟨hS16, hO16, h12.odd, h12.av, h12.le, h12.lim⟩
      rw [if_pos ⟨hde, hcan⟩] at hlc
      exact ⟨j + 1, by omega, by omega, by rw [hI2]; exact ⟨by simp, by rw [hany]; simp [hde], s', B', h16, by rw [hlc]; exact hB15⟩⟩
     cases hc
    | false =>
     refine W.choose (by simp; rfl) (fun hc => ?_) fun hc => ?_
     · cases hc
     apply W.skip; try simp only [Then, InBlk]
     apply W.regN; simp [hnt, hfr2, q27, wr1 (show j < _ by omega)]
     have h16 : Srch gl ng σ0 m0 σ11 m14 ((nb9, ⟨[cv], none⟩) :: (P [x8, y8, z8] ++ (B ++ []))) [] sb av A mb K8 := ⟨h14, hO14, h12.odd, h12.av, h12.le, h12.lim⟩
     rw [if_neg (by simp [hcan])] at hlc
     exact ⟨j + 1, by omega, by omega, by rw [hI2]; exact ⟨by simp, by rw [hany]; simp [hde], cv, B, h16, by rw [hlc]; exact hB⟩⟩
   have hde' : ¬ (e.2.2 : Int) = d := by omega
   repeat apply W.seq
   apply W.regN; simp [hnt, hS13.c0, hfr2, q8, hde, hde']
   refine W.choose (by simp; rfl) (fun hc => ?_) fun hc => ?_
   · apply W.exit; try simp [Then, InBlk]
     apply W.regN; simp [hnt, hfr2, q27, wr1 (show j < _ by omega)]
     rw [if_neg (by simp [hde])] at hlc
     exact ⟨j + 1, by omega, by omega, by rw [hI2]; exact ⟨by simp, by rw [hany]; simp [hde, hfr2, q10], cv, B, h13, by rw [hlc]; exact hB⟩⟩
   cases hc
  have hje : j = (spotsOf g u).length := by
   have : (spotsOf g u).length ≤ j := by simpa using hc
   omega
  apply W.exit; try simp [Then, InBlk]
  rw [hje, List.take_length] at q10
  rw [hje] at hB
  have q10' : t2.get 10 = some (.bool (atDepth (spotsOf g u) d)) := q10
  have hBc : BldV 3 1 cv (levelC g ns' u d).length ((levelC g ns' u d).map iv) B := hB
  have hcl := levC_len (ns := ns') (l := spotsOf g u) (d := d) (n := (spotsOf g u).length)
  have hcl' : (levelC g ns' u d).length ≤ 14 := by unfold levelC; omega
  clear hB q10
  cases hat : atDepth (spotsOf g u) d with
  | false =>
   rw [hat] at q10'
   rw [hat] at hR8
   repeat apply W.seq
   apply W.regN; simp [hnt, q10']
   refine W.choose (by simp; rfl) (fun hc => ?_) fun hc => ?_
   ·
    have hS12 := h12.s
    rw [hP] at hS12
    obtain ⟨m13, e13, hS13⟩ := hS12.setAll (i := 2) rfl (vs := [x8, y8, z8]) rfl (by obtain ⟨a1, a2, a3, _⟩ := hu.inv; simp [a1, a2, a3])
    have hO13 := h12.o.write e13
    repeat apply W.seq
    apply W.regN; simp [hnt, hfr2, hfr, hS12.c3, e13]
    apply W.ret; try simp only [Then, InBlk]
    refine hend (t' := u) (σ' := σ11) (Kn.le_trans hle8 hle11) (vs := [x8, y8, z8]) (x := x8) (y := y8) (z := z8) ⟨?_, hO13, h12.odd, h12.av, h12.le, h12.lim⟩ (hu.mono hle11) (by simpa [runQ] using hR8.symm) (by simp [hfr2, hfr])
    exact hS13.drop (List.Sublist.cons_cons _ (List.Sublist.cons _ (List.Sublist.cons_cons _ (List.Sublist.cons_cons _ (List.sublist_append_left _ _)))))
   cases hc
  | true =>
   rw [hat] at q10'
   rw [hat] at hR8
   simp only [if_true] at hR8
   have hd14 := atDepth_le hgu hat
   repeat apply W.seq
   apply W.regN; simp [hnt, q10']
   refine W.choose (by simp; rfl) (fun hc => ?_) fun hc => ?_
   · cases hc
   apply W.skip; try simp only [Then, InBlk]
   have hclen : ∀ m', opLen (cfg gl ng) 53 cv m' = .value (.int .i64 (levelC g ns' u d).length) m' := fun m' => by obtain ⟨a, c, rfl⟩ := hBc.slice; simp
   have hnext : ∀ (σ9 : Kn) (K9 : Known) (u9 : T) (x9 y9 z9 : Value) (m9 : Mem) (tt : Tr Value), tt.get 8 = some (.int .i64 ((d + 1 : Nat) : Int)) → σ7.le σ9 → Srch gl ng σ0 m0 σ9 m9 (P [x9, y9, z9]) [] sb av A mb K9 → TreeK σ9 (.agg #[x9, y9, z9]) u9 → GoodT g u9 → runQ (textG g) A (levelsQ g ns' i (d + 1) u9) K9 = R → ∃ j, j < i ∧ II j tt m9 := by
    intro σ9 K9 u9 x9 y9 z9 m9 tt a1 a2 a3 a4 a5 a6
    refine ⟨i - 1, by omega, ?_⟩
    rw [hII]
    refine ⟨σ9, K9, u9, x9, y9, z9, d + 1, a1, by omega, by omega, a2, a3, a4, a5, ?_⟩
    rw [show i - 1 + 1 = i by omega]
    exact a6
   have hwd : IntKind.i64.wrap ((d : Int) + 1) = (d : Int) + 1 := wrap_i64 (by omega) (by omega)
   by_cases hc0 : (levelC g ns' u d).length = 0
   ·
    rw [if_pos hc0] at hR8
    repeat apply W.seq
    apply W.regN; simp [hnt, hfr2, h12.s.c1, hclen, hc0]
    refine W.choose (by simp; rfl) (fun hc => ?_) fun hc => ?_
    · apply W.exit; try simp [Then, InBlk]
      apply W.regN; simp [hnt, hfr2, q8, hwd]
      refine hnext σ11 K8 u x8 y8 z8 m12 _ (by simp) (Kn.le_trans hle8 hle11) ⟨?_, h12.o, h12.odd, h12.av, h12.le, h12.lim⟩ (hu.mono hle11) hgu hR8
      exact h12.s.drop (List.Sublist.cons_cons _ (List.Sublist.cons _ (List.sublist_append_left _ _)))
    cases hc
   rw [if_neg hc0] at hR8
   have hc0' : ¬ ((levelC g ns' u d).length : Int) = 0 := by omega
   repeat apply W.seq
   apply W.regN; simp [hnt, hfr2, h12.s.c1, hclen, hc0, hc0']
   refine W.choose (by simp; rfl) (fun hc => ?_) fun hc => ?_
   · cases hc
   apply W.skip; try simp only [Then, InBlk]
   have hS12 := h12.s
   obtain ⟨a1, a2, a3, _⟩ := hu.inv
   obtain ⟨m13, e13, hS13⟩ := hS12.var 27 [.int .i64 0, .string .empty, .slice none 0 0] [x8, y8, z8] (by simp) (by simp [a1, a2, a3]) rfl
   have hO13 := (h12.o.new hS12.wf _).write e13
   have hc512 : ∀ o, m12.load (cfg gl ng).toEnv nb5 o = [x8, y8, z8][o]? := fun o => S.mem hS12 (b := nb5) (k := ⟨[x8, y8, z8], none⟩) (by rw [hP]; simp) o
   repeat apply W.seq
   apply W.regN; simp [hnt, hfr2, hfr, hc512, e13]
   generalize m12.nb = nb13 at *
   obtain ⟨fv60, hfv60⟩ : ∃ v : Value, v = .func (.func 60) #[] #[.pointer (some ⟨nb4, 0, none⟩), .pointer (some ⟨nb13, 0, none⟩), .pointer (some ⟨nb9, 0, none⟩)] := ⟨_, rfl⟩
   have pfv : plainV fv60 = true := by rw [hfv60]; simp
   have hmk60 : opMakeFunc (.func 60) #[] #[.pointer (some ⟨nb4, 0, none⟩), .pointer (some ⟨nb13, 0, none⟩), .pointer (some ⟨nb9, 0, none⟩)] m13 = .value fv60 m13 := by rw [hfv60]; rfl
   obtain ⟨m14, e14, hS14⟩ := hS13.var 105 [.nilFunc] [fv60] (by simp) (by simp [pfv]) rfl
   have hO14 := (hO13.new hS13.wf _).write e14
   repeat apply W.seq
   apply W.regN; simp [hnt, hfr2, hfr, hmk60, pfv, e14]
   generalize m13.nb = nb14 at *
   obtain ⟨σ15, hle15, hS15, hn15⟩ := hS14.freeze (i := 0) rfl
   simp only [List.eraseIdx_zero, List.tail_cons] at hS15
   obtain ⟨σ16, hle16, hS16, hn16⟩ := hS15.freeze (i := 0) rfl
   simp only [List.eraseIdx_zero, List.tail_cons] at hS16
   obtain ⟨σ17, hle17, hS17, hn17⟩ := hS16.freeze (i := 1) rfl
   simp only [List.eraseIdx_cons_succ, List.eraseIdx_cons_zero] at hS17
   obtain ⟨σ18, O18, hle18, hS18, hO18, hcv18, hcut18⟩ := BldV.cut (L1 := sCl sb av K8.length mb :: P [x8, y8, z8]) (L2 := []) hS17 hO14 (fun p hp => by simp at hp; subst hp; exact ⟨_, rfl⟩) hBc
   have hleA : σ11.le σ18 := Kn.le_trans hle15 (Kn.le_trans hle16 (Kn.le_trans hle17 hle18))
   have hleB : σ8.le σ18 := Kn.le_trans hle11 hleA
   have h18 : Srch gl ng σ0 m0 σ18 m14 (P [x8, y8, z8]) O18 sb av A mb K8 := ⟨by simpa using hS18, hO18.perm (List.perm_append_comm), h12.odd, h12.av.mono hleA, h12.le, h12.lim⟩
   have k14 : σ18 nb14 0 = some fv60 := hle18 _ _ _ (hle17 _ _ _ (hle16 _ _ _ ((hn15 0).trans rfl)))
   have k9 : σ18 nb9 0 = some cv := hle18 _ _ _ ((hn17 0).trans rfl)
   have k13 : ∀ o v, [x8, y8, z8][o]? = some v → σ18 nb13 o = some v := fun o v hv => hle18 _ _ _ (hle17 _ _ _ ((hn16 o).trans hv))
   have ks18 := hleB _ _ _ ks8
   have kg18 := hleB _ _ _ kg8
   obtain ⟨c, hcdef⟩ : ∃ c, c = levelC g ns' u d := ⟨_, rfl⟩
   rw [← hcdef] at hcv18 hR8 hcl'
   have hLv : Lv σ18 g ns' u c rv nb4 nb13 nb9 := ⟨hg8.mono hleB, hru, hmin, hgu.ok, hwu, by omega, by rw [hcdef]; exact levelC_pos hd2, by omega, kg18, ⟨x8, y8, z8, k13 0 _ rfl, k13 1 _ rfl, k13 2 _ rfl, hu.mono hleB⟩, ⟨cv, k9, hcv18⟩⟩
   have hgood' : ∀ set, GoodT g (standsT g ns' u c set) := fun set => by rw [hcdef]; exact stands_good hmin hru hgu hd2 set
   have hmk63 : opMakeFunc (.func 63) #[] #[.pointer (some ⟨nb3, 0, none⟩), .pointer (some ⟨nb4, 0, none⟩), .pointer (some ⟨nb14, 0, none⟩)] m14 = .value (.func (.func 63) #[] ⟨[.pointer (some ⟨nb3, 0, none⟩), .pointer (some ⟨nb4, 0, none⟩), .pointer (some ⟨nb14, 0, none⟩)]⟩) m14 := rfl
   have hcall60 : ∀ args m', callV (cfg gl ng) 60 args m' = .enter 60 args m' := fun args m' => callV_of (fn := Tryz.f60) Tryz.func60 rfl rfl
   have hb60 : beqV 9 fv60 fv60 = true := by rw [hfv60]; simp [beqV]
   refine W.regP [(3, 0)] [3, 4, 0] (by as_aux_lemma => kernel_rfl) ?_
   simp [hnt, hfr2, hfr, h18.s.kn, k14, k9, hmk63]
   refine C.mono (f62_ok (tx := textG g) (ask := fun set => .ask (standsT g ns' u c set) .ret) (σb := σ18) (c := c) h18 hcv18 hcut18 (by omega) (fun args m' => callV_of (fn := Tryz.f63) Tryz.func63 rfl rfl) (Kn.le_refl _)
    (fun set xv σ' m' L' O' K' h' hle' hx' hl' => f63_ok h' (hLv.mono hle') (hle' _ _ _ ks18) (hle' _ _ _ (by rw [k14, hfv60])) hx' hl' (hgood' set).ok ((hgood' set).wt hru) (by have := (hgood' set).few; omega))) (fun out m15 ho => ?_)
   obtain ⟨σ19, hle19, hr⟩ := ho
   rw [runQ_bind] at hR8
   cases hon : runQ (textG g) A (minQ (fun set => .ask (standsT g ns' u c set) .ret) c) K8 with
   | done s K19 =>
    rw [hon] at hr hR8
    obtain ⟨v19, rfl, ⟨hv19, hsl19⟩, h19⟩ := hr
    simp [hnt, hfv60, hcall60]
    refine Ct.use (f60_ok h19.s.wf h19.s.holds (hLv.mono hle19) hv19 (by omega)) (fun σ20 v20 m20 hl20 hv20 => ?_)
    obtain ⟨x20, y20, z20, rfl, px20, py20, pz20⟩ := hv20.agg
    have h20 := h19.learn hl20
    have hS20 := h20.s
    rw [hP] at hS20
    obtain ⟨m21, e21, hS21⟩ := hS20.setAll (i := 2) rfl (vs := [x20, y20, z20]) rfl (by simp [px20, py20, pz20])
    have hO21 := h20.o.write e21
    have h21 : Srch gl ng σ0 m0 σ20 m21 (P [x20, y20, z20]) O18 sb av A mb K19 := ⟨by rw [hP]; exact hS21, hO21, h20.odd, h20.av, h20.le, h20.lim⟩
    simp [hnt, hfr2, hfr, e21]
    refine ⟨?_, ?_⟩
    · have k14' := hle19 _ _ _ k14
      rw [hfv60] at k14 k14' hb60
      simp [looseOk, getS, againOk, quiet, still, beqV, hfr2, hfr, h18.s.kn, h19.s.kn, k14, k14', hb60]
    apply W.regN; simp [hnt, hfr2, q8, hwd]
    have hleC : σ8.le σ20 := Kn.le_trans hleB (Kn.le_trans hle19 hl20.le)
    exact hnext σ20 K19 _ x20 y20 z20 m21 _ (by simp) (Kn.le_trans hle8 hleC) (h21.toO (List.nil_sublist _)) hv20 (hgood' s) hR8
   | stop t' K19 =>
    rw [hon] at hr hR8
    obtain ⟨v, rfl, hv, h19⟩ := hr
    simp [hnt]
    refine ⟨by kernel_rfl, by simp [forgetOk, hnt], by simp [belowU, looseOk], fun t5 => ?_⟩
    refine U.panic rfl ?_
    rw [← hQ]
    refine ⟨σ19, Kn.le_trans hle7 (Kn.le_trans hle8 (Kn.le_trans hleB hle19)), ?_⟩
    rw [← hR8]
    have hS19 := h19.s
    rw [hP] at hS19
    exact ⟨v, rfl, hv, ⟨hS19.drop (List.Sublist.cons_cons _ (List.sublist_append_right [_, _] L)), (h19.toO (List.nil_sublist _)).o, h19.odd, h19.av, h19.le, h19.lim⟩⟩
 cases hc
end Go.Proofs.Lw
