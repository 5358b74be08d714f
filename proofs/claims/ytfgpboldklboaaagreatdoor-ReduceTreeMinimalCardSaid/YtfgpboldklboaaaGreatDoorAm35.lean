/-
  PROVED here: steps on the way to the card of 'sleuthlaw06.ReduceTreeMinimal' (an abstract machine, its soundness, what each function computes). No conditions beyond those that each theorem states.
-/
import Derived.Test.YtfgpboldklboaaaGreatDoorAm34
namespace Go.Proofs.Lw
open Go Go.Am
variable {g : List RuleD} {ns : List Int} {φ : T → Bool}
mutual
theorem prun_nil {least : SlotD → T} : ∀ {t : T} {n : Nat}, OkN g t → prunT g least [] t n = t
 | .mk k tx ss, n, h => by
  simp only [OkN] at h
  obtain ⟨⟨r, hn⟩, h2⟩ := h
  have e : slotsOf g k = r.slots := by simp only [slotsOf, hn.rule]
  simp only [prunT, e]
  rw [prunSS_nil h2 hn.len]
theorem prunSS_nil {least : SlotD → T} : ∀ {ss : List (List T)} {sl : List SlotD} {n : Nat}, OkSS g ss → ss.length = sl.length → prunSS g least [] ss sl n = ss
 | [], _, n, _, _ => by simp only [prunSS]
 | _ :: _, [], n, _, h => by simp at h
 | l :: r, s :: sl, n, h, hl => by
  simp only [OkSS] at h
  simp only [prunSS]
  rw [prunL_nil h.1, prunSS_nil h.2 (by simpa using hl)]
theorem prunL_nil {least : SlotD → T} : ∀ {l : List T} {s : SlotD} {n : Nat}, OkL g l → prunL g least [] l s n = l
 | [], _, n, _ => by simp only [prunL]
 | t :: r, s, n, h => by
  simp only [OkL] at h
  simp only [prunL]
  rw [prun_nil h.1, prunL_nil h.2]
  simp [isOut]
end
theorem sub_out {s c : List Int} (h : s.Sublist c) (hn : c.Nodup) (hlt : s.length < c.length) : ∃ x ∈ c, x ∉ s := by
 induction h with
 | slnil => simp at hlt
 | cons a h ih =>
  rw [List.nodup_cons] at hn
  exact ⟨a, List.mem_cons_self, fun hs => hn.1 (h.subset hs)⟩
 | cons_cons a h ih =>
  rw [List.nodup_cons] at hn
  obtain ⟨x, hx, hxs⟩ := ih hn.2 (by simpa using hlt)
  refine ⟨x, List.mem_cons_of_mem _ hx, fun hm => ?_⟩
  rcases List.mem_cons.1 hm with rfl | hm
  · exact hn.1 hx
  exact hxs hm
theorem levelC_nodup {t : T} {d : Nat} : (levelC g ns t d).Nodup := by
 unfold levelC levC List.Nodup
 rw [List.pairwise_map]
 exact (List.Pairwise.filter _ List.nodup_range).imp (fun h e => h (by omega))
theorem minus_self (c : List Int) : minusD c c = [] := by
 unfold minusD
 rw [List.filter_eq_nil_iff]
 intro x hx
 simp [hx]
theorem minus_one {c : List Int} (hn : c.Nodup) {x : Int} (hx : x ∈ c) : minusD c (minusD c [x]) = [x] := by
 unfold minusD
 have e : (c.filter fun y => !decide (y ∈ c.filter fun y => !decide (y ∈ [x]))) = c.filter fun y => y == x := by
  apply List.filter_congr
  intro y hy
  by_cases h : y = x
  · simp [h]
  simp [h, hy]
 rw [e]
 clear e
 induction c with
 | nil => simp at hx
 | cons a r ih =>
  rw [List.nodup_cons] at hn
  rw [List.filter_cons]
  by_cases h : a = x
  ·
   subst h
   rw [if_pos (by simp)]
   congr 1
   rw [List.filter_eq_nil_iff]
   intro y hy
   simp
   intro e; subst e; exact hn.1 hy
  rw [if_neg (by simpa using h)]
  exact ih hn.2 ((List.mem_cons.1 hx).resolve_left (fun e => h e.symm))
theorem levelC_num {t : T} (ht : GoodT g t) {d : Nat} (hd : 2 ≤ d) {x : Int} (hx : x ∈ levelC g ns t d) : ∃ (i : Nat) (e : SpotD), x = i ∧ 1 ≤ i ∧ i < nodes t ∧ (spotsOf g t)[i]? = some e ∧ e.2.2 = d ∧ canD ns e = true := by
 obtain ⟨i, e, h1, h2, h3, h4, h5⟩ := levC_mem hx
 rw [spots_len ht.ok] at h2
 refine ⟨i, e, h1, ?_, h2, h3, h4, h5⟩
 rcases Nat.eq_zero_or_pos i with h0 | h0
 ·
  subst h0
  rw [spots_0] at h3
  cases h3
  simp at h4
  omega
 exact h0
theorem stands_lt (hm : MinL g ns) (hr : RulesOk g) {t : T} (h : GoodT g t) {d : Nat} (hd : 2 ≤ d) {s : List Int} (hs : s.Sublist (levelC g ns t d)) (hlt : s.length < (levelC g ns t d).length) :
 nodes (standsT g ns t (levelC g ns t d) s) < nodes t := by
 refine (prun_nodes (out := minusD (levelC g ns t d) s) hm hr (n := 0) (d := 1) h.ok (levelC_can hd (fun x hx => (List.mem_filter.1 hx).1))).2 ?_
 obtain ⟨x, hx, hxs⟩ := sub_out hs levelC_nodup hlt
 obtain ⟨i, e, rfl, h1, h2, _⟩ := levelC_num h hd hx
 exact ⟨i, List.mem_filter.2 ⟨hx, by simp [hxs]⟩, by omega, by omega⟩
theorem stands_all {t : T} (h : GoodT g t) (d : Nat) : standsT g ns t (levelC g ns t d) (levelC g ns t d) = t := by
 unfold standsT
 rw [minus_self]
 exact prun_nil h.ok
def cntD (l : List SpotD) (d : Nat) : Nat := (l.filter fun e => decide (d ≤ e.2.2)).length
theorem levC_cnt {l : List SpotD} {d : Nat} : ∀ n, n ≤ l.length → (levC ns l d n).length + cntD (l.take n) (d + 1) ≤ cntD (l.take n) d := by
 intro n
 induction n with
 | zero => intro _; simp [levC, cntD]
 | succ n ih =>
  intro hn
  have h := ih (by omega)
  have hg : l[n]? = some l[n] := by simp
  rw [levC_succ hg, take_snoc hg]
  unfold cntD at *
  rw [List.filter_append, List.filter_append, List.length_append, List.length_append]
  generalize l[n] = e at *
  by_cases h1 : e.2.2 = d
  ·
   have e1 : ([e].filter fun e => decide (d ≤ e.2.2)).length = 1 := by simp [h1]
   have e2 : ([e].filter fun e => decide (d + 1 ≤ e.2.2)).length = 0 := by simp [h1]
   rw [e1, e2]
   split
   · rw [List.length_append, List.length_singleton]; omega
   omega
  rw [if_neg (fun h => h1 h.1)]
  by_cases h2 : d ≤ e.2.2
  · have e1 : ([e].filter fun e => decide (d ≤ e.2.2)).length = 1 := by simp [h2]
    have e2 : ([e].filter fun e => decide (d + 1 ≤ e.2.2)).length ≤ 1 := List.length_filter_le _ _
    omega
  have e2 : ([e].filter fun e => decide (d + 1 ≤ e.2.2)).length = 0 := by
   have : ¬ d + 1 ≤ e.2.2 := by omega
   simp [this]
  omega
theorem level_cnt {t : T} {d : Nat} : (levelC g ns t d).length + cntD (spotsOf g t) (d + 1) ≤ cntD (spotsOf g t) d := by
 have := levC_cnt (ns := ns) (l := spotsOf g t) (d := d) (spotsOf g t).length (Nat.le_refl _)
 rw [List.take_length] at this
 exact this
theorem cnt_le {t : T} (h : GoodT g t) {d : Nat} (hd : 2 ≤ d) : cntD (spotsOf g t) d ≤ nodes t - 1 := by
 unfold cntD
 have e : ¬ d ≤ 1 := by omega
 have : (spotsOf g t).filter (fun e => decide (d ≤ e.2.2)) = (below g t 1).filter (fun e => decide (d ≤ e.2.2)) := by
  simp [spotsOf, e]
 rw [this]
 have h1 := below_len (d := 1) h.ok
 have h2 := List.length_filter_le (fun e : SpotD => decide (d ≤ e.2.2)) (below g t 1)
 omega
mutual
theorem below_ge : ∀ {t : T} {d : Nat}, ∀ e ∈ below g t d, d < e.2.2
 | .mk k tx ss, d => by
  intro e he
  simp only [below] at he
  have := belowSS_ge e he
  omega
theorem belowSS_ge : ∀ {ss : List (List T)} {sl : List SlotD} {d : Nat}, ∀ e ∈ belowSS g ss sl d, d ≤ e.2.2
 | [], _, d => by intro e he; simp [belowSS] at he
 | _ :: _, [], d => by intro e he; simp [belowSS] at he
 | l :: r, s :: sl, d => by
  intro e he
  simp only [belowSS, List.mem_append] at he
  rcases he with he | he
  · exact belowL_ge e he
  exact belowSS_ge e he
theorem belowL_ge : ∀ {l : List T} {s : SlotD} {d : Nat}, ∀ e ∈ belowL g l s d, d ≤ e.2.2
 | [], _, d => by intro e he; simp [belowL] at he
 | t :: r, s, d => by
  intro e he
  simp only [belowL, List.mem_cons, List.mem_append] at he
  rcases he with rfl | he | he
  · exact Nat.le_refl _
  · have := below_ge e he; omega
  exact belowL_ge e he
end
mutual
theorem below_up : ∀ {t : T} {d : Nat}, ∀ e ∈ below g t d, ∀ k, d < k → k ≤ e.2.2 → ∃ e' ∈ below g t d, e'.2.2 = k
 | .mk k tx ss, d => by
  intro e he k hk1 hk2
  simp only [below] at he ⊢
  exact belowSS_up e he k (by omega) hk2
theorem belowSS_up : ∀ {ss : List (List T)} {sl : List SlotD} {d : Nat}, ∀ e ∈ belowSS g ss sl d, ∀ k, d ≤ k → k ≤ e.2.2 → ∃ e' ∈ belowSS g ss sl d, e'.2.2 = k
 | [], _, d => by intro e he; simp [belowSS] at he
 | _ :: _, [], d => by intro e he; simp [belowSS] at he
 | l :: r, s :: sl, d => by
  intro e he k hk1 hk2
  simp only [belowSS, List.mem_append] at he ⊢
  rcases he with he | he
  · obtain ⟨e', h1, h2⟩ := belowL_up e he k hk1 hk2; exact ⟨e', .inl h1, h2⟩
  obtain ⟨e', h1, h2⟩ := belowSS_up e he k hk1 hk2; exact ⟨e', .inr h1, h2⟩
theorem belowL_up : ∀ {l : List T} {s : SlotD} {d : Nat}, ∀ e ∈ belowL g l s d, ∀ k, d ≤ k → k ≤ e.2.2 → ∃ e' ∈ belowL g l s d, e'.2.2 = k
 | [], _, d => by intro e he; simp [belowL] at he
 | t :: r, s, d => by
  intro e he k hk1 hk2
  simp only [belowL, List.mem_cons, List.mem_append] at he ⊢
  rcases he with rfl | he | he
  · simp only at hk2
    exact ⟨(t, s, d), .inl rfl, by simp only; omega⟩
  · by_cases hd : k = d
    · exact ⟨(t, s, d), .inl rfl, by simp only; omega⟩
    obtain ⟨e', h1, h2⟩ := below_up e he k (by omega) hk2; exact ⟨e', .inr (.inl h1), h2⟩
  obtain ⟨e', h1, h2⟩ := belowL_up e he k hk1 hk2; exact ⟨e', .inr (.inr h1), h2⟩
end
theorem spots_up {t : T} {x : Nat} {e : SpotD} (he : (spotsOf g t)[x]? = some e) {k : Nat} (h1 : 2 ≤ k) (h2 : k ≤ e.2.2) : atDepth (spotsOf g t) k = true := by
 cases x with
 | zero => rw [spots_0] at he; cases he; simp at h2; omega
 | succ x =>
  rw [spots_succ] at he
  obtain ⟨e', h3, h4⟩ := below_up e (List.mem_of_getElem? he) k (by omega) h2
  unfold atDepth
  rw [List.any_eq_true]
  exact ⟨e', by simp [spotsOf, h3], by simp [h4]⟩
def gG : Nat → Nat
 | 0 => 0
 | n + 1 => gG n + (tabC n 2 + 1 + 6 * n + 14)
def tri : Nat → Nat
 | 0 => 0
 | k + 1 => tri k + k
def tT : Nat → Nat
 | 0 => 0
 | n + 1 => tT n + (6 * n + n + tri n)
theorem gG_mono {a b : Nat} (h : a ≤ b) : gG a ≤ gG b := by
 induction b with
 | zero =>
  have : a = 0 := by omega
  subst this; exact Nat.le_refl _
 | succ b ih =>
  rcases Nat.lt_or_ge b a with h1 | h1
  · have : a = b + 1 := by omega
    subst this; exact Nat.le_refl _
  have := ih h1
  simp only [gG]; omega
theorem gG_lt {a b : Nat} (h : a < b) : gG a + (tabC (b - 1) 2 + 1 + 6 * (b - 1) + 14) ≤ gG b := by
 obtain ⟨c, rfl⟩ : ∃ c, b = c + 1 := ⟨b - 1, by omega⟩
 have := gG_mono (show a ≤ c by omega)
 simp only [gG, Nat.add_sub_cancel]; omega
theorem tri_mono {a b : Nat} (h : a ≤ b) : tri a ≤ tri b := by
 induction b with
 | zero =>
  have : a = 0 := by omega
  subst this; exact Nat.le_refl _
 | succ b ih =>
  rcases Nat.lt_or_ge b a with h1 | h1
  · have : a = b + 1 := by omega
    subst this; exact Nat.le_refl _
  have := ih h1
  simp only [tri]; omega
theorem tT_mono {a b : Nat} (h : a ≤ b) : tT a ≤ tT b := by
 induction b with
 | zero =>
  have : a = 0 := by omega
  subst this; exact Nat.le_refl _
 | succ b ih =>
  rcases Nat.lt_or_ge b a with h1 | h1
  · have : a = b + 1 := by omega
    subst this; exact Nat.le_refl _
  have := ih h1
  simp only [tT]; omega
def NoPrune (g : List RuleD) (ns : List Int) (φ : T → Bool) (u : T) (d : Nat) : Prop := ∀ (x : Nat) (e : SpotD), (spotsOf g u)[x]? = some e → d ≤ e.2.2 → canD ns e = true → φ (prunT g (leastD ns g) [(x : Int)] u 0) = false
theorem levels_eval (hm : MinL g ns) (hr : RulesOk g) : ∀ (f d : Nat) (u : T), 2 ≤ d → 33 ≤ f + d → GoodT g u →
 (evalQ φ (levelsQ g ns f d u) = u ∨ (nodes (evalQ φ (levelsQ g ns f d u)) < nodes u ∧ φ (evalQ φ (levelsQ g ns f d u)) = true)) ∧
 (evalQ φ (levelsQ g ns f d u) = u → NoPrune g ns φ u d) ∧
 costQ φ (levelsQ g ns f d u) + gG (nodes (evalQ φ (levelsQ g ns f d u))) ≤ 6 * cntD (spotsOf g u) d + gG (nodes u) := by
 intro f
 induction f with
 | zero =>
  intro d u hd hf hu
  simp only [levelsQ, evalQ, costQ]
  refine ⟨.inl trivial, fun _ x e he hde => ?_, by omega⟩
  have := atDepth_le hu (spots_up he hd hde)
  omega
 | succ f ih =>
  intro d u hd hf hu
  have hdeep := hu.deep
  simp only [levelsQ, if_neg (show ¬ 24 < depth u by omega)]
  by_cases ha : atDepth (spotsOf g u) d = true
  ·
   rw [if_pos ha]
   have hda := atDepth_le hu ha
   have hcnt := level_cnt (g := g) (ns := ns) (t := u) (d := d)
   by_cases h0 : (levelC g ns u d).length = 0
   ·
    rw [if_pos h0]
    obtain ⟨i1, i2, i3⟩ := ih (d + 1) u (by omega) (by omega) hu
    refine ⟨i1, fun e x e' he hde hcan => ?_, by omega⟩
    by_cases hd' : e'.2.2 = d
    · exfalso
      have hx : (x : Int) ∈ levelC g ns u d := by
       unfold levelC levC
       refine List.mem_map.2 ⟨x, List.mem_filter.2 ⟨List.mem_range.2 (lt_of_get he), ?_⟩, rfl⟩
       simp [he, hd', hcan]
      rw [List.eq_nil_of_length_eq_zero h0] at hx
      simp at hx
    exact i2 e x e' he (by omega) hcan
   rw [if_neg h0]
   have hnu := hu.few
   have hclen : (levelC g ns u d).length ≤ nodes u - 1 := by have := cnt_le hu hd; omega
   have he : ∀ s, evalQ φ (Qs.ask (standsT g ns u (levelC g ns u d) s) Qs.ret) = φ (standsT g ns u (levelC g ns u d) s) := fun s => rfl
   have hco : ∀ s, costQ φ (Qs.ask (standsT g ns u (levelC g ns u d) s) Qs.ret) = 1 := fun s => rfl
   obtain ⟨m1, m2, m3⟩ := min_eval (P := fun s => φ (standsT g ns u (levelC g ns u d) s)) he (c := levelC g ns u d) (by omega)
   obtain ⟨c1, c2⟩ := min_cost (P := fun s => φ (standsT g ns u (levelC g ns u d) s)) he hco (c := levelC g ns u d) (by omega) (by omega)
   rw [evalQ_bind, costQ_bind]
   generalize hs : evalQ φ (minQ (fun s => Qs.ask (standsT g ns u (levelC g ns u d) s) Qs.ret) (levelC g ns u d)) = s at *
   have hgood := stands_good hm hr hu hd s
   obtain ⟨i1, i2, i3⟩ := ih (d + 1) _ (by omega) (by omega) hgood
   by_cases hsc : s = levelC g ns u d
   ·
    have e1 : standsT g ns u (levelC g ns u d) s = u := by rw [hsc]; exact stands_all hu d
    rw [e1] at i1 i2 i3 ⊢
    have hc2 := c2 hsc
    refine ⟨i1, fun e x e' he' hde hcan => ?_, by omega⟩
    by_cases hd' : e'.2.2 = d
    ·
     have hx : (x : Int) ∈ levelC g ns u d := by
      unfold levelC levC
      refine List.mem_map.2 ⟨x, List.mem_filter.2 ⟨List.mem_range.2 (lt_of_get he'), ?_⟩, rfl⟩
      simp [he', hd', hcan]
     have := m3 hsc x hx
     simp only [standsT] at this
     rw [minus_one levelC_nodup hx] at this
     exact this
    exact i2 e x e' he' (by omega) hcan
   obtain ⟨p1, p2⟩ := m2.resolve_left hsc
   have hlt := stands_lt hm hr hu hd m1 p2
   generalize hu1 : standsT g ns u (levelC g ns u d) s = u1 at *
   have hcnt1 := cnt_le hgood (show 2 ≤ d + 1 by omega)
   have hgl := gG_lt hlt
   have htab := (tab_lin (show nodes u - 1 ≤ 13 by omega)).2 _ hclen
   have hne : nodes (evalQ φ (levelsQ g ns f (d + 1) u1)) < nodes u := by
    rcases i1 with i1 | i1
    · rw [i1]; exact hlt
    omega
   refine ⟨.inr ⟨hne, ?_⟩, fun e => ?_, by omega⟩
   · rcases i1 with i1 | i1
     · rw [i1]; exact p1
     exact i1.2
   rw [e] at hne; omega
  rw [if_neg ha]
  simp only [evalQ, costQ]
  refine ⟨.inl trivial, fun _ x e he hde => ?_, by omega⟩
  exact absurd (spots_up he hd hde) ha
def NoHoist (g : List RuleD) (φ : T → Bool) (u : T) (a b : Nat) : Prop := ∀ (a' b' : Nat) (ea eb : SpotD), (a < a' ∨ (a' = a ∧ b ≤ b')) → a' < b' → (spotsOf g u)[a']? = some ea → (spotsOf g u)[b']? = some eb → canH (spotsOf g u) ea eb a' b' = true → φ (replT eb.1 a' u 0) = false
def pairs (n a b : Nat) : Nat := (n - b) + tri (n - a - 1)
theorem fuelH_less {u u1 : T} {a b b' : Nat} (h : nodes u1 < nodes u) : fuelH u1 a b' < fuelH u a b := by unfold fuelH; omega
theorem hoists_eval : ∀ (f a b : Nat) (u : T), fuelH u a b < f → a < b → a ≤ 15 → b ≤ 16 → GoodT g u →
 (evalQ φ (hoistsQ g f a b u) = u ∨ (nodes (evalQ φ (hoistsQ g f a b u)) < nodes u ∧ φ (evalQ φ (hoistsQ g f a b u)) = true)) ∧
 (evalQ φ (hoistsQ g f a b u) = u → NoHoist g φ u a b) ∧
 costQ φ (hoistsQ g f a b u) + gG (nodes (evalQ φ (hoistsQ g f a b u))) ≤ pairs (nodes u) a b + gG (nodes u) := by
 intro f
 induction f with
 | zero => intro a b u hf; exact absurd hf (Nat.not_lt_zero _)
 | succ f ih =>
  intro a b u hf hab ha hb hu
  have hnu := hu.few
  have hsl := spots_len hu.ok
  simp only [hoistsQ]
  cases hea : (spotsOf g u)[a]? with
  | none =>
   simp only [evalQ, costQ]
   have hal : nodes u ≤ a := by
    rcases Nat.lt_or_ge a (nodes u) with h | h
    · rw [List.getElem?_eq_getElem (by omega)] at hea; cases hea
    exact h
   refine ⟨.inl trivial, fun _ a' b' ea eb h1 h2 h3 h4 => ?_, by omega⟩
   have := lt_of_get h3
   omega
  | some ea =>
   simp only
   obtain ⟨hoa, hend⟩ := spots_end hu.ok hea
   by_cases hlt : b < a + nodes ea.1
   ·
    rw [if_pos hlt]
    obtain ⟨eb, heb⟩ : ∃ eb, (spotsOf g u)[b]? = some eb := ⟨_, List.getElem?_eq_getElem (by omega)⟩
    rw [heb]
    simp only
    have hpb : 1 + pairs (nodes u) a (b + 1) ≤ pairs (nodes u) a b := by unfold pairs; omega
    have hfb : fuelH u a (b + 1) < f := by unfold fuelH at *; omega
    have hsplit : NoHoist g φ u a (b + 1) → (canH (spotsOf g u) ea eb a b = true → φ (replT eb.1 a u 0) = false) → NoHoist g φ u a b := by
     intro h1 h2 a' b' ea' eb' h3 h4 h5 h6 h7
     by_cases hh : a' = a ∧ b' = b
     · obtain ⟨rfl, rfl⟩ := hh
       rw [hea] at h5; cases h5
       rw [heb] at h6; cases h6
       exact h2 h7
     exact h1 a' b' ea' eb' (by omega) h4 h5 h6 h7
    by_cases hc : canH (spotsOf g u) ea eb a b = true
    ·
     rw [if_pos hc]
     obtain ⟨g1, g2, g3⟩ := hoist_ok hu.ok hea heb hab hc
     obtain ⟨u1, hu1⟩ : ∃ u1, u1 = replT eb.1 a u 0 := ⟨_, rfl⟩
     rw [← hu1] at g1 g2 g3 ⊢
     have hgu1 : GoodT g u1 := ⟨g1, by omega⟩
     simp only [evalQ, costQ]
     cases hph : φ u1 with
     | true =>
      simp only [if_true]
      obtain ⟨i1, i2, i3⟩ := ih a (a + 1) u1 (Nat.lt_of_lt_of_le (fuelH_less g2) (Nat.le_of_lt_succ hf)) (by omega) ha (by omega) hgu1
      have hne : nodes (evalQ φ (hoistsQ g f a (a + 1) u1)) < nodes u := by
       rcases i1 with i1 | i1
       · rw [i1]; exact g2
       omega
      have hgl := gG_lt g2
      have htr := tri_mono (show nodes u1 - a - 1 ≤ nodes u - a - 1 by omega)
      refine ⟨.inr ⟨hne, ?_⟩, fun e => ?_, ?_⟩
      · rcases i1 with i1 | i1
        · rw [i1]; exact hph
        exact i1.2
      · rw [e] at hne; omega
      unfold pairs at i3 ⊢; omega
     | false =>
      simp only [Bool.false_eq_true, if_false]
      obtain ⟨i1, i2, i3⟩ := ih a (b + 1) u hfb (by omega) ha (by omega) hu
      exact ⟨i1, fun e => hsplit (i2 e) (fun _ => by rw [← hu1]; exact hph), by omega⟩
    rw [if_neg hc]
    obtain ⟨i1, i2, i3⟩ := ih a (b + 1) u hfb (by omega) ha (by omega) hu
    exact ⟨i1, fun e => hsplit (i2 e) (fun h => absurd h hc), by omega⟩
   rw [if_neg hlt]
   have hal := lt_of_get hea
   obtain ⟨i1, i2, i3⟩ := ih (a + 1) (a + 2) u (by unfold fuelH at *; omega) (by omega) (by omega) (by omega) hu
   refine ⟨i1, fun e a' b' ea' eb' h3 h4 h5 h6 h7 => ?_, ?_⟩
   ·
    by_cases haa : a' = a
    · subst haa
      rw [hea] at h5; cases h5
      exfalso
      simp only [canH, Bool.and_eq_true, decide_eq_true_eq] at h7
      omega
    exact i2 e a' b' ea' eb' (by omega) h4 h5 h6 h7
   have htr : (nodes u - (a + 2)) + tri (nodes u - (a + 1) - 1) ≤ tri (nodes u - a - 1) := by
    rcases Nat.lt_or_ge (a + 1) (nodes u) with h | h
    · obtain ⟨k, hk⟩ : ∃ k, nodes u - a - 1 = k + 1 := ⟨nodes u - a - 2, by omega⟩
      rw [hk, show nodes u - (a + 1) - 1 = k by omega, show nodes u - (a + 2) = k by omega]
      simp only [tri]; omega
    rw [show nodes u - (a + 2) = 0 by omega, show nodes u - (a + 1) - 1 = 0 by omega]
    simp [tri]
   unfold pairs at i3 ⊢; omega
theorem rounds_eval (hm : MinL g ns) (hr : RulesOk g) : ∀ (f : Nat) (u : T), nodes u < f → GoodT g u → φ u = true →
 φ (evalQ φ (roundsQ g ns f u)) = true ∧ nodes (evalQ φ (roundsQ g ns f u)) ≤ nodes u ∧ GoodT g (evalQ φ (roundsQ g ns f u)) ∧ NoPrune g ns φ (evalQ φ (roundsQ g ns f u)) 2 ∧ NoHoist g φ (evalQ φ (roundsQ g ns f u)) 0 1 ∧
 costQ φ (roundsQ g ns f u) + gG (nodes (evalQ φ (roundsQ g ns f u))) ≤ tT (nodes u) + gG (nodes u) := by
 intro f
 induction f with
 | zero => intro u hf; exact absurd hf (Nat.not_lt_zero _)
 | succ f ih =>
  intro u hf hu hph
  have hnu := hu.few
  have hn1 := nodes_pos u
  obtain ⟨n0, hn0⟩ : ∃ n0, nodes u = n0 + 1 := ⟨nodes u - 1, by omega⟩
  simp only [roundsQ, evalQ_bind, costQ_bind]
  obtain ⟨a1, a2, a3⟩ := levels_eval (φ := φ) hm hr 31 2 u (by omega) (by omega) hu
  have hall := evalQ_all (φ := φ) (levelsQ_all hm hr 31 2 u (by omega) hu)
  generalize evalQ φ (levelsQ g ns 31 2 u) = u1 at *
  obtain ⟨hu1, hle1⟩ := hall
  obtain ⟨b1, b2, b3⟩ := hoists_eval (φ := φ) (fuelH u1 0 1 + 1) 0 1 u1 (by omega) (by omega) (by omega) (by omega) hu1
  have hall2 := evalQ_all (φ := φ) (hoistsQ_all (fuelH u1 0 1 + 1) 0 1 u1 (by omega) hu1)
  generalize evalQ φ (hoistsQ g (fuelH u1 0 1 + 1) 0 1 u1) = u2 at *
  obtain ⟨hu2, hle2⟩ := hall2
  have hcnt := cnt_le hu (show 2 ≤ 2 by omega)
  have hpr : pairs (nodes u1) 0 1 ≤ n0 + tri n0 := by
   have := tri_mono (show nodes u1 - 0 - 1 ≤ n0 by omega)
   unfold pairs; omega
  by_cases hge : nodes u ≤ nodes u2
  ·
   rw [if_pos hge]
   simp only [evalQ, costQ]
   have e1 : u1 = u := a1.resolve_right (fun h => by omega)
   have e2 : u2 = u1 := b1.resolve_right (fun h => by omega)
   have htT : tT (nodes u) = tT n0 + (6 * n0 + n0 + tri n0) := by rw [hn0]; rfl
   subst e1
   subst e2
   exact ⟨hph, Nat.le_refl _, hu, a2 rfl, b2 rfl, by omega⟩
  rw [if_neg hge]
  have hph2 : φ u2 = true := by
   rcases b1 with b1 | b1
   · rw [b1]
     rcases a1 with a1 | a1
     · rw [a1]; exact hph
     exact a1.2
   exact b1.2
  obtain ⟨c1, c2, c3, c4, c5, c6⟩ := ih u2 (by omega) hu2 hph2
  have htT : tT (nodes u) = tT n0 + (6 * n0 + n0 + tri n0) := by rw [hn0]; rfl
  have htm := tT_mono (show nodes u2 ≤ n0 by omega)
  exact ⟨c1, by omega, c3, c4, c5, by omega⟩
def chkT : Bool := (List.range 15).all fun n => decide (1 + tT n + gG n ≤ 4096)
theorem chkT_ok : chkT = true := by kernel_rfl
theorem tree_eval (hm : MinL g ns) (hr : RulesOk g) {t : T} (h : GoodT g t) :
 (φ t = false → evalQ φ (treeQ g ns t) = none ∧ costQ φ (treeQ g ns t) = 1) ∧
 (φ t = true → ∃ u, evalQ φ (treeQ g ns t) = some u ∧ φ u = true ∧ nodes u ≤ nodes t ∧ GoodT g u ∧ NoPrune g ns φ u 2 ∧ NoHoist g φ u 0 1) ∧ costQ φ (treeQ g ns t) ≤ 4096 := by
 have hck : 1 + tT (nodes t) + gG (nodes t) ≤ 4096 := by
  have h1 := chkT_ok
  unfold chkT at h1
  rw [List.all_eq_true] at h1
  have := h1 (nodes t) (List.mem_range.2 (by have := h.few; omega))
  simpa using this
 have hev : evalQ φ (treeQ g ns t) = evalQ φ (if φ t then (roundsQ g ns (nodes t + 1) t).bind fun t' => .ret (some t') else .ret none) := rfl
 have hcs : costQ φ (treeQ g ns t) = 1 + costQ φ (if φ t then (roundsQ g ns (nodes t + 1) t).bind fun t' => .ret (some t') else .ret none) := rfl
 rw [hev, hcs]
 cases hp : φ t with
 | false =>
  rw [if_neg (by decide)]
  exact ⟨fun _ => ⟨rfl, rfl⟩, fun e => (by cases e), by simp only [costQ]; omega⟩
 | true =>
  rw [if_pos rfl, evalQ_bind, costQ_bind]
  obtain ⟨c1, c2, c3, c4, c5, c6⟩ := rounds_eval hm hr (nodes t + 1) t (by omega) h hp
  exact ⟨fun e => (by cases e), fun _ => ⟨_, rfl, c1, c2, c3, c4, c5⟩, by simp only [costQ]; omega⟩
end Go.Proofs.Lw
namespace Go.Proofs.Lw
open Go Go.Am
set_option maxRecDepth 8000
variable {gl : Nat → Nat → Option Value} {ng : Nat} {g : List RuleD} {ns : List Int}
def TOk (gl : Nat → Nat → Option Value) (ng : Nat) (σ0 : Kn) (m0 : Mem) (σ : Kn) (bn : Nat) (L : List (Nat × Cl)) (sb : Nat) (av : Value) (A : List Int) (mb : Nat) (r : Res (Option T)) (out : Out) (m' : Mem) : Prop :=
 ∃ σ' x y z, σ.le σ' ∧ match r with
  | .done none K' => out = .returned (.int .i64 7) ∧ Srch gl ng σ0 m0 σ' m' ((bn, ⟨[x, y, z], none⟩) :: L) [] sb av A mb K'
  | .done (some t) K' => out = .returned (.int .i64 0) ∧ TreeK σ' (.agg #[x, y, z]) t ∧ Srch gl ng σ0 m0 σ' m' ((bn, ⟨[x, y, z], none⟩) :: L) [] sb av A mb K'
  | .stop t K' => ∃ v, out = .panicked (qPanic v) ∧ TreeK σ' v t ∧ Srch gl ng σ0 m0 σ' m' ((bn, ⟨[x, y, z], none⟩) :: L) [] sb av A mb K'
theorem f28_ok {σ0 σ : Kn} {m0 m : Mem} {L : List (Nat × Cl)} {sb mb bg bn : Nat} {av rv x y z : Value} {A : List Int} {Kw : Known} {t : T} (hs : Srch gl ng σ0 m0 σ m ((bn, ⟨[x, y, z], none⟩) :: L) [] sb av A mb Kw) (hg : RulesV σ rv g) (kg : σ bg 0 = some rv) (hru : RulesOk g) (hmin : MinL g ns)
 (ht : TreeK σ (.agg #[x, y, z]) t) (hok : GoodT g t) :
 C (cfg gl ng) 28 [.pointer (some ⟨sb, 0, none⟩), .pointer (some ⟨bg, 0, none⟩), .pointer (some ⟨bn, 0, none⟩)] m (TOk gl ng σ0 m0 σ bn L sb av A mb (runQ (textG g) A (treeQ g ns t) Kw)) := by
 generalize hR : runQ (textG g) A (treeQ g ns t) Kw = R
 generalize hQ : TOk gl ng σ0 m0 σ bn L sb av A mb R = Q
 refine ofU (c := _) Tryz.func28 rfl 24 rfl (fun c' hnt _ _ => ?_)
 have hS := hs.s
 repeat apply W.seq
 apply W.regN; simp [hnt]
 repeat apply W.seq
 apply W.regN; simp [hnt, hS.kn, kg, hS.c1]
 refine C.mono (f29_ok hs hg hru ht (hok.wt hru) (by have := hok.few; omega) hok.ok) (fun out m1 ho => ?_)
 obtain ⟨σ1, hle1, hr⟩ := ho
 rw [treeQ, runQ_ask] at hR
 cases hon : runQ (textG g) A (.ask t .ret) Kw with
 | stop t' K1 =>
  rw [hon] at hr hR
  obtain ⟨v, rfl, hv, h1⟩ := hr
  simp [hnt]
  refine U.panic rfl ?_
  rw [← hQ]
  refine ⟨σ1, x, y, z, hle1, ?_⟩
  rw [← hR]
  exact ⟨v, rfl, hv, h1⟩
 | done b K1 =>
  rw [hon] at hr hR
  obtain ⟨_, rfl, rfl, h1⟩ := hr
  simp [hnt]
  cases b with
  | false =>
   refine W.choose (by simp; rfl) (fun hc => ?_) fun hc => ?_
   ·
    repeat apply W.seq
    apply W.regN; simp [hnt]
    try apply W.ret; try simp only [Then, InBlk]
    refine U.ret (by simp [unwind.results, Tryz.f28] <;> rfl) rfl ?_
    rw [← hQ]
    refine ⟨σ1, x, y, z, hle1, ?_⟩
    have hR' : R = .done none K1 := by rw [← hR]; simp [runQ]
    rw [hR']
    exact ⟨by simp [retV], h1⟩
   cases hc
  | true =>
   refine W.choose (by simp; rfl) (fun hc => ?_) fun hc => ?_
   · cases hc
   apply W.skip; try simp only [Then, InBlk]
   simp only [if_true] at hR
   apply W.block
   obtain ⟨II, hII⟩ : ∃ II : Nat → Tr Value → Mem → Prop, II = fun i _ m' => ∃ (σ' : Kn) (K' : Known) (u : T) (x y z : Value), σ1.le σ' ∧ Srch gl ng σ0 m0 σ' m' ((bn, ⟨[x, y, z], none⟩) :: L) [] sb av A mb K' ∧ TreeK σ' (.agg #[x, y, z]) u ∧ GoodT g u ∧ nodes u ≤ i ∧
    runQ (textG g) A ((roundsQ g ns (i + 1) u).bind fun t' => .ret (some t')) K' = R := ⟨_, rfl⟩
   refine W.down (ws := [11, 12, 5, 13, 14, 15, 16, 17, 18, 19, 20, 21, 22, 23, 4]) (by kernel_rfl) II (nodes t) (by rw [hII]; exact ⟨σ1, K1, t, x, y, z, Kn.le_refl _, h1, ht.mono hle1, hok, Nat.le_refl _, hR⟩) (fun i t1 m2 hfr hI => ?_)
   rw [hII] at hI
   obtain ⟨σ2, K2, u, x2, y2, z2, hle2, h2, hu, hgu, hni, hR2⟩ := hI
   have hS2 := h2.s
   have hwu := hgu.wt hru
   have hnu := hgu.few
   have hle2' := Kn.le_trans hle1 hle2
   have kg2 := hle2' _ _ _ kg
   have hg2 := hg.mono hle2'
   apply W.block
   repeat apply W.seq
   apply W.regN; simp [hnt, hfr, hS2.c1]
   refine Ct.use (f23_ct hS2.wf hS2.holds hu (by omega)) (fun σ3 v3 m3 hl3 hv3 => ?_)
   subst hv3
   have h3 := h2.learn hl3
   have hS3 := h3.s
   have hle3 := hl3.le
   have kg3 := hle3 _ _ _ kg2
   have hg3 := hg2.mono hle3
   have hb1 : beqV 8 rv rv = true := by obtain ⟨_, _, h1, _⟩ := hg; exact beq_slice h1 8
   simp [hnt]
   simp only [roundsQ] at hR2
   rw [Qs.bind_assoc, runQ_bind] at hR2
   repeat apply W.seq
   refine W.regP [(5, 1)] [5, 6, 1] (by as_aux_lemma => kernel_rfl) ?_
   simp [hnt, hfr, hS3.kn, kg3, hS3.c1]
   refine C.mono (f31_ok (ns := ns) h3 hg3 hru hmin (hu.mono hle3) hgu) (fun out m4 ho => ?_)
   obtain ⟨σ4, hle4, hr⟩ := ho
   cases hon4 : runQ (textG g) A (levelsQ g ns 31 2 u) K2 with
   | stop t' K4 =>
    rw [hon4] at hr hR2
    obtain ⟨v, rfl, hv, h4⟩ := hr
    simp [hnt]
    refine ⟨by kernel_rfl, by simp [forgetOk, hnt], by simp [belowU, looseOk], fun t5 => ?_⟩
    refine U.panic rfl ?_
    rw [← hQ]
    refine ⟨σ4, x2, y2, z2, Kn.le_trans hle2' (Kn.le_trans hle3 hle4), ?_⟩
    rw [← hR2]
    exact ⟨v, rfl, hv, h4⟩
   | done t4 K4 =>
    rw [hon4] at hr hR2
    obtain ⟨v4, rfl, hv4, h4⟩ := hr
    have hall := (levelsQ_all hmin hru 31 2 u (by omega) hgu).run (tx := textG g) (V := A) (K := K2)
    rw [hon4] at hall
    obtain ⟨hg4, hn4⟩ := hall
    have hS4 := h4.s
    have kg4 := hle4 _ _ _ kg3
    simp only at hR2
    rw [Qs.bind_assoc, runQ_bind] at hR2
    simp [hnt]
    refine C.mono (f30_ok h4 (hg3.mono hle4) hru hv4 hg4) (fun out m5 ho => ?_)
    obtain ⟨σ5, hle5, hr⟩ := ho
    have hle5' : σ2.le σ5 := Kn.le_trans hle3 (Kn.le_trans hle4 hle5)
    cases hon5 : runQ (textG g) A (hoistsQ g (fuelH t4 0 1 + 1) 0 1 t4) K4 with
    | stop t' K5 =>
     rw [hon5] at hr hR2
     obtain ⟨v, rfl, hv, h5⟩ := hr
     simp [hnt]
     refine ⟨by kernel_rfl, by simp [forgetOk, hnt], ?_, fun t5 => ?_⟩
     · simp only [belowU]
       simp [looseOk, getS, againOk, quiet, still, beqV, hfr, hS3.kn, hS4.kn, kg3, kg4, hb1]
     refine U.panic rfl ?_
     rw [← hQ]
     refine ⟨σ5, x2, y2, z2, Kn.le_trans hle2' hle5', ?_⟩
     rw [← hR2]
     exact ⟨v, rfl, hv, h5⟩
    | done t5 K5 =>
     rw [hon5] at hr hR2
     obtain ⟨v5, rfl, hv5, h5⟩ := hr
     obtain ⟨x5, y5, z5, rfl, px5, py5, pz5⟩ := hv5.agg
     have hall := (hoistsQ_all (fuelH t4 0 1 + 1) 0 1 t4 (by omega) hg4).run (tx := textG g) (V := A) (K := K4)
     rw [hon5] at hall
     obtain ⟨hg5, hn5⟩ := hall
     have hS5 := h5.s
     obtain ⟨m6, e6, hS6⟩ := hS5.setAll (i := 1) rfl (vs := [x5, y5, z5]) rfl (by simp [px5, py5, pz5])
     have h6 : Srch gl ng σ0 m0 σ5 m6 ((bn, ⟨[x5, y5, z5], none⟩) :: L) [] sb av A mb K5 := ⟨hS6, h5.o.write e6, h5.odd, h5.av, h5.le, h5.lim⟩
     simp [hnt, hfr, e6]
     refine ⟨?_, ?_⟩
     · simp [looseOk, getS, againOk, quiet, still, beqV, hfr, hS3.kn, hS4.kn, kg3, kg4, hb1]
     have hw5 := hg5.wt hru
     repeat apply W.seq
     apply W.regN; simp [hnt, hfr, h6.s.c1]
     refine Ct.use (f23_ct h6.s.wf h6.s.holds hv5 (by omega)) (fun σ7 v7 m7 hl7 hv7 => ?_)
     subst hv7
     have h7 := h6.learn hl7
     simp only at hR2
     by_cases hge : nodes u ≤ nodes t5
     ·
      have hge' : (nodes u : Int) ≤ nodes t5 := by omega
      rw [if_pos hge] at hR2
      simp [hnt, hge, hge']
      refine W.choose (by simp; rfl) (fun hc => ?_) fun hc => ?_
      · repeat apply W.seq
        apply W.regN; simp [hnt]
        try apply W.ret; try simp only [Then, InBlk]
        refine U.ret (by simp [unwind.results, Tryz.f28] <;> rfl) rfl ?_
        rw [← hQ]
        refine ⟨σ7, x5, y5, z5, Kn.le_trans hle2' (Kn.le_trans hle5' hl7.le), ?_⟩
        rw [← hR2]
        exact ⟨by simp [retV], hv5.mono hl7.le, h7⟩
      cases hc
     have hge' : ¬ (nodes u : Int) ≤ nodes t5 := by omega
     rw [if_neg hge] at hR2
     simp [hnt, hge, hge']
     refine W.choose (by simp; rfl) (fun hc => ?_) fun hc => ?_
     · cases hc
     apply W.skip; try simp only [Then, InBlk]
     refine ⟨by trivial, by trivial, i - 1, by omega, ?_⟩
     rw [hII]
     refine ⟨σ7, K5, t5, x5, y5, z5, Kn.le_trans hle2 (Kn.le_trans hle5' hl7.le), h7, hv5.mono hl7.le, hg5, by omega, ?_⟩
     rw [show i - 1 + 1 = i by omega]
     exact hR2
end Go.Proofs.Lw
namespace Go.Proofs.Lw
open Go Go.Am
set_option maxRecDepth 8000
variable {gl : Nat → Nat → Option Value} {ng : Nat} {g : List RuleD} {ns : List Int}
theorem eq20s {m : Mem} {v : Value} {xo yo : Operand} : opBin (cfg gl ng).toEnv .eql 20 xo yo (.iface 97 v) .nilIface m = .value (.bool false) m := by
 unfold opBin
 split
 · kernel_rfl
 rw [if_pos (by simp [eqOk])]
 have hu : (match und (cfg gl ng).toEnv 20 with | some (.interface _) => true | _ => false) = true := by kernel_rfl
 cases h : und (cfg gl ng).toEnv 20 with
 | none => rw [h] at hu; cases hu
 | some d => rw [h] at hu; cases d <;> first | (simp at hu; done) | (simp only [eqV, h])
theorem eq20n {m : Mem} {i : Nat} : opBin (cfg gl ng).toEnv .eql 20 (.tmp i) (.const .nilIface) .nilIface .nilIface m = .value (.bool true) m := by
 unfold opBin
 rw [if_pos (by simp)]
 kernel_rfl
theorem as97 {m : Mem} {v : Value} : opAssert (cfg gl ng).toEnv (.iface 97 v) 97 true m = .value (.tuple #[v, .bool true]) m := by
 have hu : (match und (cfg gl ng).toEnv 97 with | some (.struct _) => true | _ => false) = true := by kernel_rfl
 unfold opAssert
 cases h : und (cfg gl ng).toEnv 97 with
 | none => rw [h] at hu; cases hu
 | some d => rw [h] at hu; cases d <;> first | (simp at hu; done) | (simp [opAssert.holds])
variable {σ0 σ : Kn} {m0 m : Mem} {L : List (Nat × Cl)} {O : List (Nat × OE)}
theorem f56_none (ba : Nat) : CD (cfg gl ng) 56 [.pointer (some ⟨ba, 0, none⟩)] none m (fun out _ m' => ∃ v, out = .returned v ∧ m' = m) := by
 refine CD.of (c := _) Tryz.func56 rfl ?_
 have hnt : Tryz.f56.ntmps = 12 := rfl
 repeat apply W.seq
 apply W.regX; simp [hnt, hnt]
 apply W.block
 repeat apply W.seq
 apply W.regN; simp [hnt, hnt, eq20n]
 refine W.choose (by simp; rfl) (fun hc => ?_) fun hc => ?_
 · apply W.regN; simp [hnt, hnt]
   exact ⟨[], by simp [unwind.results]⟩
 cases hc
theorem f56_some {ba : Nat} {x y z a b c : Value} (hS : S (cfg gl ng).toEnv σ0 m0 σ m ((ba, ⟨[a, b, c], none⟩) :: L)) (hO : OL m0 m O) (hx : plainV x = true) (hy : plainV y = true) (hz : plainV z = true) :
 CD (cfg gl ng) 56 [.pointer (some ⟨ba, 0, none⟩)] (some (qPanic (.agg #[x, y, z]))) m (fun out cm m' => ∃ v e, out = .returned v ∧ cm = some [e] ∧ e.recovered = true ∧ S (cfg gl ng).toEnv σ0 m0 σ m' ((ba, ⟨[x, y, z], none⟩) :: L) ∧ OL m0 m' O) := by
 refine CD.of (c := _) Tryz.func56 rfl ?_
 have hnt : Tryz.f56.ntmps = 12 := rfl
 repeat apply W.seq
 apply W.regX; simp [hnt, hnt, qPanic]
 refine ⟨_, _, ⟨rfl, rfl⟩, ?_⟩
 apply W.block
 repeat apply W.seq
 apply W.regN; simp [hnt, hnt, eq20s]
 refine W.choose (by simp; rfl) (fun hc => ?_) fun hc => ?_
 · cases hc
 obtain ⟨m2, e2, hS2⟩ := hS.var 97 [.int .i64 0, .string .empty, .slice none 0 0] [x, y, z] (by simp) (by simp [hx, hy, hz]) rfl
 have hO2 := (hO.new hS.wf _).write e2
 obtain ⟨m3, e3, hS3⟩ := hS2.setAll (i := 1) rfl (vs := [x, y, z]) rfl (by simp [hx, hy, hz])
 have hO3 := hO2.write e3
 repeat apply W.seq
 apply W.regN; simp [hnt, hnt, as97]
 refine W.choose (by simp; rfl) (fun hc => ?_) fun hc => ?_
 · repeat apply W.seq
   apply W.regN; simp [hnt, hnt, e2]
   apply W.regN; simp [hnt, hnt, hS2.c0, e3]
   exact ⟨⟨[], by simp [unwind.results]⟩, hS3.drop (List.sublist_cons_self _ _), hO3⟩
 cases hc
def RunOk (gl : Nat → Nat → Option Value) (ng : Nat) (σ0 : Kn) (m0 : Mem) (σ : Kn) (bn : Nat) (L : List (Nat × Cl)) (A : List Int) (r : Res (Option T)) (out : Out) (m' : Mem) : Prop :=
 ∃ σ' x y z, σ.le σ' ∧ S (cfg gl ng).toEnv σ0 m0 σ' m' ((bn, ⟨[x, y, z], none⟩) :: L) ∧ match r with
  | .done none _ => out = .returned (.tuple #[.agg #[.int .i64 0, .string .empty, .slice none 0 0], .bool false, .int .i64 7])
  | .done (some t) K' => if K'.length < A.length then out = .returned (.tuple #[.agg #[.int .i64 0, .string .empty, .slice none 0 0], .bool false, .int .i64 8])
   else out = .returned (.tuple #[.agg #[.int .i64 0, .string .empty, .slice none 0 0], .bool true, .int .i64 0]) ∧ TreeK σ' (.agg #[x, y, z]) t
  | .stop t _ => ∃ v, out = .returned (.tuple #[v, .bool false, .int .i64 0]) ∧ TreeK σ' v t
theorem mkm98 : opMakeMap (cfg gl ng).toEnv 98 none m = .value (.map (some m.nb)) (m.new (.map [] 0)) := rfl
theorem f27_ok {bg bn : Nat} {av rv x y z : Value} {A : List Int} {t : T} (hS : S (cfg gl ng).toEnv σ0 m0 σ m ((bn, ⟨[x, y, z], none⟩) :: L)) (hav : VersK σ av A) (hA : A.length ≤ 4096) (hg : RulesV σ rv g) (kg : σ bg 0 = some rv) (hru : RulesOk g) (hmin : MinL g ns)
 (ht : TreeK σ (.agg #[x, y, z]) t) (hok : GoodT g t) :
 C (cfg gl ng) 27 [av, .func (.func 28) #[] #[.pointer (some ⟨bg, 0, none⟩), .pointer (some ⟨bn, 0, none⟩)]] m (RunOk gl ng σ0 m0 σ bn L A (runQ (textG g) A (treeQ g ns t) [])) := by
 generalize hR : runQ (textG g) A (treeQ g ns t) [] = R
 generalize hQ : RunOk gl ng σ0 m0 σ bn L A R = Q
 refine ofU (c := _) Tryz.func27 rfl 33 rfl (fun c' hnt hxr _ => ?_)
 obtain ⟨ba0, oa0, hav1, _⟩ := id hav
 have hS1 := hS.new (vs := [.int .i64 0, .string .empty, .slice none 0 0]) 27 (by simp)
 repeat apply W.seq
 apply W.regN; simp [hnt]
 generalize m.new (.cells (cellsOf [.int .i64 0, .string .empty, .slice none 0 0] 27)) = m1 at *
 generalize m.nb = ba at *
 have hlA : ¬ (4096 : Int) < A.length := by omega
 repeat apply W.seq
 apply W.regN; simp [hnt, K.ly38 hav1, hlA]
 refine W.choose (by simp; rfl) (fun hc => ?_) fun hc => ?_
 · cases hc
 apply W.skip; try simp only [Then, InBlk]
 have hmk56 : opMakeFunc (.func 56) #[] #[.pointer (some ⟨ba, 0, none⟩)] m1 = .value (.func (.func 56) #[] #[.pointer (some ⟨ba, 0, none⟩)]) m1 := rfl
 repeat apply W.seq
 apply W.regX; simp [hnt, hmk56, hxr]
 have hO1 : OL m0 m1 [] := OL.nil
 have hS2 := hS1.grow (Grow.new hS1.wf (.map [] 0))
 have hO2 := hO1.push hS1.wf hS1.le0 (bl := .map [] 0) (fun c e => by cases e)
 have hodd := Mem.nb_odd m1
 have hhalf := Mem.nb_half m1
 rw [← hhalf] at hO2
 obtain ⟨m3, sb, hbx3, hS3⟩ := hS2.box 100 #[av, .int .i64 0, .map (some m1.nb)] (by simp [hav.plain])
 have hO3 := hO2.box hS2.wf hbx3
 repeat apply W.seq
 apply W.regN; simp [hnt, mkm98, K.bu100_0_2 hav.plain (plain_map (a := some m1.nb)), hbx3]
 generalize m1.nb = mb at *
 have h3 : Srch gl ng σ0 m0 σ m3 ((bn, ⟨[x, y, z], none⟩) :: (ba, ⟨[.int .i64 0, .string .empty, .slice none 0 0], none⟩) :: L) [] sb av A mb [] := ⟨hS3.perm (List.Perm.cons _ (List.Perm.swap _ _ _)), hO3, hodd, hav, Nat.zero_le _, hA⟩
 clear hS3 hO3 hS2 hO2 hS1 hO1
 have hcall56 : ∀ args m', callV (cfg gl ng) 56 args m' = .enter 56 args m' := fun args m' => callV_of (fn := Tryz.f56) Tryz.func56 rfl rfl
 have hcall28 : ∀ args m', callV (cfg gl ng) 28 args m' = .enter 28 args m' := fun args m' => callV_of (fn := Tryz.f28) Tryz.func28 rfl rfl
 have hret : ∀ (tt : Tr Value) (m5 : Mem) (b : Bool) (e : Int) (v : Value), tt.get 4 = some (.pointer (some ⟨ba, 0, none⟩)) → tt.get 5 = some (.bool b) → tt.get 6 = some (.int .i64 e) → opLoad (cfg gl ng).toEnv 27 (.pointer (some ⟨ba, 0, none⟩)) m5 = .value v m5 → ∀ ds, Q (.returned (.tuple #[v, .bool b, .int .i64 e])) m5 → U (cfg gl ng) Tryz.f27 none [] ⟨tt, ds, none, m5⟩ Q := by
  intro tt m5 b e v h4 h5 h6 hld ds hq
  have hl2 : loadV (cfg gl ng).toEnv m5 27 ba 0 = some v := by
   simp only [opLoad, addrOf] at hld
   cases hlv : loadV (cfg gl ng).toEnv m5 27 ba 0 with
   | none => rw [hlv] at hld; cases hld
   | some w => rw [hlv] at hld; simp only [Am.rv, ORes.value.injEq] at hld; rw [hld.1]
  exact U.ret (vs := [v, .bool b, .int .i64 e]) (by simp [unwind.results, Tryz.f27, addrOf, h4, h5, h6, hl2]) rfl hq
 have hend : ∀ (tt : Tr Value) (m5 : Mem) (b : Bool) (e : Int) (v : Value), tt.get 4 = some (.pointer (some ⟨ba, 0, none⟩)) → tt.get 5 = some (.bool b) → tt.get 6 = some (.int .i64 e) → opLoad (cfg gl ng).toEnv 27 (.pointer (some ⟨ba, 0, none⟩)) m5 = .value v m5 → ∀ ds, Q (.returned (.tuple #[v, .bool b, .int .i64 e])) m5 → U (cfg gl ng) Tryz.f27 none [{ target := .fn (.func 56) #[.pointer (some ⟨ba, 0, none⟩)], args := #[] }] ⟨tt, ds, none, m5⟩ Q := by
  intro tt m5 b e v h4 h5 h6 hld ds hq
  refine U.defer (f := 56) (args := [.pointer (some ⟨ba, 0, none⟩)]) (m := m5) rfl (hcall56 _ _) ?_
  obtain ⟨n0, out, cm, m', h1, w, rfl, rfl⟩ := f56_none (gl := gl) (ng := ng) (m := m5) ba
  exact ⟨n0, _, cm, _, h1, w, rfl, hret tt m' b e v h4 h5 h6 hld ds hq⟩
 repeat apply W.seq
 apply W.regN; simp [hnt, hcall28]
 refine C.mono (f28_ok (ns := ns) h3 hg kg hru hmin ht hok) (fun out m4 ho => ?_)
 obtain ⟨σ4, x4, y4, z4, hle4, hr⟩ := ho
 rw [hR] at hr
 have hav4 := hav.mono hle4
 have hdrop : ∀ {σ5 m5 K5} {vs ws : List Value}, Srch gl ng σ0 m0 σ5 m5 ((bn, ⟨ws, none⟩) :: (ba, ⟨vs, none⟩) :: L) [] sb av A mb K5 → S (cfg gl ng).toEnv σ0 m0 σ5 m5 ((bn, ⟨ws, none⟩) :: L) := fun h => h.s.drop (List.Sublist.cons _ (List.Sublist.cons_cons _ (List.sublist_cons_self _ _)))
 cases hRc : R with
 | stop t' K' =>
  rw [hRc] at hr
  obtain ⟨v, rfl, hv, h4⟩ := hr
  obtain ⟨x5, y5, z5, rfl, px5, py5, pz5⟩ := hv.agg
  simp [hnt]
  have hS4 := h4.s.perm (L' := (ba, ⟨[.int .i64 0, .string .empty, .slice none 0 0], none⟩) :: sCl sb av K'.length mb :: (bn, ⟨[x4, y4, z4], none⟩) :: L) (List.perm_middle (l₁ := [_, _]))
  refine U.recover (f := 56) (args := [.pointer (some ⟨ba, 0, none⟩)]) (m := m4) rfl (hcall56 _ _) ?_
  obtain ⟨n0, out, cm, m', h1, w, e, rfl, rfl, he, hS5, hO5⟩ := f56_some (gl := gl) (ng := ng) hS4 h4.o px5 py5 pz5
  refine ⟨n0, _, _, _, h1, w, e, rfl, rfl, he, ?_⟩
  refine hret _ m' false 0 (.agg #[x5, y5, z5]) (by simp) (by simp) (by simp) (by simp [hS5.c0]) _ ?_
  rw [← hQ, hRc]
  refine ⟨σ4, x4, y4, z4, hle4, hS5.drop ?_, _, rfl, hv⟩
  exact List.Sublist.cons _ (List.Sublist.cons _ (List.Sublist.refl _))
 | done o K' =>
  rw [hRc] at hr
  cases o with
  | none =>
   obtain ⟨rfl, h4⟩ := hr
   have hS4 := h4.s
   simp [hnt]
   repeat apply W.seq
   apply W.regN; simp [hnt]
   refine W.choose (by simp; rfl) (fun hc => ?_) fun hc => ?_
   ·
    obtain ⟨m5, e5, hS5⟩ := hS4.setAll (i := 2) rfl (vs := [.int .i64 0, .string .empty, .slice none 0 0]) rfl (by simp)
    repeat apply W.seq
    apply W.regN; simp [hnt, hS4.c2, e5]
    apply W.ret; try simp only [Then, InBlk]
    refine hend _ m5 false 7 (.agg #[.int .i64 0, .string .empty, .slice none 0 0]) (by simp) (by simp) (by simp) (by simp [hS5.c2]) _ ?_
    rw [← hQ, hRc]
    exact ⟨σ4, x4, y4, z4, hle4, hS5.drop (List.Sublist.cons _ (List.Sublist.cons_cons _ (List.sublist_cons_self _ _))), rfl⟩
   cases hc
  | some t' =>
   obtain ⟨rfl, ht', h4⟩ := hr
   have hS4 := h4.s
   obtain ⟨ba1, oa1, hav5, _⟩ := id hav4
   have hlK := h4.le
   simp [hnt]
   repeat apply W.seq
   apply W.regN; simp [hnt]
   refine W.choose (by simp; rfl) (fun hc => ?_) fun hc => ?_
   · cases hc
   apply W.skip; try simp only [Then, InBlk]
   obtain ⟨m5, e5, hS5⟩ := hS4.setAll (i := 2) rfl (vs := [.int .i64 0, .string .empty, .slice none 0 0]) rfl (by simp)
   have hS5d := hS5.drop (L' := (bn, ⟨[x4, y4, z4], none⟩) :: L) (List.Sublist.cons _ (List.Sublist.cons_cons _ (List.sublist_cons_self _ _)))
   by_cases hlt : K'.length < A.length
   ·
    have hlt' : (K'.length : Int) < A.length := by omega
    repeat apply W.seq
    apply W.regN; simp [hnt, hS4.c0, K.ly38 hav5, hlt, hlt']
    refine W.choose (by simp; rfl) (fun hc => ?_) fun hc => ?_
    · repeat apply W.seq
      apply W.regN; simp [hnt, hS4.c2, e5]
      apply W.ret; try simp only [Then, InBlk]
      refine hend _ m5 false 8 (.agg #[.int .i64 0, .string .empty, .slice none 0 0]) (by simp) (by simp) (by simp) (by simp [hS5.c2]) _ ?_
      rw [← hQ, hRc]
      refine ⟨σ4, x4, y4, z4, hle4, hS5d, ?_⟩
      simp only [if_pos hlt]
    cases hc
   have hlt' : ¬ (K'.length : Int) < A.length := by omega
   repeat apply W.seq
   apply W.regN; simp [hnt, hS4.c0, K.ly38 hav5, hlt, hlt']
   refine W.choose (by simp; rfl) (fun hc => ?_) fun hc => ?_
   · cases hc
   apply W.skip; try simp only [Then, InBlk]
   repeat apply W.seq
   apply W.regN; simp [hnt, hS4.c2, e5]
   apply W.ret
   refine hend _ m5 true 0 (.agg #[.int .i64 0, .string .empty, .slice none 0 0]) (by simp) (by simp) (by simp) (by simp [hS5.c2]) _ ?_
   rw [← hQ, hRc]
   refine ⟨σ4, x4, y4, z4, hle4, hS5d, ?_⟩
   simp only [if_neg hlt]
   exact ⟨trivial, ht'⟩
end Go.Proofs.Lw
