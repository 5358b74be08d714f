/-
  PROVED here: steps on the way to the card of 'sleuthlaw06.ReduceTreeMinimal' (an abstract machine, its soundness, what each function computes). No conditions beyond those that each theorem states.
-/
import Derived.Test.YtfgpboldklboaaaGreatDoorAm12
import Derived.Test.YtfgpboldklboaaaGreatDoorAm13
namespace Go.Proofs.Lw
open Go Go.Am
abbrev Kn := Nat → Nat → Option Value
def Kn.le (a b : Kn) : Prop := ∀ x o v, a x o = some v → b x o = some v
theorem Kn.le_refl (a : Kn) : a.le a := fun _ _ _ h => h
theorem Kn.le_trans {a b c : Kn} (h : a.le b) (h' : b.le c) : a.le c := fun x o v e => h' x o v (h x o v e)
def Holds (E : Env) (σ : Kn) (m : Mem) : Prop := ∀ b o v, σ b o = some v → m.load E b o = some v
variable {E : Env}
theorem Holds.grow {σ : Kn} {m m' : Mem} (h : Holds E σ m) (hw : WF m) (g : Grow m m') : Holds E σ m' := fun b o v e => g.reads hw b o v (h b o v e)
structure Learn (E : Env) (σ : Kn) (m : Mem) (σ' : Kn) (m' : Mem) : Prop where
 le : σ.le σ'
 grow : Grow m m'
 holds : Holds E σ' m'
 new : ∀ b o, σ' b o ≠ σ b o → b % 2 = 1 ∧ m.nxt ≤ b / 2
theorem Learn.refl {σ : Kn} {m : Mem} (hw : WF m) (h : Holds E σ m) : Learn E σ m σ m := ⟨Kn.le_refl σ, Grow.refl hw, h, fun _ _ e => absurd rfl e⟩
theorem Learn.trans {σ1 σ2 σ3 : Kn} {m1 m2 m3 : Mem} (h : Learn E σ1 m1 σ2 m2) (h' : Learn E σ2 m2 σ3 m3) : Learn E σ1 m1 σ3 m3 := by
 refine ⟨Kn.le_trans h.le h'.le, h.grow.trans h'.grow, h'.holds, fun b o e => ?_⟩
 by_cases e2 : σ3 b o = σ2 b o
 · exact h.new b o (fun e3 => e (e2.trans e3))
 have := h'.new b o e2
 have := h.grow.le
 omega
theorem Learn.of_grow {σ : Kn} {m m' : Mem} (hw : WF m) (h : Holds E σ m) (g : Grow m m') : Learn E σ m σ m' := ⟨Kn.le_refl σ, g, h.grow hw g, fun _ _ e => absurd rfl e⟩
theorem Learn.wf {σ1 σ2 : Kn} {m1 m2 : Mem} (h : Learn E σ1 m1 σ2 m2) : WF m2 := h.grow.wf
structure Cl where
 vs : List Value
 bld : Option TypeId := none
def Cel (m : Mem) (b : Nat) (k : Cl) : Prop := b % 2 = 1 ∧ ∃ c, m.blks.get (b / 2) = some (.cells c) ∧ c.dead = false ∧ c.n = k.vs.length ∧ c.hi = 0 ∧ c.lo = 0 ∧ c.str = false ∧
 (∀ e, k.bld = some e → c.slk = true ∧ c.elem = e) ∧ k.vs.all plainV = true ∧ ∀ i v, k.vs[i]? = some v → c.c.get i = some v
structure S (E : Env) (σ0 : Kn) (m0 : Mem) (σ : Kn) (m : Mem) (L : List (Nat × Cl)) : Prop where
 wf0 : WF m0
 learn : Learn E σ0 m0 σ m
 own : ∀ (i b : Nat) (k : Cl), L[i]? = some (b, k) → Cel m b k ∧ m0.nxt ≤ b / 2 ∧ ∀ o, σ b o = none
 nodup : (L.map (·.1)).Nodup
variable {σ0 σ σ' : Kn} {m0 m m' : Mem} {L : List (Nat × Cl)}
theorem S.start (hw : WF m) (h : Holds E σ m) : S E σ m σ m [] := ⟨hw, .refl hw h, fun i b k e => by simp at e, by simp⟩
theorem S.wf (h : S E σ0 m0 σ m L) : WF m := h.learn.wf
theorem S.holds (h : S E σ0 m0 σ m L) : Holds E σ m := h.learn.holds
theorem S.le (h : S E σ0 m0 σ m L) : σ0.le σ := h.learn.le
theorem S.drop (h : S E σ0 m0 σ m L) {L' : List (Nat × Cl)} (hs : L'.Sublist L) : S E σ0 m0 σ m L' := by
 refine ⟨h.wf0, h.learn, fun i b k e => ?_, h.nodup.sublist (hs.map _)⟩
 obtain ⟨j, hj⟩ := List.mem_iff_getElem?.1 (hs.subset (List.mem_of_getElem? e))
 exact h.own j b k hj
theorem load_cell {b o : Nat} {c : Cells} (hb : b % 2 = 1) (hg : m.blks.get (b / 2) = some (.cells c)) (hd : c.dead = false) : m.load E b o = if o < c.n then c.c.get o else none := by
 unfold Mem.load
 simp [hb, hg, hd]
theorem Cel.load {b : Nat} {k : Cl} (h : Cel m b k) (o : Nat) : m.load E b o = k.vs[o]? := by
 obtain ⟨hb, c, h1, h2, h3, _, _, _, _, _, h4⟩ := h
 rw [load_cell hb h1 h2, h3]
 split
 · rename_i hlt
   have : k.vs[o]? = some k.vs[o] := by simp [hlt]
   rw [this]; exact h4 o _ this
 rename_i hlt
 rw [List.getElem?_eq_none (by omega)]
theorem S.cell (h : S E σ0 m0 σ m L) {i b : Nat} {k : Cl} (hi : L[i]? = some (b, k)) (o : Nat) : m.load E b o = k.vs[o]? := (h.own i b k hi).1.load o
theorem S.c0 {b : Nat} {k : Cl} {l : List (Nat × Cl)} (h : S E σ0 m0 σ m ((b, k) :: l)) (o : Nat) : m.load E b o = k.vs[o]? := h.cell (i := 0) rfl o
theorem S.c1 {b : Nat} {k : Cl} {p0 : Nat × Cl} {l : List (Nat × Cl)} (h : S E σ0 m0 σ m (p0 :: (b, k) :: l)) (o : Nat) : m.load E b o = k.vs[o]? := h.cell (i := 1) rfl o
theorem S.c2 {b : Nat} {k : Cl} {p0 p1 : Nat × Cl} {l : List (Nat × Cl)} (h : S E σ0 m0 σ m (p0 :: p1 :: (b, k) :: l)) (o : Nat) : m.load E b o = k.vs[o]? := h.cell (i := 2) rfl o
theorem S.c3 {b : Nat} {k : Cl} {p0 p1 p2 : Nat × Cl} {l : List (Nat × Cl)} (h : S E σ0 m0 σ m (p0 :: p1 :: p2 :: (b, k) :: l)) (o : Nat) : m.load E b o = k.vs[o]? := h.cell (i := 3) rfl o
theorem S.c4 {b : Nat} {k : Cl} {p0 p1 p2 p3 : Nat × Cl} {l : List (Nat × Cl)} (h : S E σ0 m0 σ m (p0 :: p1 :: p2 :: p3 :: (b, k) :: l)) (o : Nat) : m.load E b o = k.vs[o]? := h.cell (i := 4) rfl o
theorem S.c5 {b : Nat} {k : Cl} {p0 p1 p2 p3 p4 : Nat × Cl} {l : List (Nat × Cl)} (h : S E σ0 m0 σ m (p0 :: p1 :: p2 :: p3 :: p4 :: (b, k) :: l)) (o : Nat) : m.load E b o = k.vs[o]? := h.cell (i := 5) rfl o
theorem S.c6 {b : Nat} {k : Cl} {p0 p1 p2 p3 p4 p5 : Nat × Cl} {l : List (Nat × Cl)} (h : S E σ0 m0 σ m (p0 :: p1 :: p2 :: p3 :: p4 :: p5 :: (b, k) :: l)) (o : Nat) : m.load E b o = k.vs[o]? := h.cell (i := 6) rfl o
theorem S.kn (h : S E σ0 m0 σ m L) {b o : Nat} (hs : (σ b o).isSome = true) : m.load E b o = σ b o := by
 cases e : σ b o with
 | none => rw [e] at hs; cases hs
 | some v => exact h.holds b o v e
theorem Cel.grow {b : Nat} {k : Cl} (hw : WF m) (h : Cel m b k) (g : Grow m m') : Cel m' b k := by
 obtain ⟨hb, c, h1, h2⟩ := h
 exact ⟨hb, c, by rw [g.old _ (hw.lt h1)]; exact h1, h2⟩
theorem Cel.lt {b : Nat} {k : Cl} (hw : WF m) (h : Cel m b k) : b / 2 < m.nxt := by
 obtain ⟨_, c, h1, _⟩ := h; exact hw.lt h1
theorem S.learn' (h : S E σ0 m0 σ m L) (l : Learn E σ m σ' m') : S E σ0 m0 σ' m' L := by
 refine ⟨h.wf0, h.learn.trans l, fun i b k e => ?_, h.nodup⟩
 obtain ⟨h1, h2, h3⟩ := h.own i b k e
 refine ⟨h1.grow h.wf l.grow, h2, fun o => ?_⟩
 by_cases e2 : σ' b o = σ b o
 · rw [e2]; exact h3 o
 have := (l.new b o e2).2
 have := h1.lt h.wf
 omega
theorem S.grow (h : S E σ0 m0 σ m L) (g : Grow m m') : S E σ0 m0 σ m' L := h.learn' (.of_grow h.wf h.holds g)
theorem Holds.none_new (h : Holds E σ m) (hw : WF m) (o : Nat) : σ m.nb o = none := by
 cases e : σ m.nb o with
 | none => rfl
 | some v =>
  have := h _ _ _ e
  unfold Mem.load at this
  rw [if_pos (Mem.nb_odd m), Mem.nb_half, hw _ (Nat.le_refl _)] at this
  cases this
theorem S.new_cells (h : S E σ0 m0 σ m L) {vs : List Value} (hp : vs.all plainV = true) (t : TypeId) (s : Bool) :
 S E σ0 m0 σ (m.new (.cells { cellsOf vs t with slk := s })) ((m.nb, ⟨vs, if s then some t else none⟩) :: L) := by
 have g := Grow.new h.wf (.cells { cellsOf vs t with slk := s })
 have h' := h.grow g
 refine ⟨h.wf0, h'.learn, fun i b k e => ?_, ?_⟩
 ·
  cases i with
  | zero =>
   simp only [List.getElem?_cons_zero, Option.some.injEq, Prod.mk.injEq] at e
   obtain ⟨rfl, rfl⟩ := e
   refine ⟨⟨Mem.nb_odd m, { cellsOf vs t with slk := s }, by simp [Mem.new, Mem.nb_half, Tr.get_set], rfl, rfl, rfl, rfl, rfl, ?_, hp, fun i v hv => ?_⟩, ?_, ?_⟩
   · intro e he
     cases s <;> simp at he
     exact ⟨rfl, he⟩
   ·
    have hlt : i < vs.length := by
     rcases Nat.lt_or_ge i vs.length with h | h
     · exact h
     rw [List.getElem?_eq_none h] at hv; cases hv
    simp only [cellsOf]
    rw [Tr.get_putAll, if_pos ⟨Nat.zero_le _, by omega⟩, Nat.sub_zero]
    exact hv
   · rw [Mem.nb_half]; exact h.learn.grow.le
   exact fun o => h.holds.none_new h.wf o
  | succ i => exact h'.own i b k (by simpa using e)
 simp only [List.map_cons, List.nodup_cons]
 refine ⟨fun hm => ?_, h.nodup⟩
 obtain ⟨⟨b, k⟩, hb, e⟩ := List.mem_map.1 hm
 obtain ⟨i, hi⟩ := List.mem_iff_getElem?.1 hb
 have := (h.own i b k hi).1.lt h.wf
 simp only at e
 subst e
 rw [Mem.nb_half] at this
 omega
theorem S.new (h : S E σ0 m0 σ m L) {vs : List Value} (t : TypeId) (hp : vs.all plainV = true) : S E σ0 m0 σ (m.new (.cells (cellsOf vs t))) ((m.nb, ⟨vs, none⟩) :: L) :=
 h.new_cells hp t false
def splice (l : List Value) (o : Nat) (vs : List Value) : List Value := l.take o ++ vs ++ l.drop (o + vs.length)
theorem S.write (h : S E σ0 m0 σ m L) {i b : Nat} {k : Cl} (hi : L[i]? = some (b, k)) {o : Nat} {vs : List Value} (hn : o + vs.length ≤ k.vs.length) (hp : vs.all plainV = true) :
 ∃ m', m.write b o vs = some m' ∧ S E σ0 m0 σ m' (L.set i (b, { k with vs := splice k.vs o vs })) := by
 obtain ⟨⟨hb, c, c1, c2, c3, c4, c5, c6, c7, c8, c9⟩, hge, hno⟩ := h.own i b k hi
 have hlt := h.wf.lt c1
 have hlen : (splice k.vs o vs).length = k.vs.length := by simp [splice]; omega
 cases hvs : vs with
 | nil =>
  refine ⟨m, rfl, ?_⟩
  have : splice k.vs o [] = k.vs := by simp [splice]
  rw [this]
  have : L.set i (b, k) = L := by
   apply List.ext_getElem?
   intro j
   rw [List.getElem?_set]
   split
   · rename_i e; subst e
     have : i < L.length := by
      rcases Nat.lt_or_ge i L.length with h | h
      · exact h
      rw [List.getElem?_eq_none h] at hi; cases hi
     simp [this]; rw [List.getElem?_eq_getElem this] at hi; exact (Option.some.inj hi).symm
   rfl
  rw [this]; exact h
 | cons v vr =>
  rw [← hvs]
  have hne : vs.isEmpty = false := by rw [hvs]; rfl
  refine ⟨m.setB (b / 2) (.cells { c with c := c.c.putAll o vs }), ?_, ?_⟩
  · unfold Mem.write
    simp only [hne, Bool.false_eq_true, if_false, if_pos hb, c1, c2]
    rw [if_pos]
    simp only [c3, c4, hp, Bool.and_eq_true, decide_eq_true_eq, Bool.or_eq_true]
    exact ⟨⟨hn, trivial⟩, .inl (Nat.zero_le _)⟩
  have hold : ∀ j, j ≠ b / 2 → (m.setB (b / 2) (.cells { c with c := c.c.putAll o vs })).blks.get j = m.blks.get j := by
   intro j hj; simp only [Mem.setB]; rw [Tr.get_set, if_neg hj]
  have hwf : WF (m.setB (b / 2) (.cells { c with c := c.c.putAll o vs })) := by
   intro j hj
   simp only [Mem.setB] at hj ⊢
   rw [Tr.get_set, if_neg (by omega)]
   exact h.wf j hj
  refine ⟨h.wf0, ⟨h.learn.le, ⟨h.learn.grow.le, fun j hj => by rw [hold j (by omega)]; exact h.learn.grow.old j hj, hwf⟩, fun x y v e => ?_, h.learn.new⟩, fun j b' k' e => ?_, ?_⟩
  ·
   have := h.holds x y v e
   have hxb : x ≠ b := by intro e2; subst e2; rw [hno] at e; cases e
   unfold Mem.load at this ⊢
   by_cases hx : x % 2 = 1
   · rw [if_pos hx] at this ⊢
     rw [hold _ (by omega)]; exact this
   rw [if_neg hx] at this ⊢; exact this
  ·
   rw [List.getElem?_set] at e
   have hil : i < L.length := by
    rcases Nat.lt_or_ge i L.length with h | h
    · exact h
    rw [List.getElem?_eq_none h] at hi; cases hi
   by_cases hij : i = j
   ·
    subst hij
    simp only [if_true, hil] at e
    cases e
    refine ⟨⟨hb, { c with c := c.c.putAll o vs }, by simp [Mem.setB, Tr.get_set], c2, by rw [hlen]; exact c3, c4, c5, c6, c7, ?_, fun j v hv => ?_⟩, hge, hno⟩
    · simp only [splice, List.all_append, Bool.and_eq_true]
      rw [List.all_eq_true] at c8
      exact ⟨⟨List.all_eq_true.2 fun x hx => c8 x (List.mem_of_mem_take hx), hp⟩, List.all_eq_true.2 fun x hx => c8 x (List.mem_of_mem_drop hx)⟩
    simp only
    rw [Tr.get_putAll]
    simp only [splice] at hv
    by_cases h1 : j < o
    · rw [if_neg (by omega)]
      rw [List.append_assoc, List.getElem?_append_left (by simp; omega), List.getElem?_take, if_pos h1] at hv
      exact c9 j v hv
    by_cases h2 : j < o + vs.length
    · rw [if_pos ⟨by omega, h2⟩]
      rw [List.append_assoc, List.getElem?_append_right (by simp; omega), List.getElem?_append_left (by simp; omega)] at hv
      rw [List.length_take, Nat.min_eq_left (by omega)] at hv
      exact hv
    rw [if_neg (by omega)]
    rw [List.getElem?_append_right (by simp; omega), List.getElem?_drop] at hv
    rw [List.length_append, List.length_take, Nat.min_eq_left (by omega), show o + vs.length + (j - (o + vs.length)) = j by omega] at hv
    exact c9 j v hv
   rw [if_neg hij] at e
   obtain ⟨⟨g1, g2, g3, g4⟩, g5⟩ := h.own j b' k' e
   have hbb : b' ≠ b := by
    intro e2; subst e2
    have hjl : j < L.length := by
     rcases Nat.lt_or_ge j L.length with h | h
     · exact h
     rw [List.getElem?_eq_none h] at e; cases e
    have := (List.getElem_inj (h₀ := by simpa using hil) (h₁ := by simpa using hjl) h.nodup).1 (by
     simp only [List.getElem_map]
     rw [List.getElem?_eq_getElem hil] at hi
     rw [List.getElem?_eq_getElem hjl] at e
     rw [Option.some.inj hi, Option.some.inj e])
    exact hij this
   exact ⟨⟨g1, g2, by rw [hold _ (by omega)]; exact g3, g4⟩, g5⟩
  have : (L.set i (b, { k with vs := splice k.vs o vs })).map (·.1) = L.map (·.1) := by
   rw [List.map_set]
   apply List.ext_getElem?
   intro j
   rw [List.getElem?_set]
   split
   ·
    rename_i e; subst e
    have hil : i < L.length := by
     rcases Nat.lt_or_ge i L.length with h | h
     · exact h
     rw [List.getElem?_eq_none h] at hi; cases hi
    rw [List.getElem?_eq_getElem hil] at hi
    simp [hil, Option.some.inj hi]
   rfl
  rw [this]; exact h.nodup
theorem S.freeze (h : S E σ0 m0 σ m L) {i b : Nat} {k : Cl} (hi : L[i]? = some (b, k)) : ∃ σ', σ.le σ' ∧ S E σ0 m0 σ' m (L.eraseIdx i) ∧ ∀ o, σ' b o = k.vs[o]? := by
 obtain ⟨hc, hge, hno⟩ := h.own i b k hi
 have hil : i < L.length := by
  rcases Nat.lt_or_ge i L.length with h | h
  · exact h
  rw [List.getElem?_eq_none h] at hi; cases hi
 refine ⟨fun x o => if x = b then k.vs[o]? else σ x o, fun x o v e => ?_, ⟨h.wf0, ⟨fun x o v e => ?_, h.learn.grow, fun x o v e => ?_, fun x o e => ?_⟩, fun j b' k' e => ?_, ?_⟩, fun o => by simp⟩
 · have : x ≠ b := by intro e2; subst e2; rw [hno] at e; cases e
   simp [this, e]
 · have e' := h.le x o v e
   have : x ≠ b := by intro e2; subst e2; rw [hno] at e'; cases e'
   simp [this, e']
 · by_cases hx : x = b
   · subst hx; simp at e; rw [hc.load]; exact e
   simp [hx] at e; exact h.holds x o v e
 · by_cases hx : x = b
   · subst hx; exact ⟨hc.1, hge⟩
   simp [hx] at e; exact h.learn.new x o e
 ·
  rw [List.getElem?_eraseIdx] at e
  have hbb : b' ≠ b := by
   intro e2; subst e2
   obtain ⟨j', hj', hne⟩ : ∃ j', L[j']? = some (b', k') ∧ j' ≠ i := by
    split at e
    · exact ⟨j, e, by omega⟩
    exact ⟨j + 1, e, by omega⟩
   have hjl : j' < L.length := by
    rcases Nat.lt_or_ge j' L.length with h | h
    · exact h
    rw [List.getElem?_eq_none h] at hj'; cases hj'
   have := (List.getElem_inj (h₀ := by simpa using hjl) (h₁ := by simpa using hil) h.nodup).1 (by
    simp only [List.getElem_map]
    rw [List.getElem?_eq_getElem hil] at hi
    rw [List.getElem?_eq_getElem hjl] at hj'
    rw [Option.some.inj hi, Option.some.inj hj'])
   exact hne this
  have : Cel m b' k' ∧ m0.nxt ≤ b' / 2 ∧ ∀ o, σ b' o = none := by
   split at e
   · exact h.own _ b' k' e
   exact h.own _ b' k' e
  exact ⟨this.1, this.2.1, fun o => by simp [hbb]; exact this.2.2 o⟩
 exact h.nodup.sublist ((List.eraseIdx_sublist L i).map _)
end Go.Proofs.Lw
namespace Go.Am
variable {G : Cfg} {x : Ctx}
def wr : Code → List Nat
 | .seq a b => wr a ++ wr b
 | .cond _ a b => wr a ++ wr b
 | .block _ b => wr b
 | .loop b => wr b
 | .scope b => wr b
 | .region _ ops _ => ops.toList.filterMap (·.dst)
 | _ => []
theorem op1_keep {n : Nat} {ops : Array Oper} {o : Oper} {s s1 : St} {e : Ex} (h : execOp1 G n x ops o s = some (e, s1)) {i : Nat} (hi : o.dst ≠ some i) : s1.tmps.get i = s.tmps.get i := by
 have key : ∀ (s2 : St) v, St.next x s2 o.dst v = some (e, s1) → s2.tmps = s.tmps → s1.tmps.get i = s.tmps.get i := by
  intro s2 v e2 e1
  obtain ⟨_, rfl, _⟩ := next_spec e2
  simp only [e1]
  cases hd : o.dst with
  | none => rfl
  | some d =>
   simp only [putT]
   rw [Tr.get_set, if_neg (fun e => hi (by rw [hd, e]))]
 cases n with
 | zero => simp [execOp1] at h
 | succ n =>
  unfold execOp1 at h
  split at h
  ·
   split at h
   ·
    split at h
    · exact key _ _ h rfl
    · exact key _ _ h rfl
    · split at h
      · exact key _ _ h rfl
      · simp at h; obtain ⟨_, rfl⟩ := h; rfl
      cases h
    · split at h
      · exact key _ _ h rfl
      · simp at h; obtain ⟨_, rfl⟩ := h; rfl
      cases h
    · split at h
      · cases h
      exact key _ _ h rfl
    · split at h
      · cases h
      split at h
      · exact key _ _ h rfl
      · cases h
      exact key _ _ h rfl
    · simp at h; obtain ⟨_, rfl⟩ := h; rfl
    cases h
   exact key _ _ h rfl
  cases h
theorem ops_keep {ops : Array Oper} : ∀ (n : Nat) (l : List Oper) (s : St) (tr : List St) (e : Ex) (s' : St) (tr' : List St), execOps G n x ops l s tr = some (e, s', tr') →
 ∀ i, (∀ o ∈ l, o.dst ≠ some i) → s'.tmps.get i = s.tmps.get i := by
 intro n
 induction n with
 | zero => intro l s tr e s' tr' h; simp [execOps] at h
 | succ n ih =>
  intro l s tr e s' tr' h i hi
  unfold execOps at h
  cases l with
  | nil => simp at h; obtain ⟨_, rfl, _⟩ := h; rfl
  | cons o rest =>
   simp only at h
   cases h1 : execOp1 G n x ops o s with
   | none => rw [h1] at h; cases h
   | some q =>
    obtain ⟨e1, s1⟩ := q
    rw [h1] at h
    have k1 := op1_keep h1 (i := i) (hi o (by simp))
    cases e1 with
    | normal =>
     simp only at h
     rw [ih rest s1 (s :: tr) e s' tr' h i (fun o ho => hi o (by simp [ho])), k1]
    | panic ch => simp at h; obtain ⟨_, rfl, _⟩ := h; exact k1
    | exit id => cases h
    | ret => cases h
theorem forget_keep : ∀ (l : List Oper) (s s' : St), forget x l s = some s' → ∀ i, (∀ o ∈ l, o.dst ≠ some i) → s'.tmps.get i = s.tmps.get i := by
 intro l
 induction l with
 | nil => intro s s' h i _; simp only [forget, Option.some.injEq] at h; subst h; rfl
 | cons o rest ih =>
  intro s s' h i hi
  simp only [forget] at h
  cases hp : s.put x o.dst undef with
  | none => rw [hp] at h; cases h
  | some s1 =>
   rw [hp] at h
   rw [ih s1 s' h i (fun o ho => hi o (by simp [ho]))]
   have ho := hi o (by simp)
   unfold St.put at hp
   cases hd : o.dst with
   | none => rw [hd] at hp; simp at hp; subst hp; rfl
   | some d =>
    rw [hd] at hp
    simp only at hp
    split at hp
    · simp at hp; subst hp
      simp only
      rw [Tr.get_set, if_neg (fun e => ho (by rw [hd, e]))]
    cases hp
theorem exec_keep : ∀ (n : Nat) (c : Code) (s : St) (e : Ex) (s' : St), exec G n x c s = some (e, s') → ∀ i, i ∉ wr c → s'.tmps.get i = s.tmps.get i := by
 intro n
 induction n with
 | zero => intro c s e s' h; simp [exec] at h
 | succ n ih =>
  intro c s e s' h i hi
  unfold exec at h
  cases c with
  | skip => simp at h; obtain ⟨_, rfl⟩ := h; rfl
  | label l => simp at h; obtain ⟨_, rfl⟩ := h; rfl
  | seq a b =>
   simp only [wr, List.mem_append, not_or] at hi
   simp only at h
   cases h1 : exec G n x a s with
   | none => rw [h1] at h; cases h
   | some q =>
    obtain ⟨e1, s1⟩ := q
    rw [h1] at h
    have k := ih a s e1 s1 h1 i hi.1
    cases e1 with
    | normal => simp only at h; rw [ih b s1 e s' h i hi.2, k]
    | _ => simp at h; obtain ⟨_, rfl⟩ := h; exact k
  | cond o a b =>
   simp only [wr, List.mem_append, not_or] at hi
   simp only at h
   split at h
   · rename_i t _
     cases t
     · exact ih b s e s' h i hi.2
     exact ih a s e s' h i hi.1
   cases h
  | block id b =>
   simp only [wr] at hi
   simp only at h
   cases h1 : exec G n x b s with
   | none => rw [h1] at h; cases h
   | some q =>
    obtain ⟨e1, s1⟩ := q
    rw [h1] at h
    have k := ih b s e1 s1 h1 i hi
    cases e1 with
    | exit j =>
     simp only at h
     split at h <;> (simp at h; obtain ⟨_, rfl⟩ := h; exact k)
    | _ => simp at h; obtain ⟨_, rfl⟩ := h; exact k
  | loop b =>
   simp only [wr] at hi
   simp only at h
   cases h1 : exec G n x b s with
   | none => rw [h1] at h; cases h
   | some q =>
    obtain ⟨e1, s1⟩ := q
    rw [h1] at h
    have k := ih b s e1 s1 h1 i hi
    cases e1 with
    | normal => simp only at h; rw [ih (.loop b) s1 e s' h i (by simpa [wr] using hi), k]
    | _ => simp at h; obtain ⟨_, rfl⟩ := h; exact k
  | scope b => exact ih b s e s' h i (by simpa [wr] using hi)
  | exit id => simp at h; obtain ⟨_, rfl⟩ := h; rfl
  | ret => simp at h; obtain ⟨_, rfl⟩ := h; rfl
  | region id ops draw =>
   have hd : ∀ o ∈ ops.toList, o.dst ≠ some i := by
    intro o ho e
    exact hi (by simp only [wr]; exact List.mem_filterMap.2 ⟨o, ho, e⟩)
   simp only at h
   cases h1 : execOps G n x ops ops.toList s [] with
   | none => rw [h1] at h; simp at h
   | some q =>
    obtain ⟨e1, s1, tr⟩ := q
    rw [h1] at h
    have k := ops_keep n ops.toList s [] e1 s1 tr h1 i hd
    cases e1 with
    | normal =>
     simp only at h
     split at h
     · split at h
       · simp at h; obtain ⟨_, rfl⟩ := h; exact k
       cases h
     simp at h; obtain ⟨_, rfl⟩ := h; exact k
    | panic ch =>
     simp only at h
     split at h
     · split at h
       · cases hf : forget x ops.toList s1 with
         | none => rw [hf] at h; cases h
         | some s2 =>
          rw [hf] at h
          simp at h; obtain ⟨_, rfl⟩ := h
          rw [forget_keep _ _ _ hf i hd, k]
       cases h
     simp at h; obtain ⟨_, rfl⟩ := h; exact k
    | exit id => simp at h
    | ret => simp at h
  | rangeFunc f params assign body =>
   simp only at h
   split at h
   · cases h
   split at h
   ·
    split at h
    ·
     split at h
     · split at h
       · split at h
         · cases h
         split at h
         all_goals first | (cases h; done) | (cases h; rfl)
       cases h
     · simp at h; obtain ⟨_, rfl⟩ := h; rfl
     cases h
    cases h
   cases h
  | goto l => cases h
  | refuse w => cases h
theorem W.keep {c : Code} {s : St} {Q : Ex → St → Prop} (h : W G x c s Q) : W G x c s (fun e s' => Q e s' ∧ ∀ i, i ∉ wr c → s'.tmps.get i = s.tmps.get i) := by
 obtain ⟨n, e, s', h1, h2⟩ := h
 exact ⟨n, e, s', h1, h2, exec_keep n c s e s' (h1 n (Nat.le_refl _))⟩
def wrIn (c : Code) (ws : List Nat) : Bool := (wr c).all fun i => ws.contains i
theorem wrIn_spec {c : Code} {ws : List Nat} (h : wrIn c ws = true) {i : Nat} (hi : ws.contains i = false) : i ∉ wr c := by
 intro hm
 unfold wrIn at h
 rw [List.all_eq_true] at h
 rw [h i hm] at hi
 cases hi
theorem W.loop1 {b : Code} {s : St} {Q : Ex → St → Prop} (h : W G x b s (Then (fun s' => W G x (.loop b) s' Q) Q)) : W G x (.loop b) s Q := by
 obtain ⟨n1, e, s1, h1, h2⟩ := h
 cases e with
 | normal =>
  obtain ⟨n2, e2, s2, h3, h4⟩ := h2
  refine ⟨max n1 n2 + 1, e2, s2, fun n hn => ?_, h4⟩
  obtain ⟨k, rfl⟩ : ∃ k, n = k + 1 := ⟨n - 1, by omega⟩
  simp only [exec]
  rw [h1 k (by omega)]
  exact h3 k (by omega)
 | _ =>
  refine ⟨n1 + 1, _, s1, fun n hn => ?_, h2⟩
  obtain ⟨k, rfl⟩ : ∃ k, n = k + 1 := ⟨n - 1, by omega⟩
  simp only [exec]
  rw [h1 k (by omega)]
theorem W.down {b : Code} {s : St} {Q : Ex → St → Prop} {ws : List Nat} (hws : wrIn b ws = true) (I : Nat → Tr Value → Mem → Prop) (i0 : Nat) (h0 : I i0 s.tmps s.m)
 (hr : ∀ (i : Nat) (t : Tr Value) (m : Mem), (∀ k, ws.contains k = false → t.get k = s.tmps.get k) → I i t m → W G x b ⟨t, s.defers, s.cm, m⟩
  (Then (fun s' => s'.defers = s.defers ∧ s'.cm = s.cm ∧ ∃ j, j < i ∧ I j s'.tmps s'.m) Q)) : W G x (.loop b) s Q := by
 have key : ∀ (i : Nat) (t : Tr Value) (m : Mem), (∀ k, ws.contains k = false → t.get k = s.tmps.get k) → I i t m → W G x (.loop b) ⟨t, s.defers, s.cm, m⟩ Q := by
  intro i
  induction i using Nat.strongRecOn with
  | _ i ih =>
   intro t m hk hI
   refine W.loop1 (W.mono (W.keep (hr i t m hk hI)) (fun e s1 h => ?_))
   obtain ⟨h1, h2⟩ := h
   cases e with
   | normal =>
    obtain ⟨h3, h4, j, h5, h6⟩ := h1
    obtain ⟨t1, ds, cm, m1⟩ := s1
    simp only at h3 h4 h6
    subst h3 h4
    exact ih j h5 t1 m1 (fun k hk' => (h2 k (wrIn_spec hws hk')).trans (hk k hk')) h6
   | _ => exact h1
 exact key i0 s.tmps s.m (fun _ _ => rfl) h0
theorem W.upto {b : Code} {s : St} {Q : Ex → St → Prop} {ws : List Nat} (hws : wrIn b ws = true) (n : Nat) (I : Nat → Tr Value → Mem → Prop) (i0 : Nat) (hi0 : i0 ≤ n) (h0 : I i0 s.tmps s.m)
 (hr : ∀ (i : Nat) (t : Tr Value) (m : Mem), i ≤ n → (∀ k, ws.contains k = false → t.get k = s.tmps.get k) → I i t m → W G x b ⟨t, s.defers, s.cm, m⟩
  (Then (fun s' => s'.defers = s.defers ∧ s'.cm = s.cm ∧ ∃ j, i < j ∧ j ≤ n ∧ I j s'.tmps s'.m) Q)) : W G x (.loop b) s Q := by
 refine W.down hws (fun k t m => ∃ i, k = n - i ∧ i ≤ n ∧ I i t m) (n - i0) ⟨i0, rfl, hi0, h0⟩ (fun k t m hk hI => ?_)
 obtain ⟨i, rfl, hi, hI⟩ := hI
 refine W.mono (hr i t m hi hk hI) (fun e s1 h => ?_)
 cases e with
 | normal =>
  obtain ⟨h1, h2, j, h3, h4, h5⟩ := h
  exact ⟨h1, h2, n - j, by omega, j, rfl, h4, h5⟩
 | _ => exact h
theorem W.cut {a b : Code} {s : St} {Q : Ex → St → Prop} {ws : List Nat} (hws : wrIn a ws = true) (J : Tr Value → Mem → Prop) (ha : W G x a s (Then (fun s' => s'.defers = s.defers ∧ s'.cm = s.cm ∧ J s'.tmps s'.m) Q))
 (hb : ∀ (t : Tr Value) (m : Mem), (∀ k, ws.contains k = false → t.get k = s.tmps.get k) → J t m → W G x b ⟨t, s.defers, s.cm, m⟩ Q) : W G x (.seq a b) s Q := by
 refine W.seq (W.mono (W.keep ha) (fun e s1 h => ?_))
 obtain ⟨h1, h2⟩ := h
 cases e with
 | normal =>
  obtain ⟨h3, h4, h5⟩ := h1
  obtain ⟨t1, ds, cm, m1⟩ := s1
  simp only at h3 h4 h5
  subst h3 h4
  exact hb t1 m1 (fun k hk => h2 k (wrIn_spec hws hk)) h5
 | _ => exact h1
theorem W.cut' {a : Code} {s : St} {Q : Ex → St → Prop} {K : St → Prop} {ws : List Nat} (hws : wrIn a ws = true) (J : Tr Value → Mem → Prop) (ha : W G x a s (Then (fun s' => s'.defers = s.defers ∧ s'.cm = s.cm ∧ J s'.tmps s'.m) Q))
 (hb : ∀ (t : Tr Value) (m : Mem), (∀ k, ws.contains k = false → t.get k = s.tmps.get k) → J t m → K ⟨t, s.defers, s.cm, m⟩) : W G x a s (Then K Q) := by
 refine W.mono (W.keep ha) (fun e s1 h => ?_)
 obtain ⟨h1, h2⟩ := h
 cases e with
 | normal =>
  obtain ⟨h3, h4, h5⟩ := h1
  obtain ⟨t1, ds, cm, m1⟩ := s1
  simp only at h3 h4 h5
  subst h3 h4
  exact hb t1 m1 (fun k hk => h2 k (wrIn_spec hws hk)) h5
 | _ => exact h1
theorem W.choose {o : Operand} {a b : Code} {s : St} {Q : Ex → St → Prop} {t : Bool} (ho : evalT G.ng s.tmps o = .bool t) (h1 : t = true → W G x a s Q) (h2 : t = false → W G x b s Q) : W G x (.cond o a b) s Q := by
 refine W.cond ho ?_
 cases t with
 | true => exact h1 rfl
 | false => exact h2 rfl
theorem W.choose' {o : Operand} {a b : Code} {s : St} {Q : Ex → St → Prop} (h : ∃ t, evalT G.ng s.tmps o = .bool t ∧ (t = true → W G x a s Q) ∧ (t = false → W G x b s Q)) : W G x (.cond o a b) s Q := by
 obtain ⟨t, h0, h1, h2⟩ := h
 exact W.choose h0 h1 h2
end Go.Am
namespace Go.Proofs.Lw
open Go Go.Am
variable {gl : Nat → Nat → Option Value} {ng : Nat}
def Ct (gl : Nat → Nat → Option Value) (ng : Nat) (f : FuncId) (args : List Value) (σ : Kn) (m : Mem) (R : Kn → Value → Prop) : Prop :=
 C (cfg gl ng) f args m (fun out m' => ∃ σ' v, out = .returned v ∧ Learn (cfg gl ng).toEnv σ m σ' m' ∧ R σ' v)
def Fin (gl : Nat → Nat → Option Value) (ng : Nat) (fn : Func) (σ : Kn) (m : Mem) (R : Kn → Value → Prop) : Ex → St → Prop := fun e s =>
 (e = .normal ∨ e = .ret) ∧ s.defers = [] ∧ s.cm = none ∧ ∃ vs, unwind.results (cfg gl ng) fn.results.toList s = some vs ∧ ∃ σ', Learn (cfg gl ng).toEnv σ m σ' s.m ∧ R σ' (retV vs)
theorem Ct.of {f : FuncId} {args : List Value} {σ : Kn} {m : Mem} {fn : Func} {c : Code} {R : Kn → Value → Prop} (hf : (cfg gl ng).P.funcs[f]? = some fn) (hc : fn.body = some c) (nt : Nat) (hnt : fn.ntmps = nt)
 (h : ∀ x : Ctx, x.nt = nt → W (cfg gl ng) x c { tmps := Tr.putAll .leaf 0 args, defers := [], cm := none, m } (Fin gl ng fn σ m R)) (hk : (cfg gl ng).kf f = none := by rfl) : Ct gl ng f args σ m R := by
 refine C.of hf hc (W.mono (h _ hnt) (fun e s hs => ?_)) hk
 obtain ⟨h1, h2, h3, vs, h4, σ', h5, h6⟩ := hs
 exact ⟨h1, h2, h3, vs, h4, σ', retV vs, rfl, h5, h6⟩
theorem Ct.use {f : FuncId} {args : List Value} {σ : Kn} {m : Mem} {R : Kn → Value → Prop} {Q : Out → Mem → Prop} (h : Ct gl ng f args σ m R)
 (k : ∀ σ' v m', Learn (cfg gl ng).toEnv σ m σ' m' → R σ' v → Q (.returned v) m') : C (cfg gl ng) f args m Q := by
 refine C.mono h (fun out m' ho => ?_)
 obtain ⟨σ', v, rfl, h1, h2⟩ := ho
 exact k σ' v m' h1 h2
end Go.Proofs.Lw
namespace Go.Proofs.Lw
open Go Go.Am
mutual
def TreeK (σ : Kn) : Value → T → Prop
 | v, .mk k tx ss => ∃ sv b o, v = .agg #[.int .i64 k, .string tx, sv] ∧ SliceAt sv ss.length b o ∧ SlotsK σ b o ss
def SlotsK (σ : Kn) : Nat → Nat → List (List T) → Prop
 | _, _, [] => True
 | b, o, l :: r => (∃ lv b' o', σ b o = some lv ∧ SliceAt lv l.length b' o' ∧ TreesK σ b' o' l) ∧ SlotsK σ b (o + 1) r
def TreesK (σ : Kn) : Nat → Nat → List T → Prop
 | _, _, [] => True
 | b, o, t :: r => (∃ x y z, σ b o = some x ∧ σ b (o + 1) = some y ∧ σ b (o + 2) = some z ∧ TreeK σ (.agg #[x, y, z]) t) ∧ TreesK σ b (o + 3) r
end
mutual
theorem TreeK.mono {σ σ' : Kn} (h : σ.le σ') : ∀ {v : Value} {t : T}, TreeK σ v t → TreeK σ' v t
 | v, .mk k tx ss, ht => by
  simp only [TreeK] at ht ⊢
  obtain ⟨sv, b, o, h1, h2, h3⟩ := ht
  exact ⟨sv, b, o, h1, h2, SlotsK.mono h h3⟩
theorem SlotsK.mono {σ σ' : Kn} (h : σ.le σ') : ∀ {b o : Nat} {ss : List (List T)}, SlotsK σ b o ss → SlotsK σ' b o ss
 | b, o, [], _ => by simp only [SlotsK]
 | b, o, l :: r, hs => by
  simp only [SlotsK] at hs ⊢
  obtain ⟨⟨lv, b', o', h1, h2, h3⟩, h4⟩ := hs
  exact ⟨⟨lv, b', o', h _ _ _ h1, h2, TreesK.mono h h3⟩, SlotsK.mono h h4⟩
theorem TreesK.mono {σ σ' : Kn} (h : σ.le σ') : ∀ {b o : Nat} {l : List T}, TreesK σ b o l → TreesK σ' b o l
 | b, o, [], _ => by simp only [TreesK]
 | b, o, t :: r, hs => by
  simp only [TreesK] at hs ⊢
  obtain ⟨⟨x, y, z, h1, h2, h3, h4⟩, h5⟩ := hs
  exact ⟨⟨x, y, z, h _ _ _ h1, h _ _ _ h2, h _ _ _ h3, TreeK.mono h h4⟩, TreesK.mono h h5⟩
end
mutual
theorem TreeK.reads {E : Env} {σ : Kn} {m : Mem} (h : Holds E σ m) : ∀ {v : Value} {t : T}, TreeK σ v t → TreeR E m v t
 | v, .mk k tx ss, ht => by
  simp only [TreeK] at ht
  simp only [TreeR]
  obtain ⟨sv, b, o, h1, h2, h3⟩ := ht
  exact ⟨sv, b, o, h1, h2, SlotsK.reads h h3⟩
theorem SlotsK.reads {E : Env} {σ : Kn} {m : Mem} (h : Holds E σ m) : ∀ {b o : Nat} {ss : List (List T)}, SlotsK σ b o ss → SlotsAt E m b o ss
 | b, o, [], _ => by simp only [SlotsAt]
 | b, o, l :: r, hs => by
  simp only [SlotsK] at hs
  simp only [SlotsAt]
  obtain ⟨⟨lv, b', o', h1, h2, h3⟩, h4⟩ := hs
  exact ⟨⟨lv, b', o', h _ _ _ h1, h2, TreesK.reads h h3⟩, SlotsK.reads h h4⟩
theorem TreesK.reads {E : Env} {σ : Kn} {m : Mem} (h : Holds E σ m) : ∀ {b o : Nat} {l : List T}, TreesK σ b o l → TreesAt E m b o l
 | b, o, [], _ => by simp only [TreesAt]
 | b, o, t :: r, hs => by
  simp only [TreesK] at hs
  simp only [TreesAt]
  obtain ⟨⟨x, y, z, h1, h2, h3, h4⟩, h5⟩ := hs
  exact ⟨⟨x, y, z, h _ _ _ h1, h _ _ _ h2, h _ _ _ h3, TreeK.reads h h4⟩, TreesK.reads h h5⟩
end
theorem SlotsK.get {σ : Kn} {b : Nat} : ∀ {o : Nat} {ss : List (List T)}, SlotsK σ b o ss → ∀ {i : Nat} {l : List T}, ss[i]? = some l →
 ∃ lv b' o', σ b (o + i) = some lv ∧ SliceAt lv l.length b' o' ∧ TreesK σ b' o' l
 | o, [], _, i, l, hi => by simp at hi
 | o, x :: r, h, i, l, hi => by
  simp only [SlotsK] at h
  cases i with
  | zero => simp at hi; subst hi; exact h.1
  | succ i =>
   obtain ⟨lv, b', o', h1, h2⟩ := SlotsK.get h.2 (i := i) (l := l) (by simpa using hi)
   exact ⟨lv, b', o', by rw [show o + (i + 1) = o + 1 + i by omega]; exact h1, h2⟩
theorem TreesK.get {σ : Kn} {b : Nat} : ∀ {o : Nat} {l : List T}, TreesK σ b o l → ∀ {i : Nat} {t : T}, l[i]? = some t →
 ∃ x y z, σ b (o + 3 * i) = some x ∧ σ b (o + 3 * i + 1) = some y ∧ σ b (o + 3 * i + 2) = some z ∧ TreeK σ (.agg #[x, y, z]) t
 | o, [], _, i, t, hi => by simp at hi
 | o, x :: r, h, i, t, hi => by
  simp only [TreesK] at h
  cases i with
  | zero => simp at hi; subst hi; exact h.1
  | succ i =>
   have := TreesK.get h.2 (i := i) (t := t) (by simpa using hi)
   rw [show o + 3 + 3 * i = o + 3 * (i + 1) by omega] at this
   exact this
theorem SliceAt.plain {v : Value} {n b o : Nat} (h : SliceAt v n b o) : plainV v = true := by rcases h with ⟨rfl, _⟩ | ⟨c, rfl⟩ <;> rfl
theorem SliceAt.some {v : Value} {n b o i : Nat} (h : SliceAt v n b o) (hi : i < n) : ∃ c, v = .slice (some ⟨b, o, none⟩) n c := by
 rcases h with ⟨_, rfl⟩ | h
 · omega
 exact h
theorem SliceAt.isSlice {v : Value} {n b o : Nat} (h : SliceAt v n b o) : ∃ a c, v = .slice a n c := by
 rcases h with ⟨rfl, rfl⟩ | ⟨c, rfl⟩
 · exact ⟨_, _, rfl⟩
 exact ⟨_, _, rfl⟩
def IntsK (σ : Kn) (v : Value) (l : List Int) : Prop := ∃ b o, SliceAt v l.length b o ∧ ∀ (i : Nat) (n : Int), l[i]? = some n → σ b (o + i) = some (.int .i64 n)
theorem IntsK.mono {σ σ' : Kn} (h : σ.le σ') {v : Value} {l : List Int} (hv : IntsK σ v l) : IntsK σ' v l := by
 obtain ⟨b, o, h1, h2⟩ := hv
 exact ⟨b, o, h1, fun i n hi => h _ _ _ (h2 i n hi)⟩
theorem IntsK.reads {E : Env} {σ : Kn} {m : Mem} (h : Holds E σ m) {v : Value} {l : List Int} (hv : IntsK σ v l) : IntsR E m v l := by
 obtain ⟨b, o, h1, h2⟩ := hv
 exact ⟨b, o, h1, fun i n hi => h _ _ _ (h2 i n hi)⟩
@[simp] theorem plain_int {k : IntKind} {n : Int} : plainV (.int k n) = true := by simp [plainV]
@[simp] theorem plain_bool {n : Bool} : plainV (.bool n) = true := by simp [plainV]
@[simp] theorem plain_string {s : ByteArray} : plainV (.string s) = true := by simp [plainV]
@[simp] theorem plain_slice {a : Option Addr} {n c : Nat} : plainV (.slice a n c) = true := by simp [plainV]
@[simp] theorem plain_pointer {a : Option Addr} : plainV (.pointer a) = true := by simp [plainV]
@[simp] theorem plain_map {a : Option Nat} : plainV (.map a) = true := by simp [plainV]
@[simp] theorem plain_func {f : Fn} {a c : Array Value} : plainV (.func f a c) = true := by simp [plainV]
@[simp] theorem plain_nilFunc : plainV .nilFunc = true := by simp [plainV]
@[simp] theorem plain_iface {t : TypeId} {v : Value} : plainV (.iface t v) = true := by simp [plainV]
theorem bytes_beq (x y : ByteArray) : (x.toList == y.toList) = decide (x = y) := by
 by_cases h : x = y
 · simp [h]
 simp only [h, decide_false, beq_eq_false_iff_ne]
 rw [ByteArray.toList_eq, ByteArray.toList_eq]
 exact fun e => h (ByteArray.ext (Array.ext' e))
@[simp] theorem opBin_seql' {E : Env} {t : TypeId} {xo yo : Operand} {m : Mem} {x y : ByteArray} : opBin E .eql t xo yo (.string x) (.string y) m = .value (.bool (decide (x = y))) m := by rw [opBin_seql, bytes_beq]
@[simp] theorem opBin_sneq' {E : Env} {t : TypeId} {xo yo : Operand} {m : Mem} {x y : ByteArray} : opBin E .neq t xo yo (.string x) (.string y) m = .value (.bool (!decide (x = y))) m := by rw [opBin_sneq, bytes_beq]
attribute [simp] wpN_cons wpN_nil stepN_value stepN_skip stepN_enter dstOk guardOk wantedV opV evalT putT EndN EndD Then InBlk flat ku Tr.get_set Tr.get_putAll resolveV invokeV opBuiltin rv ru agN seqO_nil seqO_cons
 opBin_add opBin_sub opBin_mul opBin_lss opBin_leq opBin_gtr opBin_geq opBin_eql opBin_neq opUn_not opPick opExtract
end Go.Proofs.Lw
