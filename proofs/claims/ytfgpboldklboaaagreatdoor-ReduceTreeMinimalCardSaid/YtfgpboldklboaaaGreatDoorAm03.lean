/-
  PROVED here: steps on the way to the card of 'sleuthlaw06.ReduceTreeMinimal' (an abstract machine, its soundness, what each function computes). No conditions beyond those that each theorem states.
-/
import Derived.Test.YtfgpboldklboaaaGreatDoorAm02
import Derived.Laws.Entries
import Derived.ChangeKeysEq
import Derived.Laws.Slices
namespace Go.Am
structure Fix (E : Env) (w0 : World) : Prop where
 glob : ∀ b o v, E.glob b o = some v → b < w0.heap.size ∧ plainV v = true ∧ ∃ v', w0.cell? ⟨b, o, none⟩ = some v' ∧ ∀ ρ, VR ρ w0.heap.size v v'
def HullR (c : Cells) (L : Loc) (flo fhi : Nat) : Prop :=
 c.hi ≤ c.n ∧ (∀ i, i < L.n + L.d * L.es → flo ≤ L.s + i → L.s + i < fhi → c.lo ≤ i ∧ i < c.hi) ∧
 (c.str = false → (c.hi ≤ c.lo ∧ flo = fhi) ∨ (c.lo < c.hi ∧ flo = L.s + c.lo ∧ fhi = L.s + c.hi))
def CellsR (P : Program) (ρ : Emb) (B : Nat) (c : Cells) (L : Loc) (w : World) : Prop :=
 c.n = L.n ∧ (c.slk = false → L.s = 0 ∧ L.d = 0) ∧ (c.slk = true → L.es = P.cellsOf c.elem ∧ 0 < L.es) ∧
 ∃ C flo fhi, w.heap[L.b]? = some (.cells C c.elem (flo, fhi)) ∧ C.size = L.s + L.n + L.d * L.es ∧
  (∀ i, i < c.n → ∃ v v', c.c.get i = some v ∧ plainV v = true ∧ C[L.s + i]? = some v' ∧ VR ρ B v v') ∧ HullR c L flo fhi
def EntryR (ρ : Emb) (B : Nat) (e e' : MapEntry) : Prop := e'.key = e.key ∧ keyOk e.key = true ∧ e'.born = e.born ∧ VR ρ B e.val e'.val
def EntriesR (ρ : Emb) (B : Nat) (es es' : List MapEntry) : Prop :=
 es.length = es'.length ∧ ∀ (i : Nat) (e : MapEntry), es[i]? = some e → ∃ e', es'[i]? = some e' ∧ EntryR ρ B e e'
inductive TgtR (ρ : Emb) (B : Nat) : Target → Target → Prop where
 | fn {f f' : Fn} {c c' : Array Value} (hf : FnR ρ B f f') (hc : VL ρ B c.toList c'.toList) : TgtR ρ B (.fn f c) (.fn f' c')
 | nil : TgtR ρ B .nil .nil
 | builtin (b : Builtin) (a : Array TypeId) (t : TypeId) (c : Array Bool) : TgtR ρ B (.builtin b a t c) (.builtin b a t c)
 | collected {r r' : Nat} (h : ρ.at B r = some (r', 0)) (hr : r % 2 = 1) : TgtR ρ B (.collected r) (.collected r')
def DefR (ρ : Emb) (B : Nat) (d d' : Deferred) : Prop := TgtR ρ B d.target d'.target ∧ VL ρ B d.args.toList d'.args.toList
inductive DefsR (ρ : Emb) (B : Nat) : List Deferred → List Deferred → Prop where
 | nil : DefsR ρ B [] []
 | cons {d d' : Deferred} {l l' : List Deferred} (h : DefR ρ B d d') (hl : DefsR ρ B l l') : DefsR ρ B (d :: l) (d' :: l')
def TmpsR (ρ : Emb) (B : Nat) (t : Tr Value) (a : Array Value) : Prop := ∀ i, VR ρ B ((t.get i).getD undef) (a.getD i undef)
def LoopR (ρ : Emb) (B : Nat) (l : ALoop) (l' : Loop) : Prop :=
 l'.state = l.state ∧ l'.pending = l.pending ∧ l'.fn = l.fn ∧ TmpsR ρ B l.tmps l'.tmps ∧ l'.params.toList = l.params ∧ l'.assign = l.assign ∧ l'.body = l.body ∧
 l.defers % 2 = 1 ∧ ρ.at B l.defers = some (l'.defers, 0) ∧ l.nt ≤ l'.tmps.size
def BR (P : Program) (ρ : Emb) (B : Nat) (bl : Blk) (L : Loc) (w : World) : Prop :=
 match bl with
 | .cells c => c.dead = true ∨ CellsR P ρ B c L w
 | .map es clock => L.s = 0 ∧ ∃ es', w.heap[L.b]? = some (.map es' clock) ∧ EntriesR ρ B es es'.toList
 | .strIter s pos => L.s = 0 ∧ w.heap[L.b]? = some (.stringIter s pos)
 | .loop l => L.s = 0 ∧ ∃ l', w.heap[L.b]? = some (.loop l') ∧ LoopR ρ B l l'
 | .deferred none => L.s = 0 ∧ w.heap[L.b]? = some (.deferred none)
 | .deferred (some ds) => L.s = 0 ∧ ∃ ds', w.heap[L.b]? = some (.deferred (some ds')) ∧ DefsR ρ B ds ds'
def Blk.alive : Blk → Bool
 | .cells c => !c.dead
 | _ => true
structure MR (E : Env) (w0 : World) (ρ : Emb) (m : Mem) (w : World) : Prop where
 fix : Fix E w0
 base : ∀ b, b < w0.heap.size → w.heap[b]? = w0.heap[b]?
 le : w0.heap.size ≤ w.heap.size
 os : w.os = w0.os
 tape : w.tape = w0.tape
 output : w.output = w0.output
 loc : ∀ k L, ρ k = some L → w0.heap.size ≤ L.b ∧ L.b < w.heap.size ∧ k < m.nxt
 blk : ∀ k L bl, ρ k = some L → m.blks.get k = some bl → BR E.P ρ w0.heap.size bl L w
 inj : ∀ k k' L L' bl bl', ρ k = some L → ρ k' = some L' → m.blks.get k = some bl → m.blks.get k' = some bl' → bl.alive = true → bl'.alive = true → L.b = L'.b → k = k'
 fresh : ∀ k, m.nxt ≤ k → m.blks.get k = none
structure Ext (w0 : World) (ρ ρ' : Emb) (m m' : Mem) (w w' : World) : Prop where
 le : ρ.le ρ'
 size : w.heap.size ≤ w'.heap.size
 frame : ∀ b, b < w.heap.size → (∀ k L, ρ k = some L → L.b ≠ b) → w'.heap[b]? = w.heap[b]?
 new : ∀ k L, ρ' k = some L → ρ k = some L ∨ (m.nxt ≤ k ∧ (w.heap.size ≤ L.b ∨ ∃ k0 L0, ρ k0 = some L0 ∧ L0.b = L.b))
 nxt : m.nxt ≤ m'.nxt
theorem Ext.refl (w0 : World) (ρ : Emb) (m : Mem) (w : World) : Ext w0 ρ ρ m m w w :=
 ⟨Emb.le_refl ρ, Nat.le_refl _, fun _ _ _ => rfl, fun _ _ h => .inl h, Nat.le_refl _⟩
theorem Ext.trans {w0 : World} {ρ1 ρ2 ρ3 : Emb} {m1 m2 m3 : Mem} {w1 w2 w3 : World} (h : Ext w0 ρ1 ρ2 m1 m2 w1 w2) (h' : Ext w0 ρ2 ρ3 m2 m3 w2 w3) : Ext w0 ρ1 ρ3 m1 m3 w1 w3 := by
 refine ⟨Emb.le_trans h.le h'.le, Nat.le_trans h.size h'.size, fun b hb hn => ?_, fun k L e => ?_, Nat.le_trans h.nxt h'.nxt⟩
 ·
  rw [h'.frame b (Nat.lt_of_lt_of_le hb h.size) (fun k L e eb => ?_), h.frame b hb hn]
  rcases h.new k L e with h1 | ⟨_, h1 | ⟨k0, L0, h1, h2⟩⟩
  · exact hn k L h1 eb
  · omega
  exact hn k0 L0 h1 (h2.trans eb)
 rcases h'.new k L e with h1 | ⟨hk, h1 | ⟨k0, L0, h1, h2⟩⟩
 · exact h.new k L h1
 · exact .inr ⟨Nat.le_trans h.nxt hk, .inl (Nat.le_trans h.size h1)⟩
 rcases h.new k0 L0 h1 with h3 | ⟨_, h3 | ⟨k1, L1, h3, h4⟩⟩
 · exact .inr ⟨Nat.le_trans h.nxt hk, .inr ⟨k0, L0, h3, h2⟩⟩
 · exact .inr ⟨Nat.le_trans h.nxt hk, .inl (h2 ▸ h3)⟩
 exact .inr ⟨Nat.le_trans h.nxt hk, .inr ⟨k1, L1, h3, h4.trans h2⟩⟩
section mono
variable {P : Program} {ρ ρ' : Emb} {B : Nat}
theorem EntryR.mono (h : ρ.le ρ') {e e' : MapEntry} (he : EntryR ρ B e e') : EntryR ρ' B e e' := ⟨he.1, he.2.1, he.2.2.1, he.2.2.2.mono h⟩
theorem EntriesR.mono (h : ρ.le ρ') {e e' : List MapEntry} (he : EntriesR ρ B e e') : EntriesR ρ' B e e' :=
 ⟨he.1, fun i x hx => let ⟨x', h1, h2⟩ := he.2 i x hx; ⟨x', h1, h2.mono h⟩⟩
theorem TgtR.mono (h : ρ.le ρ') {t t' : Target} (ht : TgtR ρ B t t') : TgtR ρ' B t t' := by
 cases ht with
 | fn hf hc => exact .fn (hf.mono h) (hc.mono h)
 | nil => exact .nil
 | builtin b a t c => exact .builtin b a t c
 | collected e hr => exact .collected (Emb.at_mono h e) hr
theorem DefR.mono (h : ρ.le ρ') {d d' : Deferred} (hd : DefR ρ B d d') : DefR ρ' B d d' := ⟨hd.1.mono h, hd.2.mono h⟩
theorem DefsR.mono (h : ρ.le ρ') {l l' : List Deferred} (hd : DefsR ρ B l l') : DefsR ρ' B l l' := by
 induction hd with
 | nil => exact .nil
 | cons hd _ ih => exact .cons (hd.mono h) ih
theorem DefsR.append {a a' b b' : List Deferred} (h : DefsR ρ B a a') (h' : DefsR ρ B b b') : DefsR ρ B (a ++ b) (a' ++ b') := by
 induction h with
 | nil => exact h'
 | cons hd _ ih => exact .cons hd ih
theorem TmpsR.mono (h : ρ.le ρ') {t : Tr Value} {a : Array Value} (ht : TmpsR ρ B t a) : TmpsR ρ' B t a := fun i => (ht i).mono h
theorem LoopR.mono (h : ρ.le ρ') {l : ALoop} {l' : Loop} (hl : LoopR ρ B l l') : LoopR ρ' B l l' := by
 obtain ⟨a, b, c, d, e, f, g, i, j, n⟩ := hl
 exact ⟨a, b, c, d.mono h, e, f, g, i, Emb.at_mono h j, n⟩
theorem CellsR.mono (h : ρ.le ρ') {c : Cells} {L : Loc} {w : World} (hc : CellsR P ρ B c L w) : CellsR P ρ' B c L w := by
 obtain ⟨a, b, d, C, flo, fhi, h1, h2, h3, h4⟩ := hc
 exact ⟨a, b, d, C, flo, fhi, h1, h2, fun i hi => let ⟨v, v', e1, e2, e3, e4⟩ := h3 i hi; ⟨v, v', e1, e2, e3, e4.mono h⟩, h4⟩
theorem BR.mono (h : ρ.le ρ') {bl : Blk} {L : Loc} {w : World} (hb : BR P ρ B bl L w) : BR P ρ' B bl L w := by
 cases bl with
 | cells c => exact hb.imp id (fun x => x.mono h)
 | map es clock => obtain ⟨a, es', b, c⟩ := hb; exact ⟨a, es', b, c.mono h⟩
 | strIter s pos => exact hb
 | loop l => obtain ⟨a, l', b, c⟩ := hb; exact ⟨a, l', b, c.mono h⟩
 | deferred ds => cases ds with
  | none => exact hb
  | some ds => obtain ⟨a, l', b, c⟩ := hb; exact ⟨a, l', b, c.mono h⟩
theorem BR.congr {bl : Blk} {L : Loc} {w w' : World} (e : w'.heap[L.b]? = w.heap[L.b]?) (hb : BR P ρ B bl L w) : BR P ρ B bl L w' := by
 cases bl with
 | cells c =>
  rcases hb with hb | ⟨a, b, d, C, flo, fhi, h1, h2, h3, h4⟩
  · exact .inl hb
  exact .inr ⟨a, b, d, C, flo, fhi, by rw [e]; exact h1, h2, h3, h4⟩
 | map es clock => obtain ⟨a, es', b, c⟩ := hb; exact ⟨a, es', by rw [e]; exact b, c⟩
 | strIter s pos => exact ⟨hb.1, by rw [e]; exact hb.2⟩
 | loop l => obtain ⟨a, l', b, c⟩ := hb; exact ⟨a, l', by rw [e]; exact b, c⟩
 | deferred ds => cases ds with
  | none => exact ⟨hb.1, by rw [e]; exact hb.2⟩
  | some ds => obtain ⟨a, l', b, c⟩ := hb; exact ⟨a, l', by rw [e]; exact b, c⟩
end mono
variable {E : Env} {w0 w : World} {ρ : Emb} {m : Mem}
theorem MR.live (h : MR E w0 ρ m w) {b : Nat} {c : Cells} (hl : m.live b = some c) {b' s : Nat} (ha : ρ.at w0.heap.size b = some (b', s)) :
 b % 2 = 1 ∧ ∃ L, ρ (b / 2) = some L ∧ L.b = b' ∧ L.s = s ∧ m.blks.get (b / 2) = some (.cells c) ∧ c.dead = false ∧ CellsR E.P ρ w0.heap.size c L w := by
 unfold Mem.live at hl
 by_cases ho : b % 2 = 1
 ·
  rw [if_pos ho] at hl
  refine ⟨ho, ?_⟩
  unfold Emb.at at ha
  rw [if_pos ho] at ha
  cases hr : ρ (b / 2) with
  | none => rw [hr] at ha; simp at ha
  | some L =>
   rw [hr] at ha
   simp only [Option.map_some, Option.some.injEq, Prod.mk.injEq] at ha
   cases hg : m.blks.get (b / 2) with
   | none => rw [hg] at hl; simp at hl
   | some bl =>
    rw [hg] at hl
    cases bl with
    | cells c2 =>
     simp only at hl
     cases hd : c2.dead with
     | true => rw [hd] at hl; simp at hl
     | false =>
      rw [hd] at hl
      simp only [Bool.false_eq_true, if_false, Option.some.injEq] at hl
      subst hl
      refine ⟨L, rfl, ha.1, ha.2, rfl, hd, ?_⟩
      rcases h.blk _ _ _ hr hg with h1 | h1
      · rw [hd] at h1; cases h1
      exact h1
    | _ => simp at hl
 rw [if_neg ho] at hl; cases hl
theorem world_cell {w : World} {b o : Nat} {C : Array Value} {t : TypeId} {x : Nat × Nat} (h : w.heap[b]? = some (.cells C t x)) : w.cell? ⟨b, o, none⟩ = C[o]? := by
 simp [World.cell?, h]
theorem MR.load (h : MR E w0 ρ m w) {b o b' s : Nat} {v : Value} (hl : m.load E b o = some v) (ha : ρ.at w0.heap.size b = some (b', s)) :
 plainV v = true ∧ ∃ v', w.cell? ⟨b', s + o, none⟩ = some v' ∧ VR ρ w0.heap.size v v' := by
 by_cases ho : b % 2 = 1
 ·
  have hlive : ∃ c, m.live b = some c ∧ o < c.n ∧ c.c.get o = some v := by
   unfold Mem.load at hl; unfold Mem.live
   rw [if_pos ho] at hl ⊢
   cases hg : m.blks.get (b / 2) with
   | none => rw [hg] at hl; simp at hl
   | some bl =>
    rw [hg] at hl
    cases bl with
    | cells c =>
     simp only at hl ⊢
     cases hd : c.dead with
     | true => rw [hd] at hl; simp at hl
     | false =>
      rw [hd] at hl
      simp only [Bool.false_eq_true, if_false] at hl ⊢
      by_cases hn : o < c.n
      · rw [if_pos hn] at hl; exact ⟨c, rfl, hn, hl⟩
      rw [if_neg hn] at hl; cases hl
    | _ => simp at hl
  obtain ⟨c, h1, h2, h3⟩ := hlive
  obtain ⟨_, L, hr, rfl, rfl, _, _, _, _, _, C, flo, fhi, hh, hs, hc, _⟩ := h.live h1 ha
  obtain ⟨v1, v', e1, e2, e3, e4⟩ := hc o h2
  rw [h3] at e1; cases e1
  exact ⟨e2, v', by rw [world_cell hh]; exact e3, e4⟩
 unfold Mem.load at hl
 rw [if_neg ho] at hl
 obtain ⟨hb, hp, v', hv, hr⟩ := h.fix.glob _ _ _ hl
 unfold Emb.at at ha
 rw [if_neg ho, if_pos hb] at ha
 simp only [Option.some.injEq, Prod.mk.injEq] at ha
 obtain ⟨rfl, rfl⟩ := ha
 refine ⟨hp, v', ?_, hr ρ⟩
 rw [Nat.zero_add]
 have := h.base _ hb
 simp only [World.cell?] at hv ⊢
 rw [this]; exact hv
theorem MR.loadN (h : MR E w0 ρ m w) {b b' s : Nat} (ha : ρ.at w0.heap.size b = some (b', s)) : ∀ (n o : Nat) {vs : List Value}, m.loadN E b o n = some vs →
 vs.all plainV = true ∧ ∃ vs', VL ρ w0.heap.size vs vs' ∧ vs'.length = n ∧ ∀ j v, vs'[j]? = some v → w.cell? ⟨b', s + o + j, none⟩ = some v := by
 intro n
 induction n with
 | zero =>
  intro o vs e
  simp only [Mem.loadN, Option.some.injEq] at e
  subst e
  exact ⟨rfl, [], VL.nil, rfl, fun j v e => by simp at e⟩
 | succ n ih =>
  intro o vs e
  simp only [Mem.loadN] at e
  cases h1 : m.load E b o with
  | none => rw [h1] at e; simp at e
  | some v =>
   cases h2 : m.loadN E b (o + 1) n with
   | none => rw [h1, h2] at e; simp at e
   | some vs2 =>
    rw [h1, h2] at e
    simp only [Option.some.injEq] at e
    subst e
    obtain ⟨p1, v', c1, r1⟩ := h.load h1 ha
    obtain ⟨p2, vs', r2, l2, c2⟩ := ih (o + 1) h2
    refine ⟨by simp [p1]; simpa using p2, v' :: vs', VL.cons r1 r2, by simp [l2], fun j x e => ?_⟩
    cases j with
    | zero => simp at e; subst e; simpa using c1
    | succ j =>
     simp at e
     have := c2 j x e
     rwa [show s + (o + 1) + j = s + o + (j + 1) by omega] at this
end Go.Am
namespace Go.Am
structure Like (w w' : World) : Prop where
 os : w'.os = w.os
 tape : w'.tape = w.tape
 output : w'.output = w.output
theorem Like.refl (w : World) : Like w w := ⟨rfl, rfl, rfl⟩
theorem Like.trans {a b c : World} (h : Like a b) (h' : Like b c) : Like a c := ⟨h'.os.trans h.os, h'.tape.trans h.tape, h'.output.trans h.output⟩
theorem addr_add (g o n : Nat) : (⟨g, o, none⟩ : Addr).add n = ⟨g, o + n, none⟩ := by
 unfold Addr.add
 split
 · rename_i h; subst h; rfl
 rfl
variable {E : Env} {w0 w w' : World} {ρ : Emb} {m : Mem}
theorem MR.like (h : MR E w0 ρ m w) (hl : Like w w') (hh : w'.heap = w.heap) : MR E w0 ρ m w' ∧ Ext w0 ρ ρ m m w w' := by
 refine ⟨⟨h.fix, fun b hb => by rw [hh]; exact h.base b hb, by rw [hh]; exact h.le, hl.os.trans h.os, hl.tape.trans h.tape, hl.output.trans h.output,
  fun k L e => by rw [hh]; exact h.loc k L e, fun k L bl e g => (h.blk k L bl e g).congr (by rw [hh]), h.inj, h.fresh⟩,
  ⟨Emb.le_refl ρ, by rw [hh]; exact Nat.le_refl _, fun b _ _ => by rw [hh], fun k L e => .inl e, Nat.le_refl _⟩⟩
def Emb.put (ρ : Emb) (k : Nat) (L : Loc) : Emb := fun j => if j = k then some L else ρ j
theorem Emb.put_le {k : Nat} {L : Loc} (h : ρ k = none) : ρ.le (ρ.put k L) := by
 intro j M e
 unfold Emb.put
 split
 · rename_i hj; subst hj; rw [h] at e; cases e
 exact e
theorem Emb.put_same (ρ : Emb) (k : Nat) (L : Loc) : ρ.put k L k = some L := by simp [Emb.put]
theorem MR.none_nxt (h : MR E w0 ρ m w) : ρ m.nxt = none := by
 cases e : ρ m.nxt with
 | none => rfl
 | some L => have := (h.loc _ _ e).2.2; omega
theorem Mem.nb_odd (m : Mem) : m.nb % 2 = 1 := by unfold Mem.nb; omega
theorem Mem.nb_half (m : Mem) : m.nb / 2 = m.nxt := by unfold Mem.nb; omega
theorem Emb.at_nb {B : Nat} {L : Loc} : (ρ.put m.nxt L).at B m.nb = some (L.b, L.s) := by
 unfold Emb.at
 rw [if_pos (Mem.nb_odd m), Mem.nb_half, Emb.put_same]; rfl
theorem MR.newBlk (h : MR E w0 ρ m w) (bl : Blk) (o : Obj) (d n es : Nat) (hl : Like w w') (hh : w'.heap = w.heap.push o)
 (hb : BR E.P (ρ.put m.nxt ⟨w.heap.size, 0, d, n, es⟩) w0.heap.size bl ⟨w.heap.size, 0, d, n, es⟩ w') :
 MR E w0 (ρ.put m.nxt ⟨w.heap.size, 0, d, n, es⟩) (m.new bl) w' ∧ Ext w0 ρ (ρ.put m.nxt ⟨w.heap.size, 0, d, n, es⟩) m (m.new bl) w w' := by
 have hn := h.none_nxt
 have hle := Emb.put_le (ρ := ρ) (k := m.nxt) (L := ⟨w.heap.size, 0, d, n, es⟩) hn
 have hold : ∀ b, b < w.heap.size → w'.heap[b]? = w.heap[b]? := by
  intro b hb; rw [hh, Array.getElem?_push, if_neg (by omega)]
 have hsz : w'.heap.size = w.heap.size + 1 := by rw [hh]; simp
 refine ⟨⟨h.fix, fun b hb => by rw [hold b (Nat.lt_of_lt_of_le hb h.le)]; exact h.base b hb, by have := h.le; omega, hl.os.trans h.os, hl.tape.trans h.tape, hl.output.trans h.output, ?_, ?_, ?_, ?_⟩, ?_⟩
 ·
  intro k L e
  unfold Emb.put at e
  split at e
  · cases e; rename_i hk; subst hk; have := h.le; exact ⟨this, by simp; omega, by simp [Mem.new]⟩
  have := h.loc k L e; simp only [Mem.new]; omega
 ·
  intro k L b2 e g
  simp only [Mem.new] at g
  rw [Tr.get_set] at g
  unfold Emb.put at e
  by_cases hk : k = m.nxt
  · rw [if_pos hk] at e g; cases e; cases g; exact hb
  rw [if_neg hk] at e g
  exact ((h.blk k L b2 e g).congr (hold _ (h.loc k L e).2.1)).mono hle
 ·
  intro k k' L L' b1 b2 e e' g g' a a' hLb
  simp only [Mem.new] at g g'
  rw [Tr.get_set] at g g'
  unfold Emb.put at e e'
  by_cases hk : k = m.nxt
  ·
   by_cases hk' : k' = m.nxt
   · omega
   rw [if_pos hk] at e; rw [if_neg hk'] at e'
   cases e
   have := (h.loc k' L' e').2.1
   simp only at hLb; omega
  rw [if_neg hk] at e g
  by_cases hk' : k' = m.nxt
  · rw [if_pos hk'] at e'
    cases e'
    have := (h.loc k L e).2.1
    simp only at hLb; omega
  rw [if_neg hk'] at e' g'
  exact h.inj k k' L L' b1 b2 e e' g g' a a' hLb
 · intro k hk
   simp only [Mem.new] at hk ⊢
   rw [Tr.get_set, if_neg (by omega)]
   exact h.fresh k (by omega)
 refine ⟨hle, by omega, fun b hb _ => hold b hb, fun k L e => ?_, by simp [Mem.new]⟩
 unfold Emb.put at e
 split at e
 · cases e; rename_i hk; exact .inr ⟨by omega, .inl (Nat.le_refl _)⟩
 exact .inl e
theorem MR.turn (h : MR E w0 ρ m w) {k : Nat} {L : Loc} {bl bl' : Blk} (hr : ρ k = some L) (hg : m.blks.get k = some bl) (ha : bl.alive = true) (hl : Like w w')
 (hsz : w'.heap.size = w.heap.size) (hh : ∀ b, b ≠ L.b → w'.heap[b]? = w.heap[b]?) (hb : BR E.P ρ w0.heap.size bl' L w') :
 MR E w0 ρ (m.setB k bl') w' ∧ Ext w0 ρ ρ m (m.setB k bl') w w' := by
 have hk := h.loc k L hr
 refine ⟨⟨h.fix, fun b hb' => by rw [hh b (by omega)]; exact h.base b hb', by rw [hsz]; exact h.le, hl.os.trans h.os, hl.tape.trans h.tape, hl.output.trans h.output,
  fun k L e => by rw [hsz]; exact h.loc k L e, ?_, ?_, ?_⟩, ?_⟩
 ·
  intro j M b2 e g
  simp only [Mem.setB] at g
  rw [Tr.get_set] at g
  by_cases hj : j = k
  · subst hj; rw [if_pos rfl] at g; cases g; rw [hr] at e; cases e; exact hb
  rw [if_neg hj] at g
  by_cases hd : b2.alive = true
  · refine (h.blk j M b2 e g).congr (hh _ (fun eb => hj ?_))
    exact h.inj j k M L b2 bl e hr g hg hd ha eb
  cases b2 with
  | cells c => left; simpa [Blk.alive] using hd
  | _ => simp [Blk.alive] at hd
 ·
  intro j j' M M' b1 b2 e e' g g' a a' eb
  simp only [Mem.setB] at g g'
  rw [Tr.get_set] at g g'
  by_cases hj : j = k
  · by_cases hj' : j' = k
    · omega
    subst hj
    rw [if_neg hj'] at g'
    exact h.inj j j' M M' bl b2 e e' hg g' ha a' eb
  rw [if_neg hj] at g
  by_cases hj' : j' = k
  · subst hj'
    exact h.inj j j' M M' b1 bl e e' g hg a ha eb
  rw [if_neg hj'] at g'
  exact h.inj j j' M M' b1 b2 e e' g g' a a' eb
 · intro j hj
   simp only [Mem.setB] at hj ⊢
   rw [Tr.get_set, if_neg (by omega)]
   exact h.fresh j hj
 exact ⟨Emb.le_refl ρ, by omega, fun b _ hn => hh b (fun e => hn k L hr e.symm), fun k L e => .inl e, Nat.le_refl _⟩
theorem run_storeRow (P : Program) (g o : Nat) (t : TypeId) (lo hi : Nat) : ∀ (vs : List Value) (i : Nat) (cur : Array Value) (w : World), w.heap[g]? = some (.cells cur t (lo, hi)) →
 (∀ j, j < vs.length → ¬ (lo ≤ o + i + j ∧ o + i + j < hi)) → o + i + vs.length ≤ cur.size → (∀ v ∈ vs, v.oneCell' = true) →
 ∃ cur' w', (storeCells ⟨g, o, none⟩ vs i).run P w = .ok () w' ∧ w'.heap[g]? = some (.cells cur' t (lo, hi)) ∧ cur'.size = cur.size ∧ w'.heap.size = w.heap.size ∧ Like w w' ∧
  (∀ b, b ≠ g → w'.heap[b]? = w.heap[b]?) ∧ ∀ j : Nat, cur'[j]? = if o + i ≤ j ∧ j < o + i + vs.length then vs[j - (o + i)]? else cur[j]? := by
 intro vs
 induction vs with
 | nil =>
  intro i cur w hw _ _ _
  refine ⟨cur, w, by simp [storeCells], hw, rfl, rfl, Like.refl w, fun _ _ => rfl, fun j => ?_⟩
  rw [if_neg (by simp)]
 | cons v vs ih =>
  intro i cur w hw hf hs hp
  simp only [List.length_cons] at hf hs
  have hgl : g < w.heap.size := by
   rcases Nat.lt_or_ge g w.heap.size with h | h
   · exact h
   rw [Array.getElem?_eq_none h] at hw; cases hw
  have hc : w.cell? ⟨g, o + i, none⟩ = some (cur[o + i]'(by omega)) := by
   rw [world_cell hw]; simp [show o + i < cur.size by omega]
  have hfz : w.frozen? ⟨g, o + i, none⟩ = false := by
   have := hf 0 (by omega)
   simp only [World.frozen?, hw]
   rw [Nat.add_zero] at this
   simpa using this
  have hone : v.oneCell' = true := hp v (by simp)
  have hrun : (store ⟨g, o + i, none⟩ v).run P w = .ok () (w.setCell ⟨g, o + i, none⟩ v) := by
   rw [run_store P w _ v _ hone, hc, hfz]; rfl
  have hw1 : (w.setCell ⟨g, o + i, none⟩ v).heap[g]? = some (.cells (cur.setIfInBounds (o + i) v) t (lo, hi)) := by
   simp [World.setCell, Array.getElem?_modify, hw]
  obtain ⟨cur', w', h1, h2, h3, h4, h5, h6, h7⟩ := ih (i + 1) (cur.setIfInBounds (o + i) v) (w.setCell ⟨g, o + i, none⟩ v) hw1
   (fun j hj => by have := hf (j + 1) (by omega); rwa [show o + i + (j + 1) = o + (i + 1) + j by omega] at this) (by simp; omega) (fun x hx => hp x (by simp [hx]))
  refine ⟨cur', w', ?_, h2, by simpa using h3, by simpa [World.setCell] using h4, Like.trans (b := w.setCell ⟨g, o + i, none⟩ v) ⟨rfl, rfl, rfl⟩ h5, fun b hb => ?_, fun j => ?_⟩
  · simp only [storeCells, Sem.run_bind, addr_add, hrun, Result.andThen_ok]
    exact h1
  · rw [h6 b hb]; simp [World.setCell, Array.getElem?_modify, Ne.symm hb]
  rw [h7 j, Array.getElem?_setIfInBounds]
  simp only [List.length_cons]
  by_cases hj : o + i = j
  · subst hj
    rw [if_neg (by omega), if_pos rfl, if_pos (by omega), if_pos (by omega)]
    simp
  rw [if_neg hj]
  by_cases hj2 : o + (i + 1) ≤ j ∧ j < o + (i + 1) + vs.length
  · rw [if_pos hj2, if_pos (by omega)]
    have : j - (o + i) = (j - (o + (i + 1))) + 1 := by omega
    rw [this]; simp
  rw [if_neg hj2, if_neg (by omega)]
end Go.Am
namespace Go.Am
variable {E : Env} {w0 w : World} {ρ : Emb} {m : Mem}
def ValOk (E : Env) (w0 : World) (ρ : Emb) (m : Mem) (w : World) (s : Sem Value) : ORes → Prop
 | .value v m' => ∃ ρ' w' v', s.run E.P w = .ok v' w' ∧ VR ρ' w0.heap.size v v' ∧ MR E w0 ρ' m' w' ∧ Ext w0 ρ ρ' m m' w w'
 | .fail => True
 | _ => False
def SkipOk (E : Env) (w0 : World) (ρ : Emb) (m : Mem) (w : World) (s : Sem Unit) : ORes → Prop
 | .skip m' => ∃ ρ' w', s.run E.P w = .ok () w' ∧ MR E w0 ρ' m' w' ∧ Ext w0 ρ ρ' m m' w w'
 | .fail => True
 | _ => False
theorem ValOk.same (h : MR E w0 ρ m w) {s : Sem Value} {v v' : Value} (hs : s.run E.P w = .ok v' w) (hv : VR ρ w0.heap.size v v') : ValOk E w0 ρ m w s (.value v m) :=
 ⟨ρ, w, v', hs, hv, h, Ext.refl _ _ _ _⟩
theorem pureRun_run {α : Type} (P : Program) (w : World) : ∀ (s : Sem α) {a : α}, pureRun P s = some a → s.run P w = .ok a w := by
 intro s
 induction s with
 | pure a => intro b h; simp only [pureRun, Option.some.injEq] at h; subst h; rfl
 | program k ih => intro b h; simp only [pureRun] at h; exact ih P h
 | mark mk k ih => intro b h; simp only [pureRun] at h; exact ih h
 | _ => intro b h; simp [pureRun] at h
theorem ValOk.pureRun (h : MR E w0 ρ m w) {s : Sem Value} : ValOk E w0 ρ m w s (rp (pureRun E.P s) m) := by
 cases e : Am.pureRun E.P s with
 | none => exact trivial
 | some v =>
  simp only [rp]
  split
  · rename_i hf; exact ValOk.same h (pureRun_run E.P w s e) (flat_refl 9 hf)
  exact trivial
theorem und_info {t : TypeId} {d : TypeDesc} (h : und E t = some d) : ∃ i, E.P.info? t = some i := by
 unfold und Program.underlying at h
 cases e : E.P.info? t with
 | none => rw [e] at h; cases h
 | some i => exact ⟨i, rfl⟩
theorem run_isAgg {t : TypeId} {b : Bool} (h : isAgg E t = some b) (w : World) : (Go.isAgg t).run E.P w = .ok b w := by
 unfold isAgg at h
 cases e : und E t with
 | none => rw [e] at h; cases h
 | some d =>
  rw [e] at h
  have := run_underlying (P := E.P) (t := t) (d := d) e w
  cases d <;> simp only [Option.some.injEq] at h <;> subst h <;> simp [Go.isAgg, this]
theorem isAgg_info {t : TypeId} {b : Bool} (h : isAgg E t = some b) : ∃ i, E.P.info? t = some i := by
 unfold isAgg at h
 cases e : und E t with
 | none => rw [e] at h; cases h
 | some d => exact und_info e
theorem run_size {t : TypeId} {i : TypeInfo} (h : E.P.info? t = some i) (w : World) : (sizeOf t).run E.P w = .ok (szOf E t) w := run_sizeOf w h
theorem szOf_info {t : TypeId} {i : TypeInfo} (h : E.P.info? t = some i) : szOf E t = i.size := by simp [szOf, Program.cellsOf, h]
theorem zeroOf_run {t : TypeId} {z : Value} (h : zeroOf E t = some z) (w : World) : (zeroValue t).run E.P w = .ok z w ∧ flat 9 z = true ∧ ∃ i, E.P.info? t = some i ∧ i.zero = some z := by
 unfold zeroOf at h
 cases e : E.P.info? t with
 | none => rw [e] at h; cases h
 | some i =>
  rw [e] at h
  simp only at h
  cases ez : i.zero with
  | none => rw [ez] at h; cases h
  | some z' =>
   rw [ez] at h
   simp only at h
   split at h
   · rename_i hf
     cases h
     exact ⟨by simp [zeroValue, run_typeInfo w e, ez], hf, i, rfl, ez⟩
   cases h
theorem cells_new {vs vs' : List Value} {elem : TypeId} {b d es : Nat} (hp : vs.all plainV = true) (hv : VL ρ w0.heap.size vs vs') (slk str : Bool) (rest : List Value)
 (hw : w.heap[b]? = some (.cells ⟨vs' ++ rest⟩ elem (0, 0))) (hd : rest.length = d * es) (hs : slk = false → d = 0) (hs2 : slk = true → es = E.P.cellsOf elem ∧ 0 < es) :
 CellsR E.P ρ w0.heap.size { cellsOf vs elem with slk := slk, str := str } ⟨b, 0, d, vs.length, es⟩ w := by
 refine ⟨rfl, fun e => ⟨rfl, hs e⟩, fun e => hs2 e, ⟨vs' ++ rest⟩, 0, 0, hw, by simp [hv.1, hd], fun i hi => ?_, ?_⟩
 ·
  simp only [cellsOf] at hi ⊢
  obtain ⟨v', e1, e2⟩ := hv.get (List.getElem?_eq_getElem hi)
  refine ⟨vs[i], v', ?_, ?_, ?_, e2⟩
  · rw [Tr.get_putAll, if_pos (by omega)]; simp [hi]
  · rw [List.all_eq_true] at hp; exact hp _ (List.getElem_mem hi)
  have : i < vs'.length := hv.1 ▸ hi
  rw [Nat.zero_add, List.getElem?_toArray, List.getElem?_append_left this]
  exact e1
 refine ⟨by simp [cellsOf], fun i _ _ h => by omega, fun _ => .inl ⟨by simp [cellsOf], rfl⟩⟩
theorem MR.newCells (h : MR E w0 ρ m w) {vs vs' : List Value} {elem : TypeId} {m' : Mem} (hm : m.newCells vs elem = some m') (hv : VL ρ w0.heap.size vs vs') {w' : World} (hl : Like w w')
 (hh : w'.heap = w.heap.push (.cells ⟨vs'⟩ elem)) :
 ∃ ρ', ρ'.at w0.heap.size m.nb = some (w.heap.size, 0) ∧ MR E w0 ρ' m' w' ∧ Ext w0 ρ ρ' m m' w w' := by
 unfold Mem.newCells at hm
 split at hm
 ·
  rename_i hp
  cases hm
  have hle := Emb.put_le (ρ := ρ) (k := m.nxt) (L := ⟨w.heap.size, 0, 0, vs.length, 0⟩) h.none_nxt
  have hb := h.newBlk (w' := w') (.cells (cellsOf vs elem)) (.cells ⟨vs'⟩ elem) 0 vs.length 0 hl hh
   (.inr (cells_new hp (hv.mono hle) false false [] (by rw [hh]; simp) (by simp) (fun _ => rfl) (fun e => by cases e)))
  exact ⟨_, Emb.at_nb, hb.1, hb.2⟩
 cases hm
theorem run_newRow (P : Program) (w : World) (t : TypeId) (cs : Array Value) : (newRow t cs).run P w = .ok ⟨w.heap.size, 0, none⟩ { w with heap := w.heap.push (.cells cs t) } := by
 simp [newRow]
theorem like_push (w : World) (o : Obj) : Like w { w with heap := w.heap.push o } := ⟨rfl, rfl, rfl⟩
theorem opAlloc_ok (h : MR E w0 ρ m w) (t : TypeId) (old : Value) : ValOk E w0 ρ m w (Instr.alloc t true old) (opAlloc E t m) := by
 unfold opAlloc
 cases e : zeroOf E t with
 | none => exact trivial
 | some z =>
  simp only
  cases hm : m.newCells z.cells.toList t with
  | none => exact trivial
  | some m' =>
   obtain ⟨hz, hf, _⟩ := zeroOf_run e w
   have hd : defd z = true := by cases z <;> simp_all [defd, flat]
   obtain ⟨ρ', ha, hM, hE⟩ := h.newCells hm (vr_cells hd (flat_refl 9 hf)) (like_push w (.cells z.cells t)) rfl
   refine ⟨ρ', _, .pointer (some ⟨w.heap.size, 0, none⟩), ?_, by simpa [ptr] using VR.ptr (o := 0) ha, hM, hE⟩
   simp [Instr.alloc, hz, newVar, run_newRow]
theorem opBox_ok (h : MR E w0 ρ m w) (t : TypeId) {x x' : Value} (hx : VR ρ w0.heap.size x x') : ValOk E w0 ρ m w (Instr.box t x') (opBox t x m) := by
 unfold opBox
 cases hm : m.newCells x.cells.toList t with
 | none => exact trivial
 | some m' =>
  have hd : defd x = true := by
   unfold Mem.newCells at hm
   split at hm
   · rename_i hp; cases x <;> first | rfl | (simp [Value.cells, plainV] at hp)
   cases hm
  obtain ⟨ρ', ha, hM, hE⟩ := h.newCells hm (vr_cells hd hx) (like_push w (.cells x'.cells t)) rfl
  refine ⟨ρ', _, .pointer (some ⟨w.heap.size, 0, none⟩), ?_, by simpa [ptr] using VR.ptr (o := 0) ha, hM, hE⟩
  simp [Instr.box, newVar, run_newRow]
theorem addrOf_vr {a a' : Value} {b o : Nat} (h : addrOf a = some (b, o)) (ha : VR ρ w0.heap.size a a') : ∃ b' s, ρ.at w0.heap.size b = some (b', s) ∧ a' = .pointer (some ⟨b', s + o, none⟩) := by
 cases ha with
 | ptr e => simp only [addrOf, Option.some.injEq, Prod.mk.injEq] at h; obtain ⟨rfl, rfl⟩ := h; exact ⟨_, _, e, rfl⟩
 | _ => simp [addrOf, undef] at h
theorem loadV_ok (h : MR E w0 ρ m w) {t : TypeId} {b o b' s : Nat} {v : Value} (hl : loadV E m t b o = some v) (ha : ρ.at w0.heap.size b = some (b', s)) :
 ∃ v', (loadVar t ⟨b', s + o, none⟩).run E.P w = .ok v' w ∧ VR ρ w0.heap.size v v' ∧ defd v = true := by
 unfold loadV at hl
 cases e : isAgg E t with
 | none => rw [e] at hl; cases hl
 | some ag =>
  rw [e] at hl
  obtain ⟨i, hi⟩ := isAgg_info e
  cases ag with
  | true =>
   simp only at hl
   cases hn : m.loadN E b o (szOf E t) with
   | none => rw [hn] at hl; cases hl
   | some vs =>
    rw [hn] at hl; cases hl
    obtain ⟨_, vs', hv, hlen, hc⟩ := h.loadN ha _ _ hn
    refine ⟨.agg ⟨vs'⟩, ?_, VR.agg_of hv, rfl⟩
    have := run_loadCells_list (P := E.P) w ⟨b', s + o, none⟩ vs' (fun j v e => by rw [addr_add]; exact hc j v e)
    rw [hlen] at this
    simp [loadVar, run_isAgg e, run_size hi, this]
  | false =>
   simp only at hl
   obtain ⟨hp, v', hc, hv⟩ := h.load hl ha
   refine ⟨v', by simp [loadVar, run_isAgg e, hc], hv, by cases v <;> simp_all [plainV, defd]⟩
theorem opLoad_ok (h : MR E w0 ρ m w) (t : TypeId) {a a' : Value} (ha : VR ρ w0.heap.size a a') : ValOk E w0 ρ m w (Instr.loadAt t a') (opLoad E t a m) := by
 unfold opLoad
 cases e : addrOf a with
 | none => exact trivial
 | some p =>
  obtain ⟨b, o⟩ := p
  simp only
  cases hl : loadV E m t b o with
  | none => exact trivial
  | some v =>
   obtain ⟨b', s, h1, rfl⟩ := addrOf_vr e ha
   obtain ⟨v', h2, h3, _⟩ := loadV_ok h hl h1
   exact ValOk.same h (by simp [Instr.loadAt, Instr.sureAddr, h2]) h3
theorem write_ok (h : MR E w0 ρ m w) {b o b' s : Nat} {vs vs' : List Value} {m' : Mem} (hw : m.write b o vs = some m') (ha : ρ.at w0.heap.size b = some (b', s)) (hv : VL ρ w0.heap.size vs vs') :
 ∃ w', (storeCells ⟨b', s + o, none⟩ vs').run E.P w = .ok () w' ∧ MR E w0 ρ m' w' ∧ Ext w0 ρ ρ m m' w w' := by
 unfold Mem.write at hw
 cases vs with
 | nil =>
  have : vs' = [] := by cases vs' with | nil => rfl | cons x xs => have := hv.1; simp at this
  subst this
  simp only [List.isEmpty_nil, if_true, Option.some.injEq] at hw
  subst hw
  exact ⟨w, by simp [storeCells], h, Ext.refl _ _ _ _⟩
 | cons x xs =>
  simp only [List.isEmpty_cons, Bool.false_eq_true, if_false] at hw
  by_cases ho : b % 2 = 1
  ·
   rw [if_pos ho] at hw
   cases hg : m.blks.get (b / 2) with
   | none => rw [hg] at hw; cases hw
   | some bl =>
    rw [hg] at hw
    cases bl with
    | cells c =>
     simp only at hw
     by_cases hd : c.dead = true
     · rw [if_pos hd] at hw; cases hw
     rw [if_neg hd] at hw
     split at hw
     ·
      rename_i hcnd
      simp only [Bool.and_eq_true, Bool.or_eq_true, decide_eq_true_eq] at hcnd
      obtain ⟨⟨hn, hp⟩, hfz⟩ := hcnd
      cases hw
      have hlive : m.live b = some c := by unfold Mem.live; rw [if_pos ho, hg]; simp [hd]
      obtain ⟨_, L, hr, rfl, rfl, _, _, hcn, hslk, hes, C, flo, fhi, hh, hC, hcell, hhull⟩ := h.live hlive ha
      have hlen := hv.1
      obtain ⟨C', w', r1, r2, r3, r4, r5, r6, r7⟩ := run_storeRow E.P L.b (L.s + o) c.elem flo fhi vs' 0 C w hh
       (fun j hj hx => by
        have := hhull.2.1 (o + j) (by rw [← hcn]; omega) (by omega) (by omega)
        rcases hfz with hfz | hfz <;> omega)
       (by rw [← hlen]; rw [hC]; omega)
       (fun v hv2 => by
        obtain ⟨i, hi, rfl⟩ := List.getElem_of_mem hv2
        have := hv.2 i
        have hi' : i < (x :: xs).length := by omega
        rw [List.getD, List.getD, List.getElem?_eq_getElem hi, List.getElem?_eq_getElem hi'] at this
        rw [List.all_eq_true] at hp
        exact (plain_cell (hp _ (List.getElem_mem hi')) this).1)
      simp only [Nat.add_zero] at r7
      have hT := h.turn (w' := w') (bl' := .cells { c with c := c.c.putAll o (x :: xs) }) hr hg (by simp [Blk.alive, hd]) r5 r4 r6 (.inr ⟨hcn, hslk, hes, C', flo, fhi, r2, by rw [r3, hC], fun i hi => ?_, hhull⟩)
      · exact ⟨w', r1, hT.1, hT.2⟩
      simp only
      rw [Tr.get_putAll, r7]
      by_cases hx : o ≤ i ∧ i < o + (x :: xs).length
      · rw [if_pos hx, if_pos (by omega)]
        obtain ⟨v', e1, e2⟩ := hv.get (List.getElem?_eq_getElem (by omega : i - o < (x :: xs).length))
        refine ⟨_, v', List.getElem?_eq_getElem (by omega), ?_, ?_, e2⟩
        · rw [List.all_eq_true] at hp; exact hp _ (List.getElem_mem _)
        rw [show L.s + i - (L.s + o) = i - o by omega]; exact e1
      rw [if_neg hx, if_neg (by omega)]
      exact hcell i hi
     cases hw
    | _ => simp at hw
  rw [if_neg ho] at hw; cases hw
theorem opStore_ok (h : MR E w0 ρ m w) (t : TypeId) {a a' x x' : Value} (ha : VR ρ w0.heap.size a a') (hx : VR ρ w0.heap.size x x') :
 SkipOk E w0 ρ m w (Instr.storeAt t a' x') (opStore E t a x m) := by
 unfold opStore
 cases e : addrOf a with
 | none => exact trivial
 | some p =>
  obtain ⟨b, o⟩ := p
  simp only
  split
  ·
   rename_i hc
   simp only [Bool.and_eq_true, beq_iff_eq] at hc
   obtain ⟨⟨hi, hsz⟩, hd⟩ := hc
   obtain ⟨i, hi⟩ := Option.isSome_iff_exists.1 hi
   cases hw : m.write b o x.cells.toList with
   | none => exact trivial
   | some m' =>
    obtain ⟨b', s, h1, rfl⟩ := addrOf_vr e ha
    have hvl := vr_cells hd hx
    obtain ⟨w', r, hM, hE⟩ := write_ok h hw h1 hvl
    have hsz' : x'.cells.size = szOf E t := by have := hvl.1; simp at this; omega
    refine ⟨ρ, w', ?_, hM, hE⟩
    simp [Instr.storeAt, Instr.sureAddr, storeVar, run_size hi, hsz', r]
  exact trivial
end Go.Am
namespace Go.Am
variable {E : Env} {w0 w : World} {ρ : Emb} {B : Nat} {m : Mem}
theorem run_listMapM {α β : Type} (P : Program) (w : World) (F : α → Sem β) (g : α → β) : ∀ (l : List α), (∀ x ∈ l, (F x).run P w = .ok (g x) w) → (l.mapM F).run P w = .ok (l.map g) w := by
 intro l
 induction l with
 | nil => intro _; simp
 | cons x xs ih =>
  intro h
  simp only [List.mapM_cons, Sem.run_bind, h x (by simp), Result.andThen_ok, ih (fun y hy => h y (by simp [hy])), Sem.run_pure, List.map_cons]
theorem run_arrMapM {α β : Type} (P : Program) (w : World) (F : α → Sem β) (g : α → β) (l : Array α) (h : ∀ x ∈ l, (F x).run P w = .ok (g x) w) : (l.mapM F).run P w = .ok (l.map g) w := by
 rw [Array.mapM_eq_mapM_toList]
 simp only [Sem.run_map, run_listMapM P w F g l.toList (fun x hx => h x (by simpa using hx)), Result.andThen_ok]
 congr 1
 apply Array.ext'
 simp
theorem vl_set {cs cs' : Array Value} {v v' : Value} (h : VL ρ B cs.toList cs'.toList) (hv : VR ρ B v v') (i : Nat) : VL ρ B (cs.setIfInBounds i v).toList (cs'.setIfInBounds i v').toList := by
 refine ⟨by simpa using h.1, fun j => ?_⟩
 have hl := h.1
 simp only [Array.length_toList] at hl
 have := h.2 j
 rw [← arr_getD, ← arr_getD] at this ⊢
 simp only [Array.getD_eq_getD_getElem?, Array.getElem?_setIfInBounds] at this ⊢
 by_cases hj : i = j
 ·
  subst hj
  rw [if_pos rfl, if_pos rfl]
  by_cases hs : i < cs.size
  · rw [if_pos hs, if_pos (hl ▸ hs)]; exact hv
  rw [if_neg hs, if_neg (hl ▸ hs)]; exact .undef _
 rw [if_neg hj, if_neg hj]; exact this
theorem vl_fold (off : Nat) : ∀ (l l' : List Value) (k : Nat) (cs cs' : Array Value), VL ρ B l l' → VL ρ B cs.toList cs'.toList →
 VL ρ B ((l.zipIdx k).foldl (fun cs (x : Value × Nat) => cs.setIfInBounds (off + x.2) x.1) cs).toList ((l'.zipIdx k).foldl (fun cs (x : Value × Nat) => cs.setIfInBounds (off + x.2) x.1) cs').toList := by
 intro l
 induction l with
 | nil =>
  intro l' k cs cs' h hc
  cases l' with
  | nil => exact hc
  | cons => have := h.1; simp at this
 | cons x xs ih =>
  intro l' k cs cs' h hc
  cases l' with
  | nil => have := h.1; simp at this
  | cons y ys =>
   simp only [List.zipIdx_cons, List.foldl_cons]
   exact ih ys (k + 1) _ _ ⟨by have := h.1; simpa using this, fun i => by have := h.2 (i + 1); simpa using this⟩ (vl_set hc (by have := h.2 0; simpa using this) _)
theorem fill_ok (place : Nat → Option (Nat × Nat)) (f f' : Operand → Value) (hf : ∀ x, VR ρ B (f x) (f' x)) : ∀ (l : List (Nat × Operand)) (cs cs' r : Array Value),
 (∀ p ∈ l, defd (f p.2) = true) → VL ρ B cs.toList cs'.toList → Instr.fill place cs (l.map fun p => (p.1, f p.2)) = some r →
 ∃ r', Instr.fill place cs' (l.map fun p => (p.1, f' p.2)) = some r' ∧ VL ρ B r.toList r'.toList := by
 intro l
 induction l with
 | nil => intro cs cs' r _ h e; simp only [List.map_nil, Instr.fill, Option.some.injEq] at e; subst e; exact ⟨cs', rfl, h⟩
 | cons p l ih =>
  intro cs cs' r hd h e
  simp only [List.map_cons, Instr.fill] at e ⊢
  cases hp : place p.1 with
  | none => rw [hp] at e; cases e
  | some q =>
   obtain ⟨off, size⟩ := q
   rw [hp] at e
   simp only at e ⊢
   have hc := vr_cells (hd p (by simp)) (hf p.2)
   have h1 := hc.1
   have h2 := h.1
   simp only [Array.length_toList] at h1 h2
   split at e
   · cases e
   rename_i hcnd
   rw [← h1, ← h2, if_neg hcnd]
   refine ih _ _ r (fun q hq => hd q (by simp [hq])) ?_ e
   rw [← Array.foldl_toList, ← Array.foldl_toList, Array.toList_zipIdx, Array.toList_zipIdx]
   exact vl_fold off _ _ 0 _ _ hc h
theorem parts_all {l : List (Nat × Operand)} {f : Operand → Value} (h : (l.map fun p => (p.1, f p.2)).all (fun p => defd p.2) = true) : ∀ p ∈ l, defd (f p.2) = true := by
 intro p hp
 rw [List.all_eq_true] at h
 exact h (p.1, f p.2) (List.mem_map.2 ⟨p, hp, rfl⟩)
theorem opBuild_ok (h : MR E w0 ρ m w) (t : TypeId) (parts : Array (Nat × Operand)) (f f' : Operand → Value) (hf : ∀ x, VR ρ w0.heap.size (f x) (f' x)) :
 ValOk E w0 ρ m w (Instr.build t (parts.map fun p => (p.1, f' p.2))) (opBuild E t (parts.toList.map fun p => (p.1, f p.2)) m) := by
 unfold opBuild
 split
 ·
  rename_i hd
  have hd := parts_all hd
  cases hz : zeroOf E t with
  | none => exact trivial
  | some z =>
   obtain ⟨hzr, hfl, _⟩ := zeroOf_run hz w
   have hzd : defd z = true := by cases z <;> simp_all [defd, flat]
   have hzc := vr_cells hzd (flat_refl (ρ := ρ) (B := w0.heap.size) 9 hfl)
   cases hu : und E t with
   | none => exact trivial
   | some d =>
    cases d with
    | struct fs =>
     simp only
     cases hfi : Instr.fill (fun i => (fs[i]?).map fun f => (f.offset, szOf E f.type)) z.cells (parts.toList.map fun p => (p.1, f p.2)) with
     | none => exact trivial
     | some cs =>
      simp only
      split
      ·
       rename_i hall
       obtain ⟨r', e1, e2⟩ := fill_ok _ f f' hf parts.toList _ _ _ hd hzc hfi
       refine ValOk.same h (v' := .agg r') ?_ (VR.agg_of e2)
       have hm := run_arrMapM E.P w (fun (f : Field) => do pure (f.offset, ← sizeOf f.type)) (fun f => (f.offset, szOf E f.type)) fs
        (fun x hx => by
         rw [Array.all_eq_true_iff_forall_mem] at hall
         obtain ⟨i, hi⟩ := Option.isSome_iff_exists.1 (hall x hx)
         simp [run_size hi])
       have hpl : (fun i : Nat => (fs.map fun f => (f.offset, szOf E f.type))[i]?) = fun i => (fs[i]?).map fun f => (f.offset, szOf E f.type) := by
        funext i; simp
       simp only [Instr.build, Sem.run_bind, hzr, Result.andThen_ok, run_underlying hu, hm, Array.toList_map, hpl, e1, Sem.run_pure]
      exact trivial
    | array n e =>
     simp only
     cases hfi : Instr.fill (fun i => some (i * szOf E e, szOf E e)) z.cells (parts.toList.map fun p => (p.1, f p.2)) with
     | none => exact trivial
     | some cs =>
      simp only
      split
      · rename_i hi
        obtain ⟨i, hi⟩ := Option.isSome_iff_exists.1 hi
        obtain ⟨r', e1, e2⟩ := fill_ok _ f f' hf parts.toList _ _ _ hd hzc hfi
        refine ValOk.same h (v' := .agg r') ?_ (VR.agg_of e2)
        simp only [Instr.build, Sem.run_bind, hzr, Result.andThen_ok, run_underlying hu, run_size hi, Array.toList_map, e1, Sem.run_pure]
      exact trivial
    | _ => exact trivial
 exact trivial
theorem vl_zeros {z : Value} (hf : flat 9 z = true) (hz : defd z = true) (n : Nat) :
 VL ρ B ((Array.range n).map (z.cells[· % z.cells.size]!)).toList ((Array.range n).map (z.cells[· % z.cells.size]!)).toList := by
 refine ⟨rfl, fun i => ?_⟩
 rw [← arr_getD]
 have hc := vr_cells hz (flat_refl (ρ := ρ) (B := B) 9 hf)
 by_cases hi : i < n
 ·
  have e : ((Array.range n).map (z.cells[· % z.cells.size]!)).getD i undef = z.cells[i % z.cells.size]! := by simp [Array.getD, hi]
  rw [e]
  by_cases hs : i % z.cells.size < z.cells.size
  · have := hc.2 (i % z.cells.size)
    rw [← arr_getD] at this
    simp only [Array.getD, hs, dite_true] at this
    simpa [hs] using this
  have e2 : z.cells[i % z.cells.size]! = default := by simp [hs]
  rw [e2]; exact .bool false
 have e : ((Array.range n).map (z.cells[· % z.cells.size]!)).getD i undef = undef := by simp [Array.getD, hi]
 rw [e]; exact .undef _
theorem vr_slice_new {ρ' : Emb} {b : Nat} (ha : ρ'.at B m.nb = some (b, 0)) (len cap : Nat) (hl : len ≤ cap) : VR ρ' B (.slice (some ⟨m.nb, 0, none⟩) len (mkCap cap true)) (.slice (some ⟨b, 0, none⟩) len cap) :=
 .slice ha (.inl ⟨by simp [exact, mkCap], by simp [capOf, mkCap]; omega⟩) (fun _ => by simp) hl
theorem opBuildSlice_ok (h : MR E w0 ρ m w) (t : TypeId) (len : Nat) (parts : Array (Nat × Operand)) (f f' : Operand → Value) (hf : ∀ x, VR ρ w0.heap.size (f x) (f' x)) :
 ValOk E w0 ρ m w (Instr.buildSlice t len (parts.map fun p => (p.1, f' p.2))) (opBuildSlice E t len (parts.toList.map fun p => (p.1, f p.2)) m) := by
 unfold opBuildSlice
 cases hu : und E t with
 | none => exact trivial
 | some d =>
  cases d with
  | slice e =>
   simp only
   split
   ·
    rename_i hc
    simp only [Bool.and_eq_true, decide_eq_true_eq] at hc
    obtain ⟨⟨hd, hi⟩, hsm⟩ := hc
    have hd := parts_all hd
    obtain ⟨i, hi⟩ := Option.isSome_iff_exists.1 hi
    have hbig : ¬ len * szOf E e > 2 ^ 24 := by omega
    split
    ·
     rename_i z hz
     have key : ∃ zc : Array Value, (if len * szOf E e = 0 then pure #[] else do pure (← zeroValue e).cells : Sem (Array Value)).run E.P w = .ok zc w ∧
      VL ρ w0.heap.size ((Array.range (len * szOf E e)).map (z.cells[· % z.cells.size]!)).toList ((Array.range (len * szOf E e)).map (zc[· % zc.size]!)).toList := by
      by_cases h0 : len * szOf E e = 0
      · rw [if_pos h0] at hz; cases hz
        exact ⟨#[], by simp [h0], by rw [h0]; simp; exact VL.nil⟩
      rw [if_neg h0] at hz
      obtain ⟨hzr, hfl, _⟩ := zeroOf_run hz w
      have hzd : defd z = true := by cases z <;> simp_all [defd, flat]
      exact ⟨z.cells, by simp [h0, hzr], vl_zeros hfl hzd _⟩
     obtain ⟨zc, hzc, hvl⟩ := key
     split
     ·
      rename_i cs hfi
      obtain ⟨r', e1, e2⟩ := fill_ok _ f f' hf parts.toList _ _ _ hd hvl hfi
      split
      ·
       rename_i m' hm
       obtain ⟨ρ', ha, hM, hE⟩ := h.newCells hm e2 (like_push w (.cells r' e)) rfl
       refine ⟨ρ', _, .slice (some ⟨w.heap.size, 0, none⟩) len len, ?_, vr_slice_new ha len len (Nat.le_refl _), hM, hE⟩
       by_cases h0 : len * szOf E e = 0
       · simp only [h0, if_true, Sem.run_pure, Result.ok.injEq, and_true] at hzc
         subst hzc
         rw [h0] at e1
         have hb : ¬ (0 > 2 ^ 24) := by omega
         simp only [Instr.buildSlice, Sem.run_bind, run_underlying hu, Result.andThen_ok, run_size hi, h0, if_true, Array.toList_map]
         rw [if_neg hb]
         simp only [Sem.run_bind, Sem.run_pure, Result.andThen_ok, e1, run_newRow]
       simp only [h0, if_false] at hzc
       simp only [Instr.buildSlice, Sem.run_bind, run_underlying hu, Result.andThen_ok, run_size hi, if_neg hbig, if_neg h0, Sem.run_pure, Array.toList_map]
       simp only [Sem.run_bind, Sem.run_pure] at hzc
       cases hz2 : (zeroValue e).run E.P w with
       | halt hh w2 => rw [hz2] at hzc; cases hzc
       | ok zz w2 =>
        rw [hz2] at hzc
        simp only [Result.andThen_ok, Result.ok.injEq] at hzc
        obtain ⟨hq, rfl⟩ := hzc
        subst hq
        simp only [Result.andThen_ok, e1, Sem.run_bind, run_newRow, Sem.run_pure]
      exact trivial
     exact trivial
    exact trivial
   exact trivial
  | _ => exact trivial
end Go.Am
