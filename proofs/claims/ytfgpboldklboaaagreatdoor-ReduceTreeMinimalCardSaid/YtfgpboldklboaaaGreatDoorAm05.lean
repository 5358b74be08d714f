/-
  PROVED here: steps on the way to the card of 'sleuthlaw06.ReduceTreeMinimal' (an abstract machine, its soundness, what each function computes). No conditions beyond those that each theorem states.
-/
import Derived.Test.YtfgpboldklboaaaGreatDoorAm04
import Derived.MapKept
namespace Go.Am
variable {E : Env} {w0 w : World} {ρ : Emb} {m : Mem}
theorem cell_heap {w w1 : World} (e : w1.heap = w.heap) (a : Addr) : w1.cell? a = w.cell? a := by simp [World.cell?, e]
theorem run_loadCells_vl (h : MR E w0 ρ m w) {b o b' s n : Nat} {vs : List Value} (hn : m.loadN E b o n = some vs) (ha : ρ.at w0.heap.size b = some (b', s)) :
 ∃ vs', (∀ w1 : World, w1.heap = w.heap → (loadCells ⟨b', s + o, none⟩ n).run E.P w1 = .ok ⟨vs'⟩ w1) ∧ VL ρ w0.heap.size vs vs' ∧ vs'.length = n ∧ vs.all plainV = true ∧ (∀ (j : Nat) (v : Value), vs'[j]? = some v → w.cell? ⟨b', s + o + j, none⟩ = some v) := by
 obtain ⟨hp, vs', hv, hlen, hc⟩ := h.loadN ha _ _ hn
 refine ⟨vs', fun w1 hw => ?_, hv, hlen, hp, hc⟩
 have := run_loadCells_list (P := E.P) w1 ⟨b', s + o, none⟩ vs' (fun j v e => by rw [addr_add, cell_heap hw]; exact hc j v e)
 rwa [hlen] at this
theorem cutB_eq {ρ : Emb} {B : Nat} : ∀ {vs vs' : List Value} {bs : List UInt8}, cutB vs = some bs → VL ρ B vs vs' → vs' = vs := by
 intro vs
 induction vs with
 | nil => intro vs' bs _ h; cases vs' with | nil => rfl | cons x xs => have := h.1; simp at this
 | cons x xs ih =>
  intro vs' bs hc h
  cases vs' with
  | nil => have := h.1; simp at this
  | cons y ys =>
   have h0 : VR ρ B x y := by have := h.2 0; simpa using this
   have ht : VL ρ B xs ys := ⟨by have := h.1; simpa using this, fun i => by have := h.2 (i + 1); simpa using this⟩
   cases x with
   | int k n =>
    cases k with
    | u8 =>
     simp only [cutB] at hc
     cases hr : cutB xs with
     | none => rw [hr] at hc; cases hc
     | some l => cases h0; rw [ih hr ht]
    | _ => simp [cutB] at hc
   | _ => simp [cutB] at hc
theorem push_bytes (s : ByteArray) (b : UInt8) : s.push b = ⟨⟨s.data.toList ++ [b]⟩⟩ := by
 cases s with
 | mk d => cases d with
  | mk l => simp [ByteArray.push]
theorem forIn_bytes (P : Program) (w : World) {f : Value → ByteArray → Sem (ForInStep ByteArray)} (hf : ∀ n r, f (.int .u8 n) r = pure (.yield (r.push (UInt8.ofNat n.toNat)))) : ∀ (vs : List Value) (bs : List UInt8) (acc : ByteArray), cutB vs = some bs →
 (forIn vs acc f).run P w = .ok ⟨⟨acc.data.toList ++ bs⟩⟩ w := by
 intro vs
 induction vs with
 | nil => intro bs acc h; simp only [cutB, Option.some.injEq] at h; subst h; simp
 | cons x xs ih =>
  intro bs acc h
  cases x with
  | int k n =>
   cases k with
   | u8 =>
    simp only [cutB] at h
    cases hr : cutB xs with
    | none => rw [hr] at h; cases h
    | some l =>
     rw [hr] at h; cases h
     simp only [List.forIn_cons, hf, Sem.run_bind, Sem.run_pure, Result.andThen_ok]
     rw [ih l _ hr, push_bytes]
     simp
   | _ => simp [cutB] at h
  | _ => simp [cutB] at h
theorem bytes_rel (l : List UInt8) (ρ : Emb) (B : Nat) : VL ρ B (l.map fun b => Value.int .u8 b.toNat) (l.map fun b => Value.int .u8 b.toNat) := by
 induction l with
 | nil => exact VL.nil
 | cons x xs ih => exact VL.cons (.int _ _) ih
theorem bytes_plain (l : List UInt8) : (l.map fun b => Value.int .u8 b.toNat).all plainV = true := by
 rw [List.all_eq_true]
 intro x hx
 obtain ⟨b, _, rfl⟩ := List.mem_map.1 hx
 rfl
theorem toBytes_ok (h : MR E w0 ρ m w) (e : TypeId) (h1 : E.P.cellsOf e = 1) (s : ByteArray) :
 ValOk E w0 ρ m w (Conv.stringToBytes e s)
  (.value (.slice (some ⟨m.nb, 0, none⟩) s.size (mkCap s.size false)) (m.new (.cells { cellsOf (bytesV s) e with slk := true, str := true }))) := by
 let cap := s.size + w.tape w.drawn (.appendCap s.size 0 e) % (2 ^ 63 - s.size)
 have hcap : s.size ≤ cap := by simp only [cap]; omega
 let rest : List Value := List.replicate (cap - s.size) (.int .u8 0)
 let C : Array Value := ⟨bytesV s ++ rest⟩
 let w1 : World := { w with drawn := w.drawn + 1 }
 let w2 : World := { w1 with heap := w1.heap.push (.cells C e) }
 let w3 : World := w2.freeze ⟨w.heap.size, C.size, none⟩ 1
 have hC : C.size = cap := by simp [C, bytesV, rest]; omega
 have hget : w2.heap[w.heap.size]? = some (.cells C e (0, 0)) := by simp [w2, w1]
 have h3 : w3.heap = w.heap.push (.cells C e (cap, cap + 1)) := by
  simp only [w3, World.freeze, Nat.one_ne_zero, if_false, w2, w1]
  apply Array.ext
  · simp
  intro i h1 h2
  simp only [Array.size_modify, Array.size_push] at h1
  rw [Array.getElem_modify]
  by_cases hi : w.heap.size = i
  · subst hi; simp [hC]
  simp [hi]
  rw [Array.getElem_push, Array.getElem_push]
  simp [show i < w.heap.size by omega]
 have hrun : (Conv.stringToBytes e s).run E.P w = .ok (.slice (some ⟨w.heap.size, 0, none⟩) s.size cap) w3 := by
  have hsh : w2.shape? w.heap.size = some (e, C.size) := by simp [World.shape?, hget]
  have hCe : (Array.map (fun b => Value.int .u8 (b.toNat : Int)) s.data ++ Array.replicate (cap - s.size) (.int .u8 0)) = C := by
   apply Array.ext'
   simp [C, bytesV, rest]
  simp only [Conv.stringToBytes, Sem.run_bind, run_choose, Question.forced, Question.cut, Bool.false_eq_true, if_false, Result.andThen_ok]
  change ((newRow e (Array.map (fun b => Value.int .u8 (b.toNat : Int)) s.data ++ Array.replicate (cap - s.size) (.int .u8 0))).run E.P w1).andThen _ = _
  rw [hCe, run_newRow]
  simp only [Result.andThen_ok]
  change ((markStringish ⟨w.heap.size, 0, none⟩).run E.P w2).andThen _ = _
  have : (markStringish ⟨w.heap.size, 0, none⟩).run E.P w2 = .ok () w3 := by
   simp [markStringish, hsh, w3]
  rw [this]
  rfl
 have hlen : (bytesV s).length = s.size := by simp [bytesV]
 have hle := Emb.put_le (ρ := ρ) (k := m.nxt) (L := ⟨w.heap.size, 0, cap - s.size, s.size, 1⟩) h.none_nxt
 have hb := h.newBlk (w' := w3) (.cells { cellsOf (bytesV s) e with slk := true, str := true }) (.cells C e (cap, cap + 1)) (cap - s.size) s.size 1 ⟨rfl, rfl, rfl⟩ h3
  (.inr ⟨hlen, (fun x => by cases x), (fun _ => ⟨h1.symm, (by show (0 : Nat) < 1; omega)⟩), C, cap, cap + 1, by rw [h3]; simp [cellsOf], by rw [hC]; show cap = 0 + s.size + (cap - s.size) * 1; omega, fun i hi => by
   simp only [cellsOf] at hi
   have hi' : i < (bytesV s).length := hi
   refine ⟨(bytesV s)[i], (bytesV s)[i], ?_, ?_, ?_, ?_⟩
   · simp only [cellsOf]; rw [Tr.get_putAll, if_pos (by omega)]; simp [hi']
   · have := bytes_plain s.data.toList; rw [List.all_eq_true] at this; exact this _ (List.getElem_mem hi')
   · simp only [C, Nat.zero_add, List.getElem?_toArray]; rw [List.getElem?_append_left hi']; exact List.getElem?_eq_getElem hi'
   have := (bytes_rel s.data.toList (ρ.put m.nxt ⟨w.heap.size, 0, cap - s.size, s.size, 1⟩) w0.heap.size).2 i
   change VR _ _ ((bytesV s).getD i undef) ((bytesV s).getD i undef) at this
   rwa [List.getD, List.getElem?_eq_getElem hi'] at this,
   by simp [cellsOf], fun i hi h1 h2 => by simp only at hi h1 h2; omega, fun x => by cases x⟩)
 refine ⟨_, w3, _, hrun, .slice Emb.at_nb (.inr ⟨(mk_open _).1, Mem.nb_odd m, ⟨w.heap.size, 0, cap - s.size, s.size, 1⟩, ?_, ?_, ?_⟩) (fun _ => by simp) (by omega), hb.1, hb.2⟩
 · rw [Mem.nb_half]; exact Emb.put_same _ _ _
 · rw [(mk_open _).2]; simp only; omega
 rw [(mk_open _).2]; simp
theorem toString_ok (h : MR E w0 ρ m w) {b o b' s n : Nat} {vs : List Value} {bs : List UInt8} (hn : m.loadN E b o n = some vs) (hc : cutB vs = some bs) (ha : ρ.at w0.heap.size b = some (b', s)) (c : Nat) :
 (Conv.bytesToString (.slice (some ⟨b', s + o, none⟩) n c)).run E.P w = .ok (.string ⟨⟨bs⟩⟩) w := by
 obtain ⟨vs', hr, hv, _, _, _⟩ := run_loadCells_vl h hn ha
 have := cutB_eq hc hv
 subst this
 simp only [Conv.bytesToString, Sem.run_bind, hr w rfl, Result.andThen_ok]
 rw [← Array.forIn_toList]
 exact congrArg (fun r => Result.andThen r fun a w' => Sem.run E.P (pure (Value.string a)) w') (forIn_bytes E.P w (fun _ _ => rfl) vs' bs ByteArray.empty hc)
theorem opConvert_ok (h : MR E w0 ρ m w) (src dst : TypeId) {x x' : Value} (hx : VR ρ w0.heap.size x x') : ValOk E w0 ρ m w (convert src dst x') (opConvert E src dst x m) := by
 unfold opConvert
 cases hs : und E src with
 | none => exact trivial
 | some ds =>
  cases hd : und E dst with
  | none => cases ds <;> exact trivial
  | some dd =>
   have hsr := run_underlying (P := E.P) (t := src) (d := ds) hs w
   have hdr := run_underlying (P := E.P) (t := dst) (d := dd) hd w
   cases ds with
   | int k1 =>
    cases dd with
    | int k2 =>
     cases hx with
     | int k n => exact ValOk.pureRun h
     | _ => exact trivial
    | string =>
     cases hx with
     | int k n => exact ValOk.pureRun h
     | _ => exact trivial
    | _ => exact trivial
   | string =>
    cases dd with
    | string =>
     cases hx with
     | string s => exact ValOk.same h (by simp [convert, hsr, hdr]) (.string s)
     | _ => exact trivial
    | slice e =>
     cases hx with
     | string s =>
      simp only
      cases he : und E e with
      | none => exact trivial
      | some de =>
       have her := run_underlying (P := E.P) (t := e) (d := de) he w
       cases de with
       | int ke =>
        cases ke with
        | u8 =>
         simp only
         split
         · rename_i hc
           simp only [Bool.and_eq_true, beq_iff_eq, decide_eq_true_eq] at hc
           have hb := toBytes_ok h e hc.1 s
           obtain ⟨ρ', w', v', h1, h2, h3, h4⟩ := hb
           exact ⟨ρ', w', v', by simp [convert, hsr, hdr, her, h1], h2, h3, h4⟩
         exact trivial
        | _ => exact trivial
       | _ => exact trivial
     | _ => exact trivial
    | _ => exact trivial
   | slice e =>
    cases dd with
    | string =>
     cases hx with
     | snil =>
      simp only
      cases he : und E e with
      | none => exact trivial
      | some de =>
       have her := run_underlying (P := E.P) (t := e) (d := de) he w
       cases de with
       | int ke =>
        cases ke with
        | u8 => exact ValOk.same h (by simp [convert, hsr, hdr, her, Conv.bytesToString]) (.string _)
        | _ => exact trivial
       | _ => exact trivial
     | slice0 a =>
      simp only
      cases he : und E e with
      | none => exact trivial
      | some de =>
       have her := run_underlying (P := E.P) (t := e) (d := de) he w
       cases de with
       | int ke =>
        cases ke with
        | u8 =>
         simp only [Mem.loadN, cutB]
         refine ValOk.same h (v' := .string ⟨⟨[]⟩⟩) ?_ (.string _)
         have : (loadCells a 0).run E.P w = .ok #[] w := by simp [loadCells, loadCellsFrom]
         simp [convert, hsr, hdr, her, Conv.bytesToString, this]
         rfl
        | _ => exact trivial
       | _ => exact trivial
     | slice ha hcap ho hl =>
      rename_i b o b' s o' len c cap
      simp only
      cases he : und E e with
      | none => exact trivial
      | some de =>
       have her := run_underlying (P := E.P) (t := e) (d := de) he w
       cases de with
       | int ke =>
        cases ke with
        | u8 =>
         simp only
         cases hn : m.loadN E b o len with
         | none => exact trivial
         | some vs =>
          simp only
          cases hcb : cutB vs with
          | none => exact trivial
          | some bs =>
           simp only
           refine ValOk.same h (v' := .string ⟨⟨bs⟩⟩) ?_ (.string _)
           by_cases hz : cap ≠ 0 ∨ exact c = true
           · rw [ho hz]
             simp [convert, hsr, hdr, her, toString_ok h hn hcb ha]
           have h0 : len = 0 := by
            have : cap = 0 := by
             rcases Nat.eq_zero_or_pos cap with h | h
             · exact h
             exact absurd (.inl (by omega)) hz
            omega
           subst h0
           simp only [Mem.loadN, Option.some.injEq] at hn
           subst hn
           simp only [cutB, Option.some.injEq] at hcb
           subst hcb
           have : (loadCells ⟨b', o', none⟩ 0).run E.P w = .ok #[] w := by simp [loadCells, loadCellsFrom]
           simp [convert, hsr, hdr, her, Conv.bytesToString, this]
           rfl
        | _ => exact trivial
       | _ => exact trivial
     | _ => exact trivial
    | _ => cases hx <;> exact trivial
   | pointer t =>
    cases dd with
    | unsafePointer =>
     cases hx with
     | ptr ha =>
      rename_i b o b' s
      simp only
      cases hl : m.live b with
      | none => exact trivial
      | some c =>
       simp only
       split
       · exact trivial
       rename_i hc
       simp only [Bool.or_eq_true, decide_eq_true_eq, not_or, Bool.not_eq_true, Option.isSome_none, Bool.not_eq_eq_eq_not, Bool.not_true] at hc
       obtain ⟨_, L, hL, rfl, rfl, hg, hdd, hcn, _, _, C, flo, fhi, hh, hC, _, _⟩ := h.live hl ha
       have hsh : w.shape? L.b = some (c.elem, C.size) := by simp [World.shape?, hh]
       cases hi : E.P.info? t with
       | none => exact absurd hc.2 (by simp [hi])
       | some i =>
        have hlt : ¬ (C.size ≤ L.s + o) := by have := hc.1.1.2; rw [hC, ← hcn]; omega
        have hsz : ¬ szOf E t = 0 := hc.1.1.1
        refine ValOk.same h (v' := .pointer (some ⟨L.b, L.s + o, none⟩)) ?_ (.ptr ha)
        simp [convert, hsr, hdr, Conv.unsafePointer, Conv.seenAt, viewAt, cellsIn, hsh, run_size hi, hsz, hlt]
     | _ => exact trivial
    | _ => cases hx <;> exact trivial
   | unsafePointer =>
    cases dd with
    | pointer u =>
     cases hx with
     | ptr ha =>
      rename_i b o b' s
      simp only
      cases hl : m.live b with
      | none => exact trivial
      | some c =>
       simp only
       split
       ·
        rename_i hc
        simp only [Bool.and_eq_true, Bool.not_eq_eq_eq_not, Bool.not_true] at hc
        obtain ⟨_, L, hL, rfl, rfl, hg, hdd, hcn, hslk, _, C, flo, fhi, hh, hC, _, _⟩ := h.live hl ha
        have hsh : w.shape? L.b = some (c.elem, C.size) := by simp [World.shape?, hh]
        obtain ⟨i, hi⟩ := Option.isSome_iff_exists.1 hc.1.2
        have hz := hslk hc.1.1.1
        have hCs : C.size = c.n := by rw [hC, hz.1, hz.2, hcn]; simp
        have hlies : liesAt E.P E.P.depth c.elem (C.size / E.P.cellsOf c.elem) (L.s + o) u 1 = true := by
         rw [hCs, hz.1, Nat.zero_add]; exact hc.2
        refine ValOk.same h (v' := .pointer (some ⟨L.b, L.s + o, none⟩)) ?_ (.ptr ha)
        simp [convert, hsr, hdr, Conv.unsafePointer, Conv.seenAt, viewAt, hsh, run_size hi, variablesAt, hlies]
       exact trivial
     | _ => exact trivial
    | _ => cases hx <;> exact trivial
   | _ => cases dd <;> cases hx <;> exact trivial
end Go.Am
namespace Go.Am
variable {E : Env} {w0 w : World} {ρ : Emb} {m : Mem}
theorem MR.map (h : MR E w0 ρ m w) {r r' : Nat} {es : List MapEntry} {c : Nat} (hm : m.map? r = some (es, c)) (ha : ρ.at w0.heap.size r = some (r', 0)) :
 ∃ L es', ρ (r / 2) = some L ∧ L.b = r' ∧ L.s = 0 ∧ m.blks.get (r / 2) = some (.map es c) ∧ w.heap[r']? = some (.map es' c) ∧ EntriesR ρ w0.heap.size es es'.toList := by
 unfold Mem.map? at hm
 by_cases ho : r % 2 = 1
 ·
  rw [if_pos ho] at hm
  unfold Emb.at at ha
  rw [if_pos ho] at ha
  cases hr : ρ (r / 2) with
  | none => rw [hr] at ha; simp at ha
  | some L =>
   rw [hr] at ha
   simp only [Option.map_some, Option.some.injEq, Prod.mk.injEq] at ha
   cases hg : m.blks.get (r / 2) with
   | none => rw [hg] at hm; simp at hm
   | some bl =>
    rw [hg] at hm
    cases bl with
    | map es2 c2 =>
     simp only [Option.some.injEq, Prod.mk.injEq] at hm
     obtain ⟨rfl, rfl⟩ := hm
     obtain ⟨h1, es', h2, h3⟩ := h.blk _ _ _ hr hg
     exact ⟨L, es', rfl, ha.1, h1, rfl, ha.1 ▸ h2, h3⟩
    | _ => simp at hm
 rw [if_neg ho] at hm; cases hm
theorem run_getObj_map {r : Nat} {es : Array MapEntry} {c : Nat} (h : w.heap[r]? = some (.map es c)) (P : Program) : (getObj r).run P w = .ok (.map es c) w := by
 simp [getObj, Sem.run, h]
theorem run_setObj {r : Nat} {o o' : Obj} (h : w.heap[r]? = some o) (hc : match o with | .cells .. => False | _ => True) (P : Program) :
 (setObj r o').run P w = .ok () { w with heap := w.heap.setIfInBounds r o' } := by
 cases o <;> first | exact hc.elim | simp [setObj, Sem.run, h]
def KeyD (d : TypeDesc) (k : Value) : Prop := (∃ kk a n, d = .int kk ∧ k = .int a n) ∨ (∃ s, d = .string ∧ k = .string s) ∨ ∃ b, d = .bool ∧ k = .bool b
theorem keyFits_und {t : TypeId} {k : Value} (h : keyFits E t k = true) : ∃ d, und E t = some d ∧ KeyD d k := by
 unfold keyFits at h
 cases hu : und E t with
 | none => rw [hu] at h; cases h
 | some d =>
  rw [hu] at h
  refine ⟨d, rfl, ?_⟩
  cases d <;> cases k <;> first
   | (simp at h; done)
   | exact .inl ⟨_, _, _, rfl, rfl⟩
   | exact .inr (.inl ⟨_, rfl, rfl⟩)
   | exact .inr (.inr ⟨_, rfl, rfl⟩)
theorem KeyD.ok {d : TypeDesc} {k : Value} (h : KeyD d k) : keyOk k = true := by
 rcases h with ⟨_, _, _, _, rfl⟩ | ⟨_, _, rfl⟩ | ⟨_, _, rfl⟩ <;> rfl
theorem run_checkKey' {kt : TypeId} {d : TypeDesc} {k : Value} (hu : und E kt = some d) (hk : KeyD d k) (n : Nat) (e : Bool) (w : World) : (Instr.checkKey e (n + 1) kt k).run E.P w = .ok () w := by
 have hur := run_underlying (P := E.P) (t := kt) (d := d) hu w
 rcases hk with ⟨_, _, _, rfl, rfl⟩ | ⟨_, rfl, rfl⟩ | ⟨_, rfl, rfl⟩ <;> simp [Instr.checkKey, hur]
theorem run_checkKey {kt : TypeId} {d : TypeDesc} {k : Value} (hu : und E kt = some d) (hk : KeyD d k) (e : Bool) (w : World) : (Instr.checkKey e 10000 kt k).run E.P w = .ok () w :=
 run_checkKey' hu hk 9999 e w
theorem sameK_now {d : TypeDesc} {k x : Value} (hk : KeyD d k) {b : Bool} (h : sameK k x = some b) : Instr.sameNow d k x = some b := by
 rcases hk with ⟨_, _, _, rfl, rfl⟩ | ⟨_, rfl, rfl⟩ | ⟨_, rfl, rfl⟩ <;> cases x <;> simp_all [sameK, Instr.sameNow]
def FoundR (ρ : Emb) (B : Nat) : Option (Nat × Value) → Option (Nat × Value) → Prop
 | none, none => True
 | some (j, v), some (j', v') => j = j' ∧ VR ρ B v v'
 | _, _ => False
theorem findNow_ok {d : TypeDesc} {k : Value} (hk : KeyD d k) : ∀ (es es' : List MapEntry) (i : Nat) {r : Option (Nat × Value)},
 EntriesR ρ w0.heap.size es es' → findK k es i = some r → ∃ r', Instr.findNow d k es' i = some r' ∧ FoundR ρ w0.heap.size r r' := by
 intro es
 induction es with
 | nil =>
  intro es' i r h hf
  cases es' with
  | nil => simp only [findK, Option.some.injEq] at hf; subst hf; exact ⟨none, rfl, trivial⟩
  | cons => have := h.1; simp at this
 | cons e es ih =>
  intro es' i r h hf
  cases es' with
  | nil => have := h.1; simp at this
  | cons e' es' =>
   have h0 := h.2 0 e rfl
   simp only [List.getElem?_cons_zero, Option.some.injEq] at h0
   obtain ⟨e2, rfl, hkk, hko, _, hv⟩ := h0
   have ht : EntriesR ρ w0.heap.size es es' := ⟨by have := h.1; simpa using this, fun j x hx => by have := h.2 (j + 1) x (by simpa using hx); simpa using this⟩
   simp only [findK] at hf
   simp only [Instr.findNow]
   rw [hkk]
   cases hs : sameK k e.key with
   | none => rw [hs] at hf; cases hf
   | some b =>
    rw [hs] at hf
    rw [sameK_now hk hs]
    cases b with
    | true => simp only [Option.some.injEq] at hf; subst hf; exact ⟨_, rfl, rfl, hv⟩
    | false => exact ih es' (i + 1) ht hf
theorem run_findKey {kt : TypeId} {d : TypeDesc} {k : Value} (hu : und E kt = some d) (hk : KeyD d k) {es es' : List MapEntry} {r : Option (Nat × Value)} (h : EntriesR ρ w0.heap.size es es') (hf : findK k es 0 = some r) (w : World) :
 ∃ r', (Instr.findKey kt k es').run E.P w = .ok r' w ∧ FoundR ρ w0.heap.size r r' := by
 obtain ⟨r', h1, h2⟩ := findNow_ok (d := d) hk es es' 0 h hf
 exact ⟨r', by simp [Instr.findKey, run_underlying (P := E.P) (t := kt) (d := d) hu w, h1], h2⟩
theorem opLookup_ok (h : MR E w0 ρ m w) (t : TypeId) (ok : Bool) {x x' k k' : Value} (hx : VR ρ w0.heap.size x x') (hk : VR ρ w0.heap.size k k') :
 ValOk E w0 ρ m w (Instr.lookup t x' k' ok) (opLookup E t x k ok m) := by
 unfold opLookup
 cases hu : und E t with
 | none => exact trivial
 | some d =>
  cases d with
  | map kt et =>
   have hur := run_underlying (P := E.P) (t := t) (d := .map kt et) hu w
   simp only
   split
   ·
    rename_i hkf
    obtain ⟨kd, hku, hkd⟩ := keyFits_und hkf
    have hkk : k' = k := flat_eq 0 (by rcases hkd with ⟨_, _, _, _, rfl⟩ | ⟨_, _, rfl⟩ | ⟨_, _, rfl⟩ <;> rfl) hk
    subst hkk
    have hmiss : ∀ (s : Sem Value), (∀ z, zeroOf E et = some z → s.run E.P w = .ok (if ok then .tuple #[z, .bool false] else z) w) → ValOk E w0 ρ m w s (opLookup.miss E ok et m) := by
     intro s hs
     unfold opLookup.miss
     cases hz : zeroOf E et with
     | none => exact trivial
     | some z =>
      have hfl := flat_refl (ρ := ρ) (B := w0.heap.size) 9 (zeroOf_run hz w).2.1
      cases ok with
      | true => exact ValOk.same h (hs z hz) (VR.tuple_of (VL.cons hfl (VL.cons (.bool false) VL.nil)))
      | false => exact ValOk.same h (hs z hz) hfl
    cases hx with
    | mnil =>
     refine hmiss _ (fun z hz => ?_)
     have hfk : (Instr.findKey kt k' []).run E.P w = .ok none w := by simp [Instr.findKey, run_underlying (P := E.P) (t := kt) (d := kd) hku w, Instr.findNow]
     simp [Instr.lookup, hur, run_checkKey hku hkd, hfk, (zeroOf_run hz w).1]
    | map ha hodd =>
     rename_i r r'
     simp only
     cases hm : m.map? r with
     | none => exact trivial
     | some p =>
      obtain ⟨es, c⟩ := p
      simp only
      obtain ⟨L, es', hL, hLb, _, _, hh, hes⟩ := h.map hm ha
      cases hf : findK k' es 0 with
      | none => exact trivial
      | some res =>
       obtain ⟨res', hr1, hr2⟩ := run_findKey (E := E) hku hkd hes hf w
       cases res with
       | none =>
        cases res' with
        | some _ => exact hr2.elim
        | none =>
         refine hmiss _ (fun z hz => ?_)
         simp [Instr.lookup, hur, run_getObj_map hh, run_checkKey hku hkd, hr1, (zeroOf_run hz w).1]
       | some jv =>
        obtain ⟨j, v⟩ := jv
        cases res' with
        | none => exact hr2.elim
        | some jv' =>
         obtain ⟨j', v'⟩ := jv'
         simp only
         have hrun : (Instr.lookup t (.map (some r')) k' ok).run E.P w = .ok (if ok then .tuple #[v', .bool true] else v') w := by
          simp [Instr.lookup, hur, run_getObj_map hh, run_checkKey hku hkd, hr1]
         cases ok with
         | true => exact ValOk.same h hrun (VR.tuple_of (VL.cons hr2.2 (VL.cons (.bool true) VL.nil)))
         | false => exact ValOk.same h hrun hr2.2
    | _ => exact trivial
   exact trivial
  | _ => exact trivial
theorem setAt_get (f : MapEntry → MapEntry) : ∀ (l : List MapEntry) (i j : Nat), (setAt l i f)[j]? = if i = j then (l[j]?).map f else l[j]? := by
 intro l
 induction l with
 | nil => intro i j; simp [setAt]
 | cons x xs ih =>
  intro i j
  cases i with
  | zero => cases j <;> simp [setAt]
  | succ i => cases j with
   | zero => simp [setAt]
   | succ j => simp [setAt, ih]
theorem setAt_length (f : MapEntry → MapEntry) : ∀ (l : List MapEntry) (i : Nat), (setAt l i f).length = l.length := by
 intro l
 induction l with
 | nil => intro i; simp [setAt]
 | cons x xs ih => intro i; cases i <;> simp [setAt, ih]
theorem findK_spec {k : Value} : ∀ (es : List MapEntry) (i : Nat) {j : Nat} {u : Value}, findK k es i = some (some (j, u)) → i ≤ j ∧ ∃ e, es[j - i]? = some e ∧ sameK k e.key = some true ∧ e.val = u := by
 intro es
 induction es with
 | nil => intro i j u h; simp [findK] at h
 | cons e es ih =>
  intro i j u h
  simp only [findK] at h
  cases hs : sameK k e.key with
  | none => rw [hs] at h; cases h
  | some b =>
   rw [hs] at h
   cases b with
   | true =>
    simp only [Option.some.injEq, Prod.mk.injEq] at h
    obtain ⟨rfl, rfl⟩ := h
    exact ⟨Nat.le_refl _, e, by simp, hs, rfl⟩
   | false =>
    obtain ⟨h1, e2, h2, h3⟩ := ih (i + 1) h
    refine ⟨by omega, e2, ?_, h3⟩
    have : j - i = (j - (i + 1)) + 1 := by omega
    rw [this]; simpa using h2
theorem sameK_eq {k x : Value} (h : sameK k x = some true) : x = k := by
 cases k <;> cases x <;> first
  | (simp [sameK] at h; done)
  | (simp only [sameK, Option.some.injEq] at h; rw [(MapKept.bytes_beq _ _).1 h]; done)
  | simp_all [sameK]
theorem sameBits_self {d : TypeDesc} {k : Value} (h : KeyD d k) (n : Nat) : Instr.sameBits n k k = true := by
 rcases h with ⟨_, _, _, _, rfl⟩ | ⟨s, _, rfl⟩ | ⟨_, _, rfl⟩ <;> cases n <;> simp [Instr.sameBits, (MapKept.bytes_beq _ _).2 rfl]
theorem opUpdate_ok (h : MR E w0 ρ m w) (t : TypeId) {x x' k k' v v' : Value} (hx : VR ρ w0.heap.size x x') (hk : VR ρ w0.heap.size k k') (hv : VR ρ w0.heap.size v v') :
 SkipOk E w0 ρ m w (Instr.mapUpdate t x' k' v') (opUpdate E t x k v m) := by
 unfold opUpdate
 cases hu : und E t with
 | none => exact trivial
 | some d =>
  cases d with
  | map kt et =>
   have hur := run_underlying (P := E.P) (t := t) (d := .map kt et) hu w
   cases hx with
   | map ha hodd =>
    rename_i r r'
    simp only
    split
    ·
     rename_i hc
     simp only [Bool.and_eq_true] at hc
     obtain ⟨kd, hku, hkd⟩ := keyFits_und hc.1
     have hkk : k' = k := flat_eq 0 (by rcases hkd with ⟨_, _, _, _, rfl⟩ | ⟨_, _, rfl⟩ | ⟨_, _, rfl⟩ <;> rfl) hk
     subst hkk
     cases hm : m.map? r with
     | none => exact trivial
     | some p =>
      obtain ⟨es, c⟩ := p
      simp only
      obtain ⟨L, es', hL, hLb, hLs, hg, hh, hes⟩ := h.map hm ha
      have hlt : r' < w.heap.size := by
       rcases Nat.lt_or_ge r' w.heap.size with x | x
       · exact x
       rw [Array.getElem?_eq_none x] at hh; cases hh
      have turn : ∀ (es2 : List MapEntry) (es2' : Array MapEntry) (c2 : Nat), EntriesR ρ w0.heap.size es2 es2'.toList →
       MR E w0 ρ (m.setB (r / 2) (.map es2 c2)) { w with heap := w.heap.setIfInBounds r' (.map es2' c2) } ∧ Ext w0 ρ ρ m (m.setB (r / 2) (.map es2 c2)) w { w with heap := w.heap.setIfInBounds r' (.map es2' c2) } := by
       intro es2 es2' c2 he
       refine h.turn hL hg rfl ⟨rfl, rfl, rfl⟩ (by simp) (fun b hb => ?_) ⟨hLs, es2', ?_, he⟩
       · have : r' ≠ b := fun e => hb (by rw [hLb]; exact e.symm)
         simp [Array.getElem?_setIfInBounds, this]
       rw [hLb]; simp [Array.getElem?_setIfInBounds, hlt]
      cases hf : findK k' es 0 with
      | none => exact trivial
      | some res =>
       obtain ⟨res', hr1, hr2⟩ := run_findKey (E := E) hku hkd hes hf w
       cases res with
       | none =>
        cases res' with
        | some _ => exact hr2.elim
        | none =>
         simp only
         have hT := turn (es ++ [{ key := k', val := v, born := c }]) (es'.push { key := k', val := v', born := c }) (c + 1) ⟨by have := hes.1; simp at this ⊢; omega, fun i e hi => by
          have hl := hes.1
          simp only [Array.length_toList] at hl
          simp only [Array.toList_push]
          by_cases hlt2 : i < es.length
          · rw [List.getElem?_append_left hlt2] at hi
            rw [List.getElem?_append_left (by simpa using hl ▸ hlt2)]
            exact hes.2 i e hi
          rw [List.getElem?_append_right (by omega)] at hi
          rw [List.getElem?_append_right (by simp; omega)]
          simp only [Array.length_toList, ← hl]
          cases hq : i - es.length with
          | zero => rw [hq] at hi; simp at hi; subst hi; exact ⟨_, rfl, rfl, hkd.ok, rfl, hv⟩
          | succ n => rw [hq] at hi; simp at hi⟩
         exact ⟨ρ, _, by simp [Instr.mapUpdate, hur, run_getObj_map hh, run_checkKey hku hkd, hr1, run_setObj hh trivial], hT.1, hT.2⟩
       | some jv =>
        obtain ⟨j, u⟩ := jv
        cases res' with
        | none => exact hr2.elim
        | some jv' =>
         obtain ⟨j', u'⟩ := jv'
         obtain ⟨rfl, _⟩ := hr2
         simp only
         obtain ⟨_, e, he, hsk, _⟩ := findK_spec es 0 hf
         rw [Nat.sub_zero] at he
         obtain ⟨e', he', hek, _, heb, hev⟩ := hes.2 j e he
         have hkey : e'.key = k' := hek.trans (sameK_eq hsk)
         have heA : es'[j]? = some e' := by simpa using he'
         have hT := turn (setAt es j fun e => { e with key := k', val := v }) (es'.modify j fun e => { e with key := k', val := v' }) c ⟨by rw [setAt_length]; have := hes.1; simp at this ⊢; omega, fun i x hx => by
          rw [setAt_get] at hx
          rw [Array.getElem?_toList]
          by_cases hij : j = i
          · subst hij
            rw [if_pos rfl, he] at hx
            simp only [Option.map_some, Option.some.injEq] at hx
            subst hx
            refine ⟨{ e' with key := k', val := v' }, by simp [Array.getElem?_modify, heA], rfl, hkd.ok, heb, hv⟩
          rw [if_neg hij] at hx
          obtain ⟨y, hy1, hy2⟩ := hes.2 i x hx
          exact ⟨y, by simp [Array.getElem?_modify, hij]; simpa using hy1, hy2⟩⟩
         have hstay : (Instr.keyThatStays k' k').run E.P w = .ok k' w := by simp [Instr.keyThatStays, sameBits_self hkd]
         exact ⟨ρ, _, by simp [Instr.mapUpdate, hur, run_getObj_map hh, run_checkKey hku hkd, hr1, heA, hkey, hstay, run_setObj hh trivial], hT.1, hT.2⟩
    exact trivial
   | undef => simp only [undef]; exact trivial
   | _ => exact trivial
  | _ => cases hx <;> exact trivial
end Go.Am
namespace Go.Am
variable {E : Env} {w0 w : World} {ρ : Emb} {m : Mem}
theorem growBy_le (n : Nat) : ∀ (r c : Nat), Builtin.growBy n r c ≤ max c (n + (n + 768) / 4) := by
 intro r
 induction r with
 | zero => intro c; simp [Builtin.growBy]; omega
 | succ r ih =>
  intro c
  simp only [Builtin.growBy]
  split
  · omega
  have := ih (c + (c + 768) / 4)
  omega
theorem nextcap_le {need cap : Nat} (h : cap < need) (hn : need ≤ 1048576) : Builtin.nextslicecap need cap ≤ 4194304 := by
 unfold Builtin.nextslicecap
 split
 · omega
 split
 · omega
 have := growBy_le need 4 cap; omega
theorem zeroCells_length (z : Array Value) (n : Nat) : (Builtin.zeroCells z n).toList.length = n * z.size := by simp [Builtin.zeroCells]
theorem readSrc_ok (h : MR E w0 ρ m w) {x x' : Value} {size n : Nat} {vs : List Value} (hr : readSrc E m size n x = some vs) (hn : lenSrc x = some n) (hx : VR ρ w0.heap.size x x') :
 ∃ vs', (∀ w1 : World, w1.heap = w.heap → (Builtin.firstCells size n x').run E.P w1 = .ok ⟨vs'⟩ w1) ∧ VL ρ w0.heap.size vs vs' ∧ vs.all plainV = true ∧ (Builtin.lenOf x').run E.P w = .ok n w := by
 cases hx with
 | string s =>
  simp only [readSrc, Option.some.injEq] at hr
  simp only [lenSrc, Option.some.injEq] at hn
  subst hr hn
  refine ⟨bytesV (s.extract 0 s.size), fun w1 _ => ?_, bytes_rel _ _ _, bytes_plain _, by simp [Builtin.lenOf]⟩
  simp only [Builtin.firstCells, Sem.run_pure, Result.ok.injEq, and_true]
  apply Array.ext'
  simp [bytesV]
 | snil =>
  simp only [readSrc, Option.some.injEq] at hr
  simp only [lenSrc, Option.some.injEq] at hn
  subst hr hn
  exact ⟨[], fun w1 _ => by simp [Builtin.firstCells], VL.nil, rfl, by simp [Builtin.lenOf]⟩
 | slice0 a =>
  simp only [readSrc] at hr
  simp only [lenSrc, Option.some.injEq] at hn
  subst hn
  rw [Nat.zero_mul] at hr
  simp only [Mem.loadN, Option.some.injEq] at hr
  subst hr
  exact ⟨[], fun w1 _ => by simp [Builtin.firstCells, loadCells, loadCellsFrom], VL.nil, rfl, by simp [Builtin.lenOf]⟩
 | slice ha hcap ho hl =>
  rename_i b o b' s o' len c cap
  simp only [readSrc] at hr
  simp only [lenSrc, Option.some.injEq] at hn
  subst hn
  by_cases hz : cap ≠ 0 ∨ exact c = true
  · rw [ho hz]
    obtain ⟨vs', h1, h2, _, h4, _⟩ := run_loadCells_vl h hr ha
    exact ⟨vs', fun w1 hw => by simp [Builtin.firstCells, h1 w1 hw], h2, h4, by simp [Builtin.lenOf]⟩
  have h0 : len = 0 := by
   rcases Nat.eq_zero_or_pos cap with h | h
   · omega
   exact absurd (.inl (by omega)) hz
  subst h0
  rw [Nat.zero_mul] at hr
  simp only [Mem.loadN, Option.some.injEq] at hr
  subst hr
  exact ⟨[], fun w1 _ => by simp [Builtin.firstCells, loadCells, loadCellsFrom], VL.nil, rfl, by simp [Builtin.lenOf]⟩
 | _ => simp [lenSrc, undef] at hn
theorem MR.newAt (h : MR E w0 ρ m w) {w' : World} (bl : Blk) (L : Loc) (hl : Like w w') (hB : w0.heap.size ≤ L.b) (hlt : L.b < w.heap.size) (hsz : w'.heap.size = w.heap.size)
 (hh : ∀ b, b ≠ L.b → w'.heap[b]? = w.heap[b]?) (hno : ∀ k L' b2, ρ k = some L' → m.blks.get k = some b2 → b2.alive = true → L'.b ≠ L.b)
 (hr : ∃ k0 L0, ρ k0 = some L0 ∧ L0.b = L.b) (hb : BR E.P (ρ.put m.nxt L) w0.heap.size bl L w') :
 MR E w0 (ρ.put m.nxt L) (m.new bl) w' ∧ Ext w0 ρ (ρ.put m.nxt L) m (m.new bl) w w' := by
 have hn := h.none_nxt
 have hle := Emb.put_le (ρ := ρ) (k := m.nxt) (L := L) hn
 refine ⟨⟨h.fix, fun b hb => by rw [hh b (by omega)]; exact h.base b hb, by rw [hsz]; exact h.le, hl.os.trans h.os, hl.tape.trans h.tape, hl.output.trans h.output, ?_, ?_, ?_, ?_⟩, ?_⟩
 ·
  intro k L' e
  unfold Emb.put at e
  split at e
  · cases e; rename_i hk; subst hk; exact ⟨hB, by omega, by simp [Mem.new]⟩
  have := h.loc k L' e; simp only [Mem.new]; omega
 ·
  intro k L' b2 e g
  simp only [Mem.new] at g
  rw [Tr.get_set] at g
  unfold Emb.put at e
  by_cases hk : k = m.nxt
  · rw [if_pos hk] at e g; cases e; cases g; exact hb
  rw [if_neg hk] at e g
  by_cases ha : b2.alive = true
  · exact ((h.blk k L' b2 e g).congr (hh _ (hno k L' b2 e g ha))).mono hle
  cases b2 with
  | cells c => left; simpa [Blk.alive] using ha
  | _ => simp [Blk.alive] at ha
 ·
  intro k k' L1 L2 b1 b2 e e' g g' a a' hLb
  simp only [Mem.new] at g g'
  rw [Tr.get_set] at g g'
  unfold Emb.put at e e'
  by_cases hk : k = m.nxt
  · by_cases hk' : k' = m.nxt
    · omega
    rw [if_pos hk] at e; rw [if_neg hk'] at e' g'
    cases e
    exact absurd hLb.symm (hno k' L2 b2 e' g' a')
  rw [if_neg hk] at e g
  by_cases hk' : k' = m.nxt
  · rw [if_pos hk'] at e'
    cases e'
    exact absurd hLb (hno k L1 b1 e g a)
  rw [if_neg hk'] at e' g'
  exact h.inj k k' L1 L2 b1 b2 e e' g g' a a' hLb
 · intro k hk
   simp only [Mem.new] at hk ⊢
   rw [Tr.get_set, if_neg (by omega)]
   exact h.fresh k (by omega)
 refine ⟨hle, by omega, fun b hb hno2 => hh b (fun e => ?_), fun k L' e => ?_, by simp [Mem.new]⟩
 · obtain ⟨k0, L0, h1, h2⟩ := hr
   exact hno2 k0 L0 h1 (h2.trans e.symm)
 unfold Emb.put at e
 split at e
 · cases e; rename_i hk; exact .inr ⟨by omega, .inr hr⟩
 exact .inl e
theorem srcOk_cases {xt : Option TypeId} (h : srcOk E xt = true) : ∃ u d, xt = some u ∧ und E u = some d ∧ ((∃ x, d = .slice x) ∨ d = .string) := by
 cases xt with
 | none => cases h
 | some u =>
  unfold srcOk at h
  simp only at h
  cases hu : und E u with
  | none => rw [hu] at h; cases h
  | some d =>
   rw [hu] at h
   refine ⟨u, d, rfl, hu, ?_⟩
   cases d <;> simp_all
theorem grow_ok (h : MR E w0 ρ m w) {e : TypeId} {i : TypeInfo} {z : Value} {vs vs' : List Value} {need : Nat} (hi : E.P.info? e = some i) (hzs : z.cells.size = i.size) (h0 : 0 < i.size)
 (hp : vs.all plainV = true) (hv : VL ρ w0.heap.size vs vs') (hlen : vs.length = need * i.size) (old : Nat) (c : Cells) (hcc : c.c = (cellsOf vs e).c) (hcn : c.n = vs.length) (hce : c.elem = e) (hcs : c.slk = true)
 (hhi : c.hi ≤ c.n) (hstr : c.str = false → c.hi ≤ c.lo) (s : Sem Value)
 (hs : ∀ newCap, need ≤ newCap → ∀ w1 : World, w1 = { w with drawn := w.drawn + 1 } → (Question.appendCap need old e).cut (w.tape w.drawn (.appendCap need old e)) = newCap →
  s.run E.P w = .ok (.slice (some ⟨w.heap.size, 0, none⟩) need newCap) { w1 with heap := w1.heap.push (.cells ⟨vs' ++ (Builtin.zeroCells z.cells (newCap - need)).toList⟩ e) }) :
 ValOk E w0 ρ m w s (.value (.slice (some ⟨m.nb, 0, none⟩) need (mkCap need false)) (m.new (.cells c))) := by
 let newCap := (Question.appendCap need old e).cut (w.tape w.drawn (.appendCap need old e))
 have hnc : need ≤ newCap := by simp only [newCap, Question.cut]; omega
 have hrun := hs newCap hnc _ rfl rfl
 let L : Loc := ⟨w.heap.size, 0, newCap - need, need * i.size, i.size⟩
 have hle := Emb.put_le (ρ := ρ) (k := m.nxt) (L := L) h.none_nxt
 have hlen' := hv.1
 have hb := h.newBlk (w' := { w with drawn := w.drawn + 1, heap := w.heap.push (.cells ⟨vs' ++ (Builtin.zeroCells z.cells (newCap - need)).toList⟩ e) }) (.cells c) _ (newCap - need) (need * i.size) i.size ⟨rfl, rfl, rfl⟩ rfl
  (.inr ⟨hcn.trans hlen, (fun x => by rw [hcs] at x; cases x), (fun _ => ⟨by rw [hce]; exact (szOf_info hi).symm, h0⟩), ⟨vs' ++ (Builtin.zeroCells z.cells (newCap - need)).toList⟩, 0, 0, by rw [hce]; simp,
   (by simp only [List.size_toArray, List.length_append, zeroCells_length, hzs]; rw [← hlen', hlen]; omega), fun j hj => by
    rw [hcn] at hj
    obtain ⟨v', e1, e2⟩ := (hv.mono hle).get (List.getElem?_eq_getElem hj)
    refine ⟨vs[j], v', ?_, ?_, ?_, e2⟩
    · rw [hcc]; simp only [cellsOf]; rw [Tr.get_putAll, if_pos (by omega)]; simp [hj]
    · rw [List.all_eq_true] at hp; exact hp _ (List.getElem_mem hj)
    rw [Nat.zero_add, List.getElem?_toArray, List.getElem?_append_left (hlen' ▸ hj)]; exact e1,
   hhi, fun _ _ _ hx => by omega, fun hx => .inl ⟨hstr hx, rfl⟩⟩)
 refine ⟨_, _, _, hrun, .slice Emb.at_nb (.inr ⟨(mk_open _).1, Mem.nb_odd m, L, by rw [Mem.nb_half]; exact Emb.put_same _ _ _, ?_, ?_⟩) (fun _ => by simp) hnc, hb.1, hb.2⟩
 · rw [(mk_open _).2]; simp only [L]; omega
 rw [(mk_open _).2]; simp [L]
theorem elemOk_spec {e : TypeId} {i : TypeInfo} (h : elemOk E e i = true) : ∃ z, zeroOf E e = some z ∧ z.cells.size = i.size ∧ 0 < i.size ∧ i.bytes ≤ 1048576 := by
 unfold elemOk at h
 cases hz : zeroOf E e with
 | none => rw [hz] at h; cases h
 | some z =>
  rw [hz] at h
  simp only [Bool.and_eq_true, beq_iff_eq, decide_eq_true_eq] at h
  exact ⟨z, rfl, h.1.1, h.1.2, h.2⟩
theorem run_append_grow {t e : TypeId} {i : TypeInfo} {z : Value} {xt : Option TypeId} {argTypes : Array TypeId} {ty : TypeId} {base : Option Addr} {len cap n : Nat} {x' : Value} {vo vn : List Value}
 (hu : und E t = some (.slice e)) (hi : E.P.info? e = some i) (hz : zeroOf E e = some z) (hb : i.bytes ≤ 1048576) (ht : argTypes[0]? = some t) (ht1 : argTypes[1]? = xt) (hx : srcOk E xt = true)
 (hlen : (Builtin.lenOf x').run E.P w = .ok n w) (hneed : len + n ≤ 1048576) (hgr : ¬ len + n ≤ cap)
 (hold : ∀ w1 : World, w1.heap = w.heap → (Builtin.firstCells i.size len (.slice base len cap)).run E.P w1 = .ok ⟨vo⟩ w1)
 (hnew : ∀ w1 : World, w1.heap = w.heap → (Builtin.firstCells i.size n x').run E.P w1 = .ok ⟨vn⟩ w1)
 (newCap : Nat) (hq : (Question.appendCap (len + n) cap e).cut (w.tape w.drawn (.appendCap (len + n) cap e)) = newCap) (w1 : World) (hw1 : w1 = { w with drawn := w.drawn + 1 }) :
 (Builtin.append_ argTypes ty #[.slice base len cap, x']).run E.P w = .ok (.slice (some ⟨w.heap.size, 0, none⟩) (len + n) newCap)
  { w1 with heap := w1.heap.push (.cells ⟨(vo ++ vn) ++ (Builtin.zeroCells z.cells (newCap - (len + n))).toList⟩ e) } := by
 have hur := run_underlying (P := E.P) (t := t) (d := .slice e) hu w
 have hsz : szOf E e = i.size := szOf_info hi
 have hcapb : ¬ (Builtin.nextslicecap (len + n) cap * i.bytes > 2 ^ 48) := by
  have h1 := nextcap_le (by omega : cap < len + n) hneed
  have : Builtin.nextslicecap (len + n) cap * i.bytes ≤ 4194304 * 1048576 := Nat.mul_le_mul h1 hb
  omega
 have hmax : ¬ (((len + n : Nat) : Int) > IntKind.i64.max ∧ (false = true ∨ i.bytes = 0)) := by
  intro hc
  have : IntKind.i64.max = 9223372036854775807 := by decide
  omega
 have hsize : ∀ w1 : World, (sizeOf e).run E.P w1 = .ok i.size w1 := fun w1 => by rw [run_size hi, hsz]
 have hzv : ∀ w1 : World, (zeroValue e).run E.P w1 = .ok z w1 := fun w1 => (zeroOf_run hz w1).1
 have hti : ∀ w1 : World, (typeInfo e).run E.P w1 = .ok i w1 := fun w1 => run_typeInfo w1 hi
 have hmax' : ¬ (9223372036854775807 < (len : Int) + (n : Int)) := by omega
 have hcap2 : ¬ (281474976710656 < Builtin.nextslicecap (len + n) cap * i.bytes) := by omega
 have ho : (Builtin.firstCells i.size len (.slice base len cap)).run E.P w.drew = .ok ⟨vo⟩ w.drew := hold _ rfl
 have hn : (Builtin.firstCells i.size n x').run E.P w.drew = .ok ⟨vn⟩ w.drew := hnew _ rfl
 have hurw : ∀ w1 : World, (underlying t).run E.P w1 = .ok (.slice e) w1 := fun w1 => run_underlying (P := E.P) (t := t) (d := .slice e) hu w1
 subst ht1 hw1
 have harr : (⟨vo⟩ : Array Value) ++ ((⟨vn⟩ : Array Value) ++ Builtin.zeroCells z.cells (newCap - (len + n))) = ⟨(vo ++ vn) ++ (Builtin.zeroCells z.cells (newCap - (len + n))).toList⟩ := by
  apply Array.ext'; simp
 have hfin : (Result.ok (Value.slice (some ⟨w.drew.heap.size, 0, none⟩) (len + n) newCap) (w.drew.alloc (Obj.cells ((⟨vo⟩ : Array Value) ++ ((⟨vn⟩ : Array Value) ++ Builtin.zeroCells z.cells (newCap - (len + n)))) e)) : Result Value) =
  .ok (.slice (some ⟨w.heap.size, 0, none⟩) (len + n) newCap) { w with drawn := w.drawn + 1, heap := w.heap.push (.cells ⟨(vo ++ vn) ++ (Builtin.zeroCells z.cells (newCap - (len + n))).toList⟩ e) } := by
  rw [harr]; rfl
 refine Eq.trans ?_ hfin
 obtain ⟨u, d, hx0, hud, hdd⟩ := srcOk_cases hx
 have hudr : (underlying u).run E.P w = .ok d w := run_underlying (P := E.P) (t := u) (d := d) hud w
 rcases hdd with ⟨x, rfl⟩ | rfl
 · simp [Builtin.append_, ht, hx0, hurw, hudr, hsize, hlen, hgr, hti, hmax', hcap2, Question.forced, hq, ho, hn, hzv, run_newRow]
 simp [Builtin.append_, ht, hx0, hurw, hudr, hsize, hlen, hgr, hti, hmax', hcap2, Question.forced, hq, ho, hn, hzv, run_newRow]
theorem run_append_fit {w2 : World} {t e : TypeId} {i : TypeInfo} {xt : Option TypeId} {argTypes : Array TypeId} {ty : TypeId} {base : Option Addr} {len cap n : Nat} {x' : Value} {vn : List Value}
 (hu : und E t = some (.slice e)) (hi : E.P.info? e = some i) (ht : argTypes[0]? = some t) (ht1 : argTypes[1]? = xt) (hx : srcOk E xt = true)
 (hlen : (Builtin.lenOf x').run E.P w = .ok n w) (hfit : len + n ≤ cap) (hnew : (Builtin.firstCells i.size n x').run E.P w = .ok ⟨vn⟩ w)
 (hst : match base with | some a => (storeCells (a.add (len * i.size)) vn).run E.P w = .ok () w2 | none => w2 = w) :
 (Builtin.append_ argTypes ty #[.slice base len cap, x']).run E.P w = .ok (.slice base (len + n) cap) w2 := by
 have hsz : szOf E e = i.size := szOf_info hi
 have hsize : ∀ w1 : World, (sizeOf e).run E.P w1 = .ok i.size w1 := fun w1 => by rw [run_size hi, hsz]
 have hurw : ∀ w1 : World, (underlying t).run E.P w1 = .ok (.slice e) w1 := fun w1 => run_underlying (P := E.P) (t := t) (d := .slice e) hu w1
 subst ht1
 obtain ⟨u, d, hx0, hud, hdd⟩ := srcOk_cases hx
 have hudr : (underlying u).run E.P w = .ok d w := run_underlying (P := E.P) (t := u) (d := d) hud w
 cases base with
 | none =>
  simp only at hst; subst hst
  rcases hdd with ⟨x, rfl⟩ | rfl <;> simp [Builtin.append_, ht, hx0, hurw, hudr, hsize, hlen, hfit, hnew]
 | some a =>
  simp only at hst
  rcases hdd with ⟨x, rfl⟩ | rfl <;> simp [Builtin.append_, ht, hx0, hurw, hudr, hsize, hlen, hfit, hnew, hst]
end Go.Am
