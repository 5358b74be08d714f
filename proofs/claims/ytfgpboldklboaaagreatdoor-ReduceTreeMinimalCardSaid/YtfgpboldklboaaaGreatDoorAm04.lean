/-
  PROVED here: steps on the way to the card of 'sleuthlaw06.ReduceTreeMinimal' (an abstract machine, its soundness, what each function computes). No conditions beyond those that each theorem states.
-/
import Derived.Test.YtfgpboldklboaaaGreatDoorAm03
namespace Go.Am
variable {E : Env} {w0 w : World} {ρ : Emb} {m : Mem}
def nilSem (x : Value) : Sem Value := match x with
 | .pointer none | .nilIface | .nilFunc => runtimePanic .nilDeref
 | .func (.method name) first captured => do pure (.func (.method name) first captured)
 | x => pure x
theorem part_ok {t : TypeId} {cs cs' : Array Value} {off : Nat} {v : Value} (hv : partV E t cs off = some v) (hc : VL ρ w0.heap.size cs.toList cs'.toList) (w : World) :
 ∃ v', (part t cs' off).run E.P w = .ok v' w ∧ VR ρ w0.heap.size v v' := by
 unfold partV at hv
 cases e : isAgg E t with
 | none => rw [e] at hv; cases hv
 | some ag =>
  rw [e] at hv
  obtain ⟨i, hi⟩ := isAgg_info e
  cases ag with
  | true =>
   simp only [Option.some.injEq] at hv
   subst hv
   refine ⟨.agg (cs'.extract off (off + szOf E t)), by simp [part, run_isAgg e, run_size hi], VR.agg_of ⟨?_, fun j => ?_⟩⟩
   · have := hc.1; simp at this ⊢; omega
   rw [← arr_getD, ← arr_getD]
   have hl := hc.1
   simp only [Array.length_toList] at hl
   by_cases hj : j < (cs.extract off (off + szOf E t)).size
   · have hj' : j < (cs'.extract off (off + szOf E t)).size := by simp at hj ⊢; omega
     simp only [Array.getD, hj, hj', dite_true, Array.getInternal_eq_getElem, Array.getElem_extract]
     have := hc.2 (off + j)
     rw [← arr_getD, ← arr_getD] at this
     simp only [Array.size_extract] at hj hj'
     simpa [Array.getD, show off + j < cs.size by omega, show off + j < cs'.size by omega] using this
   have hj' : ¬ j < (cs'.extract off (off + szOf E t)).size := by simp at hj ⊢; omega
   simp only [Array.getD, hj, hj', dite_false]
   exact .undef _
  | false =>
   simp only at hv
   obtain ⟨v', e1, e2⟩ := hc.get (i := off) (v := v) (by simpa using hv)
   refine ⟨v', ?_, e2⟩
   have e3 : cs'[off]? = some v' := by simpa using e1
   simp [part, run_isAgg e, e3]
theorem opField_ok (h : MR E w0 ρ m w) (t : TypeId) (f : Nat) {x x' : Value} (hx : VR ρ w0.heap.size x x') : ValOk E w0 ρ m w (Instr.field t x' f) (opField E t x f m) := by
 unfold opField
 cases hu : und E t with
 | none => exact trivial
 | some d =>
  cases d with
  | struct fs =>
   cases hx with
   | agg hs hh =>
    simp only
    cases hf : fs[f]? with
    | none => exact trivial
    | some fd =>
     simp only
     rename_i cs cs'
     cases hp : partV E fd.type cs fd.offset with
     | none => exact trivial
     | some v =>
      obtain ⟨v', e1, e2⟩ := part_ok hp (VL.of_arr hs hh) w
      exact ValOk.same h (by simp [Instr.field, run_underlying hu, hf, asAgg, e1]) e2
   | _ => exact trivial
  | _ => exact trivial
theorem opFieldAddr_ok (h : MR E w0 ρ m w) (t : TypeId) (f : Nat) {x x' : Value} (hx : VR ρ w0.heap.size x x') : ValOk E w0 ρ m w (Instr.fieldAt t x' f) (opFieldAddr E t x f m) := by
 unfold opFieldAddr
 cases hu : und E t with
 | none => exact trivial
 | some d =>
  cases d with
  | struct fs =>
   cases ha : addrOf x with
   | none => exact trivial
   | some p =>
    obtain ⟨b, o⟩ := p
    obtain ⟨b', s, h1, rfl⟩ := addrOf_vr ha hx
    simp only
    cases hf : fs[f]? with
    | none => exact trivial
    | some fd =>
     simp only
     split
     · exact trivial
     rename_i hz
     cases hi : E.P.info? fd.type with
     | none => exact absurd (by simp [szOf, Program.cellsOf, hi]) hz
     | some i =>
      refine ValOk.same h (v' := .pointer (some ⟨b', s + (o + fd.offset), none⟩)) ?_ (.ptr h1)
      simp [Instr.fieldAt, run_underlying hu, hf, Instr.sureAddr, fieldPlace, run_size hi, hz, addr_add, Nat.add_assoc]
  | _ => exact trivial
theorem opIndexAddr_ok (h : MR E w0 ρ m w) (t : TypeId) {x x' i i' : Value} (hx : VR ρ w0.heap.size x x') (hi : VR ρ w0.heap.size i i') :
 ValOk E w0 ρ m w (Instr.indexAt t x' i') (opIndexAddr E t x i m) := by
 unfold opIndexAddr
 cases hu : und E t with
 | none => exact trivial
 | some d =>
  cases d with
  | array n e =>
   cases hx with
   | ptr h1 =>
    cases hi with
    | int k i =>
     simp only
     split
     · rename_i hc
       simp only [Bool.and_eq_true, decide_eq_true_eq] at hc
       obtain ⟨inf, hinf⟩ := Option.isSome_iff_exists.1 hc.2
       rename_i b o b' s
       refine ValOk.same h (v' := .pointer (some ((⟨b', s + o, none⟩ : Addr).add (i.toNat * szOf E e)))) ?_ ?_
       · simp [Instr.indexAt, asIntOf, run_underlying hu, Instr.sureAddr, hc.1.1, hc.1.2, run_size hinf]
       rw [addr_add, addr_add, Nat.add_assoc]; exact .ptr h1
     exact trivial
    | _ => exact trivial
   | _ => exact trivial
  | slice e =>
   cases hx with
   | slice0 a =>
    cases hi with
    | int k i =>
     simp only
     split
     · rename_i hc
       simp only [Bool.and_eq_true, decide_eq_true_eq] at hc
       omega
     exact trivial
    | _ => exact trivial
   | slice h1 hc1 ho hl =>
    cases hi with
    | int k i =>
     simp only
     split
     · rename_i hc
       simp only [Bool.and_eq_true, decide_eq_true_eq] at hc
       obtain ⟨inf, hinf⟩ := Option.isSome_iff_exists.1 hc.2
       rename_i b o b' s o' len c cap
       rw [ho (.inl (by omega))]
       refine ValOk.same h (v' := .pointer (some ((⟨b', s + o, none⟩ : Addr).add (i.toNat * szOf E e)))) ?_ ?_
       · simp [Instr.indexAt, asIntOf, run_underlying hu, hc.1.1, hc.1.2, run_size hinf]
       rw [addr_add, addr_add, Nat.add_assoc]; exact .ptr h1
     exact trivial
    | _ => exact trivial
   | _ => exact trivial
  | _ => exact trivial
end Go.Am
namespace Go.Am
variable {E : Env} {w0 w : World} {ρ : Emb} {m : Mem}
theorem opIndex_ok (h : MR E w0 ρ m w) (t : TypeId) {x x' i i' : Value} (hx : VR ρ w0.heap.size x x') (hi : VR ρ w0.heap.size i i') :
 ValOk E w0 ρ m w (Instr.index t x' i') (opIndex E t x i m) := by
 unfold opIndex
 cases hu : und E t with
 | none => exact trivial
 | some d =>
  cases d with
  | array n e =>
   cases hx with
   | agg hs hh =>
    cases hi with
    | int k i =>
     simp only
     split
     ·
      rename_i hc
      simp only [Bool.and_eq_true, decide_eq_true_eq] at hc
      obtain ⟨inf, hinf⟩ := Option.isSome_iff_exists.1 hc.2
      rename_i cs cs'
      cases hp : partV E e cs (i.toNat * szOf E e) with
      | none => exact trivial
      | some v =>
       obtain ⟨v', e1, e2⟩ := part_ok hp (VL.of_arr hs hh) w
       exact ValOk.same h (by simp [Instr.index, asIntOf, run_underlying hu, hc.1.1, hc.1.2, run_size hinf, e1]) e2
     exact trivial
    | _ => exact trivial
   | _ => exact trivial
  | string =>
   cases hx with
   | string s =>
    cases hi with
    | int k i =>
     simp only
     exact ValOk.pureRun h
    | _ => exact trivial
   | _ => exact trivial
  | _ => exact trivial
theorem opUn_ok (h : MR E w0 ρ m w) (op : UnOp) {x x' : Value} (hx : VR ρ w0.heap.size x x') : ValOk E w0 ρ m w (Op.unary op x') (opUn E op x m) := by
 unfold opUn
 split
 · rename_i hf; rw [flat_eq 9 hf hx]; exact ValOk.pureRun h
 exact trivial
theorem opMakeInterface_ok (h : MR E w0 ρ m w) (t : TypeId) {x x' : Value} (hx : VR ρ w0.heap.size x x') : ValOk E w0 ρ m w (Instr.makeInterface t x') (opMakeInterface E t x m) := by
 unfold opMakeInterface
 cases hu : und E t with
 | none => exact trivial
 | some d => cases d <;> first
  | exact trivial
  | exact ValOk.same h (v' := .iface t x') (by simp [Instr.makeInterface, run_underlying hu]) (.iface t hx)
theorem vl_map (f f' : Operand → Value) (hf : ∀ x, VR ρ w0.heap.size (f x) (f' x)) (l : Array Operand) : VL ρ w0.heap.size (l.map f).toList (l.map f').toList := by
 simp only [Array.toList_map]
 induction l.toList with
 | nil => exact VL.nil
 | cons x xs ih => exact VL.cons (hf x) ih
theorem opMakeFunc_ok (h : MR E w0 ρ m w) (fn : Fn) {a a' c c' : Array Value} (ha : VL ρ w0.heap.size a.toList a'.toList) (hc : VL ρ w0.heap.size c.toList c'.toList) :
 ValOk E w0 ρ m w (Instr.makeFunc fn a' c') (opMakeFunc fn a c m) := by
 unfold opMakeFunc
 cases fn with
 | yield l => exact trivial
 | func f => exact ValOk.same h rfl (VR.func_of (.func f) ha hc)
 | method n => exact ValOk.same h rfl (VR.func_of (.method n) ha hc)
 | methodOf t n => exact ValOk.same h rfl (VR.func_of (.methodOf t n) ha hc)
 | via t p f q => exact ValOk.same h rfl (VR.func_of (.via t p f q) ha hc)
theorem opMakeMap_ok (h : MR E w0 ρ m w) (t : TypeId) (r r' : Option Value) (hr : OptVR ρ w0.heap.size r r') :
 ValOk E w0 ρ m w (Instr.makeMap t r') (opMakeMap E t r m) := by
 have key : ∀ (w' : World), w' = { w with heap := w.heap.push (.map #[] 0) } → ∀ s : Sem Value, s.run E.P w = .ok (.map (some w.heap.size)) w' →
  ValOk E w0 ρ m w s (.value (.map (some m.nb)) (m.new (.map [] 0))) := by
  intro w' hw' s hs
  subst hw'
  have hb := h.newBlk (w' := { w with heap := w.heap.push (.map #[] 0) }) (.map [] 0) (.map #[] 0) 0 0 0 ⟨rfl, rfl, rfl⟩ rfl
   ⟨rfl, #[], by simp, rfl, fun i e x => by simp at x⟩
  exact ⟨_, _, _, hs, .map Emb.at_nb (Mem.nb_odd m), hb.1, hb.2⟩
 unfold opMakeMap
 cases r with
 | none =>
  cases r' with
  | none => exact key _ rfl _ (by simp [Instr.makeMap])
  | some b => exact hr.elim
 | some a =>
  cases r' with
  | none => exact hr.elim
  | some b =>
   simp only
   cases hu : und E t with
   | none => exact trivial
   | some d =>
    cases d with
    | map k e =>
     simp only [OptVR] at hr
     cases hr with
     | int k n => exact key _ rfl _ (by simp [Instr.makeMap, run_underlying hu, asInt, asIntOf])
     | _ => exact trivial
    | _ => exact trivial
theorem wrap_small {n : Int} (h0 : 0 ≤ n) (h1 : n ≤ 1048576) : IntKind.i64.wrap n = n := by
 unfold IntKind.wrap
 have : n % (2 ^ IntKind.i64.bits : Int) = n := Int.emod_eq_of_lt h0 (by simp [IntKind.bits]; omega)
 rw [this]
 simp [IntKind.bits, IntKind.signed]
 omega
theorem opMakeSlice_ok (h : MR E w0 ρ m w) (t : TypeId) {l l' c c' : Value} (hl : VR ρ w0.heap.size l l') (hc : VR ρ w0.heap.size c c') : ValOk E w0 ρ m w (Instr.makeSlice t l' c') (opMakeSlice E t l c m) := by
 unfold opMakeSlice
 cases hu : und E t with
 | none => exact trivial
 | some d =>
  cases d with
  | slice e =>
   cases hl with
   | int k l =>
    cases hc with
    | int k2 c =>
     simp only
     cases hi : E.P.info? e with
     | none => exact trivial
     | some i =>
      simp only
      split
      ·
       rename_i hcnd
       simp only [Bool.and_eq_true, decide_eq_true_eq] at hcnd
       obtain ⟨⟨⟨h0, h1⟩, h2⟩, h3⟩ := hcnd
       have hwl := wrap_small h0 (by omega : l ≤ 1048576)
       have hwc := wrap_small (by omega : 0 ≤ c) h2
       have hsz : szOf E e = i.size := szOf_info hi
       have hbig : ¬ ((i.bytes : Int) * c > 2 ^ 48) := by
        have : (i.bytes : Int) * c ≤ 1048576 * 1048576 := Int.mul_le_mul (by omega) h2 (by omega) (by omega)
        omega
       split
       ·
        rename_i z hz
        have key : ∃ zc : Array Value, (if c.toNat * i.size = 0 then pure #[] else do pure (← zeroValue e).cells : Sem (Array Value)).run E.P w = .ok zc w ∧
         VL ρ w0.heap.size ((Array.range (c.toNat * i.size)).map (z.cells[· % z.cells.size]!)).toList ((Array.range (c.toNat * i.size)).map (zc[· % zc.size]!)).toList := by
         by_cases hz0 : c.toNat * i.size = 0
         · rw [if_pos hz0] at hz; cases hz
           exact ⟨#[], by simp [hz0], by rw [hz0]; simp; exact VL.nil⟩
         rw [if_neg hz0] at hz
         obtain ⟨hzr, hfl, _⟩ := zeroOf_run hz w
         have hzd : defd z = true := by cases z <;> simp_all [defd, flat]
         exact ⟨z.cells, by rw [if_neg hz0]; simp [hzr], vl_zeros hfl hzd _⟩
        obtain ⟨zc, hzc, hvl⟩ := key
        split
        ·
         rename_i m' hm
         obtain ⟨ρ', ha, hM, hE⟩ := h.newCells hm hvl (like_push w (.cells ((Array.range (c.toNat * i.size)).map (zc[· % zc.size]!)) e)) rfl
         refine ⟨ρ', _, .slice (some ⟨w.heap.size, 0, none⟩) l.toNat c.toNat, ?_, vr_slice_new ha _ _ (by omega), hM, hE⟩
         simp only [Instr.makeSlice, Sem.run_bind, run_underlying hu, Result.andThen_ok, asInt, asIntOf, Sem.run_pure, run_typeInfo w hi, hwl, hwc]
         have hc1 : (decide (c < 0) || decide ((i.bytes : Int) * c > 2 ^ 48)) = false := by simp; omega
         rw [hc1]
         have hc2 : (false || decide (l < 0) || decide (l > c)) = false := by simp; omega
         rw [hc2]
         simp only [Bool.false_eq_true, if_false, Sem.run_bind, run_askRoom, Result.andThen_ok, sizeOf, run_typeInfo w hi, Sem.run_pure]
         by_cases hz0 : c.toNat * i.size = 0
         · simp only [hz0, if_true, Sem.run_pure, Result.ok.injEq, and_true] at hzc
           subst hzc
           simp only [hz0, if_true, Sem.run_bind, Sem.run_pure, Result.andThen_ok, run_newRow]
         simp only [hz0, if_false] at hzc
         simp only [hz0, if_false, Sem.run_bind, Sem.run_pure]
         simp only [Sem.run_bind, Sem.run_pure] at hzc
         cases hz2 : (zeroValue e).run E.P w with
         | halt hh w2 => rw [hz2] at hzc; cases hzc
         | ok zz w2 =>
          rw [hz2] at hzc
          simp only [Result.andThen_ok, Result.ok.injEq] at hzc
          obtain ⟨hq, rfl⟩ := hzc
          subst hq
          simp only [Result.andThen_ok, run_newRow]
        exact trivial
       exact trivial
      exact trivial
    | _ => exact trivial
   | _ => exact trivial
  | _ => exact trivial
end Go.Am
namespace Go.Am
variable {E : Env} {w0 w : World} {ρ : Emb} {m : Mem}
theorem bnd_ok {v v' : Option Value} {dflt n : Nat} (h : bnd v dflt = some n) (hv : OptVR ρ w0.heap.size v v')
 (y : Nat) (code : BoundsCode) : (v = none ∧ v' = none ∧ n = dflt) ∨ ∃ a', v' = some a' ∧ (n ≤ y → (Instr.sliceBound a' y code).run E.P w = .ok n w) := by
 cases v with
 | none =>
  cases v' with
  | none => simp only [bnd, Option.some.injEq] at h; exact .inl ⟨rfl, rfl, h.symm⟩
  | some b => exact hv.elim
 | some a =>
  cases v' with
  | none => exact hv.elim
  | some b =>
   right
   simp only [OptVR] at hv
   cases hv with
   | int k i =>
    simp only [bnd] at h
    split at h
    · rename_i h0
      cases h
      refine ⟨_, rfl, fun hy => ?_⟩
      simp [Instr.sliceBound, asIntOf, h0]
      omega
    cases h
   | _ => simp [bnd, undef] at h
theorem bounds_ok {lo lo' hi hi' : Option Value} {l hh dl : Nat} (isS : Bool) (len cap : Nat) (h1 : bnd lo 0 = some l) (h2 : bnd hi dl = some hh) (hdl : dl = len)
 (hlo : OptVR ρ w0.heap.size lo lo')
 (hhi : OptVR ρ w0.heap.size hi hi') (hl : l ≤ hh) (hc : hh ≤ cap) :
 (Instr.sliceBounds isS len cap lo' hi' none).run E.P w = .ok (l, hh, cap) w := by
 rcases bnd_ok (E := E) (w := w) h2 hhi cap (if isS then .sliceAcap else .sliceAlen) with ⟨_, rfl, rfl⟩ | ⟨a, rfl, ha⟩
 · subst hdl
   rcases bnd_ok (E := E) (w := w) h1 hlo hh .sliceB with ⟨_, rfl, rfl⟩ | ⟨b, rfl, hb⟩
   · simp [Instr.sliceBounds]
   simp [Instr.sliceBounds, hb hl]
 rcases bnd_ok (E := E) (w := w) h1 hlo hh .sliceB with ⟨_, rfl, rfl⟩ | ⟨b, rfl, hb⟩
 · simp [Instr.sliceBounds, ha hc]
 simp [Instr.sliceBounds, ha hc, hb hl]
theorem bounds3_ok {lo lo' hi hi' : Option Value} {l hh : Nat} {k : IntKind} {i : Int} (len cap : Nat) (h1 : bnd lo 0 = some l) (h2 : bnd hi len = some hh) (hhs : hi'.isSome)
 (hlo : OptVR ρ w0.heap.size lo lo')
 (hhi : OptVR ρ w0.heap.size hi hi') (hl : l ≤ hh) (hc : (hh : Int) ≤ i) (hk : i ≤ (cap : Int)) :
 (Instr.sliceBounds true len cap lo' hi' (some (.int k i))).run E.P w = .ok (l, hh, i.toNat) w := by
 have h0 : 0 ≤ i := by omega
 have hm : (Instr.sliceBound (.int k i) cap .slice3Acap).run E.P w = .ok i.toNat w := by simp [Instr.sliceBound, asIntOf, h0, hk]
 rcases bnd_ok (E := E) (w := w) h2 hhi i.toNat .slice3B with ⟨_, rfl, _⟩ | ⟨a, rfl, ha⟩
 · cases hhs
 rcases bnd_ok (E := E) (w := w) h1 hlo hh .slice3C with ⟨_, rfl, rfl⟩ | ⟨b, rfl, hb⟩
 · simp [Instr.sliceBounds, hm, ha (by omega)]
 simp [Instr.sliceBounds, hm, ha (by omega), hb hl]
theorem capR_len {b o c cap : Nat} (h : CapR ρ b o c cap) : capOf c ≤ cap := by
 rcases h with ⟨_, h⟩ | ⟨_, _, L, _, h, _⟩ <;> omega
theorem mk_exact (n : Nat) : exact (mkCap n true) = true ∧ capOf (mkCap n true) = n := ⟨by simp [exact, mkCap], by simp [capOf, mkCap]; omega⟩
theorem mk_open (n : Nat) : exact (mkCap n false) = false ∧ capOf (mkCap n false) = n := ⟨by simp [exact, mkCap], by simp [capOf, mkCap]⟩
theorem opSlice_ok (h : MR E w0 ρ m w) (t : TypeId) {x x' : Value} {lo lo' hi hi' mx mx' : Option Value} (hx : VR ρ w0.heap.size x x')
 (hlo : OptVR ρ w0.heap.size lo lo')
 (hhi : OptVR ρ w0.heap.size hi hi')
 (hmx : OptVR ρ w0.heap.size mx mx') (hm3 : mx.isSome → hi.isSome) :
 ValOk E w0 ρ m w (Instr.sliceAt t x' lo' hi' mx') (opSlice E t x lo hi mx m) := by
 unfold opSlice
 cases hs : sliceV E m t x lo hi mx with
 | none => exact trivial
 | some v =>
  simp only [rv]
  unfold sliceV at hs
  cases hu : und E t with
  | none => rw [hu] at hs; simp at hs
  | some d =>
   rw [hu] at hs
   cases d with
   | string =>
    cases hx with
    | string s =>
     simp only at hs
     cases h1 : bnd lo 0 with
     | none => rw [h1] at hs; cases hs
     | some l =>
      cases h2 : bnd hi s.size with
      | none => rw [h1, h2] at hs; cases hs
      | some hh =>
       rw [h1, h2] at hs
       cases mx with
       | some _ => simp at hs
       | none =>
        cases mx' with
        | some _ => exact hmx.elim
        | none =>
         simp only at hs
         split at hs
         · rename_i hc
           simp only [Bool.and_eq_true, decide_eq_true_eq] at hc
           cases hs
           refine ValOk.same h (v' := .string (s.extract l hh)) ?_ (.string _)
           have hb := bounds_ok (E := E) (w := w) false s.size s.size h1 h2 rfl hlo hhi hc.1 hc.2
           simp [Instr.sliceAt, run_underlying hu, Instr.slice, hb]
         cases hs
    | undef => simp [undef] at hs
    | _ => simp at hs
   | slice e =>
    cases hx with
    | snil =>
     simp only at hs
     split at hs
     ·
      rename_i hi0
      obtain ⟨inf, hinf⟩ := Option.isSome_iff_exists.1 hi0
      cases h1 : bnd lo 0 with
      | none => rw [h1] at hs; simp at hs
      | some l =>
       cases h2 : bnd hi 0 with
       | none => rw [h1, h2] at hs; simp at hs
       | some hh =>
        rw [h1, h2] at hs
        cases mx with
        | some _ => simp at hs
        | none =>
         cases mx' with
         | some _ => exact hmx.elim
         | none =>
          cases l with
          | succ l => simp at hs
          | zero =>
           cases hh with
           | succ hh => simp at hs
           | zero =>
            simp only [Option.some.injEq] at hs
            subst hs
            refine ValOk.same h (v' := .slice none 0 0) ?_ .snil
            have hb := bounds_ok (E := E) (w := w) true 0 0 h1 h2 rfl hlo hhi (Nat.le_refl _) (Nat.le_refl _)
            simp [Instr.sliceAt, run_underlying hu, Instr.slice, hb, run_size hinf]
     cases hs
    | slice0 a =>
     simp only at hs
     split at hs
     ·
      rename_i hc0
      simp only [Bool.and_eq_true] at hc0
      obtain ⟨inf, hinf⟩ := Option.isSome_iff_exists.1 hc0.1
      have hex1 : exact 1 = true := rfl
      have hcp1 : capOf 1 = 0 := rfl
      cases h1 : bnd lo 0 with
      | none => rw [h1] at hs; simp at hs
      | some l =>
       cases h2 : bnd hi 0 with
       | none => rw [h1, h2] at hs; simp at hs
       | some hh =>
        rw [h1, h2] at hs
        cases mx with
        | none =>
         cases mx' with
         | some _ => exact hmx.elim
         | none =>
          simp only at hs
          split at hs
          · rename_i hcnd
            simp only [Bool.and_eq_true, decide_eq_true_eq] at hcnd
            cases hs
            have hl0 : l = 0 := by omega
            have hh0 : hh = 0 := by omega
            subst hl0 hh0
            have hb := bounds_ok (E := E) (w := w) true 0 0 h1 h2 rfl hlo hhi hcnd.1 (by omega)
            refine ValOk.same h (v' := .slice (some a) 0 0) ?_ ?_
            · simp only [Instr.sliceAt, Sem.run_bind, run_underlying hu, Result.andThen_ok, Instr.slice, hb, run_size hinf, Sem.run_pure]
              simp
            exact .slice0 a
          cases hs
        | some mv =>
         cases mx' with
         | none => exact hmx.elim
         | some mv' =>
          simp only [OptVR] at hmx
          cases hmx with
          | int k i =>
           simp only at hs
           split at hs
           ·
            rename_i hcnd
            simp only [Bool.and_eq_true, decide_eq_true_eq] at hcnd
            cases hs
            have hhs : hi'.isSome := by
             have := hm3 rfl
             cases hi with
             | none => cases this
             | some a => cases hi' with
              | none => exact hhi.elim
              | some b => rfl
            have hl0 : l = 0 := by omega
            have hh0 : hh = 0 := by omega
            have hi0 : i = 0 := by omega
            subst hl0 hh0 hi0
            have hb := bounds3_ok (E := E) (w := w) (k := k) 0 0 h1 h2 hhs hlo hhi hcnd.1.1.1 hcnd.1.1.2 (by omega)
            refine ValOk.same h (v' := .slice (some a) 0 0) ?_ (.slice0 a)
            simp only [Instr.sliceAt, Sem.run_bind, run_underlying hu, Result.andThen_ok, Instr.slice, hb, run_size hinf, Sem.run_pure]
            simp
           cases hs
          | undef => simp [undef] at hs
          | _ => simp at hs
     cases hs
    | slice ha hcap ho hlen =>
     rename_i b o b' s o' len c cap
     simp only at hs
     split at hs
     ·
      rename_i hc0
      simp only [Bool.and_eq_true] at hc0
      obtain ⟨inf, hinf⟩ := Option.isSome_iff_exists.1 hc0.1
      have hcut := hc0.2
      cases h1 : bnd lo 0 with
      | none => rw [h1] at hs; simp at hs
      | some l =>
       cases h2 : bnd hi len with
       | none => rw [h1, h2] at hs; simp at hs
       | some hh =>
        rw [h1, h2] at hs
        have hcl := capR_len hcap
        cases mx with
        | none =>
         cases mx' with
         | some _ => exact hmx.elim
         | none =>
          simp only at hs
          split at hs
          ·
           rename_i hcnd
           simp only [Bool.and_eq_true, decide_eq_true_eq] at hcnd
           cases hs
           have hb := bounds_ok (E := E) (w := w) true len cap h1 h2 rfl hlo hhi hcnd.1 (by omega)
           refine ValOk.same h (v' := .slice (some (if cap = l then ⟨b', o', none⟩ else (⟨b', o', none⟩ : Addr).add (l * szOf E e))) (hh - l) (cap - l)) ?_ ?_
           · simp only [Instr.sliceAt, Sem.run_bind, run_underlying hu, Result.andThen_ok, Instr.slice, hb, run_size hinf, Sem.run_pure]
             split <;> simp
           rcases hcap with ⟨hex, hcc⟩ | ⟨hex, hodd, L, hL, hcc, hend⟩
           · rw [hex]
             simp only [Bool.true_and, beq_iff_eq]
             have ho' := ho (.inr hex)
             by_cases hlc : l = capOf c
             · rw [if_pos hlc, if_pos (by omega)]
               exact .slice ha (.inl ⟨(mk_exact _).1, by rw [(mk_exact _).2]; omega⟩) (fun _ => ho') (by omega)
             rw [if_neg hlc, if_neg (by omega), addr_add, addr_add]
             exact .slice ha (.inl ⟨(mk_exact _).1, by rw [(mk_exact _).2]; omega⟩) (fun _ => by omega) (by omega)
           rw [hex]
           simp only [Bool.false_and, Bool.false_eq_true, if_false]
           have hes : L.es = szOf E e := by
            unfold cutOk at hcut
            rw [hex, Bool.false_or] at hcut
            cases hlv : m.live b with
            | none => rw [hlv] at hcut; cases hcut
            | some k =>
             rw [hlv] at hcut
             simp only [Bool.and_eq_true, beq_iff_eq] at hcut
             obtain ⟨_, L', hL', _, _, _, _, _, _, hsl, _⟩ := h.live hlv ha
             rw [hL] at hL'; cases hL'
             rw [(hsl hcut.1).1, ← hcut.2]; rfl
           by_cases hlc : cap = l
           · rw [if_pos hlc, addr_add]
             refine .slice ha (.inr ⟨(mk_open _).1, hodd, L, hL, by rw [(mk_open _).2]; omega, ?_⟩) (fun hx => ?_) (by omega)
             · rw [(mk_open _).2, ← hend, hes, Nat.add_assoc, ← Nat.add_mul]; congr 2; omega
             rcases hx with hx | hx
             · omega
             rw [(mk_open _).1] at hx; cases hx
           rw [if_neg hlc, addr_add, addr_add]
           refine .slice ha (.inr ⟨(mk_open _).1, hodd, L, hL, by rw [(mk_open _).2]; omega, ?_⟩) (fun hx => ?_) (by omega)
           · rw [(mk_open _).2, ← hend, hes, Nat.add_assoc, ← Nat.add_mul]; congr 2; omega
           have := ho (.inl (by omega)); omega
          cases hs
        | some mv =>
         cases mx' with
         | none => exact hmx.elim
         | some mv' =>
          simp only [OptVR] at hmx
          cases hmx with
          | int k i =>
           simp only at hs
           split at hs
           ·
            rename_i hcnd
            simp only [Bool.and_eq_true, decide_eq_true_eq] at hcnd
            cases hs
            have hhs : hi'.isSome := by
             have := hm3 rfl
             cases hi with
             | none => cases this
             | some a => cases hi' with
              | none => exact hhi.elim
              | some b => rfl
            have hb := bounds3_ok (E := E) (w := w) (k := k) len cap h1 h2 hhs hlo hhi hcnd.1.1.1 hcnd.1.1.2 (by omega)
            refine ValOk.same h (v' := .slice (some (if i.toNat = l then ⟨b', o', none⟩ else (⟨b', o', none⟩ : Addr).add (l * szOf E e))) (hh - l) (i.toNat - l)) ?_ ?_
            · simp only [Instr.sliceAt, Sem.run_bind, run_underlying hu, Result.andThen_ok, Instr.slice, hb, run_size hinf, Sem.run_pure]
              split <;> simp
            have ho' : o' = s + o := ho (by
             have := hcnd.2
             simp only [Bool.or_eq_true, decide_eq_true_eq] at this
             rcases this with this | this
             · exact .inr this
             exact .inl (by omega))
            by_cases hlc : (l : Int) = i
            · rw [if_pos hlc, if_pos (by omega)]
              exact .slice ha (.inl ⟨(mk_exact _).1, by rw [(mk_exact _).2]⟩) (fun _ => ho') (by omega)
            rw [if_neg hlc, if_neg (by omega), addr_add, addr_add]
            exact .slice ha (.inl ⟨(mk_exact _).1, by rw [(mk_exact _).2]⟩) (fun _ => by omega) (by omega)
           cases hs
          | undef => simp [undef] at hs
          | _ => simp at hs
     cases hs
    | undef => simp [undef] at hs
    | _ => simp at hs
   | array n e =>
    cases hx with
    | ptr ha =>
     simp only at hs
     split at hs
     ·
      rename_i hi0
      obtain ⟨inf, hinf⟩ := Option.isSome_iff_exists.1 hi0
      cases h1 : bnd lo 0 with
      | none => rw [h1] at hs; cases hs
      | some l =>
       cases h2 : bnd hi n with
       | none => rw [h1, h2] at hs; cases hs
       | some hh =>
        rw [h1, h2] at hs
        cases mx with
        | some _ => simp at hs
        | none =>
         cases mx' with
         | some _ => exact hmx.elim
         | none =>
          simp only at hs
          split at hs
          · rename_i hc
            simp only [Bool.and_eq_true, decide_eq_true_eq] at hc
            cases hs
            rename_i b o b' s
            have hb := bounds_ok (E := E) (w := w) false n n h1 h2 rfl hlo hhi hc.1 hc.2
            refine ValOk.same h (v' := .slice (some (if n = l then ⟨b', s + o, none⟩ else (⟨b', s + o, none⟩ : Addr).add (l * szOf E e))) (hh - l) (n - l)) ?_ ?_
            · simp [Instr.sliceAt, run_underlying hu, Instr.sureAddr, hb, run_size hinf]
            by_cases hlc : l = n
            · rw [if_pos hlc, if_pos hlc.symm]
              exact .slice ha (.inl ⟨(mk_exact _).1, by rw [(mk_exact _).2]⟩) (fun _ => rfl) (by omega)
            rw [if_neg hlc, if_neg (fun e => hlc e.symm), addr_add, addr_add, Nat.add_assoc]
            exact .slice ha (.inl ⟨(mk_exact _).1, by rw [(mk_exact _).2]⟩) (fun _ => rfl) (by omega)
          cases hs
     cases hs
    | undef => simp [undef] at hs
    | _ => simp at hs
   | _ => simp at hs
end Go.Am
namespace Go.Am
variable {E : Env} {w0 w : World} {ρ : Emb} {m : Mem}
theorem hull_none {c : Cells} {L : Loc} {flo fhi : Nat} (h : HullR c L flo fhi) (hs : c.str = false) (hl : ¬ c.lo < c.hi) (o : Nat) : ¬ (flo ≤ o ∧ o < fhi) := by
 rcases h.2.2 hs with h | h
 · omega
 exact absurd h.1 hl
theorem run_sameAddr_live (h : MR E w0 ρ m w) {b b2 o o2 b' b2' s s2 : Nat} {c c2 : Cells} (hb : b ≠ b2) (h1 : m.live b = some c) (h2 : m.live b2 = some c2)
 (a1 : ρ.at w0.heap.size b = some (b', s)) (a2 : ρ.at w0.heap.size b2 = some (b2', s2)) (hs : c.str = false) (hs2 : c2.str = false) (hl : ¬ c.lo < c.hi) (hl2 : ¬ c2.lo < c2.hi) :
 (sameAddr ⟨b', s + o, none⟩ ⟨b2', s2 + o2, none⟩).run E.P w = .ok false w := by
 obtain ⟨p1, L, hL, rfl, rfl, hg, hd, _, _, _, C, flo, fhi, hh, _, _, hhull⟩ := h.live h1 a1
 obtain ⟨p2, L2, hL2, rfl, rfl, hg2, hd2, _, _, _, C2, flo2, fhi2, hh2, _, _, hhull2⟩ := h.live h2 a2
 have hne : L.b ≠ L2.b := fun e => by
  have := h.inj _ _ _ _ _ _ hL hL2 hg hg2 (by simp [Blk.alive, hd]) (by simp [Blk.alive, hd2]) e
  omega
 have f1 : ∀ x : Nat, w.frozen? ⟨L.b, x, none⟩ = false := fun x => by
  simp only [World.frozen?, hh]
  have := hull_none hhull hs hl x
  simp; omega
 have f2 : ∀ x : Nat, w.frozen? ⟨L2.b, x, none⟩ = false := fun x => by
  simp only [World.frozen?, hh2]
  have := hull_none hhull2 hs2 hl2 x
  simp; omega
 have s1 : w.shape? L.b = some (c.elem, C.size) := by simp [World.shape?, hh]
 have s2 : w.shape? L2.b = some (c2.elem, C2.size) := by simp [World.shape?, hh2]
 simp [sameAddr, hne, f1, f2, noView, viewAt, s1, s2, mayBeOne, stringish]
theorem eqV_ok (h : MR E w0 ρ m w) {t : TypeId} {x x' y y' : Value} {b : Bool} (he : eqV E t m x y = some b) (hx : VR ρ w0.heap.size x x') (hy : VR ρ w0.heap.size y y') :
 (∀ d, (Op.equalIn (d + 1) t x' y').run E.P w = .ok b w) ∧ (∀ op xo yo, eqGuard op t xo yo x' y' = pure ()) ∧
  binOp .eql t x' y' = (do pure (.bool (← Op.equal t x' y'))) ∧ binOp .neq t x' y' = (do pure (.bool (!(← Op.equal t x' y')))) := by
 unfold eqV at he
 cases hu : und E t with
 | none => rw [hu] at he; simp at he
 | some d =>
  rw [hu] at he
  have hur := run_underlying (P := E.P) (t := t) (d := d) hu w
  cases d with
  | pointer e =>
   cases hx with
   | pnil =>
    cases hy with
    | pnil => simp at he; subst he; exact ⟨fun d => by simp [Op.equalIn, hur], fun op xo yo => by cases op <;> rfl, rfl, rfl⟩
    | ptr h2 => simp at he; subst he; exact ⟨fun d => by simp [Op.equalIn, hur], fun op xo yo => by cases op <;> rfl, rfl, rfl⟩
    | undef => simp [undef] at he
    | _ => simp at he
   | ptr h1 =>
    cases hy with
    | pnil => simp at he; subst he; exact ⟨fun d => by simp [Op.equalIn, hur], fun op xo yo => by cases op <;> rfl, rfl, rfl⟩
    | ptr h2 =>
     rename_i b1 o1 b1' s1 b2 o2 b2' s2
     refine ⟨fun d => ?_, fun op xo yo => by cases op <;> rfl, rfl, rfl⟩
     simp only at he
     cases hi : E.P.info? e with
     | none => rw [hi] at he; simp at he
     | some i =>
      rw [hi] at he
      simp only at he
      split at he
      · cases he
      rename_i hsz
      have hsz' : ¬ szOf E e = 0 := by rw [szOf_info hi]; exact hsz
      split at he
      · rename_i hbb
        subst hbb
        rw [h1] at h2; cases h2
        simp only [Option.some.injEq] at he
        subst he
        have hne : ((⟨b1', s1 + o1, none⟩ : Addr) == ⟨b1', s1 + o2, none⟩) = (o1 == o2) := by
         rw [Bool.eq_iff_iff]; simp
        simp [Op.equalIn, hur, run_size hi, hsz', sameAddr, hne]
      rename_i hbb
      cases hl1 : m.live b1 with
      | none => rw [hl1] at he; simp at he
      | some c1 =>
       cases hl2 : m.live b2 with
       | none => rw [hl1, hl2] at he; simp at he
       | some c2 =>
        rw [hl1, hl2] at he
        simp only at he
        split at he
        · cases he
        rename_i hcnd
        simp only [Bool.or_eq_true, decide_eq_true_eq, not_or] at hcnd
        cases he
        have := run_sameAddr_live (o := o1) (o2 := o2) h hbb hl1 hl2 h1 h2 (by simpa using hcnd.1.1.1) (by simpa using hcnd.1.1.2) (by simpa using hcnd.1.2) (by simpa using hcnd.2)
        simp [Op.equalIn, hur, run_size hi, hsz', this]
    | undef => simp [undef] at he
    | _ => simp at he
   | undef => simp [undef] at he
   | _ => simp at he
  | interface ms =>
   cases hx with
   | nilIface =>
    cases hy with
    | iface t v => simp at he; subst he; exact ⟨fun d => by simp [Op.equalIn, hur], fun op xo yo => by cases op <;> rfl, rfl, rfl⟩
    | undef => simp [undef] at he
    | _ => simp at he
   | iface t1 v1 =>
    cases hy with
    | nilIface => simp at he; subst he; exact ⟨fun d => by simp [Op.equalIn, hur], fun op xo yo => by cases op <;> rfl, rfl, rfl⟩
    | iface t2 v2 =>
     simp only at he
     split at he
     · rename_i hne
       cases he
       exact ⟨fun d => by simp [Op.equalIn, hur, hne], fun op xo yo => by cases op <;> rfl, rfl, rfl⟩
     cases he
    | undef => simp [undef] at he
    | _ => simp at he
   | undef => simp [undef] at he
   | _ => simp at he
  | slice e =>
   cases hx with
   | snil =>
    cases hy with
    | snil => simp at he; subst he; exact ⟨fun d => by simp [Op.equalIn, hur], fun op xo yo => by cases op <;> rfl, rfl, rfl⟩
    | slice h2 => simp at he; subst he; exact ⟨fun d => by simp [Op.equalIn, hur], fun op xo yo => by cases op <;> rfl, rfl, rfl⟩
    | slice0 a => simp at he; subst he; exact ⟨fun d => by simp [Op.equalIn, hur], fun op xo yo => by cases op <;> rfl, rfl, rfl⟩
    | undef => simp [undef] at he
    | _ => simp at he
   | slice h1 =>
    cases hy with
    | snil => simp at he; subst he; exact ⟨fun d => by simp [Op.equalIn, hur], fun op xo yo => by cases op <;> rfl, rfl, rfl⟩
    | undef => simp [undef] at he
    | _ => simp at he
   | slice0 a =>
    cases hy with
    | snil => simp at he; subst he; exact ⟨fun d => by simp [Op.equalIn, hur], fun op xo yo => by cases op <;> rfl, rfl, rfl⟩
    | undef => simp [undef] at he
    | _ => simp at he
   | undef => simp [undef] at he
   | _ => simp at he
  | map k e =>
   cases hx with
   | mnil =>
    cases hy with
    | mnil => simp at he; subst he; exact ⟨fun d => by simp [Op.equalIn, hur], fun op xo yo => by cases op <;> rfl, rfl, rfl⟩
    | map h2 => simp at he; subst he; exact ⟨fun d => by simp [Op.equalIn, hur], fun op xo yo => by cases op <;> rfl, rfl, rfl⟩
    | undef => simp [undef] at he
    | _ => simp at he
   | map h1 =>
    cases hy with
    | mnil => simp at he; subst he; exact ⟨fun d => by simp [Op.equalIn, hur], fun op xo yo => by cases op <;> rfl, rfl, rfl⟩
    | undef => simp [undef] at he
    | _ => simp at he
   | undef => simp [undef] at he
   | _ => simp at he
  | func a b c =>
   cases hx with
   | nilFunc =>
    cases hy with
    | func => simp at he; subst he; exact ⟨fun d => by simp [Op.equalIn, hur], fun op xo yo => by cases op <;> rfl, rfl, rfl⟩
    | undef => simp [undef] at he
    | _ => simp at he
   | func =>
    cases hy with
    | nilFunc => simp at he; subst he; exact ⟨fun d => by simp [Op.equalIn, hur], fun op xo yo => by cases op <;> rfl, rfl, rfl⟩
    | undef => simp [undef] at he
    | _ => simp at he
   | undef => simp [undef] at he
   | _ => simp at he
  | _ => simp at he
theorem opBin_ok (h : MR E w0 ρ m w) (op : BinOp) (t : TypeId) (xo yo : Operand) {x x' y y' : Value} (hx : VR ρ w0.heap.size x x') (hy : VR ρ w0.heap.size y y') :
 ValOk E w0 ρ m w (do eqGuard op t xo yo x' y'; binOp op t x' y') (opBin E op t xo yo x y m) := by
 unfold opBin
 split
 · rename_i hf
   simp only [Bool.and_eq_true] at hf
   rw [flat_eq 9 hf.1 hx, flat_eq 9 hf.2 hy]
   exact ValOk.pureRun h
 rename_i hf
 split
 ·
  cases op with
  | eql =>
   simp only
   cases he : eqV E t m x y with
   | none => exact trivial
   | some b =>
    obtain ⟨e1, e2, e3, _⟩ := eqV_ok h he hx hy
    refine ValOk.same h (v' := .bool b) ?_ (.bool b)
    have e5 : (Op.equal t x' y').run E.P w = .ok b w := e1 9999
    rw [e2, e3]
    simp [e5]
  | neq =>
   simp only
   cases he : eqV E t m x y with
   | none => exact trivial
   | some b =>
    obtain ⟨e1, e2, _, e3⟩ := eqV_ok h he hx hy
    refine ValOk.same h (v' := .bool (!b)) ?_ (.bool (!b))
    have e5 : (Op.equal t x' y').run E.P w = .ok b w := e1 9999
    rw [e2, e3]
    simp [e5]
  | _ => exact trivial
 exact trivial
theorem opAssert_ok (h : MR E w0 ρ m w) (xt a : TypeId) (ok : Bool) {x x' : Value} (hx : VR ρ w0.heap.size x x') : ValOk E w0 ρ m w (Instr.typeAssert x' xt a ok) (opAssert E x a ok m) := by
 have hholds : ∀ {v v' : Value} (s : Sem Value), VR ρ w0.heap.size v v' → s.run E.P w = .ok (if ok then .tuple #[v', .bool true] else v') w → ValOk E w0 ρ m w s (opAssert.holds ok v m) := by
  intro v v' s hv hs
  unfold opAssert.holds
  cases ok with
  | true => exact ValOk.same h hs (VR.tuple_of (VL.cons hv (VL.cons (.bool true) VL.nil)))
  | false => exact ValOk.same h hs hv
 have hfails : ∀ (s : Sem Value), (∀ z, zeroOf E a = some z → ok = true → s.run E.P w = .ok (.tuple #[z, .bool false]) w) → ValOk E w0 ρ m w s (opAssert.fails E a ok m) := by
  intro s hs
  unfold opAssert.fails
  cases ok with
  | false => exact trivial
  | true =>
   simp only [if_true]
   cases hz : zeroOf E a with
   | none => exact trivial
   | some z =>
    exact ValOk.same h (hs z hz rfl) (VR.tuple_of (VL.cons (flat_refl 9 (zeroOf_run hz w).2.1) (VL.cons (.bool false) VL.nil)))
 unfold opAssert
 cases hu : und E a with
 | none => exact trivial
 | some d =>
  have hur := run_underlying (P := E.P) (t := a) (d := d) hu w
  cases hx with
  | nilIface =>
   cases d <;> exact hfails _ (fun z hz hok => by subst hok; simp [Instr.typeAssert, hur, (zeroOf_run hz w).1])
  | iface t hv =>
   rename_i v v'
   cases d with
   | interface want =>
    simp only
    cases hi : E.P.info? t with
    | none => exact trivial
    | some i =>
     simp only
     cases hm : Instr.missingMethod want i.methods with
     | none => exact hholds _ (.iface t hv) (by simp [Instr.typeAssert, hur, run_typeInfo w hi, hm])
     | some s => exact hfails _ (fun z hz hok => by subst hok; simp [Instr.typeAssert, hur, run_typeInfo w hi, hm, (zeroOf_run hz w).1])
   | _ =>
    simp only
    split
    · rename_i ht
      exact hholds _ hv (by simp [Instr.typeAssert, hur, ht])
    rename_i ht
    exact hfails _ (fun z hz hok => by subst hok; simp [Instr.typeAssert, hur, ht, (zeroOf_run hz w).1])
  | undef => cases d <;> exact trivial
  | _ => cases d <;> exact trivial
theorem opExtract_ok (h : MR E w0 ρ m w) (i : Nat) {x x' : Value} (hx : VR ρ w0.heap.size x x') : ValOk E w0 ρ m w (Instr.extract x' i) (opExtract x i m) := by
 unfold opExtract
 cases hx with
 | tuple hs hh =>
  simp only
  rename_i cs cs'
  cases he : cs[i]? with
  | none => exact trivial
  | some v =>
   obtain ⟨v', e1, e2⟩ := (VL.of_arr hs hh).get (i := i) (v := v) (by simpa using he)
   have e3 : cs'[i]? = some v' := by simpa using e1
   exact ValOk.same h (by simp [Instr.extract, e3]) e2
 | undef => simp only [undef]; exact trivial
 | _ => exact trivial
end Go.Am
