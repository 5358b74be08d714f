/-
  PROVED here: steps on the way to the card of 'sleuthlaw06.ReduceTreeMinimal' (an abstract machine, its soundness, what each function computes). No conditions beyond those that each theorem states.
-/
import Derived.Test.YtfgpboldklboaaaGreatDoorAm09
namespace Go.Am
variable {G : Cfg}
theorem run_newObj {P : Program} {w : World} (o : Obj) : (newObj o).run P w = .ok w.heap.size { w with heap := w.heap.push o } := by
 simp [newObj, Sem.run]
theorem enter_ok {w0 w : World} {ρ : Emb} {x : Ctx} {c : Fr} {s : St} {tm : Array Value} {df : List Deferred} {cs : List Frame} {md : FrameMode} (hx : CtxOk G.P ρ w0.heap.size x c) (hs : SR G w0 ρ x s tm df cs md w) (ht : TmpsR ρ w0.heap.size s.tmps tm)
 (params : Array Tmp) (assign body : Code) {db : Nat} {mark : List Deferred} {m1 : Mem}
 (h : (match x.round with
  | some l => match getLoop s.m l with
   | some r => some (r.defers, ([] : List Deferred), s.m)
   | none => none
  | none => some (s.m.nb, [{ target := .collected s.m.nb, args := #[] }], s.m.new (.deferred (some [])))) = some (db, mark, m1)) :
 ∃ l' mark' ρ' w', (Instr.enterLoop x.fn tm params assign body c.rd).run G.P w = .ok (l', mark') w' ∧
  MR G.toEnv w0 ρ' (m1.new (.loop { state := .ready, pending := none, fn := x.fn, tmps := s.tmps, params := params.toList, assign, body, defers := db, nt := x.nt })) w' ∧
  Ext w0 ρ ρ' s.m (m1.new (.loop { state := .ready, pending := none, fn := x.fn, tmps := s.tmps, params := params.toList, assign, body, defers := db, nt := x.nt })) w w' ∧
  DefsR ρ' w0.heap.size mark mark' ∧ ρ'.at w0.heap.size m1.nb = some (l', 0) := by
 have key : ∀ (ρ1 : Emb) (w1 : World) (d' : Nat), MR G.toEnv w0 ρ1 m1 w1 → Ext w0 ρ ρ1 s.m m1 w w1 → db % 2 = 1 → ρ1.at w0.heap.size db = some (d', 0) →
  ∃ ρ' w', (newObj (.loop { state := .ready, pending := none, fn := x.fn, tmps := tm, params, assign, body, defers := d' })).run G.P w1 = .ok w1.heap.size w' ∧
  MR G.toEnv w0 ρ' (m1.new (.loop { state := .ready, pending := none, fn := x.fn, tmps := s.tmps, params := params.toList, assign, body, defers := db, nt := x.nt })) w' ∧
  Ext w0 ρ ρ' s.m (m1.new (.loop { state := .ready, pending := none, fn := x.fn, tmps := s.tmps, params := params.toList, assign, body, defers := db, nt := x.nt })) w w' ∧
  ρ1.le ρ' ∧ ρ'.at w0.heap.size m1.nb = some (w1.heap.size, 0) := by
  intro ρ1 w1 d' hm1 he1 hdb hda
  have hle := Emb.put_le (ρ := ρ1) (k := m1.nxt) (L := ⟨w1.heap.size, 0, 0, 0, 0⟩) hm1.none_nxt
  obtain ⟨a1, a2⟩ := hm1.newBlk (w' := { w1 with heap := w1.heap.push (.loop { state := .ready, pending := none, fn := x.fn, tmps := tm, params, assign, body, defers := d' }) })
   (.loop { state := .ready, pending := none, fn := x.fn, tmps := s.tmps, params := params.toList, assign, body, defers := db, nt := x.nt })
   (.loop { state := .ready, pending := none, fn := x.fn, tmps := tm, params, assign, body, defers := d' }) 0 0 0 ⟨rfl, rfl, rfl⟩ rfl
   ⟨rfl, { state := .ready, pending := none, fn := x.fn, tmps := tm, params, assign, body, defers := d' }, by simp, rfl, rfl, rfl, (ht.mono he1.le).mono hle, rfl, rfl, rfl, hdb, Emb.at_mono hle hda, hs.size⟩
  exact ⟨_, _, run_newObj _, a1, he1.trans a2, hle, Emb.at_nb⟩
 cases hxr : x.round with
 | none =>
  rw [hxr] at h
  simp only [Option.some.injEq, Prod.mk.injEq] at h
  obtain ⟨rfl, rfl, rfl⟩ := h
  have hcr : c.rd = none := by
   have := hx.rd
   rw [hxr] at this
   cases h2 : c.rd <;> rw [h2] at this <;> simp_all
  obtain ⟨a1, a2⟩ := hs.mem.newBlk (w' := { w with heap := w.heap.push (.deferred (some [])) }) (.deferred (some [])) (.deferred (some [])) 0 0 0 ⟨rfl, rfl, rfl⟩ rfl ⟨rfl, [], by simp, .nil⟩
  have hat : (ρ.put s.m.nxt ⟨w.heap.size, 0, 0, 0, 0⟩).at w0.heap.size s.m.nb = some (w.heap.size, 0) := Emb.at_nb
  obtain ⟨ρ', w', b1, b2, b3, b4, b5⟩ := key _ _ _ a1 a2 (Mem.nb_odd _) hat
  refine ⟨_, [{ target := .collected w.heap.size, args := #[] }], ρ', w', ?_, b2, b3, .cons ⟨.collected (Emb.at_mono b4 hat) (Mem.nb_odd _), VL.nil⟩ .nil, b5⟩
  simp only [Instr.enterLoop, hcr, Sem.run_bind, run_newObj, Result.andThen_ok, Sem.run_pure]
  have := b1
  rw [run_newObj] at this
  simp at this ⊢
  exact this
 | some l =>
  rw [hxr] at h
  simp only at h
  cases hl : getLoop s.m l with
  | none => rw [hl] at h; cases h
  | some r =>
   rw [hl] at h
   simp only [Option.some.injEq, Prod.mk.injEq] at h
   obtain ⟨rfl, rfl, rfl⟩ := h
   have hrd := hx.rd
   rw [hxr] at hrd
   cases hcr : c.rd with
   | none => rw [hcr] at hrd; exact hrd.elim
   | some l' =>
    rw [hcr] at hrd
    obtain ⟨_, L, _, _, _, _, r', hr', v1, v2, v3, v4, v5, v6, v7, v8, v9, v10⟩ := getLoop_ok hs.mem hl hrd.1
    obtain ⟨ρ', w', b1, b2, b3, b4, b5⟩ := key ρ w r'.defers hs.mem (Ext.refl ..) v8 v9
    refine ⟨_, [], ρ', w', ?_, b2, b3, .nil, b5⟩
    simp only [Instr.enterLoop, Sem.run_bind, run_getLoop hr', Result.andThen_ok, Sem.run_pure, b1]
theorem run_endLoop {P : Program} {w w' : World} {l : Nat} {r : Loop} (h : w.heap[l]? = some (.loop r)) (hb : r.state ≠ .busy) (hs : (setObj l (.loop { r with state := .exhausted })).run P w = .ok () w') :
 (Instr.endLoop l).run P w = .ok r.pending w' := by
 simp [Instr.endLoop, Sem.run_bind, run_getLoop h, Result.andThen_ok, hs]
 exact fun e => absurd e hb
theorem mv_endRangeFunc {P : Program} {x : Ctx} {c : Fr} {tm : Array Value} {df : List Deferred} {k : List Item} {cs : List Frame} {w w' : World} {l : Nat} {jump : Option Code} (h : (Instr.endLoop l).run P w = .ok jump w') :
 step P (lone (F x c tm df .run (.endRangeFunc l :: k)) cs w) = .next (lone (F x c tm df .run ((jump.map Item.code).toList ++ k)) cs w') :=
 step_lone_go (by simp [stepG, stepG.exec, F, h])
theorem mv_rangeFunc {P : Program} {x : Ctx} {c : Fr} {tm : Array Value} {df mark : List Deferred} {k : List Item} {cs : List Frame} {w w' : World} {l : Nat} {f : Operand} {params : Array Tmp} {assign body : Code} {g : FuncId} {args : Array Value}
 (h : (Instr.enterLoop x.fn tm params assign body c.rd).run P w = .ok (l, mark) w')
 (h2 : (do let d ← resolve (evA tm) { callee := .value f, args := #[.const (.func (.yield l) #[] #[])], argTypes := #[] } 0; invoke d.target d.args).run P w' = .ok (.enter g args) w') :
 step P (lone (F x c tm df .run (.code (.rangeFunc f params assign body) :: k)) cs w) =
  .next (lone (Frame.enter P g args .normal) (F x c tm (mark ++ df) .run (.inRangeFunc l :: k) :: cs) w') := by
 refine step_lone_go ?_
 have he : (F x c tm (mark ++ df) .run (.inRangeFunc l :: k)).eval = evA tm := eval_F
 simp only [F] at he
 simp [stepG, stepG.exec, F, h, stepG.apply, he, h2]
theorem rangeFunc_ok {n : Nat} (hc : CallOk G n) {w0 : World} (hb : Base G w0) {x : Ctx} {f : Operand} {params : Array Tmp} {assign body : Code} {s s' : St} {e : Ex} (he : exec G (n + 1) x (.rangeFunc f params assign body) s = some (e, s'))
 {ρ : Emb} {c : Fr} {k : List Item} {cs : List Frame} {tm : Array Value} {df : List Deferred} {md : FrameMode} {w : World}
 (hx : CtxOk G.P ρ w0.heap.size x c) (hs : SR G w0 ρ x s tm df cs md w) (ht : TmpsR ρ w0.heap.size s.tmps tm) :
 ExRes G w0 ρ x c k cs tm w (lone (F x c tm df .run (.code (.rangeFunc f params assign body) :: k)) (reMode x.deferred cs md) w) s e s' := by
 unfold exec at he
 simp only at he
 split at he
 · cases he
 rename_i db mark m1 hq
 obtain ⟨l', mark', ρ1, w1, a1, a2, a3, a4, a5⟩ := enter_ok hx hs ht params assign body hq
 split at he
 ·
  rename_i g0 first captured hf
  split at he
  ·
   rename_i g args m3 hcv
   have hfr := evalT_ok (G := G) (ρ := ρ) hb (t := s.tmps) (tm := tm) f (fun i _ => ht i)
   rw [hf] at hfr
   generalize hev : evA tm f = v' at hfr
   cases hfr with
   | func hfn hs1 hh1 hs2 hh2 =>
    cases hfn with
    | func =>
     rename_i first' captured'
     have hfirst := (VL.of_arr hs1 hh1).mono a3.le
     have hcapt := (VL.of_arr hs2 hh2).mono a3.le
     have hodd : m1.nb % 2 = 1 := Mem.nb_odd _
     have hyv : VR ρ1 w0.heap.size (Value.func (.yield m1.nb) #[] #[]) (Value.func (.yield l') #[] #[]) :=
      VR.func (.yield a5 hodd) rfl (fun i => by simp; exact .undef _) rfl (fun i => by simp; exact .undef _)
     have hargs : VL ρ1 w0.heap.size (first.toList ++ [Value.func (.yield m1.nb) #[] #[]] ++ captured.toList) ((first' ++ #[Value.func (.yield l') #[] #[]]) ++ captured').toList := by
      simpa using (hfirst.append (VL.cons hyv VL.nil)).append hcapt
     have hop := callV_ok hb.cfg a2 g0 hargs
     rw [hcv] at hop
     obtain ⟨rfl, args', h1, h2⟩ := hop
     have hrun : (do let d ← resolve (evA tm) { callee := .value f, args := #[.const (.func (.yield l') #[] #[])], argTypes := #[] } 0; invoke d.target d.args).run G.P w1 = .ok (.enter g args') w1 := by
      have hev2 : evA tm (.const (.func (.yield l') #[] #[])) = .func (.yield l') #[] #[] := rfl
      simp [resolve, hev, Deferred.ofValue, hev2, invoke]
      simpa using h1
     have hstep := mv_rangeFunc (P := G.P) (x := x) (c := c) (tm := tm) (df := df) (k := k) (cs := reMode x.deferred cs md) a1 hrun
     have hdefs : DefsR ρ1 w0.heap.size (mark ++ s.defers) (mark' ++ df) := a4.append (hs.defers.mono a3.le)
     split at he
     ·
      rename_i v cm4 m4 hcall
      obtain ⟨ρ2, md2, w2, fr2, e1, e2, e3, e4, e5, e6, e7, e8, e9, fn, e10, e11⟩ := hc g args false none _ _ _ _ hcall w0 hb ρ1 (F x c tm (mark' ++ df) .run (.inRangeFunc l' :: k) :: reMode x.deferred cs md) md w1 args' a2 h2 (fun h => by cases h)
      simp only at e11
      obtain ⟨f1, v', f2, f3⟩ := e11
      have hl : fr2.leaving G.P w2 (.returned v') := ⟨f1, e7, e8, fn, by rw [e6]; exact e10, f3⟩
      have hret := step_leave_returned (c := F x c tm (mark' ++ df) .run (.inRangeFunc l' :: k)) (cs := reMode x.deferred cs md) hl
      have hfin : (F x c tm (mark' ++ df) .run (.inRangeFunc l' :: k)).finish v' = F x c tm (mark' ++ df) .run (.endRangeFunc l' :: k) := rfl
      rw [hfin] at hret
      have hto : Steps G.P (lone (F x c tm df .run (.code (.rangeFunc f params assign body) :: k)) (reMode x.deferred cs md) w) (lone (F x c tm (mark' ++ df) .run (.endRangeFunc l' :: k)) (reMode x.deferred cs md) w2) :=
       .head hstep (Steps.trans e5 (.one hret))
      have hat2 := Emb.at_mono e2.le a5
      split at he
      ·
       rename_i r hgl
       obtain ⟨_, L, _, _, _, _, r', hr', v1, v2, v3, v4, v5, v6, v7, v8, v9, v10⟩ := getLoop_ok e1 hgl hat2
       split at he
       · cases he
       rename_i hnb
       have hnb' : r'.state ≠ .busy := by
        rw [v1]
        intro h
        rw [h] at hnb
        exact hnb rfl
       obtain ⟨w3, b1, b2, b3, b4⟩ := setLoop_ok (r2 := { r with state := .exhausted }) (r2' := { r' with state := .exhausted }) e1 hgl hat2 ⟨rfl, v2, v3, v4, v5, v6, v7, v8, v9, v10⟩
       have hend := mv_endRangeFunc (P := G.P) (x := x) (c := c) (tm := tm) (df := mark' ++ df) (k := k) (cs := reMode x.deferred cs md) (run_endLoop hr' hnb' b1)
       rw [v2] at hend
       have hext : Ext w0 ρ ρ2 s.m (m4.setB (m1.nb / 2) (.loop { r with state := .exhausted })) w w3 := (a3.trans e2).trans b3
       have hpost : Post G w0 ρ x s { s with m := m4.setB (m1.nb / 2) (.loop { r with state := .exhausted }), defers := mark ++ s.defers } tm cs w ρ2 (mark' ++ df) md w3 :=
        ⟨⟨b2, hdefs.mono e2.le, fun h => (hs.cm h).mono hext.le, hs.size, hs.cs⟩, hext, fun h => h⟩
       split at he
       · rename_i hpend
         simp only [Option.some.injEq, Prod.mk.injEq] at he
         obtain ⟨rfl, rfl⟩ := he
         rw [hpend] at hend
         exact ⟨ρ2, tm, _, md, w3, hpost, ht.mono hext.le, rfl, hto.trans (.one hend)⟩
       · rename_i id hpend
         simp only [Option.some.injEq, Prod.mk.injEq] at he
         obtain ⟨rfl, rfl⟩ := he
         rw [hpend] at hend
         exact ⟨ρ2, tm, _, md, w3, hpost, ht.mono hext.le, rfl, k, rfl, hto.trans (.one hend)⟩
       · rename_i hpend
         simp only [Option.some.injEq, Prod.mk.injEq] at he
         obtain ⟨rfl, rfl⟩ := he
         rw [hpend] at hend
         exact ⟨ρ2, tm, _, md, w3, hpost, ht.mono hext.le, rfl, k, hto.trans (.one hend)⟩
       cases he
      cases he
     ·
      rename_i ch cm4 m4 hcall
      simp only [Option.some.injEq, Prod.mk.injEq] at he
      obtain ⟨rfl, rfl⟩ := he
      obtain ⟨ρ2, md2, w2, fr2, e1, e2, e3, e4, e5, e6, e7, e8, e9, fn, e10, e11⟩ := hc g args false none _ _ _ _ hcall w0 hb ρ1 (F x c tm (mark' ++ df) .run (.inRangeFunc l' :: k) :: reMode x.deferred cs md) md w1 args' a2 h2 (fun h => by cases h)
      simp only at e11
      obtain ⟨ch', f1, f2⟩ := e11
      have hl : fr2.leaving G.P w2 (.panicked ch') := ⟨f2, e7, fn, by rw [e6]; exact e10⟩
      have hret := step_leave_panicked (c := F x c tm (mark' ++ df) .run (.inRangeFunc l' :: k)) (cs := reMode x.deferred cs md) hl
      have hraise : (F x c tm (mark' ++ df) .run (.inRangeFunc l' :: k)).raise ch' = F x c tm (mark' ++ df) (.panicking ch') (.inRangeFunc l' :: k) := rfl
      rw [hraise] at hret
      have hext : Ext w0 ρ ρ2 s.m m4 w w2 := a3.trans e2
      exact ⟨ρ2, tm, _, md, w2, ⟨⟨e1, hdefs.mono e2.le, fun h => (hs.cm h).mono hext.le, hs.size, hs.cs⟩, hext, fun h => h⟩, ht.mono hext.le, rfl, ch', _, f1, .head hstep (Steps.trans e5 (.one hret))⟩
     cases he
  cases he
 cases he
theorem loop_ok {w0 : World} (hb : Base G w0) {x : Ctx} {b : Code} {c : Fr} {k : List Item} {cs : List Frame} : ∀ (n : Nat), (∀ m, m < n → ExecOk G m) → ∀ (s s' : St) (e : Ex), exec G n x (.loop b) s = some (e, s') →
 ∀ (ρ : Emb) (tm : Array Value) (df : List Deferred) (md : FrameMode) (w : World), CtxOk G.P ρ w0.heap.size x c → SR G w0 ρ x s tm df cs md w → TmpsR ρ w0.heap.size s.tmps tm →
 ExRes G w0 ρ x c k cs tm w (lone (F x c tm df .run (.code b :: .inLoop b :: k)) (reMode x.deferred cs md) w) s e s' := by
 intro n
 induction n with
 | zero => intro _ s s' e he; simp [exec] at he
 | succ n ih =>
  intro H s s' e he ρ tm df md w hx hs ht
  unfold exec at he
  simp only at he
  cases h1 : exec G n x b s with
  | none => rw [h1] at he; simp at he
  | some q =>
   obtain ⟨e1, s1⟩ := q
   rw [h1] at he
   have r1 := H n (by omega) x b s e1 s1 h1 w0 hb ρ c (.inLoop b :: k) cs tm df md w hx hs ht
   cases e1 with
   | normal =>
    simp only at he
    obtain ⟨ρ', tm', df', md', w', p1, p2, p3, p4⟩ := r1
    have h2 := ih (fun m hm => H m (by omega)) s1 s' e he ρ' tm' df' md' w' (hx.mono p1.ext.le) p1.sr p2
    exact ExRes.after p1 p3 (.of_steps (Steps.trans p4 (.one mv_inLoop)) h2)
   | _ =>
    simp only [Option.some.injEq, Prod.mk.injEq] at he
    obtain ⟨rfl, rfl⟩ := he
    exact r1.pass (by simp) (by simp)
theorem exec_ok {n : Nat} (hE : ∀ m, m ≤ n → ExecOk G m) (hO : ∀ m, m ≤ n → Op1Ok G m) (hC : CallOk G n) : ExecOk G (n + 1) := by
 intro x code s e s' he w0 hb ρ c k cs tm df md w hx hs ht
 have H := hE n (Nat.le_refl _)
 cases code with
 | skip =>
  simp only [exec, Option.some.injEq, Prod.mk.injEq] at he
  obtain ⟨rfl, rfl⟩ := he
  exact .here hs ht (.one mv_skip)
 | label l =>
  simp only [exec, Option.some.injEq, Prod.mk.injEq] at he
  obtain ⟨rfl, rfl⟩ := he
  exact .here hs ht (.one mv_label)
 | seq a b =>
  unfold exec at he
  simp only at he
  cases h1 : exec G n x a s with
  | none => rw [h1] at he; simp at he
  | some q =>
   obtain ⟨e1, s1⟩ := q
   rw [h1] at he
   have r1 := H x a s e1 s1 h1 w0 hb ρ c (.code b :: k) cs tm df md w hx hs ht
   have r1 := r1.of_steps (.one mv_seq)
   cases e1 with
   | normal => exact r1.then H hb hx (fun _ _ _ _ => .refl ..) he
   | _ =>
    simp only [Option.some.injEq, Prod.mk.injEq] at he
    obtain ⟨rfl, rfl⟩ := he
    exact r1.pass (by simp) (by simp)
 | cond o a b =>
  unfold exec at he
  simp only at he
  have hv := evalT_ok (G := G) (ρ := ρ) hb (t := s.tmps) (tm := tm) o (fun i _ => ht i)
  generalize evalT G.ng s.tmps o = v at hv he
  cases v with
  | bool t =>
   generalize hv' : evA tm o = v' at hv
   cases hv with
   | bool =>
    exact (H x _ s e s' he w0 hb ρ c k cs tm df md w hx hs ht).of_steps (.one (mv_cond hv'))
  | _ => cases he
 | block id b =>
  unfold exec at he
  simp only at he
  cases h1 : exec G n x b s with
  | none => rw [h1] at he; simp at he
  | some q =>
   obtain ⟨e1, s1⟩ := q
   rw [h1] at he
   have r1 := H x b s e1 s1 h1 w0 hb ρ c (.inBlock id :: k) cs tm df md w hx hs ht
   have r1 := r1.of_steps (.one mv_block)
   obtain ⟨ρ', tm', df', md', w', p1, p2, p3, p4⟩ := r1
   cases e1 with
   | normal =>
    simp only [Option.some.injEq, Prod.mk.injEq] at he
    obtain ⟨rfl, rfl⟩ := he
    exact ⟨ρ', tm', df', md', w', p1, p2, p3, Steps.trans p4 (.one mv_inBlock)⟩
   | exit i =>
    simp only at he
    obtain ⟨kk, g1, g2⟩ := p4
    by_cases hi : i = id
    · rw [if_pos hi] at he
      simp only [Option.some.injEq, Prod.mk.injEq] at he
      obtain ⟨rfl, rfl⟩ := he
      have : exitTo i kk = some k := by rw [g1]; simp [exitTo, hi]
      exact ⟨ρ', tm', df', md', w', p1, p2, p3, Steps.trans g2 (.one (mv_exit this))⟩
    rw [if_neg hi] at he
    simp only [Option.some.injEq, Prod.mk.injEq] at he
    obtain ⟨rfl, rfl⟩ := he
    refine ⟨ρ', tm', df', md', w', p1, p2, p3, kk, ?_, g2⟩
    rw [g1]
    have : (id == i) = false := by simp; exact fun h => hi h.symm
    simp [exitTo, this]
   | ret =>
    simp only [Option.some.injEq, Prod.mk.injEq] at he
    obtain ⟨rfl, rfl⟩ := he
    exact ⟨ρ', tm', df', md', w', p1, p2, p3, p4⟩
   | panic ch =>
    simp only [Option.some.injEq, Prod.mk.injEq] at he
    obtain ⟨rfl, rfl⟩ := he
    exact ⟨ρ', tm', df', md', w', p1, p2, p3, p4⟩
 | loop b => exact .of_steps (.one mv_loop) (loop_ok hb (n + 1) (fun m hm => hE m (by omega)) s s' e he ρ tm df md w hx hs ht)
 | scope b =>
  unfold exec at he
  simp only at he
  have r1 := H x b s e s' he w0 hb ρ c (.inScope b :: k) cs tm df md w hx hs ht
  have r1 := r1.of_steps (.one mv_scope)
  cases e with
  | normal =>
   obtain ⟨ρ', tm', df', md', w', p1, p2, p3, p4⟩ := r1
   exact ⟨ρ', tm', df', md', w', p1, p2, p3, Steps.trans p4 (.one mv_inScope)⟩
  | _ => exact r1.pass (by simp) (by simp)
 | exit id =>
  simp only [exec, Option.some.injEq, Prod.mk.injEq] at he
  obtain ⟨rfl, rfl⟩ := he
  exact .here hs ht ⟨k, rfl, .refl ..⟩
 | ret =>
  simp only [exec, Option.some.injEq, Prod.mk.injEq] at he
  obtain ⟨rfl, rfl⟩ := he
  exact .here hs ht ⟨k, .refl ..⟩
 | region id ops draw => exact region_ok (N := n + 1) (fun m hm => hO m (by omega)) hb (Nat.le_succ n) he hx hs ht
 | rangeFunc f params assign body => exact rangeFunc_ok hC hb he hx hs ht
 | goto l => simp [exec] at he
 | refuse y => simp [exec] at he
end Go.Am
namespace Go.Am
variable {G : Cfg}
theorem run_mapM {α β : Type} {P : Program} {w : World} (f : α → Sem β) : ∀ (l : List α) (r : List β), l.length = r.length → (∀ (i : Nat) (a : α) (b : β), l[i]? = some a → r[i]? = some b → (f a).run P w = .ok b w) → (l.mapM f).run P w = .ok r w := by
 intro l
 induction l with
 | nil => intro r hl _; cases r with | nil => simp | cons a b => simp at hl
 | cons x xs ih =>
  intro r hl h
  cases r with
  | nil => simp at hl
  | cons y ys =>
   have h0 := h 0 x y rfl rfl
   have h1 := ih ys (by simpa using hl) (fun i a b ha hb => h (i + 1) a b (by simpa using ha) (by simpa using hb))
   simp [List.mapM_cons, Sem.run_bind, h0, h1]
theorem loadVar_ok {w0 w : World} {ρ : Emb} {m : Mem} (h : MR G.toEnv w0 ρ m w) (t : TypeId) {a a' : Value} (ha : VR ρ w0.heap.size a a') {b o : Nat} (hb : addrOf a = some (b, o)) {v : Value} (hv : loadV G.toEnv m t b o = some v) :
 ∃ v', (do loadVar t (← asAddr a')).run G.P w = .ok v' w ∧ VR ρ w0.heap.size v v' := by
 obtain ⟨b', s, h1, rfl⟩ := addrOf_vr hb ha
 obtain ⟨v', h2, h3, _⟩ := loadV_ok h hv h1
 exact ⟨v', by simp [asAddr, h2], h3⟩
theorem results_ok {w0 w : World} {ρ : Emb} {s : St} {tm : Array Value} (hm : MR G.toEnv w0 ρ s.m w) (ht : TmpsR ρ w0.heap.size s.tmps tm) : ∀ (l : List ResultVar) (vs : List Value), unwind.results G l s = some vs →
 ∃ vs', VL ρ w0.heap.size vs vs' ∧ l.length = vs'.length ∧ ∀ (i : Nat) (a : ResultVar) (b : Value), l[i]? = some a → vs'[i]? = some b → (match a with
  | .tmp t => (pure (tm.getD t undef) : Sem Value)
  | .cell a t => do loadVar t (← asAddr (tm.getD a undef))).run G.P w = .ok b w := by
 intro l
 induction l with
 | nil => intro vs h; simp only [unwind.results, Option.some.injEq] at h; subst h; exact ⟨[], VL.nil, rfl, fun i a b h => by simp at h⟩
 | cons r rest ih =>
  intro vs h
  cases r with
  | tmp t =>
   simp only [unwind.results] at h
   cases hr : unwind.results G rest s with
   | none => rw [hr] at h; cases h
   | some vs2 =>
    rw [hr] at h
    simp only [Option.some.injEq] at h
    subst h
    obtain ⟨vs', h1, h2, h3⟩ := ih vs2 hr
    refine ⟨tm.getD t undef :: vs', VL.cons (ht t) h1, by simp [h2], fun i a b ha hb => ?_⟩
    cases i with
    | zero =>
     simp only [List.getElem?_cons_zero, Option.some.injEq] at ha hb
     subst ha; subst hb
     simp
    | succ i => exact h3 i a b (by simpa using ha) (by simpa using hb)
  | cell ad t =>
   simp only [unwind.results] at h
   cases hadr : addrOf ((s.tmps.get ad).getD undef) with
   | none => rw [hadr] at h; cases h
   | some p =>
    obtain ⟨b0, o0⟩ := p
    rw [hadr] at h
    simp only at h
    cases hl : loadV G.toEnv s.m t b0 o0 with
    | none => rw [hl] at h; simp at h
    | some v =>
     cases hr : unwind.results G rest s with
     | none => rw [hl, hr] at h; simp at h
     | some vs2 =>
      rw [hl, hr] at h
      simp only [Option.some.injEq] at h
      subst h
      obtain ⟨vs', h1, h2, h3⟩ := ih vs2 hr
      obtain ⟨v', hv1, hv2⟩ := loadVar_ok hm t (ht ad) hadr hl
      refine ⟨v' :: vs', VL.cons hv2 h1, by simp [h2], fun i a b ha hb => ?_⟩
      cases i with
      | zero =>
       simp only [List.getElem?_cons_zero, Option.some.injEq] at ha hb
       subst ha; subst hb
       exact hv1
      | succ i => exact h3 i a b (by simpa using ha) (by simpa using hb)
def resF (tm : Array Value) : ResultVar → Sem Value
 | .tmp t => pure (tm.getD t undef)
 | .cell a t => do loadVar t (← asAddr (tm.getD a undef))
def retV : List Value → Value
 | [v] => v
 | vs => .tuple ⟨vs⟩
theorem run_results {w0 w : World} {ρ : Emb} {s : St} {tm : Array Value} (hm : MR G.toEnv w0 ρ s.m w) (ht : TmpsR ρ w0.heap.size s.tmps tm) (fn : Func) {vs : List Value} (h : unwind.results G fn.results.toList s = some vs) :
 ∃ v', (results fn tm).run G.P w = .ok v' w ∧ VR ρ w0.heap.size (retV vs) v' := by
 obtain ⟨vs', h1, h2, h3⟩ := results_ok hm ht fn.results.toList vs h
 have hrun : (fn.results.mapM (resF tm)).run G.P w = .ok ⟨vs'⟩ w := by
  rw [Array.mapM_eq_mapM_toList]
  have := run_mapM (P := G.P) (w := w) (resF tm) fn.results.toList vs' h2 (fun i a b ha hb => by
   have := h3 i a b ha hb
   cases a <;> exact this)
  simp [this]
 have hl := h1.1
 refine ⟨(if h : (⟨vs'⟩ : Array Value).size = 1 then (⟨vs'⟩ : Array Value)[0] else .tuple ⟨vs'⟩), ?_, ?_⟩
 · show ((fn.results.mapM (resF tm) >>= fun vs => pure (if h : vs.size = 1 then vs[0] else .tuple vs)).run G.P w) = _
   rw [Sem.run_bind, hrun]
   rfl
 clear h h2 h3 hrun
 match vs, vs', hl, h1 with
 | [], [], hl, h1 => exact VR.tuple_of h1
 | [v], [v'], hl, h1 => simpa [retV] using h1.2 0
 | v :: u :: r, v' :: u' :: r', hl, h1 => exact VR.tuple_of h1
theorem step_leave_def {P : Program} {fr caller : Frame} {cs : List Frame} {w : World} {v : Value} {fn : Func} (hm : fr.mode = .returning) (hd : fr.defers = []) (hk : fr.kind = .deferred) (hf : P.funcs[fr.fn]? = some fn) (hr : (results fn fr.tmps).run P w = .ok v w) :
 step P (lone fr (caller :: cs) w) = .next (lone (match caller.mode with
  | .panicking ({ recovered := true, .. } :: older) =>
   match older.dropWhile (!·.goexit) with
   | [] => { caller with mode := .returning }
   | rest => { caller with mode := .panicking rest }
  | _ => caller) cs w) :=
 step_lone_go (by simp [stepG, Go.unwind, doReturn, hm, hd, hk, hf, hr]; rfl)
def Ending' (G : Cfg) (w0 : World) (ρ' : Emb) (fr' : Frame) (w' : World) (fn : Func) : Out → Prop
 | .returned v => fr'.mode = .returning ∧ ∃ v', VR ρ' w0.heap.size v v' ∧ (results fn fr'.tmps).run G.P w' = .ok v' w'
 | .panicked ch => ∃ ch', ChR ρ' w0.heap.size ch ch' ∧ fr'.mode = .panicking ch'
def UnwindOk (G : Cfg) (n : Nat) : Prop := ∀ (fn : Func) (mode : Option (List PanicEntry)) (defers : List Deferred) (s : St) (out : Out) (cm' : Option (List PanicEntry)) (m' : Mem), unwind G n fn mode defers s = some (out, cm', m') →
 ∀ (w0 : World), Base G w0 → ∀ (ρ : Emb) (x : Ctx) (c : Fr) (cs : List Frame) (tm : Array Value) (df : List Deferred) (md mdF : FrameMode) (todo : List Item) (w : World),
 G.P.funcs[x.fn]? = some fn → c.rd = none → c.kind = kindOf x.deferred → MR G.toEnv w0 ρ s.m w → DefsR ρ w0.heap.size defers df → TmpsR ρ w0.heap.size s.tmps tm → (x.deferred = true → ModeR ρ w0.heap.size s.cm md) → ModeR ρ w0.heap.size mode mdF →
 ∃ ρ' w' fr', MR G.toEnv w0 ρ' m' w' ∧ Ext w0 ρ ρ' s.m m' w w' ∧ cm' = s.cm ∧
  Steps G.P (lone (F x c tm df mdF todo) (reMode x.deferred cs md) w) (lone fr' (reMode x.deferred cs md) w') ∧ fr'.fn = x.fn ∧ fr'.defers = [] ∧ fr'.kind = c.kind ∧ fr'.roundOf = none ∧ Ending' G w0 ρ' fr' w' fn out
theorem unwind_ok {n : Nat} (hU : UnwindOk G n) (hC : CallOk G n) : UnwindOk G (n + 1) := by
 intro fn mode defers s out cm' m' he w0 hb ρ x c cs tm df md mdF todo w hfn hrd hk hm hdf ht hcm hmode
 unfold unwind at he
 cases hdf with
 | nil =>
  simp only at he
  cases mode with
  | some ch =>
   simp only [Option.some.injEq, Prod.mk.injEq] at he
   obtain ⟨rfl, rfl, rfl⟩ := he
   obtain ⟨ch', rfl, hch⟩ := hmode
   exact ⟨ρ, w, F x c tm [] (.panicking ch') todo, hm, Ext.refl .., rfl, .refl .., rfl, rfl, rfl, hrd, ch', hch, rfl⟩
  | none =>
   have hmd : mdF = .returning := hmode
   subst hmd
   simp only at he
   cases hr : unwind.results G fn.results.toList s with
   | none => rw [hr] at he; simp at he
   | some vs =>
    rw [hr] at he
    obtain ⟨v', h1, h2⟩ := run_results hm ht fn hr
    have key : ∀ v, some (Out.returned v, s.cm, s.m) = some (out, cm', m') → VR ρ w0.heap.size v v' → ∃ ρ' w' fr', MR G.toEnv w0 ρ' m' w' ∧ Ext w0 ρ ρ' s.m m' w w' ∧ cm' = s.cm ∧
     Steps G.P (lone (F x c tm [] .returning todo) (reMode x.deferred cs md) w) (lone fr' (reMode x.deferred cs md) w') ∧ fr'.fn = x.fn ∧ fr'.defers = [] ∧ fr'.kind = c.kind ∧ fr'.roundOf = none ∧ Ending' G w0 ρ' fr' w' fn out := by
     intro v e hv
     simp only [Option.some.injEq, Prod.mk.injEq] at e
     obtain ⟨rfl, rfl, rfl⟩ := e
     exact ⟨ρ, w, F x c tm [] .returning todo, hm, Ext.refl .., rfl, .refl .., rfl, rfl, rfl, hrd, rfl, v', hv, h1⟩
    clear hr
    match vs, he, h2 with
    | [], he, h2 => exact key _ he h2
    | [v], he, h2 => exact key _ he h2
    | v :: u :: r, he, h2 => exact key _ he h2
 | cons hd hl =>
  rename_i d d' ds ds'
  obtain ⟨tgt, args⟩ := d
  obtain ⟨tgt', args'⟩ := d'
  obtain ⟨htgt, hargs⟩ := hd
  simp only at he htgt hargs
  have hnr : mdF ≠ .run := by
   cases mode with
   | none => rw [show mdF = .returning from hmode]; simp
   | some ch => obtain ⟨ch', rfl, _⟩ := hmode; simp
  cases htgt with
  | collected ha hodd =>
   rename_i b b'
   simp only at he
   rw [if_pos hodd] at he
   cases hg : s.m.blks.get (b / 2) with
   | none => rw [hg] at he; cases he
   | some bl =>
    rw [hg] at he
    cases bl with
    | deferred o =>
     cases o with
     | none => cases he
     | some calls =>
      simp only at he
      have ha' := ha
      unfold Emb.at at ha'
      rw [if_pos hodd] at ha'
      cases hr : ρ (b / 2) with
      | none => rw [hr] at ha'; simp at ha'
      | some L =>
       rw [hr] at ha'
       simp only [Option.map_some, Option.some.injEq, Prod.mk.injEq] at ha'
       obtain ⟨rfl, hLs⟩ := ha'
       obtain ⟨_, calls', hh, hcalls⟩ := hm.blk _ _ _ hr hg
       obtain ⟨w1, s1, s2, s3, s4⟩ := setBlk_ok (bl2 := .deferred none) (o2 := .deferred none) hm hr hg rfl trivial hh (fun w' e => ⟨hLs, e⟩)
       have htake : (Instr.takeDeferred L.b).run G.P w = .ok calls' w1 := by
        have hget : (getObj L.b).run G.P w = .ok (.deferred (some calls')) w := by simp [getObj, Sem.run, hh]
        simp [Instr.takeDeferred, Sem.run_bind, hget, s1]
       have hstep : step G.P (lone (F x c tm ({ target := .collected L.b, args := args' } :: ds') mdF todo) (reMode x.deferred cs md) w) = .next (lone (F x c tm (calls' ++ ds') mdF todo) (reMode x.deferred cs md) w1) := by
        refine step_lone_go ?_
        cases mdF with
        | run => exact absurd rfl hnr
        | _ => simp [stepG, F, Go.unwind, htake]
       obtain ⟨ρ', w', fr', u1, u2, u3, u4, u5⟩ := hU fn mode (calls ++ ds) _ out cm' m' he w0 hb ρ x c cs tm (calls' ++ ds') md mdF todo w1 hfn hrd hk s2 (hcalls.append hl) ht hcm hmode
       exact ⟨ρ', w', fr', u1, s3.trans u2, u3, .head hstep u4, u5⟩
    | _ => cases he
  | fn hf hc =>
   rename_i fA fB cap cap'
   cases hf with
   | func f0 =>
    simp only at he
    have hop := callV_ok hb.cfg hm f0 (args := args.toList ++ cap.toList) (args' := args' ++ cap') (by simpa using VL.append hargs hc)
    split at he
    ·
     rename_i f argsV m2 hcv
     rw [hcv] at hop
     obtain ⟨rfl, argsC, h1, h2⟩ := hop
     have hdef : ∀ {cap' : Array Value}, (callFunc f0 (args' ++ cap')).run G.P w = .ok (.enter f argsC) w → step G.P (lone (F x c tm ({ target := .fn (.func f0) cap', args := args' } :: ds') mdF todo) (reMode x.deferred cs md) w) =
      .next (lone (Frame.enter G.P f argsC .deferred) (F x c tm ds' mdF todo :: reMode x.deferred cs md) w) := by
      intro cap' h
      refine step_lone_go ?_
      cases mdF with
      | run => exact absurd rfl hnr
      | _ => simp [stepG, F, Go.unwind, callDeferred, invoke, h]
     cases hcall : call G n f argsV true mode s.m with
     | none => rw [hcall] at he; cases he
     | some q =>
      obtain ⟨o2, cm2, m3⟩ := q
      rw [hcall] at he
      obtain ⟨ρ2, md2, w2, fr2, e1, e2, e3, e4, e5, e6, e7, e8, e9, fn2, e10, e11⟩ := hC f argsV true mode s.m o2 cm2 m3 hcall w0 hb ρ (F x c tm ds' mdF todo :: reMode x.deferred cs md) mdF w argsC hm h2 (fun _ => ⟨hmode, by simp⟩)
      have e3 := e3 rfl
      have hto : Steps G.P (lone (F x c tm ({ target := .fn (.func f0) cap', args := args' } :: ds') mdF todo) (reMode x.deferred cs md) w) (lone fr2 (F x c tm ds' md2 todo :: reMode x.deferred cs md) w2) :=
       .head (hdef h1) e5
      have hres : ∀ (mode' : Option (List PanicEntry)) (mdN : FrameMode), ModeR ρ2 w0.heap.size mode' mdN → step G.P (lone fr2 (F x c tm ds' md2 todo :: reMode x.deferred cs md) w2) = .next (lone (F x c tm ds' mdN todo) (reMode x.deferred cs md) w2) →
       unwind G n fn mode' ds { s with m := m3 } = some (out, cm', m') → ∃ ρ' w' fr', MR G.toEnv w0 ρ' m' w' ∧ Ext w0 ρ ρ' s.m m' w w' ∧ cm' = s.cm ∧
       Steps G.P (lone (F x c tm ({ target := .fn (.func f0) cap', args := args' } :: ds') mdF todo) (reMode x.deferred cs md) w) (lone fr' (reMode x.deferred cs md) w') ∧ fr'.fn = x.fn ∧ fr'.defers = [] ∧ fr'.kind = c.kind ∧ fr'.roundOf = none ∧ Ending' G w0 ρ' fr' w' fn out := by
       intro mode' mdN hmN hst hun
       obtain ⟨ρ', w', fr', u1, u2, u3, u4, u5⟩ := hU fn mode' ds _ out cm' m' hun w0 hb ρ2 x c cs tm ds' md mdN todo w2 hfn hrd hk e1 (hl.mono e2.le) (ht.mono e2.le) (fun h => (hcm h).mono e2.le) hmN
       exact ⟨ρ', w', fr', u1, e2.trans u2, u3, hto.trans (.head hst u4), u5⟩
      cases o2 with
      | returned v =>
       simp only at he e11
       obtain ⟨f1, v', f2, f3⟩ := e11
       have hst := step_leave_def (P := G.P) (fr := fr2) (caller := F x c tm ds' md2 todo) (cs := reMode x.deferred cs md) f1 e7 e8 (by rw [e6]; exact e10) f3
       cases mode with
       | none =>
        simp only at he
        have hcm2 := e4 rfl
        subst hcm2
        have hmd2 : md2 = .returning := e3
        subst hmd2
        exact hres none .returning rfl hst he
       | some ch =>
        simp only at he
        cases cm2 with
        | none => cases he
        | some ch2 =>
         obtain ⟨ch2', rfl, hch2⟩ := e3
         cases hch2 with
         | nil => cases he
         | cons hv hl2 =>
          rename_i pv pv' pr pg l l'
          cases pr with
          | true =>
           simp only [if_true] at he
           cases hl2 with
           | nil =>
            simp only at he
            exact hres none .returning rfl hst he
           | cons a b => cases he
          | false =>
           simp only [Bool.false_eq_true, if_false] at he
           exact hres (some _) (.panicking _) ⟨_, rfl, .cons hv hl2⟩ hst he
      | panicked ch =>
       simp only at he e11
       obtain ⟨ch', f1, f2⟩ := e11
       have hlv : fr2.leaving G.P w2 (.panicked ch') := ⟨f2, e7, fn2, by rw [e6]; exact e10⟩
       have hst := step_leave_panicked (c := F x c tm ds' md2 todo) (cs := reMode x.deferred cs md) hlv
       cases mode with
       | none =>
        simp only at he
        have hcm2 := e4 rfl
        subst hcm2
        have hmd2 : md2 = .returning := e3
        subst hmd2
        exact hres (some ch) (.panicking ch') ⟨ch', rfl, f1⟩ hst he
       | some chm =>
        simp only at he
        cases cm2 with
        | none => cases he
        | some ch2 =>
         simp only at he
         obtain ⟨ch2', rfl, hch2⟩ := e3
         exact hres (some (ch ++ ch2)) (.panicking (ch' ++ ch2')) ⟨_, rfl, f1.append hch2⟩ hst he
    cases he
   | _ => cases he
  | _ => cases he
end Go.Am
namespace Go.Am
variable {G : Cfg}
theorem call_ok {n : Nat} (H : ExecOk G n) (hU : UnwindOk G n) : CallOk G (n + 1) := by
 intro f args deferred cm m out cm' m' he w0 hb ρ cs md w args' hm hargs hdef
 unfold call at he
 cases hkf : G.kf f with
 | some b =>
  rw [hkf] at he
  simp only at he
  split at he
  ·
   rename_i hc
   simp only [Bool.and_eq_true, Bool.not_eq_true'] at hc
   obtain ⟨hc1, hc2⟩ := hc
   have hnil : args = [] := List.isEmpty_iff.1 hc1
   subst hnil
   subst hc2
   simp only [Option.some.injEq, Prod.mk.injEq] at he
   obtain ⟨rfl, rfl, rfl⟩ := he
   have ha : args' = #[] := by
    have := hargs.1
    simp at this
    exact Array.eq_empty_of_size_eq_zero this.symm
   subst ha
   obtain ⟨w', fr', k1, k2, k3, k4, k5, k6, k7, k8, k9, k10, fn, k11, k12, k13⟩ := hb.known f b hkf w cs
   refine ⟨ρ, md, w', fr', ?_, ⟨Emb.le_refl ρ, k2, fun b hb _ => k1 b hb, fun k L h => .inl h, Nat.le_refl _⟩, (fun h => by cases h), fun h => h, k6, k7, k8, k9, k10, fn, k11, k12, .bool b, .bool b, k13⟩
   refine ⟨hm.fix, fun b hb' => by rw [k1 b (Nat.lt_of_lt_of_le hb' hm.le), hm.base b hb'], Nat.le_trans hm.le k2, k3.trans hm.os, k4.trans hm.tape, k5.trans hm.output, fun k L h => ?_, fun k L bl h h' => ?_, hm.inj, hm.fresh⟩
   · obtain ⟨h1, h2, h3⟩ := hm.loc k L h
     exact ⟨h1, Nat.lt_of_lt_of_le h2 k2, h3⟩
   exact (hm.blk k L bl h h').congr (k1 _ (hm.loc k L h).2.1)
  cases he
 | none =>
 rw [hkf] at he
 simp only at he
 cases hf : G.P.funcs[f]? with
 | none => rw [hf] at he; cases he
 | some fn =>
  rw [hf] at he
  simp only at he
  cases hbody : fn.body with
  | none => rw [hbody] at he; cases he
  | some code =>
   rw [hbody] at he
   simp only at he
   let x : Ctx := { fn := f, deferred, round := none, nt := fn.ntmps }
   let c : Fr := { kind := kindOf deferred, rd := none }
   let tm : Array Value := args' ++ Array.replicate (fn.ntmps - args'.size) undef
   have hframe : Frame.enter G.P f args' (kindOf deferred) = F x c tm [] .run [.code code] := by
    simp [Frame.enter, F, x, c, tm, hf, hbody]
   rw [hframe]
   have hx : CtxOk G.P ρ w0.heap.size x c := ⟨⟨fn, hf⟩, rfl, trivial, fun h => by cases h⟩
   have ht : TmpsR ρ w0.heap.size (Tr.putAll .leaf 0 args) tm := by
    intro i
    rw [Tr.get_putAll]
    by_cases hi : i < args.length
    ·
     rw [if_pos ⟨Nat.zero_le _, by omega⟩, Nat.sub_zero]
     have h1 := hargs.2 i
     have h2 : i < args'.size := by have := hargs.1; simp at this; omega
     have e1 : tm.getD i undef = args'.toList.getD i undef := by
      rw [← arr_getD, Array.getD_eq_getD_getElem?, Array.getD_eq_getD_getElem?]
      simp [tm, Array.getElem?_append, h2]
     rw [e1]
     exact h1
    rw [if_neg (by omega)]
    exact .undef _
   have hs : SR G w0 ρ x { tmps := Tr.putAll .leaf 0 args, defers := [], cm, m } tm [] cs md w :=
    ⟨hm, .nil, fun h => (hdef h).1, by simp [x, tm]; omega, fun h => (hdef h).2⟩
   cases he1 : exec G n x code { tmps := Tr.putAll .leaf 0 args, defers := [], cm, m } with
   | none => simp only [x] at he1; rw [he1] at he; simp at he
   | some q =>
    obtain ⟨e1, s1⟩ := q
    have he1' := he1
    simp only [x] at he1'
    rw [he1'] at he
    obtain ⟨ρ1, tm1, df1, md1, w1, p1, p2, p3, p4⟩ := H x code _ e1 s1 he1 w0 hb ρ c [] cs tm [] md w hx hs ht
    have hgo : ∀ (mode : Option (List PanicEntry)) (mdF : FrameMode) (todo : List Item), ModeR ρ1 w0.heap.size mode mdF →
     Steps G.P (lone (F x c tm [] .run [.code code]) (reMode deferred cs md) w) (lone (F x c tm1 df1 mdF todo) (reMode deferred cs md1) w1) →
     unwind G n fn mode s1.defers s1 = some (out, cm', m') →
     ∃ ρ' md' w' fr', MR G.toEnv w0 ρ' m' w' ∧ Ext w0 ρ ρ' m m' w w' ∧ (deferred = true → ModeR ρ' w0.heap.size cm' md') ∧ (cm = none → cm' = none) ∧
      Steps G.P (lone (F x c tm [] .run [.code code]) (reMode deferred cs md) w) (lone fr' (reMode deferred cs md') w') ∧
      fr'.fn = f ∧ fr'.defers = [] ∧ fr'.kind = kindOf deferred ∧ fr'.roundOf = none ∧ (∃ fn, G.P.funcs[f]? = some fn ∧ Ending' G w0 ρ' fr' w' fn out) := by
     intro mode mdF todo hmode hst hun
     obtain ⟨ρ', w', fr', u1, u2, u3, u4, u5, u6, u7, u8, u9⟩ := hU fn mode s1.defers s1 out cm' m' hun w0 hb ρ1 x c cs tm1 df1 md1 mdF todo w1 hf rfl rfl p1.sr.mem p1.sr.defers p2 p1.sr.cm hmode
     refine ⟨ρ', md1, w', fr', u1, p1.ext.trans u2, fun h => ?_, fun h => ?_, hst.trans u4, u5, u6, u7, u8, fn, hf, u9⟩
     · rw [u3]; exact (p1.sr.cm h).mono u2.le
     rw [u3]; exact p1.cm h
    have hfin : (∃ ρ' md' w' fr', MR G.toEnv w0 ρ' m' w' ∧ Ext w0 ρ ρ' m m' w w' ∧ (deferred = true → ModeR ρ' w0.heap.size cm' md') ∧ (cm = none → cm' = none) ∧
     Steps G.P (lone (F x c tm [] .run [.code code]) (reMode deferred cs md) w) (lone fr' (reMode deferred cs md') w') ∧
     fr'.fn = f ∧ fr'.defers = [] ∧ fr'.kind = kindOf deferred ∧ fr'.roundOf = none ∧ (∃ fn, G.P.funcs[f]? = some fn ∧ Ending' G w0 ρ' fr' w' fn out)) := by
     cases e1 with
     | normal => exact hgo none .returning [] rfl (Steps.trans p4 (.one (mv_over rfl))) he
     | ret =>
      obtain ⟨kk, g⟩ := p4
      exact hgo none .returning _ rfl (Steps.trans g (.one (mv_returning rfl))) he
     | panic ch =>
      obtain ⟨ch', todo, g1, g2⟩ := p4
      exact hgo (some ch) (.panicking ch') todo ⟨ch', rfl, g1⟩ g2 he
     | exit id => cases he
    obtain ⟨ρ', md', w', fr', u1, u2, u3, u4, u5, u6, u7, u8, u9, fn', u10, u11⟩ := hfin
    refine ⟨ρ', md', w', fr', u1, u2, u3, u4, u5, u6, u7, u8, u9, fn', hf.symm.trans u10, ?_⟩
    cases out <;> exact u11
theorem all_ok : ∀ n, ∀ m, m ≤ n → ExecOk G m ∧ Op1Ok G m ∧ CallOk G m ∧ RoundOk G m ∧ UnwindOk G m := by
 intro n
 induction n with
 | zero =>
  intro m hm
  have : m = 0 := by omega
  subst this
  refine ⟨?_, ?_, ?_, ?_, ?_⟩
  · intro x code s e s' h; simp [exec] at h
  · intro x ops o s e s' h; simp [execOp1] at h
  · intro f args d cm m out cm' m' h; simp [call] at h
  · intro l args m out m' h; simp [callRound] at h
  intro fn mode ds s out cm' m' h; simp [unwind] at h
 | succ n ih =>
  intro m hm
  by_cases h : m = n + 1
  · subst h
    obtain ⟨i1, i2, i3, i4, i5⟩ := ih n (Nat.le_refl _)
    exact ⟨exec_ok (fun m hm => (ih m hm).1) (fun m hm => (ih m hm).2.1) i3, op1_ok i3 i4, call_ok i1 i5, round_ok i1, unwind_ok i5 i3⟩
  exact ih m (by omega)
theorem calls_of {n : Nat} {f : FuncId} {args : List Value} {m m' : Mem} {out : Out} {cm' : Option (List PanicEntry)} (h : call G n f args false none m = some (out, cm', m')) {w0 : World} (hb : Base G w0)
 {ρ : Emb} {w : World} {args' : Array Value} (hm : MR G.toEnv w0 ρ m w) (ha : VL ρ w0.heap.size args args'.toList) :
 Calls G.P f args' w (fun e w' => ∃ ρ', MR G.toEnv w0 ρ' m' w' ∧ Ext w0 ρ ρ' m m' w w' ∧ match out, e with
  | .returned v, .returned v' => VR ρ' w0.heap.size v v'
  | .panicked ch, .panicked ch' => ChR ρ' w0.heap.size ch ch'
  | _, _ => False) := by
 intro cs
 obtain ⟨ρ', md', w', fr', h1, h2, h3, h4, h5, h6, h7, h8, h9, fn, h10, h11⟩ := (all_ok n n (Nat.le_refl _)).2.2.1 f args false none m out cm' m' h w0 hb ρ cs .run w args' hm ha (fun h => by cases h)
 cases out with
 | returned v =>
  obtain ⟨f1, v', f2, f3⟩ := h11
  exact ⟨.returned v', w', fr', ⟨ρ', h1, h2, f2⟩, h5, h6, f1, h7, h8, fn, by rw [h6]; exact h10, f3⟩
 | panicked ch =>
  obtain ⟨ch', f1, f2⟩ := h11
  exact ⟨.panicked ch', w', fr', ⟨ρ', h1, h2, f1⟩, h5, h6, f2, h7, fn, by rw [h6]; exact h10⟩
def Mem.empty : Mem := { blks := .leaf, nxt := 0 }
theorem MR.start (E : Env) (hE : E.glob = fun _ _ => none) (w : World) : MR E w (fun _ => none) Mem.empty w := by
 refine ⟨⟨fun b o v h => by rw [hE] at h; cases h⟩, fun b _ => rfl, Nat.le_refl _, rfl, rfl, rfl, fun k L h => (by cases h), fun k L bl h => (by cases h), fun k k' L L' bl bl' h => (by cases h), fun k _ => rfl⟩
end Go.Am
