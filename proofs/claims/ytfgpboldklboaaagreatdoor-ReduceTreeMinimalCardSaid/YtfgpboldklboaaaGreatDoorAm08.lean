/-
  PROVED here: steps on the way to the card of 'sleuthlaw06.ReduceTreeMinimal' (an abstract machine, its soundness, what each function computes). No conditions beyond those that each theorem states.
-/
import Derived.Test.YtfgpboldklboaaaGreatDoorAm07
namespace Go.Am
variable {G : Cfg}
def ExRes (G : Cfg) (w0 : World) (ρ : Emb) (x : Ctx) (c : Fr) (k : List Item) (cs : List Frame) (tm : Array Value) (w : World) (m0 : Machine) (s : St) (e : Ex) (s' : St) : Prop :=
 ∃ ρ' tm' df' md' w', Post G w0 ρ x s s' tm' cs w ρ' df' md' w' ∧ TmpsR ρ' w0.heap.size s'.tmps tm' ∧ tm'.size = tm.size ∧ Arr G.P ρ' w0.heap.size x c k cs m0 tm' df' md' w' e
theorem ExRes.of_steps {w0 : World} {ρ : Emb} {x : Ctx} {c : Fr} {k : List Item} {cs : List Frame} {tm : Array Value} {w : World} {m0 m1 : Machine} {s s' : St} {e : Ex}
 (h : Steps G.P m0 m1) (h' : ExRes G w0 ρ x c k cs tm w m1 s e s') : ExRes G w0 ρ x c k cs tm w m0 s e s' := by
 obtain ⟨ρ', tm', df', md', w', h1, h2, h3, h4⟩ := h'
 exact ⟨ρ', tm', df', md', w', h1, h2, h3, .of_steps h h4⟩
theorem Post.trans {w0 : World} {ρ ρ1 ρ2 : Emb} {x : Ctx} {s s1 s2 : St} {tm1 tm2 : Array Value} {cs : List Frame} {w w1 w2 : World} {df1 df2 : List Deferred} {md1 md2 : FrameMode}
 (h : Post G w0 ρ x s s1 tm1 cs w ρ1 df1 md1 w1) (h' : Post G w0 ρ1 x s1 s2 tm2 cs w1 ρ2 df2 md2 w2) : Post G w0 ρ x s s2 tm2 cs w ρ2 df2 md2 w2 :=
 ⟨h'.sr, h.ext.trans h'.ext, fun e => h'.cm (h.cm e)⟩
theorem ExRes.after {w0 : World} {ρ ρ1 : Emb} {x : Ctx} {c : Fr} {k : List Item} {cs : List Frame} {tm tm1 : Array Value} {w w1 : World} {m0 : Machine} {s s1 s' : St} {e : Ex} {df1 : List Deferred} {md1 : FrameMode}
 (h : Post G w0 ρ x s s1 tm1 cs w ρ1 df1 md1 w1) (hs : tm1.size = tm.size) (h' : ExRes G w0 ρ1 x c k cs tm1 w1 m0 s1 e s') : ExRes G w0 ρ x c k cs tm w m0 s e s' := by
 obtain ⟨ρ', tm', df', md', w', h1, h2, h3, h4⟩ := h'
 exact ⟨ρ', tm', df', md', w', h.trans h1, h2, h3.trans hs, h4⟩
theorem TmpsR.put {ρ : Emb} {B : Nat} {t : Tr Value} {tm : Array Value} {dst : Option Tmp} {v v' : Value} (h : TmpsR ρ B t tm) (hd : ∀ d, dst = some d → d < tm.size) (hv : VR ρ B v v') :
 TmpsR ρ B (putT t dst v) (putA tm dst v') := by
 cases dst with
 | none => exact h
 | some d =>
  intro i
  simp only [putT, putA]
  rw [Tr.get_set]
  by_cases hi : i = d
  · subst hi
    have := hd i rfl
    simp [this]
    exact hv
  rw [if_neg hi]
  have := h i
  rw [Array.getD_eq_getD_getElem?] at this ⊢
  rw [Array.getElem?_setIfInBounds_ne (Ne.symm hi)]
  exact this
theorem text_ok {N : Nat} (H : ∀ n, n < N → Op1Ok G n) {w0 : World} (hb : Base G w0) {x : Ctx} {ops : Array Oper} {c : Fr} {k : List Item} {cs : List Frame} :
 ∀ (n : Nat) (l : List Oper) (s : St) (tr : List St) (e : Ex) (s' : St) (tr' : List St), n ≤ N → execOps G n x ops l s tr = some (e, s', tr') →
 ∀ (j : Nat), l = ops.toList.drop j → ∀ (ρ : Emb) (tm : Array Value) (df : List Deferred) (md : FrameMode) (w : World), CtxOk G.P ρ w0.heap.size x c → SR G w0 ρ x s tm df cs md w → TmpsR ρ w0.heap.size s.tmps tm →
 ExRes G w0 ρ x c k cs tm w (lone (F x c tm df .run (.inRegion ops (List.range' j l.length) :: k)) (reMode x.deferred cs md) w) s e s' := by
 intro n
 induction n with
 | zero => intro l s tr e s' tr' _ he; simp [execOps] at he
 | succ n ih =>
  intro l s tr e s' tr' hn he j hl ρ tm df md w hx hs ht
  unfold execOps at he
  cases l with
  | nil =>
   simp only [Option.some.injEq, Prod.mk.injEq] at he
   obtain ⟨rfl, rfl, _⟩ := he
   exact ⟨ρ, tm, df, md, w, ⟨hs, Ext.refl .., fun h => h⟩, ht, rfl, .one mv_end⟩
  | cons o rest =>
   simp only at he
   have hj : ops[j]? = some o := by
    have : (ops.toList.drop j)[0]? = some o := by rw [← hl]; rfl
    rw [List.getElem?_drop] at this
    simpa using this
   have hrest : rest = ops.toList.drop (j + 1) := by
    have : (ops.toList.drop j).drop 1 = rest := by rw [← hl]; rfl
    rw [List.drop_drop] at this
    exact this.symm
   cases h1 : execOp1 G n x ops o s with
   | none => rw [h1] at he; cases he
   | some q =>
    obtain ⟨e1, s1⟩ := q
    rw [h1] at he
    have hop := H n (by omega) x ops o s e1 s1 h1 w0 hb ρ c k cs tm df md w j (List.range' (j + 1) rest.length) hj hx hs (fun t _ => ht t)
    rw [List.length_cons, List.range'_succ]
    cases e1 with
    | normal =>
     simp only at he
     obtain ⟨ρ', df', md', w', hp, v, v', e2, e3, e4, e5⟩ := hop
     have hsz : (putA tm o.dst v').size = tm.size := size_putA
     have hp' : Post G w0 ρ x s s1 (putA tm o.dst v') cs w ρ' df' md' w' := ⟨⟨hp.sr.mem, hp.sr.defers, hp.sr.cm, by rw [hsz]; exact hp.sr.size, hp.sr.cs⟩, hp.ext, hp.cm⟩
     have := ih rest s1 (s :: tr) e s' tr' (by omega) he (j + 1) hrest ρ' (putA tm o.dst v') df' md' w' (hx.mono hp.ext.le) hp'.sr
      (by rw [e2]; exact (ht.mono hp.ext.le).put (fun d hd => Nat.lt_of_lt_of_le (e3 d hd) hs.size) e4)
     exact .of_steps e5 (ExRes.after hp' hsz this)
    | panic ch =>
     simp only [Option.some.injEq, Prod.mk.injEq] at he
     obtain ⟨rfl, rfl, _⟩ := he
     obtain ⟨ρ', df', md', w', hp, e2, ch', todo, e3, e4⟩ := hop
     exact ⟨ρ', tm, df', md', w', hp, by rw [e2]; exact ht.mono hp.ext.le, rfl, ch', todo, e3, e4⟩
    | exit id => cases he
    | ret => cases he
theorem op1_quiet {n : Nat} {x : Ctx} {ops : Array Oper} {o : Oper} {s s1 : St} (h : execOp1 G n x ops o s = some (.normal, s1)) (hq : (wantedV o ops s.tmps && !quiet G o.op) = false) :
 guardOk o ops s.tmps = true ∧ ∃ v, s1 = { s with tmps := putT s.tmps o.dst v } ∧ (∀ d, o.dst = some d → d < x.nt) ∧
  ((wantedV o ops s.tmps = false ∧ v = ku) ∨ (wantedV o ops s.tmps = true ∧ quiet G o.op = true ∧ opV G (evalT G.ng s.tmps) o s.m = .value v s.m)) := by
 cases n with
 | zero => simp [execOp1] at h
 | succ n =>
  unfold execOp1 at h
  by_cases hg : guardOk o ops s.tmps = true
  ·
   rw [if_pos hg] at h
   refine ⟨hg, ?_⟩
   by_cases hw : wantedV o ops s.tmps = true
   ·
    rw [if_pos hw] at h
    rw [hw] at hq
    have hqq : quiet G o.op = true := by simpa using hq
    rcases quiet_opV (ev := evalT G.ng s.tmps) hqq s.m with ⟨v, e⟩ | e
    · rw [e] at h
      obtain ⟨_, rfl, hd⟩ := next_spec h
      exact ⟨v, rfl, hd, .inr ⟨hw, hqq, e⟩⟩
    rw [e] at h; cases h
   rw [if_neg hw] at h
   obtain ⟨_, rfl, hd⟩ := next_spec h
   exact ⟨ku, rfl, hd, .inl ⟨by simpa using hw, rfl⟩⟩
  rw [if_neg hg] at h; cases h
theorem next_of {x : Ctx} {s : St} {dst : Option Tmp} {v : Value} (hd : ∀ d, dst = some d → d < x.nt) : St.next x s dst v = some (.normal, { s with tmps := putT s.tmps dst v }) := by
 unfold St.next St.put
 cases dst with
 | none => rfl
 | some d => simp only [if_pos (hd d rfl)]; rfl
theorem op1_again {n : Nat} {x : Ctx} {ops : Array Oper} {o : Oper} {s : St} {v : Value} (hg : guardOk o ops s.tmps = true) (hd : ∀ d, o.dst = some d → d < x.nt)
 (h : (wantedV o ops s.tmps = false ∧ v = ku) ∨ (wantedV o ops s.tmps = true ∧ opV G (evalT G.ng s.tmps) o s.m = .value v s.m)) :
 execOp1 G (n + 1) x ops o s = some (.normal, { s with tmps := putT s.tmps o.dst v }) := by
 unfold execOp1
 rw [if_pos hg]
 rcases h with ⟨h1, rfl⟩ | ⟨h1, h2⟩
 · rw [h1]; simp only [Bool.false_eq_true, if_false]; exact next_of hd
 rw [h1, h2]; simp only [if_true]; exact next_of hd
theorem op1_put {n : Nat} {x : Ctx} {ops : Array Oper} {o : Oper} {s s1 : St} (h : execOp1 G n x ops o s = some (.normal, s1)) : ∃ v, s1.tmps = putT s.tmps o.dst v := by
 cases n with
 | zero => simp [execOp1] at h
 | succ n =>
  unfold execOp1 at h
  have key : ∀ (s2 : St) v, St.next x s2 o.dst v = some (.normal, s1) → s2.tmps = s.tmps → ∃ v, s1.tmps = putT s.tmps o.dst v := by
   intro s2 v e2 e1
   obtain ⟨_, rfl, _⟩ := next_spec e2
   exact ⟨v, by simp only [e1]⟩
  split at h
  ·
   split at h
   ·
    split at h
    · exact key _ _ h rfl
    · exact key _ _ h rfl
    · split at h
      · exact key _ _ h rfl
      · simp at h
      cases h
    · split at h
      · exact key _ _ h rfl
      · simp at h
      cases h
    · split at h
      · cases h
      exact key _ _ h rfl
    · split at h
      · cases h
      split at h
      · exact key _ _ h rfl
      · cases h
      exact key _ _ h rfl
    · simp at h
    cases h
   exact key _ _ h rfl
  cases h
theorem op1_panic {n : Nat} {x : Ctx} {ops : Array Oper} {o : Oper} {s s1 : St} {ch : List PanicEntry} (h : execOp1 G n x ops o s = some (.panic ch, s1)) :
 (wantedV o ops s.tmps && !quiet G o.op) = true := by
 cases n with
 | zero => simp [execOp1] at h
 | succ n =>
  unfold execOp1 at h
  have key : ∀ (s2 : St) v, St.next x s2 o.dst v ≠ some (.panic ch, s1) := by
   intro s2 v e2
   have := (next_spec e2).1
   cases this
  by_cases hg : guardOk o ops s.tmps = true
  ·
   rw [if_pos hg] at h
   by_cases hw : wantedV o ops s.tmps = true
   ·
    rw [if_pos hw] at h
    rw [hw]
    cases hq : quiet G o.op with
    | false => rfl
    | true =>
     rcases quiet_opV (ev := evalT G.ng s.tmps) hq s.m with ⟨v, e⟩ | e
     · rw [e] at h; exact absurd h (key _ _)
     rw [e] at h; cases h
   rw [if_neg hw] at h; exact absurd h (key _ _)
  rw [if_neg hg] at h; cases h
end Go.Am
namespace Go.Am
variable {G : Cfg}
structure Run (G : Cfg) (N : Nat) (x : Ctx) (ops : Array Oper) (T : Nat → St) (p a : Nat) : Prop where
 le : p ≤ ops.size
 step : ∀ j, j < p → ∃ o n, ops[j]? = some o ∧ n < N ∧ execOp1 G n x ops o (T j) = some (.normal, T (j + 1))
 edges : ∀ j o, ops[j]? = some o → ∀ e ∈ o.after, Region.binds .any e = true → e.on < j
 pairs : ∀ i j y z, i < j → ops[i]? = some y → ops[j]? = some z → prec (before ops) i j = true ∨ (apartT ops y z = true ∧ (quiet G y.op = true ∨ quiet G z.op = true ∨ j = a))
 float : FloatOk G ops a
 again : ∀ k, k < p → actsAt G ops k (T k) = true → ∀ q, q < p → (q < k → prec (before ops) q k = true ∨ againOk G ops q (T q) (T (k + 1)).m = true) ∧
  (k < q → prec (before ops) k q = true ∨ againOk G ops q (T q) (T k).m = true)
variable {N : Nat} {x : Ctx} {ops : Array Oper} {T : Nat → St} {p a : Nat}
theorem Run.still {f : Nat} (R : Run G N x ops T p f) {a b : Nat} (hab : a ≤ b) (hb : b ≤ p) (h : ∀ k, a ≤ k → k < b → actsAt G ops k (T k) = false) :
 (T b).m = (T a).m ∧ (T b).defers = (T a).defers ∧ (T b).cm = (T a).cm := by
 induction b with
 | zero => rw [show a = 0 by omega]; exact ⟨rfl, rfl, rfl⟩
 | succ b ih =>
  by_cases e : a = b + 1
  · subst e; exact ⟨rfl, rfl, rfl⟩
  obtain ⟨h1, h2, h3⟩ := ih (by omega) (by omega) (fun k hk hk2 => h k hk (by omega))
  obtain ⟨o, n, ho, _, hs⟩ := R.step b (by omega)
  have ha := h b (by omega) (by omega)
  unfold actsAt at ha
  rw [ho] at ha
  obtain ⟨_, v, hv, _⟩ := op1_quiet hs ha
  rw [hv]
  exact ⟨h1, h2, h3⟩
theorem Run.keeps {f : Nat} (R : Run G N x ops T p f) {a b t : Nat} (hab : a ≤ b) (hb : b ≤ p) (h : ∀ k o, a ≤ k → k < b → ops[k]? = some o → o.dst ≠ some t) : (T b).tmps.get t = (T a).tmps.get t := by
 induction b with
 | zero => rw [show a = 0 by omega]
 | succ b ih =>
  by_cases e : a = b + 1
  · subst e; rfl
  obtain ⟨o, n, ho, _, hs⟩ := R.step b (by omega)
  obtain ⟨v, hv⟩ := op1_put hs
  rw [hv]
  have := h b o (by omega) (by omega) ho
  have ih := ih (by omega) (by omega) (fun k o hk hk2 => h k o hk (by omega))
  cases hd : o.dst with
  | none => exact ih
  | some d =>
   simp only [putT]
   rw [Tr.get_set, if_neg (fun e => this (by rw [hd, e]))]
   exact ih
theorem acts_of {j : Nat} {o : Oper} {s : St} (ho : ops[j]? = some o) (h : actsAt G ops j s = true) : quiet G o.op = false := by
 unfold actsAt at h
 rw [ho] at h
 simp only [Bool.and_eq_true, Bool.not_eq_true'] at h
 exact h.2
theorem lt_of_some {ops : Array Oper} {j : Nat} {o : Oper} (h : ops[j]? = some o) : j < ops.size := by
 rcases Nat.lt_or_ge j ops.size with h' | h'
 · exact h'
 rw [Array.getElem?_eq_none h'] at h; cases h
structure Inv (G : Cfg) (w0 : World) (x : Ctx) (ops : Array Oper) (T : Nat → St) (p : Nat) (cs : List Frame) (D : Nat → Prop) (ρ0 : Emb) (wS : World) (e : Nat) (ρ : Emb) (tm : Array Value) (df : List Deferred) (md : FrameMode) (w : World) : Prop where
 closed : ∀ j, D j → Closed ops D j
 lt : ∀ j, D j → j < p
 ep : e ≤ p
 before : ∀ k, k < e → actsAt G ops k (T k) = true → D k
 behind : ∀ k, e ≤ k → k < p → actsAt G ops k (T k) = true → ¬ D k
 post : Post G w0 ρ0 x (T 0) (T e) tm cs wS ρ df md w
 last : ∀ t i o, D i → ops[i]? = some o → o.dst = some t → (∀ j y, D j → ops[j]? = some y → y.dst = some t → j ≤ i) → VR ρ w0.heap.size (((T (i + 1)).tmps.get t).getD undef) (tm.getD t undef)
 never : ∀ t, (∀ i o, D i → ops[i]? = some o → o.dst ≠ some t) → VR ρ w0.heap.size (((T 0).tmps.get t).getD undef) (tm.getD t undef)
variable {w0 wS w : World} {cs : List Frame} {D : Nat → Prop} {ρ0 ρ : Emb} {e : Nat} {tm : Array Value} {df : List Deferred} {md : FrameMode}
theorem Inv.prec_in (I : Inv G w0 x ops T p cs D ρ0 wS e ρ tm df md w) (R : Run G N x ops T p a) {j : Nat} (hj : j < ops.size) (hc : Closed ops D j) {i : Nat} (h : prec (Go.Am.before ops) i j = true) : D i :=
 Go.Am.prec_in R.edges I.closed j hj hc i h
theorem Inv.reads (I : Inv G w0 x ops T p cs D ρ0 wS e ρ tm df md w) (R : Run G N x ops T p a) {q : Nat} {o : Oper} (ho : ops[q]? = some o) (hq : q ≤ p) (hnd : ¬ D q) (hc : Closed ops D q) {t : Nat} (ht : t ∈ readsOf ops o) :
 VR ρ w0.heap.size (((T q).tmps.get t).getD undef) (tm.getD t undef) := by
 have hqs := lt_of_some ho
 have h1 : ∀ i y, D i → ops[i]? = some y → y.dst = some t → i < q := by
  intro i y hi hy hyd
  rcases Nat.lt_trichotomy i q with h | h | h
  · exact h
  · subst h; exact absurd hi hnd
  rcases R.pairs q i o y h ho hy with h2 | ⟨h2, _⟩
  · exact absurd (I.prec_in R (lt_of_some hy) (I.closed i hi) h2) hnd
  exfalso
  unfold apartT at h2
  rw [hyd] at h2
  cases hd : o.dst with
  | none => rw [hd] at h2; simp [ht] at h2
  | some d => rw [hd] at h2; simp [ht] at h2
 have h2 : ∀ i y, i < q → ops[i]? = some y → y.dst = some t → D i := by
  intro i y hi hy hyd
  rcases R.pairs i q y o hi hy ho with h2 | ⟨h2, _⟩
  · exact I.prec_in R hqs hc h2
  exfalso
  unfold apartT at h2
  rw [hyd] at h2
  cases hd : o.dst with
  | none => rw [hd] at h2; simp [ht] at h2
  | some d => rw [hd] at h2; simp [ht] at h2
 rcases exists_max (fun i => ∃ y, ops[i]? = some y ∧ y.dst = some t) q with h | ⟨i, h3, ⟨y, h4, h5⟩, h6⟩
 · have : (T q).tmps.get t = (T 0).tmps.get t := R.keeps (Nat.zero_le _) hq (fun k o _ hk ho hd => h k hk ⟨o, ho, hd⟩)
   rw [this]
   exact I.never t (fun i o hi hy hd => h i (h1 i o hi hy hd) ⟨o, hy, hd⟩)
 have : (T q).tmps.get t = (T (i + 1)).tmps.get t := R.keeps (by omega) hq (fun k o hk1 hk ho hd => by have := h6 k hk ⟨o, ho, hd⟩; omega)
 rw [this]
 exact I.last t i y (h2 i y h3 h4 h5) h4 h5 (fun j z hj hz hzd => h6 j (h1 j z hj hz hzd) ⟨z, hz, hzd⟩)
end Go.Am
namespace Go.Am
variable {G : Cfg} {N : Nat} {x : Ctx} {ops : Array Oper} {T : Nat → St} {p a : Nat}
variable {w0 wS w : World} {cs : List Frame} {D : Nat → Prop} {ρ0 ρ : Emb} {e : Nat} {tm : Array Value} {df : List Deferred} {md : FrameMode}
theorem still_same {ev : Operand → Value} {o : Oper} {m m' : Mem} {v : Value} (h : still o.op = true) (hv : opV G ev o m = .value v m) : opV G ev o m' = .value v m' := by
 obtain ⟨dst, op, type, pos, after, guard⟩ := o
 have hrp : ∀ r, rp r m = .value v m → rp r m' = .value v m' := by
  intro r; unfold rp; split
  · split
    · intro h; cases h; rfl
    intro h; cases h
  intro h; cases h
 have hrv : ∀ r, rv r m = .value v m → rv r m' = .value v m' := by
  intro r; unfold rv; split
  · intro h; cases h; rfl
  intro h; cases h
 cases op <;> simp only [still, Bool.false_eq_true] at h <;> simp only [opV] at hv ⊢
 case move => cases hv; rfl
 case assign => cases hv; rfl
 case pick => unfold opPick at hv ⊢; split at hv <;> first | (cases hv; rfl) | cases hv
 case build =>
  unfold opBuild at hv ⊢
  repeat' split at hv
  all_goals first | (cases hv; done) | (cases hv; simp_all)
 case nilCheck => unfold opNilCheck at hv ⊢; split at hv <;> first | (cases hv; done) | (cases hv; rfl)
 case unOp => unfold opUn at hv ⊢; split at hv; (rename_i hc; simp only [hc, if_true]; exact hrp _ hv); cases hv
 case makeInterface => unfold opMakeInterface at hv ⊢; split at hv <;> first | (cases hv; done) | (cases hv; simp_all)
 case makeFunc => unfold opMakeFunc at hv ⊢; split at hv <;> first | (cases hv; done) | (cases hv; rfl)
 case fieldAddr =>
  unfold opFieldAddr at hv ⊢
  repeat' split at hv
  all_goals first | (cases hv; done) | (cases hv; simp_all)
 case field ft fx fi =>
  unfold opField at hv ⊢
  cases hu : und G.toEnv ft with
  | none => rw [hu] at hv; cases hv
  | some d =>
   rw [hu] at hv
   cases d <;> try (cases hv; done)
   rename_i fs
   cases hx : ev fx <;> rw [hx] at hv <;> try (cases hv; done)
   rename_i cs
   simp only at hv ⊢
   cases hf : fs[fi]? with
   | none => rw [hf] at hv; cases hv
   | some f => rw [hf] at hv; exact hrv _ hv
 case indexAddr =>
  unfold opIndexAddr at hv ⊢
  repeat' split at hv
  all_goals first | (cases hv; done) | (cases hv; simp_all)
 case index =>
  unfold opIndex at hv ⊢
  split at hv
  · split at hv
    · rename_i h1 h2; simp only [h1, h2, if_true]; exact hrv _ hv
    cases hv
  · simp_all
  cases hv
 case extract =>
  unfold opExtract at hv ⊢
  split at hv
  · exact hrv _ hv
  cases hv
theorem again_spec {q : Nat} {o : Oper} {s : St} {m : Mem} {v : Value} (ho : ops[q]? = some o) (h : againOk G ops q s m = true) (hw : wantedV o ops s.tmps = true) (hq : quiet G o.op = true)
 (hv : opV G (evalT G.ng s.tmps) o s.m = .value v s.m) : opV G (evalT G.ng s.tmps) o m = .value v m := by
 unfold againOk at h
 rw [ho] at h
 cases hst : still o.op with
 | true => exact still_same hst hv
 | false =>
 simp only [hw, hq, hst, Bool.not_false, Bool.and_self, if_true, hv] at h
 rcases quiet_opV (ev := evalT G.ng s.tmps) hq m with ⟨u, e⟩ | e
 · rw [e] at h
   rw [e, beqV_eq _ _ _ h]
 rw [e] at h; cases h
theorem Inv.next (I : Inv G w0 x ops T p cs D ρ0 wS e ρ tm df md w) (R : Run G N x ops T p a) {q : Nat} {o : Oper} (ho : ops[q]? = some o) (hq : q ≤ p) (hnd : ¬ D q) (hc : Closed ops D q) (ha : actsAt G ops q (T q) = true) (hqa : q ≠ a) :
 e ≤ q ∧ ((T q).m = (T e).m ∧ (T q).defers = (T e).defers ∧ (T q).cm = (T e).cm) := by
 have he : e ≤ q := by
  rcases Nat.lt_or_ge q e with h | h
  · exact absurd (I.before q h ha) hnd
  exact h
 refine ⟨he, R.still he hq (fun k h1 h2 => ?_)⟩
 cases hk : actsAt G ops k (T k) with
 | false => rfl
 | true =>
  exfalso
  obtain ⟨y, n, hy, _, _⟩ := R.step k (by omega)
  rcases R.pairs k q y o h2 hy ho with h3 | ⟨_, h3 | h3 | h3⟩
  · exact I.behind k h1 (by omega) hk (I.prec_in R (lt_of_some ho) hc h3)
  · rw [acts_of hy hk] at h3; cases h3
  · rw [acts_of ho ha] at h3; cases h3
  exact hqa h3
theorem Inv.same (I : Inv G w0 x ops T p cs D ρ0 wS e ρ tm df md w) (R : Run G N x ops T p a) {q : Nat} {o : Oper} {v : Value} (ho : ops[q]? = some o) (hq : q < p) (hnd : ¬ D q) (hc : Closed ops D q) (ha : actsAt G ops q (T q) = false)
 (hw : wantedV o ops (T q).tmps = true) (hqu : quiet G o.op = true) (hv : opV G (evalT G.ng (T q).tmps) o (T q).m = .value v (T q).m) :
 opV G (evalT G.ng (T q).tmps) o (T e).m = .value v (T e).m := by
 rcases Nat.lt_or_ge q e with h | h
 ·
  -- the last act between
  rcases exists_max (fun k => q ≤ k ∧ actsAt G ops k (T k) = true) e with h1 | ⟨k, h1, ⟨h2, h3⟩, h4⟩
  · have hm := (R.still (by omega : q ≤ e) I.ep (fun k hk1 hk2 => by
     cases hk : actsAt G ops k (T k) with
     | false => rfl
     | true => exact absurd ⟨hk1, hk⟩ (h1 k hk2))).1
    rw [hm]; exact hv
  have hkq : k ≠ q := by intro e; subst e; rw [ha] at h3; cases h3
  have hm := (R.still (by omega : k + 1 ≤ e) I.ep (fun j hj1 hj2 => by
   cases hk : actsAt G ops j (T j) with
   | false => rfl
   | true => have := h4 j hj2 ⟨by omega, hk⟩; omega)).1
  have hk := I.ep
  rcases (R.again k (by omega) h3 q hq).1 (by omega) with h5 | h5
  · have hDk := I.before k h1 h3
    obtain ⟨y, _, hy, _, _⟩ := R.step k (by omega)
    exact absurd (I.prec_in R (lt_of_some hy) (I.closed k hDk) h5) hnd
  rw [hm]; exact again_spec ho h5 hw hqu hv
 rcases exists_min (fun k => actsAt G ops k (T k) = true) e q with h1 | ⟨k, h1, h2, h3, h4⟩
 ·
  have hm := (R.still h (by omega) (fun k hk1 hk2 => by
   cases hk : actsAt G ops k (T k) with
   | false => rfl
   | true => exact absurd hk (h1 k hk1 hk2))).1
  rw [← hm]; exact hv
 have hm := (R.still h1 (by omega) (fun j hj1 hj2 => by
  cases hk : actsAt G ops j (T j) with
  | false => rfl
  | true => exact absurd hk (h4 j hj1 hj2))).1
 rcases (R.again k (by omega) h3 q hq).2 h2 with h5 | h5
 · exact absurd (I.prec_in R (lt_of_some ho) hc h5) (I.behind k h1 (by omega) h3)
 rw [← hm]; exact again_spec ho h5 hw hqu hv
theorem Inv.tmps (I : Inv G w0 x ops T p cs D ρ0 wS e ρ tm df md w) (R : Run G N x ops T p a) {q : Nat} {o : Oper} (ho : ops[q]? = some o) (hnd : ¬ D q) {ρ' : Emb} (hle : ρ.le ρ') {v v' : Value}
 (hv : (T (q + 1)).tmps = putT (T q).tmps o.dst v) (hd : ∀ d, o.dst = some d → d < tm.size) (hr : VR ρ' w0.heap.size v v') :
 (∀ t i y, (D i ∨ i = q) → ops[i]? = some y → y.dst = some t → (∀ j z, (D j ∨ j = q) → ops[j]? = some z → z.dst = some t → j ≤ i) → VR ρ' w0.heap.size (((T (i + 1)).tmps.get t).getD undef) ((putA tm o.dst v').getD t undef)) ∧
 (∀ t, (∀ i y, (D i ∨ i = q) → ops[i]? = some y → y.dst ≠ some t) → VR ρ' w0.heap.size (((T 0).tmps.get t).getD undef) ((putA tm o.dst v').getD t undef)) := by
 have hkeep : ∀ t, o.dst ≠ some t → (putA tm o.dst v').getD t undef = tm.getD t undef := by
  intro t ht
  cases hdd : o.dst with
  | none => rfl
  | some d =>
   simp only [putA]
   rw [Array.getD_eq_getD_getElem?, Array.getD_eq_getD_getElem?, Array.getElem?_setIfInBounds_ne (fun e => ht (by rw [hdd, e]))]
 constructor
 ·
  intro t i y hi hy hyd hmax
  by_cases ht : o.dst = some t
  ·
   have hqi : q ≤ i := hmax q o (.inr rfl) ho ht
   have hiq : i = q := by
    rcases hi with hi | hi
    ·
     rcases Nat.lt_or_ge q i with h | h
     · exfalso
       rcases R.pairs q i o y h ho hy with h2 | ⟨h2, _⟩
       · exact hnd (I.prec_in R (lt_of_some hy) (I.closed i hi) h2)
       unfold apartT at h2
       rw [ht, hyd] at h2
       simp at h2
     omega
    exact hi
   subst hiq
   rw [hv, ht]
   simp only [putT, putA]
   rw [Tr.get_set, if_pos rfl]
   have := hd t ht
   simp [this]
   exact hr
  have hne : i ≠ q := by
   intro e; subst e
   rw [ho] at hy; cases hy
   exact ht hyd
  have hDi : D i := hi.resolve_right hne
  rw [hkeep t ht]
  exact (I.last t i y hDi hy hyd (fun j z hj hz hzd => hmax j z (.inl hj) hz hzd)).mono hle
 intro t ht
 rw [hkeep t (ht q o (.inr rfl) ho)]
 exact (I.never t (fun i y hi => ht i y (.inl hi))).mono hle
theorem Inv.step (H : ∀ n, n < N → Op1Ok G n) (hb : Base G w0) (R : Run G N x ops T p a) {c : Fr} (hx : CtxOk G.P ρ0 w0.heap.size x c) (I : Inv G w0 x ops T p cs D ρ0 wS e ρ tm df md w)
 {q : Nat} {o : Oper} (ho : ops[q]? = some o) (hq : q < p) (hnd : ¬ D q) (hc : Closed ops D q) (hqa : q ≠ a) {tc : Array Value} (hts : tc.size = tm.size) (htr : ∀ t ∈ readsOf ops o, tc.getD t undef = tm.getD t undef)
 {k : List Item} {rest : List Nat} :
 ∃ e' ρ' v' df' md' w', Inv G w0 x ops T p cs (fun j => D j ∨ j = q) ρ0 wS e' ρ' (putA tm o.dst v') df' md' w' ∧ (∃ m m', Ext w0 ρ ρ' m m' w w') ∧ (e' = e ∨ e' = q + 1) ∧
  Steps G.P (lone (F x c tc df .run (.inRegion ops (q :: rest) :: k)) (reMode x.deferred cs md) w) (lone (F x c (putA tc o.dst v') df' .run (.inRegion ops rest :: k)) (reMode x.deferred cs md') w') := by
 obtain ⟨o', n, ho', hn, hs⟩ := R.step q hq
 rw [ho] at ho'; cases ho'
 have hreads : ∀ t ∈ readsOf ops o, VR ρ w0.heap.size (((T q).tmps.get t).getD undef) (tc.getD t undef) := fun t ht => by rw [htr t ht]; exact I.reads R ho (by omega) hnd hc ht
 have hle0 := I.post.ext.le
 have hclosed : ∀ j, (D j ∨ j = q) → Closed ops (fun j => D j ∨ j = q) j := by
  intro j hj o e2 e he hbd
  rcases hj with hj | rfl
  · exact .inl (I.closed j hj o e2 e he hbd)
  exact .inl (hc o e2 e he hbd)
 have hlt : ∀ j, (D j ∨ j = q) → j < p := by
  intro j hj
  rcases hj with hj | rfl
  · exact I.lt j hj
  exact hq
 cases ha : actsAt G ops q (T q) with
 | true =>
  obtain ⟨he, hm1, hm2, hm3⟩ := I.next R ho (by omega) hnd hc ha hqa
  have sr := I.post.sr
  have sr' : SR G w0 ρ x (T q) tc df cs md w := ⟨by rw [hm1]; exact sr.mem, by rw [hm2]; exact sr.defers, by rw [hm3]; exact sr.cm, by rw [hts]; exact sr.size, sr.cs⟩
  obtain ⟨ρ', df', md', w', hp, v, v', e2, e3, e4, e5⟩ := H n hn x ops o (T q) .normal (T (q + 1)) hs w0 hb ρ c k cs tc df md w q rest ho (hx.mono hle0) sr' hreads
  have hsz : (putA tm o.dst v').size = tm.size := size_putA
  have hext : Ext w0 ρ ρ' (T e).m (T (q + 1)).m w w' := by rw [← hm1]; exact hp.ext
  obtain ⟨t1, t2⟩ := I.tmps R ho hnd hp.ext.le e2 (fun d hd => Nat.lt_of_lt_of_le (e3 d hd) sr.size) e4
  refine ⟨q + 1, ρ', v', df', md', w', ⟨hclosed, hlt, by omega, ?_, ?_, ⟨⟨hp.sr.mem, hp.sr.defers, hp.sr.cm, by rw [hsz]; exact sr.size, hp.sr.cs⟩, I.post.ext.trans hext, fun h => hp.cm (by rw [hm3]; exact I.post.cm h)⟩, t1, t2⟩, ⟨_, _, hext⟩, .inr rfl, e5⟩
  ·
   intro k hk hka
   rcases Nat.lt_or_ge k e with h | h
   · exact .inl (I.before k h hka)
   by_cases hkq : k = q
   · exact .inr hkq
   exfalso
   obtain ⟨y, _, hy, _, _⟩ := R.step k (by omega)
   rcases R.pairs k q y o (by omega) hy ho with h3 | ⟨_, h3 | h3 | h3⟩
   · exact I.behind k h (by omega) hka (I.prec_in R (lt_of_some ho) hc h3)
   · rw [acts_of hy hka] at h3; cases h3
   · rw [acts_of ho ha] at h3; cases h3
   exact hqa h3
  intro k hk1 hk2 hka hD
  rcases hD with hD | hD
  · exact I.behind k (by omega) hk2 hka hD
  omega
 | false =>
  have haq := ha
  unfold actsAt at haq
  rw [ho] at haq
  obtain ⟨hg, v, hv, hd, hcase⟩ := op1_quiet hs haq
  have sr := I.post.sr
  obtain ⟨n', rfl⟩ : ∃ n', n = n' + 1 := by
   cases n with
   | zero => simp [execOp1] at hs
   | succ n' => exact ⟨n', rfl⟩
  have hmix : execOp1 G (n' + 1) x ops o { T q with m := (T e).m, defers := (T e).defers, cm := (T e).cm } = some (.normal, { tmps := putT (T q).tmps o.dst v, m := (T e).m, defers := (T e).defers, cm := (T e).cm }) := by
   refine op1_again hg hd ?_
   rcases hcase with ⟨h1, h2⟩ | ⟨h1, h2, h3⟩
   · exact .inl ⟨h1, h2⟩
   exact .inr ⟨h1, I.same R ho hq hnd hc ha h1 h2 h3⟩
  obtain ⟨ρ', df', md', w', hp, v2, v', e2, e3, e4, e5⟩ := H (n' + 1) hn x ops o _ .normal _ hmix w0 hb ρ c k cs tc df md w q rest ho (hx.mono hle0) ⟨sr.mem, sr.defers, sr.cm, by rw [hts]; exact sr.size, sr.cs⟩ hreads
  have hsz : (putA tm o.dst v').size = tm.size := size_putA
  obtain ⟨t1, t2⟩ := I.tmps R ho hnd hp.ext.le (v := v2) (v' := v') (by rw [hv]; exact e2) (fun d hd => Nat.lt_of_lt_of_le (e3 d hd) sr.size) e4
  refine ⟨e, ρ', v', df', md', w', ⟨hclosed, hlt, I.ep, fun k hk hka => .inl (I.before k hk hka), ?_, ⟨⟨hp.sr.mem, hp.sr.defers, hp.sr.cm, by rw [hsz]; exact sr.size, hp.sr.cs⟩, I.post.ext.trans hp.ext, I.post.cm⟩, t1, t2⟩, ⟨_, _, hp.ext⟩, .inl rfl, e5⟩
  intro k hk1 hk2 hka hD
  rcases hD with hD | hD
  · exact I.behind k hk1 hk2 hka hD
  subst hD; rw [ha] at hka; cases hka
end Go.Am
namespace Go.Am
variable {G : Cfg} {N : Nat} {x : Ctx} {ops : Array Oper} {T : Nat → St} {p a : Nat}
variable {w0 wS w : World} {cs : List Frame} {D : Nat → Prop} {ρ0 ρ : Emb} {e : Nat} {tm : Array Value} {df : List Deferred} {md : FrameMode}
theorem MR.push {E : Env} {m : Mem} (h : MR E w0 ρ m w) (o : Obj) : MR E w0 ρ m { w with heap := w.heap.push o } ∧ Ext w0 ρ ρ m m w { w with heap := w.heap.push o } := by
 have hold : ∀ b, b < w.heap.size → (w.heap.push o)[b]? = w.heap[b]? := by
  intro b hb; rw [Array.getElem?_push, if_neg (by omega)]
 have hle := h.le
 refine ⟨⟨h.fix, fun b hb => ?_, ?_, h.os, h.tape, h.output, fun k L e => ?_, fun k L bl e g => ?_, h.inj, h.fresh⟩, ⟨Emb.le_refl ρ, ?_, fun b hb _ => hold b hb, fun k L e => .inl e, Nat.le_refl _⟩⟩
 · simp only; rw [hold b (by omega)]; exact h.base b hb
 · simp only [Array.size_push]; omega
 · have := h.loc k L e; simp only [Array.size_push]; omega
 · exact (h.blk k L bl e g).congr (hold _ (h.loc k L e).2.1)
 simp
theorem MR.adopt {E : Env} {m : Mem} (h : MR E w0 ρ m w) {b d n es : Nat} (bl : Blk) (hb0 : w0.heap.size ≤ b) (hb : b < w.heap.size) (hn : ∀ k L, ρ k = some L → L.b ≠ b)
 (hbr : BR E.P (ρ.put m.nxt ⟨b, 0, d, n, es⟩) w0.heap.size bl ⟨b, 0, d, n, es⟩ w) : MR E w0 (ρ.put m.nxt ⟨b, 0, d, n, es⟩) (m.new bl) w := by
 have hle := Emb.put_le (ρ := ρ) (k := m.nxt) (L := ⟨b, 0, d, n, es⟩) h.none_nxt
 refine ⟨h.fix, h.base, h.le, h.os, h.tape, h.output, ?_, ?_, ?_, ?_⟩
 ·
  intro k L e
  unfold Emb.put at e
  split at e
  · cases e; rename_i hk; subst hk; exact ⟨hb0, hb, by simp [Mem.new]⟩
  have := h.loc k L e; simp only [Mem.new]; omega
 ·
  intro k L b2 e g
  simp only [Mem.new] at g
  rw [Tr.get_set] at g
  unfold Emb.put at e
  by_cases hk : k = m.nxt
  · rw [if_pos hk] at e g; cases e; cases g; exact hbr
  rw [if_neg hk] at e g
  exact (h.blk k L b2 e g).mono hle
 ·
  intro k k' L L' b1 b2 e e' g g' a a' hLb
  simp only [Mem.new] at g g'
  rw [Tr.get_set] at g g'
  unfold Emb.put at e e'
  by_cases hk : k = m.nxt
  · by_cases hk' : k' = m.nxt
    · omega
    rw [if_pos hk] at e; rw [if_neg hk'] at e'
    cases e
    exact absurd hLb.symm (hn k' L' e')
  rw [if_neg hk] at e g
  by_cases hk' : k' = m.nxt
  · rw [if_pos hk'] at e'
    cases e'
    exact absurd hLb (hn k L e)
  rw [if_neg hk'] at e' g'
  exact h.inj k k' L L' b1 b2 e e' g g' a a' hLb
 intro k hk
 simp only [Mem.new] at hk ⊢
 rw [Tr.get_set, if_neg (by omega)]
 exact h.fresh k (by omega)
theorem Ext.adopt {w0 w1 w2 : World} {ρ1 ρ2 : Emb} {m1 m2 : Mem} (h : Ext w0 ρ1 ρ2 m1 m2 w1 w2) (hn : ρ2 m2.nxt = none) {b d n es : Nat} (bl : Blk) (hb : w1.heap.size ≤ b) :
 Ext w0 ρ1 (ρ2.put m2.nxt ⟨b, 0, d, n, es⟩) m1 (m2.new bl) w1 w2 := by
 refine ⟨Emb.le_trans h.le (Emb.put_le hn), h.size, h.frame, fun k L e => ?_, Nat.le_trans h.nxt (by simp [Mem.new])⟩
 unfold Emb.put at e
 split at e
 · cases e; rename_i hk; exact .inr ⟨by rw [hk]; exact h.nxt, .inl hb⟩
 exact h.new k L e
structure Pend (G : Cfg) (wS : World) (ops : Array Oper) (a : Nat) (ρ : Emb) (tm tmI : Array Value) (w : World) (t : TypeId) (d : Tmp) (z : Value) (b : Nat) : Prop where
 op : ∃ o, ops[a]? = some o ∧ o.op = .alloc t ∧ o.guard = none ∧ o.dst = some d
 zero : zeroOf G.toEnv t = some z
 size : tm.size = tmI.size
 old : ∀ i, i ≠ d → tm.getD i undef = tmI.getD i undef
 at' : tm.getD d undef = .pointer (some ⟨b, 0, none⟩)
 ge : wS.heap.size ≤ b
 obj : w.heap[b]? = some (.cells z.cells t)
 out : ∀ k L, ρ k = some L → L.b ≠ b
theorem Pend.lt {t : TypeId} {d : Tmp} {z : Value} {b : Nat} {tmI : Array Value} (h : Pend G wS ops a ρ tm tmI w t d z b) : b < w.heap.size := by
 have := h.obj
 rcases Nat.lt_or_ge b w.heap.size with h | h
 · exact h
 rw [Array.getElem?_eq_none h] at this; cases this
theorem op1_alloc {n : Nat} {o : Oper} {s s1 : St} {t : TypeId} {d : Tmp} {ex : Ex} (h : execOp1 G n x ops o s = some (ex, s1)) (hop : o.op = .alloc t) (hg : o.guard = none) (hd : o.dst = some d) :
 ex = .normal ∧ ∃ z, zeroOf G.toEnv t = some z ∧ z.cells.toList.all plainV = true ∧ d < x.nt ∧
  s1 = { s with m := s.m.new (.cells (cellsOf z.cells.toList t)), tmps := s.tmps.set d (.pointer (some ⟨s.m.nb, 0, none⟩)) } := by
 cases n with
 | zero => simp [execOp1] at h
 | succ n =>
  unfold execOp1 at h
  have h1 : guardOk o ops s.tmps = true := by unfold guardOk; rw [hg]
  have h2 : wantedV o ops s.tmps = true := by unfold wantedV; rw [hg]
  have h3 : opV G (evalT G.ng s.tmps) o s.m = opAlloc G.toEnv t s.m := by unfold opV; rw [hop]
  rw [h1, h2, h3] at h
  simp only [if_true] at h
  unfold opAlloc at h
  cases hz : zeroOf G.toEnv t with
  | none => rw [hz] at h; simp at h
  | some z =>
   rw [hz] at h
   simp only at h
   unfold Mem.newCells at h
   by_cases hp : z.cells.toList.all plainV = true
   · rw [if_pos hp] at h
     simp only at h
     obtain ⟨h4, h5, h6⟩ := next_spec h
     refine ⟨h4, z, rfl, hp, h6 d hd, ?_⟩
     rw [h5, hd]
     rfl
   rw [if_neg hp] at h
   simp at h
theorem acts_alloc {o : Oper} {s : St} {t : TypeId} (ho : ops[a]? = some o) (hop : o.op = .alloc t) (hg : o.guard = none) : actsAt G ops a s = true := by
 unfold actsAt
 rw [ho]
 simp only
 unfold wantedV
 rw [hg]
 unfold quiet
 rw [hop]
 rfl
theorem Inv.early (R : Run G N x ops T p a) {c : Fr} (I : Inv G w0 x ops T p cs D ρ0 wS e ρ tm df md w) {o : Oper} (ho : ops[a]? = some o) (ha : a < p) (hnd : ¬ D a) {k : List Item} {rest : List Nat} :
 e ≤ a ∧ (∀ j, D j → j < a) ∧ ∃ w' t d z b v', Inv G w0 x ops T p cs D ρ0 wS e ρ tm df md w' ∧ Pend G wS ops a ρ (putA tm o.dst v') tm w' t d z b ∧
  Steps G.P (lone (F x c tm df .run (.inRegion ops (a :: rest) :: k)) (reMode x.deferred cs md) w) (lone (F x c (putA tm o.dst v') df .run (.inRegion ops rest :: k)) (reMode x.deferred cs md) w') := by
 obtain ⟨t, d, h1, h2, h3, h4⟩ := R.float o ho
 obtain ⟨o', n, ho', hn, hs⟩ := R.step a ha
 rw [ho] at ho'; cases ho'
 obtain ⟨_, z, hz, hp, hd, hs1⟩ := op1_alloc hs h1 h2 h3
 have hact : actsAt G ops a (T a) = true := acts_alloc ho h1 h2
 refine ⟨?_, fun j hj => ?_, ?_⟩
 · rcases Nat.lt_or_ge a e with h | h
   · exact absurd (I.before a h hact) hnd
   exact h
 ·
  rcases Nat.lt_trichotomy j a with h | h | h
  · exact h
  · subst h; exact absurd hj hnd
  have hjs : j < ops.size := by have := I.lt j hj; have := R.le; omega
  exact absurd (I.prec_in R hjs (I.closed j hj) (h4 j h hjs).1) hnd
 obtain ⟨g1, g2⟩ := I.post.sr.mem.push (.cells z.cells t)
 have sr := I.post.sr
 have hds : d < tm.size := Nat.lt_of_lt_of_le hd sr.size
 obtain ⟨hzr, _, _⟩ := zeroOf_run hz w
 refine ⟨_, t, d, z, w.heap.size, .pointer (some ⟨w.heap.size, 0, none⟩), ⟨I.closed, I.lt, I.ep, I.before, I.behind, ⟨⟨g1, sr.defers, sr.cm, sr.size, sr.cs⟩, I.post.ext.trans g2, I.post.cm⟩, I.last, I.never⟩,
  ⟨⟨o, ho, h1, h2, h3⟩, hz, size_putA, fun i hi => ?_, ?_, I.post.ext.size, by simp, fun k L e => ?_⟩, .one ?_⟩
 · rw [h3]
   simp only [putA]
   rw [Array.getD_eq_getD_getElem?, Array.getD_eq_getD_getElem?, Array.getElem?_setIfInBounds_ne (Ne.symm hi)]
 · rw [h3]
   simp [putA, hds]
 · have := (sr.mem.loc k L e).2.1; omega
 have hdf : c.rd = none ∨ ∀ d, o.op ≠ .defer d := .inr (fun d e => by rw [h1] at e; cases e)
 have hw : Region.wanted o (yielded ops tm) = true := by unfold Region.wanted; rw [h2]
 refine mv_apply ho hw hdf ?_
 have hrun : (execOp (evA tm) o).run G.P w = .ok (.value (.pointer (some ⟨w.heap.size, 0, none⟩))) { w with heap := w.heap.push (.cells z.cells t) } := by
  obtain ⟨dst, op, type, pos, after, guard⟩ := o
  simp only at h1
  subst h1
  simp [execOp, Instr.alloc, hzr, newVar, run_newRow]
 simp [stepG.apply, hrun, finish_at ho]
theorem Inv.commit (R : Run G N x ops T p a) {tmI : Array Value} (hwS : w0.heap.size ≤ wS.heap.size) (I : Inv G w0 x ops T p cs (fun j => D j ∧ j ≠ a) ρ0 wS e ρ tmI df md w) (hD : D a) (ha : a < p) (he : e ≤ a) (hcl : Closed ops D a) (hmax : ∀ j, D j → j ≤ a)
 (hall : ∀ k, k < a → actsAt G ops k (T k) = true → D k) {t : TypeId} {d : Tmp} {z : Value} {b : Nat} (hP : Pend G wS ops a ρ tm tmI w t d z b) : ∃ ρ', Inv G w0 x ops T p cs D ρ0 wS (a + 1) ρ' tm df md w := by
 obtain ⟨o, ho, h1, h2, h3⟩ := hP.op
 obtain ⟨o', n, ho', hn, hs⟩ := R.step a ha
 rw [ho] at ho'; cases ho'
 obtain ⟨_, z', hz, hp, hd, hs1⟩ := op1_alloc hs h1 h2 h3
 have hzz : z' = z := by have := hP.zero; rw [hz] at this; cases this; rfl
 subst hzz
 obtain ⟨hm1, hm2, hm3⟩ := R.still he (by omega) (fun k hk1 hk2 => by
  cases hk : actsAt G ops k (T k) with
  | false => rfl
  | true => exact absurd ⟨hall k hk2 hk, by omega⟩ (I.behind k hk1 (by omega) hk))
 have sr := I.post.sr
 have hn := sr.mem.none_nxt
 obtain ⟨_, hf, _⟩ := zeroOf_run hz w
 have hdz : defd z' = true := by cases z' <;> simp_all [defd, flat]
 have hle := Emb.put_le (ρ := ρ) (k := (T e).m.nxt) (L := ⟨b, 0, 0, z'.cells.toList.length, 0⟩) hn
 have hbr : BR G.P (ρ.put (T e).m.nxt ⟨b, 0, 0, z'.cells.toList.length, 0⟩) w0.heap.size (.cells (cellsOf z'.cells.toList t)) ⟨b, 0, 0, z'.cells.toList.length, 0⟩ w :=
  .inr (cells_new (E := G.toEnv) hp (vr_cells hdz (flat_refl 9 hf)) false false [] (by rw [hP.obj]; simp) (by simp) (fun _ => rfl) (fun e => by cases e))
 have hM := sr.mem.adopt (.cells (cellsOf z'.cells.toList t)) (Nat.le_trans hwS hP.ge) hP.lt hP.out hbr
 have hE := I.post.ext.adopt hn (d := 0) (n := z'.cells.toList.length) (es := 0) (.cells (cellsOf z'.cells.toList t)) hP.ge
 refine ⟨ρ.put (T e).m.nxt ⟨b, 0, 0, z'.cells.toList.length, 0⟩, fun j hj => ?_, fun j hj => by have := hmax j hj; omega, by omega, fun k hk hka => ?_, fun k hk1 hk2 hka hDk => by have := hmax k hDk; omega, ⟨⟨?_, ?_, ?_, ?_, sr.cs⟩, ?_, ?_⟩, ?_, ?_⟩
 · by_cases hja : j = a
   · subst hja; exact hcl
   exact fun o ho e2 he2 hb2 => (I.closed j ⟨hj, hja⟩ o ho e2 he2 hb2).1
 · by_cases hka' : k = a
   · subst hka'; exact hD
   exact hall k (by omega) hka
 · rw [hs1]; simp only; rw [hm1]; exact hM
 · rw [hs1]; simp only; rw [hm2]; exact sr.defers.mono hle
 · rw [hs1]; simp only; rw [hm3]; exact fun h => (sr.cm h).mono hle
 · rw [hP.size]; exact sr.size
 · rw [hs1]; simp only; rw [hm1]; exact hE
 · rw [hs1]; simp only; rw [hm3]; exact I.post.cm
 ·
  intro i j y hDj hy hyd hmx
  by_cases hid : i = d
  ·
   subst hid
   have hja : j = a := by
    have g1 := hmx a o hD ho h3
    have g2 := hmax j hDj
    omega
   subst hja
   rw [hs1]
   simp only
   rw [Tr.get_set, if_pos rfl, hP.at', Option.getD_some, hm1]
   exact VR.ptr (o := 0) (s := 0) Emb.at_nb
  have hja : j ≠ a := by
   intro e2; subst e2
   rw [ho] at hy; cases hy
   rw [h3] at hyd; cases hyd
   exact hid rfl
  rw [hP.old i hid]
  exact (I.last i j y ⟨hDj, hja⟩ hy hyd (fun j' z hj' hz hzd => hmx j' z hj'.1 hz hzd)).mono hle
 intro i hi
 have hid : i ≠ d := by
  intro e2; subst e2
  exact hi a o hD ho h3
 rw [hP.old i hid]
 exact (I.never i (fun j y hj => hi j y hj.1)).mono hle
def Flow (G : Cfg) (w0 : World) (x : Ctx) (ops : Array Oper) (T : Nat → St) (p a : Nat) (cs : List Frame) (D : Nat → Prop) (ρ0 : Emb) (wS : World) (e : Nat) (ρ : Emb) (tm : Array Value) (df : List Deferred) (md : FrameMode) (w : World) : Prop :=
 Inv G w0 x ops T p cs D ρ0 wS e ρ tm df md w ∨ (D a ∧ a < p ∧ e ≤ a ∧ Closed ops D a ∧ (∀ j, D j → j ≤ a) ∧ ∃ tmI t d z b,
  Inv G w0 x ops T p cs (fun j => D j ∧ j ≠ a) ρ0 wS e ρ tmI df md w ∧ Pend G wS ops a ρ tm tmI w t d z b)
theorem Flow.closed (J : Flow G w0 x ops T p a cs D ρ0 wS e ρ tm df md w) : ∀ j, D j → Closed ops D j := by
 rcases J with I | ⟨_, _, _, h4, _, _, _, _, _, _, I, _⟩
 · exact I.closed
 intro j hj
 by_cases hja : j = a
 · subst hja; exact h4
 exact fun o ho e2 he2 hb2 => (I.closed j ⟨hj, hja⟩ o ho e2 he2 hb2).1
theorem Flow.lt (J : Flow G w0 x ops T p a cs D ρ0 wS e ρ tm df md w) : ∀ j, D j → j < p := by
 rcases J with I | ⟨_, h2, _, _, h5, _⟩
 · exact I.lt
 intro j hj; have := h5 j hj; omega
theorem Flow.settle (R : Run G N x ops T p a) (hwS : w0.heap.size ≤ wS.heap.size) (J : Flow G w0 x ops T p a cs D ρ0 wS e ρ tm df md w) (hall : a < p → D a → ∀ k, k < a → actsAt G ops k (T k) = true → D k) :
 ∃ e' ρ', Inv G w0 x ops T p cs D ρ0 wS e' ρ' tm df md w := by
 rcases J with I | ⟨h1, h2, h3, h4, h5, tmI, t, d, z, b, I, hP⟩
 · exact ⟨e, ρ, I⟩
 obtain ⟨ρ', I'⟩ := I.commit R hwS h1 h2 h3 h4 h5 (hall h2 h1) hP
 exact ⟨_, ρ', I'⟩
theorem Run.acted (R : Run G N x ops T p a) (hcl : ∀ j, D j → Closed ops D j) {q : Nat} (hqa : a < q) (hqs : q < ops.size) (hc : Closed ops D q) : ∀ k, k < a → actsAt G ops k (T k) = true → D k := by
 intro k hk ha
 have has : a < ops.size := by omega
 have hks : k < ops.size := by omega
 obtain ⟨t, d, h1, h2, h3, h4⟩ := R.float ops[a] (by simp [has])
 have hy : ops[k]? = some ops[k] := by simp [hks]
 rcases (h4 q hqa hqs).2 k ops[k] hk hy with h | h
 · rw [acts_of hy ha] at h; cases h
 exact Go.Am.prec_in R.edges hcl q hqs hc k h
theorem Flow.step (H : ∀ n, n < N → Op1Ok G n) (hb : Base G w0) (R : Run G N x ops T p a) (hwS : w0.heap.size ≤ wS.heap.size) {c : Fr} (hx : CtxOk G.P ρ0 w0.heap.size x c) (J : Flow G w0 x ops T p a cs D ρ0 wS e ρ tm df md w)
 {q : Nat} {o : Oper} (ho : ops[q]? = some o) (hq : q < p) (hnd : ¬ D q) (hc : Closed ops D q) {k : List Item} {rest : List Nat} :
 ∃ e' ρ' tm' df' md' w', Flow G w0 x ops T p a cs (fun j => D j ∨ j = q) ρ0 wS e' ρ' tm' df' md' w' ∧ tm'.size = tm.size ∧
  Steps G.P (lone (F x c tm df .run (.inRegion ops (q :: rest) :: k)) (reMode x.deferred cs md) w) (lone (F x c tm' df' .run (.inRegion ops rest :: k)) (reMode x.deferred cs md') w') := by
 have hqs := lt_of_some ho
 by_cases hqa : q = a
 ·
  subst hqa
  rcases J with I | ⟨h1, _⟩
  ·
   obtain ⟨h1, h2, w', t, d, z, b, v', I', hP, hst⟩ := I.early R ho hq hnd (c := c) (k := k) (rest := rest)
   refine ⟨e, ρ, putA tm o.dst v', df, md, w', .inr ⟨.inr rfl, hq, h1, fun o2 h2 e2 he2 hb2 => .inl (hc o2 h2 e2 he2 hb2), fun j hj => ?_, tm, t, d, z, b, ?_, hP⟩, size_putA, hst⟩
   · rcases hj with hj | hj
     · have := h2 j hj; omega
     omega
   have : (fun j => (D j ∨ j = q) ∧ j ≠ q) = D := by
    funext j
    apply propext
    constructor
    · rintro ⟨h | h, h'⟩
      · exact h
      exact absurd h h'
    intro h
    exact ⟨.inl h, fun e => hnd (e ▸ h)⟩
   rw [this]; exact I'
  exact absurd h1 hnd
 have plain : ∀ {e : Nat} {ρ : Emb}, Inv G w0 x ops T p cs D ρ0 wS e ρ tm df md w → ∃ e' ρ' tm' df' md' w', Flow G w0 x ops T p a cs (fun j => D j ∨ j = q) ρ0 wS e' ρ' tm' df' md' w' ∧ tm'.size = tm.size ∧
  Steps G.P (lone (F x c tm df .run (.inRegion ops (q :: rest) :: k)) (reMode x.deferred cs md) w) (lone (F x c tm' df' .run (.inRegion ops rest :: k)) (reMode x.deferred cs md') w') := by
  intro e ρ I
  obtain ⟨e', ρ', v', df', md', w', I', _, _, hst⟩ := I.step H hb R hx ho hq hnd hc hqa (tc := tm) rfl (fun _ _ => rfl) (k := k) (rest := rest)
  exact ⟨e', ρ', _, df', md', w', .inl I', size_putA, hst⟩
 have hcl := J.closed
 rcases J with I | ⟨h1, h2, h3, h4, h5, tmI, t, d, z, b, I, hP⟩
 · exact plain I
 rcases Nat.lt_or_ge a q with haq | haq
 · obtain ⟨ρ', I'⟩ := I.commit R hwS h1 h2 h3 h4 h5 (R.acted hcl haq hqs hc) hP
   exact plain I'
 have hqa' : q < a := by omega
 obtain ⟨oa, g1, g2, g3, g4⟩ := hP.op
 have hap : apartT ops o oa = true := by
  rcases R.pairs q a o oa hqa' ho g1 with h | ⟨h, _⟩
  · exact absurd (Go.Am.prec_in R.edges hcl a (lt_of_some g1) h4 q h) hnd
  exact h
 have hrd : d ∉ readsOf ops o := by
  unfold apartT at hap
  rw [g4] at hap
  intro hm
  cases hd : o.dst with
  | none => rw [hd] at hap; simp [hm] at hap
  | some d' => rw [hd] at hap; simp [hm] at hap
 have hdd : o.dst ≠ some d := by
  intro hd
  unfold apartT at hap
  rw [g4, hd] at hap
  simp at hap
 obtain ⟨e', ρ', v', df', md', w', I', ⟨m1, m2, hE⟩, he', hst⟩ := I.step H hb R hx ho hq (fun h => hnd h.1) (fun o2 h2 e2 he2 hb2 => ⟨hc o2 h2 e2 he2 hb2, by have := R.edges q o2 h2 e2 he2 hb2; omega⟩) hqa
  (tc := tm) hP.size (fun t ht => hP.old t (fun e => hrd (e ▸ ht))) (k := k) (rest := rest)
 refine ⟨e', ρ', putA tm o.dst v', df', md', w', .inr ⟨.inl h1, h2, ?_, fun o2 h2 e2 he2 hb2 => .inl (h4 o2 h2 e2 he2 hb2), fun j hj => ?_, putA tmI o.dst v', t, d, z, b, ?_, ?_⟩, size_putA, hst⟩
 · rcases he' with h | h <;> omega
 · rcases hj with hj | hj
   · exact h5 j hj
   omega
 ·
  have : (fun j => (D j ∨ j = q) ∧ j ≠ a) = (fun j => (D j ∧ j ≠ a) ∨ j = q) := by
   funext j
   apply propext
   constructor
   · rintro ⟨h | h, h'⟩
     · exact .inl ⟨h, h'⟩
     exact .inr h
   rintro (⟨h, h'⟩ | h)
   · exact ⟨.inl h, h'⟩
   exact ⟨.inr h, by rw [h]; exact hqa⟩
  rw [this]; exact I'
 refine ⟨hP.op, hP.zero, by rw [size_putA, size_putA]; exact hP.size, fun i hi => ?_, ?_, hP.ge, ?_, fun k L hk => ?_⟩
 ·
  cases hd : o.dst with
  | none => exact hP.old i hi
  | some d' =>
   simp only [putA]
   have := hP.old i hi
   have hsz := hP.size
   rw [Array.getD_eq_getD_getElem?, Array.getD_eq_getD_getElem?] at this ⊢
   by_cases hid : i = d'
   · subst hid
     rw [Array.getElem?_setIfInBounds_self, Array.getElem?_setIfInBounds_self, hsz]
   rw [Array.getElem?_setIfInBounds_ne (Ne.symm hid), Array.getElem?_setIfInBounds_ne (Ne.symm hid)]
   exact this
 ·
  cases hd : o.dst with
  | none => exact hP.at'
  | some d' =>
   simp only [putA]
   have := hP.at'
   rw [Array.getD_eq_getD_getElem?] at this ⊢
   rw [Array.getElem?_setIfInBounds_ne (fun e => hdd (by rw [hd, e]))]
   exact this
 · rw [hE.frame b hP.lt hP.out]; exact hP.obj
 rcases hE.new k L hk with h | ⟨_, h | ⟨k0, L0, h, h'⟩⟩
 · exact hP.out k L h
 · have := hP.lt; omega
 exact h' ▸ hP.out k0 L0 h
end Go.Am
