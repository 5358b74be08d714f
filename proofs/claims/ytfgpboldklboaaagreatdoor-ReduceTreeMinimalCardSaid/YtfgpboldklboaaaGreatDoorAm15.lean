/-
  PROVED here: steps on the way to the card of 'sleuthlaw06.ReduceTreeMinimal' (an abstract machine, its soundness, what each function computes). No conditions beyond those that each theorem states.
-/
import Derived.Test.YtfgpboldklboaaaGreatDoorAm14
import Derived.Test.YtfgpboldklboaaaGreatDoorAm13
namespace Go.Am
variable {G : Cfg} {x : Ctx}
def loose (G : Cfg) (ops : Array Oper) : List (Nat × Nat) :=
 let bf := before ops
 (List.range ops.size).flatMap fun k => (List.range ops.size).filterMap fun q =>
  match ops[k]?, ops[q]? with
  | some ok, some oq => if quiet G ok.op || !quiet G oq.op || still oq.op || k == q || prec bf k q || prec bf q k then none else some (k, q)
  | _, _ => none
def drawIs (G : Cfg) (ops : Array Oper) (U : List (Nat × Nat)) : Bool :=
 regOk G ops (before ops) (floatAt G ops (before ops)) && (loose G ops).all fun p => U.contains p
def wpR (G : Cfg) (x : Ctx) (ops : Array Oper) (J : List Nat) : List Oper → Nat → St → List (Nat × St) → (Ex → St → List (Nat × St) → Prop) → Prop
 | [], j, s, rs, Q => Q .normal s ((j, s) :: rs)
 | o :: l, j, s, rs, Q => dstOk x o.dst = true ∧ guardOk o ops s.tmps = true ∧
  if wantedV o ops s.tmps = true then upon G s o.dst (fun s' => wpR G x ops J l (j + 1) s' (if J.contains j then (j, s) :: rs else rs) Q) (fun _ _ => False) (opV G (evalT G.ng s.tmps) o s.m)
  else wpR G x ops J l (j + 1) { s with tmps := putT s.tmps o.dst ku } (if J.contains j then (j, s) :: rs else rs) Q
def stepR (G : Cfg) (x : Ctx) (ops : Array Oper) (J : List Nat) (l : List Oper) (j : Nat) (s : St) (rs : List (Nat × St)) (dst : Option Tmp) (Q : Ex → St → List (Nat × St) → Prop) (r : ORes) : Prop :=
 upon G s dst (fun s' => wpR G x ops J l j s' rs Q) (fun _ _ => False) r
theorem wpR_nil {ops : Array Oper} {J : List Nat} {j : Nat} {s : St} {rs : List (Nat × St)} {Q : Ex → St → List (Nat × St) → Prop} : wpR G x ops J [] j s rs Q = Q .normal s ((j, s) :: rs) := by rw [wpR]
theorem wpR_cons {ops : Array Oper} {J : List Nat} {o : Oper} {l : List Oper} {j : Nat} {s : St} {rs : List (Nat × St)} {Q : Ex → St → List (Nat × St) → Prop} : wpR G x ops J (o :: l) j s rs Q =
 (dstOk x o.dst = true ∧ guardOk o ops s.tmps = true ∧ stepR G x ops J l (j + 1) s (if J.contains j then (j, s) :: rs else rs) o.dst Q (if wantedV o ops s.tmps = true then opV G (evalT G.ng s.tmps) o s.m else .value ku s.m)) := by
 simp only [wpR, stepR]
 congr 2
 split <;> rfl
theorem stepR_value {ops : Array Oper} {J : List Nat} {l : List Oper} {j : Nat} {s : St} {rs : List (Nat × St)} {dst : Option Tmp} {Q : Ex → St → List (Nat × St) → Prop} {v : Value} {m : Mem} : stepR G x ops J l j s rs dst Q (.value v m) = wpR G x ops J l j { s with m, tmps := putT s.tmps dst v } rs Q := by rw [stepR, upon]
theorem stepR_skip {ops : Array Oper} {J : List Nat} {l : List Oper} {j : Nat} {s : St} {rs : List (Nat × St)} {dst : Option Tmp} {Q : Ex → St → List (Nat × St) → Prop} {m : Mem} : stepR G x ops J l j s rs dst Q (.skip m) = wpR G x ops J l j { s with m, tmps := putT s.tmps dst undef } rs Q := by rw [stepR, upon]
theorem stepR_enter {ops : Array Oper} {J : List Nat} {l : List Oper} {j : Nat} {s : St} {rs : List (Nat × St)} {dst : Option Tmp} {Q : Ex → St → List (Nat × St) → Prop} {f : FuncId} {args : List Value} {m : Mem} :
 stepR G x ops J l j s rs dst Q (.enter f args m) = C G f args m (fun out m' => match out with
  | .returned v => wpR G x ops J l j { s with m := m', tmps := putT s.tmps dst v } rs Q
  | .panicked _ => False) := by
 unfold stepR; rfl
def getS (rs : List (Nat × St)) (j : Nat) : Option St := (rs.find? (fun p => p.1 == j)).map (·.2)
def looseOk (G : Cfg) (ops : Array Oper) (rs : List (Nat × St)) : List (Nat × Nat) → Prop
 | [] => True
 | (k, q) :: U => (match getS rs q, getS rs k, getS rs (k + 1) with
  | some sq, some sk, some s1 => if q < k then againOk G ops q sq s1.m = true else againOk G ops q sq sk.m = true
  | _, _, _ => False) ∧ looseOk G ops rs U
theorem looseOk_mem {ops : Array Oper} {rs : List (Nat × St)} : ∀ {U : List (Nat × Nat)}, looseOk G ops rs U → ∀ {k q : Nat}, (k, q) ∈ U → ∃ sq sk s1, getS rs q = some sq ∧ getS rs k = some sk ∧ getS rs (k + 1) = some s1 ∧
 (q < k → againOk G ops q sq s1.m = true) ∧ (¬ q < k → againOk G ops q sq sk.m = true)
 | [], _, k, q, h => by simp at h
 | (k', q') :: U, h, k, q, hm => by
  simp only [looseOk] at h
  rcases List.mem_cons.1 hm with e | e
  ·
   obtain ⟨rfl, rfl⟩ := Prod.mk.inj e
   have h1 := h.1
   cases ha : getS rs q with
   | none => rw [ha] at h1; exact h1.elim
   | some sq =>
    cases hb : getS rs k with
    | none => rw [ha, hb] at h1; exact h1.elim
    | some sk =>
     cases hc : getS rs (k + 1) with
     | none => rw [ha, hb, hc] at h1; exact h1.elim
     | some s1 =>
      rw [ha, hb, hc] at h1
      simp only at h1
      refine ⟨sq, sk, s1, rfl, rfl, rfl, fun hlt => ?_, fun hlt => ?_⟩
      · rw [if_pos hlt] at h1; exact h1
      rw [if_neg hlt] at h1; exact h1
  exact looseOk_mem h.2 e
theorem wpR_run {ops : Array Oper} {J : List Nat} : ∀ {l : List Oper} {j : Nat} {s : St} {tr : List St} {rs : List (Nat × St)} {Q : Ex → St → List (Nat × St) → Prop}, tr.length = j →
 (∀ i t, getS rs i = some t → i < j ∧ tr.reverse[i]? = some t) → wpR G x ops J l j s rs Q →
 wpO G x ops l s tr (fun e s' tr' => ∃ rs', Q e s' rs' ∧ tr'.length = j + l.length ∧ ∀ i t, getS rs' i = some t → (s' :: tr').reverse[i]? = some t)
 | [], j, s, tr, rs, Q, hl, hg, h => by
  simp only [wpR] at h
  simp only [wpO]
  refine ⟨_, h, by simp [hl], fun i t hi => ?_⟩
  unfold getS at hi
  simp only [List.find?_cons] at hi
  by_cases e : j = i
  · subst e
    simp at hi; subst hi
    rw [List.reverse_cons, List.getElem?_append_right (by simp [hl])]; simp [hl]
  have e' : (j == i) = false := by simpa using e
  rw [e'] at hi
  obtain ⟨g1, g2⟩ := hg i t hi
  rw [List.reverse_cons, List.getElem?_append_left (by simp; omega)]
  exact g2
 | o :: l, j, s, tr, rs, Q, hl, hg, h => by
  simp only [wpR] at h
  simp only [wpO]
  obtain ⟨h1, h2, h3⟩ := h
  have hg' : ∀ i t, getS (if J.contains j then (j, s) :: rs else rs) i = some t → i < j + 1 ∧ (s :: tr).reverse[i]? = some t := by
   intro i t hi
   have old : getS rs i = some t → i < j + 1 ∧ (s :: tr).reverse[i]? = some t := by
    intro hi
    obtain ⟨g1, g2⟩ := hg i t hi
    refine ⟨by omega, ?_⟩
    rw [List.reverse_cons, List.getElem?_append_left (by simp; omega)]
    exact g2
   split at hi
   ·
    unfold getS at hi
    simp only [List.find?_cons] at hi
    by_cases e : j = i
    · subst e
      simp at hi; subst hi
      refine ⟨by omega, ?_⟩
      rw [List.reverse_cons, List.getElem?_append_right (by simp [hl])]; simp [hl]
    have e' : (j == i) = false := by simpa using e
    rw [e'] at hi
    exact old hi
   exact old hi
  have hfin : ∀ {e s' tr'}, (∃ rs', Q e s' rs' ∧ tr'.length = j + 1 + l.length ∧ ∀ i t, getS rs' i = some t → (s' :: tr').reverse[i]? = some t) →
   ∃ rs', Q e s' rs' ∧ tr'.length = j + (o :: l).length ∧ ∀ i t, getS rs' i = some t → (s' :: tr').reverse[i]? = some t := by
   rintro e s' tr' ⟨rs', a, b, c⟩
   exact ⟨rs', a, by simp; omega, c⟩
  refine ⟨h1, h2, ?_⟩
  have mono : ∀ {s1 : St}, wpO G x ops l s1 (s :: tr) (fun e s' tr' => ∃ rs', Q e s' rs' ∧ tr'.length = j + 1 + l.length ∧ ∀ i t, getS rs' i = some t → (s' :: tr').reverse[i]? = some t) →
   wpO G x ops l s1 (s :: tr) (fun e s' tr' => ∃ rs', Q e s' rs' ∧ tr'.length = j + (o :: l).length ∧ ∀ i t, getS rs' i = some t → (s' :: tr').reverse[i]? = some t) := by
   intro s1 hw
   have : (fun e s' tr' => ∃ rs', Q e s' rs' ∧ tr'.length = j + 1 + l.length ∧ ∀ i t, getS rs' i = some t → (s' :: tr').reverse[i]? = some t) =
    (fun (e : Ex) (s' : St) (tr' : List St) => ∃ rs', Q e s' rs' ∧ tr'.length = j + (o :: l).length ∧ ∀ i t, getS rs' i = some t → (s' :: tr').reverse[i]? = some t) := by
    funext e s' tr'
    simp only [List.length_cons, show j + 1 + l.length = j + (l.length + 1) by omega]
   rw [this] at hw
   exact hw
  split
  · rename_i hw
    rw [if_pos hw] at h3
    exact upon_mono (fun s1 hs => mono (wpR_run (by simp [hl]) hg' hs)) (fun ch s1 hs => hs.elim) h3
  rename_i hw
  rw [if_neg hw] at h3
  exact mono (wpR_run (by simp [hl]) hg' h3)
theorem drawOk_of {ops : Array Oper} {U : List (Nat × Nat)} (hU : drawIs G ops U = true) {T : List St} (hT : T.length = ops.size + 1)
 (h : ∀ k q, (k, q) ∈ U → ∀ sq sk s1, T[q]? = some sq → T[k]? = some sk → T[k + 1]? = some s1 → (q < k → againOk G ops q sq s1.m = true) ∧ (¬ q < k → againOk G ops q sq sk.m = true)) : drawOk G ops T ops.size = true := by
 unfold drawIs at hU
 simp only [Bool.and_eq_true] at hU
 obtain ⟨hU1, hU2⟩ := hU
 unfold drawOk
 simp only [Bool.and_eq_true]
 refine ⟨hU1, ?_⟩
 rw [List.all_eq_true]
 intro k hk
 have hk' := List.mem_range.1 hk
 obtain ⟨sk, hsk⟩ : ∃ sk, T[k]? = some sk := ⟨T[k], by simp⟩
 obtain ⟨s1, hs1⟩ : ∃ s1, T[k + 1]? = some s1 := ⟨T[k + 1], by simp⟩
 rw [hsk]
 simp only
 split
 ·
  rename_i hact
  rw [List.all_eq_true]
  intro q hq
  have hq' := List.mem_range.1 hq
  obtain ⟨sq, hsq⟩ : ∃ sq, T[q]? = some sq := ⟨T[q], by simp⟩
  have hokk : ops[k]? = some ops[k] := by simp [hk']
  have hoqq : ops[q]? = some ops[q] := by simp [hq']
  have hkq : quiet G ops[k].op = false := by
   unfold actsAt at hact
   rw [hokk] at hact
   simp only [Bool.and_eq_true, Bool.not_eq_true'] at hact
   exact hact.2
  have hfree : (quiet G ops[q].op = false ∨ still ops[q].op = true) → ∀ sq m, againOk G ops q sq m = true := by
   intro hc sq m
   unfold againOk
   rw [hoqq]
   simp only
   rcases hc with hc | hc
   · rw [hc]; simp
   rw [hc]; simp
  have key : (¬ (q = k)) → prec (before ops) k q = true ∨ prec (before ops) q k = true ∨ ((q < k → againOk G ops q sq s1.m = true) ∧ (¬ q < k → againOk G ops q sq sk.m = true)) := by
   intro hne
   by_cases c1 : prec (before ops) k q = true
   · exact .inl c1
   by_cases c2 : prec (before ops) q k = true
   · exact .inr (.inl c2)
   by_cases c3 : quiet G ops[q].op = false ∨ still ops[q].op = true
   · exact .inr (.inr ⟨fun _ => hfree c3 _ _, fun _ => hfree c3 _ _⟩)
   have hm : (k, q) ∈ U := by
    rw [List.all_eq_true] at hU2
    have := hU2 (k, q) (by
     unfold loose
     rw [List.mem_flatMap]
     refine ⟨k, hk, List.mem_filterMap.2 ⟨q, hq, ?_⟩⟩
     rw [hokk, hoqq]
     simp only
     rw [if_neg]
     simp only [not_or] at c3
     simp [hkq, c3.1, c3.2, c1, c2]
     exact fun e => hne e.symm)
    simpa using this
   exact .inr (.inr (h k q hm sq sk s1 hsq hsk hs1))
  split
  ·
   rename_i hlt
   rcases key (by omega) with h1 | h1 | h1
   · simp only [Bool.or_eq_true]
     left
     have hr := (regOk_spec hU1).1
     exfalso
     have := prec_in hr (D := fun i => i < q) (fun i hi o ho e he hb => by have := hr i o ho e he hb; show e.on < q; omega) q hq' (fun o ho e he hb => hr q o ho e he hb) k h1
     omega
   · rw [h1]; rfl
   rw [hsq, hs1]; simp [h1.1 hlt]
  split
  ·
   rename_i hlt
   rcases key (by omega) with h1 | h1 | h1
   · rw [h1]; rfl
   · exfalso
     have hr := (regOk_spec hU1).1
     have := prec_in hr (D := fun i => i < k) (fun i hi o ho e he hb => by have := hr i o ho e he hb; show e.on < k; omega) k hk' (fun o ho e he hb => hr k o ho e he hb) q h1
     omega
   rw [hsq]; simp [h1.2 (by omega)]
  rfl
 rfl
def EndR (G : Cfg) (ops : Array Oper) (U : List (Nat × Nat)) (Q : Ex → St → Prop) : Ex → St → List (Nat × St) → Prop
 | .normal, s, rs => looseOk G ops rs U ∧ Q .normal s
 | _, _, _ => False
theorem W.regU {id : Nat} {ops : Array Oper} {s : St} {Q : Ex → St → Prop} (U : List (Nat × Nat)) (J : List Nat) (hU : drawIs G ops U = true) (h : wpR G x ops J ops.toList 0 s [] (EndR G ops U Q)) : W G x (.region id ops true) s Q := by
 have h1 := wpR_run (tr := []) rfl (fun i t hi => by simp [getS] at hi) h
 obtain ⟨n, e, s', tr, h2, rs, h3, h4, h5⟩ := WOs.of h1
 refine W.draw ⟨n, e, s', tr, h2, ?_⟩
 cases e with
 | normal =>
  obtain ⟨h6, h7⟩ := h3
  refine ⟨drawOk_of hU (by simp [h4]) (fun k q hm sq sk s1 g1 g2 g3 => ?_), h7⟩
  obtain ⟨sq', sk', s1', a1, a2, a3, a4, a5⟩ := looseOk_mem h6 hm
  have := h5 _ _ a1; rw [g1] at this; cases this
  have := h5 _ _ a2; rw [g2] at this; cases this
  have := h5 _ _ a3; rw [g3] at this; cases this
  exact ⟨a4, a5⟩
 | panic ch => exact h3.elim
 | exit id => exact h3.elim
 | ret => exact h3.elim
attribute [simp] wpR_cons wpR_nil stepR_value stepR_skip stepR_enter EndR
end Go.Am
namespace Go.Proofs.Lw
open Go Go.Am
mutual
def deepT : T → Int → Int
 | .mk _ tx ss, l => if (40 : Int) < tx.size ∨ (12 : Int) < ss.length then -1 else deepSS ss (l - 1)
def deepSS : List (List T) → Int → Int
 | [], l => l
 | x :: r, l => deepSS r (deepL x l)
def deepL : List T → Int → Int
 | [], l => l
 | t :: r, l => if l < 0 then l else deepL r (deepT t l)
end
theorem deepL_neg : ∀ {x : List T} {l : Int}, l < 0 → deepL x l = l
 | [], l, _ => by simp [deepL]
 | t :: r, l, h => by simp [deepL, h]
theorem deepSS_neg : ∀ {ss : List (List T)} {l : Int}, l < 0 → deepSS ss l = l
 | [], l, _ => by simp [deepSS]
 | x :: r, l, h => by simp only [deepSS]; rw [deepL_neg h, deepSS_neg h]
mutual
theorem deepT_rng : ∀ (t : T) (l : Int), 0 ≤ l → -1 ≤ deepT t l ∧ deepT t l < l
 | .mk _ tx ss, l, h => by
  simp only [deepT]
  split
  · omega
  have := deepSS_rng ss (l - 1) (by omega); omega
theorem deepSS_rng : ∀ (ss : List (List T)) (l : Int), -1 ≤ l → -1 ≤ deepSS ss l ∧ deepSS ss l ≤ l
 | [], l, h => by simp [deepSS]; omega
 | x :: r, l, h => by
  simp only [deepSS]
  have h1 := deepL_rng x l h
  have := deepSS_rng r (deepL x l) h1.1
  omega
theorem deepL_rng : ∀ (x : List T) (l : Int), -1 ≤ l → -1 ≤ deepL x l ∧ deepL x l ≤ l
 | [], l, h => by simp [deepL]; omega
 | t :: r, l, h => by
  simp only [deepL]
  split
  · omega
  have h1 := deepT_rng t l (by omega)
  have := deepL_rng r (deepT t l) h1.1
  omega
end
variable {gl : Nat → Nat → Option Value} {ng : Nat}
theorem f13_ok : ∀ (N : Nat) (t : T) (l : Int) (σ : Kn) (m0 : Mem) (v : Value), l = N → N ≤ 30 → WF m0 → Holds (cfg gl ng).toEnv σ m0 → TreeK σ v t →
 Ct gl ng 13 [v, .int .i64 l] σ m0 (fun _ r => r = .int .i64 (deepT t l)) := by
 intro N
 induction N using Nat.strongRecOn with
 | _ N ih =>
  intro t l σ m0 v hl hN hw hh ht
  obtain ⟨k, tx, ss⟩ := t
  simp only [TreeK] at ht
  obtain ⟨sv, b, o, rfl, h2, h3⟩ := ht
  refine Ct.of (c := _) Tryz.func13 rfl 50 rfl (fun x hnt => ?_)
  have hS := S.start hw hh
  have hS1 := hS.new (vs := [.int .i64 k, .string tx, sv]) 27 (by simp [h2.plain])
  have hbx := bx_a (m := m0) (t := 27) (vs := #[.int .i64 k, .string tx, sv]) (by simp [h2.plain])
  generalize m0.new (.cells (cellsOf [.int .i64 k, .string tx, sv] 27)) = m1 at hS1 hbx
  generalize m0.nb = nb at hS1 hbx
  have hlen : ∀ m', opLen (cfg gl ng) 25 sv m' = .value (.int .i64 ss.length) m' := fun m' => len25 h2
  have hw1 : IntKind.i64.wrap (l - 1) = l - 1 := wrap_i64 (by omega) (by omega)
  repeat apply W.seq
  apply W.regN; simp [hnt, hbx]
  repeat apply W.seq
  apply W.regN; simp [hnt, hw1]
  by_cases c1 : (40 : Int) < tx.size
  ·
   repeat apply W.seq
   apply W.regN; simp [hnt, hS1.c0, hlen, c1]
   refine W.choose (by simp; rfl) (fun hc => ?_) fun hc => ?_
   · repeat apply W.seq
     apply W.regN; simp [hnt]
     apply W.ret; try simp only [Then, InBlk]
     refine ⟨.inr rfl, rfl, rfl, _, by simp [unwind.results, Tryz.f13]; rfl, _, hS1.learn, ?_⟩
     simp [retV, deepT, c1]
   cases hc
  by_cases c2 : (12 : Int) < ss.length
  ·
   repeat apply W.seq
   apply W.regN; simp [hnt, hS1.c0, hlen, c1, c2]
   refine W.choose (by simp; rfl) (fun hc => ?_) fun hc => ?_
   · repeat apply W.seq
     apply W.regN; simp [hnt]
     apply W.ret; try simp only [Then, InBlk]
     refine ⟨.inr rfl, rfl, rfl, _, by simp [unwind.results, Tryz.f13]; rfl, _, hS1.learn, ?_⟩
     simp [retV, deepT, c2]
   cases hc
  repeat apply W.seq
  apply W.regN; simp [hnt, hS1.c0, hlen, c1, c2]
  refine W.choose (by simp; rfl) (fun hc => ?_) fun hc => ?_
  · cases hc
  apply W.skip; try simp only [Then, InBlk]
  repeat apply W.seq
  apply W.regN; simp [hnt]
  apply W.block
  refine W.upto (ws := [19, 20, 21, 22, 23, 6, 26, 27, 28, 29, 30, 31, 32, 33, 36, 37, 38, 4, 39, 40, 41, 42, 43, 44, 45, 46, 47, 48, 1, 34, 35, 24, 25, 5]) (by kernel_rfl) ss.length
   (fun i t m => t.get 5 = some (.int .i64 i) ∧ S (cfg gl ng).toEnv σ m0 σ m [(nb, ⟨[.int .i64 k, .string tx, sv], none⟩)] ∧ ∃ L : Int, t.get 1 = some (.int .i64 L) ∧ -1 ≤ L ∧ L < l ∧ deepSS (ss.drop i) L = deepSS ss (l - 1)) 0 (by omega) ?_ ?_
  · simp [hS1]
    exact ⟨by omega, by omega⟩
  rintro i t m2 hi hfr ⟨q5, hS2, L, q1, hL1, hL2, hLL⟩
  repeat apply W.seq
  apply W.regN; simp [hnt, hS2.c0, hlen, hfr, q5]
  refine W.choose (by simp; rfl) (fun hc => ?_) fun hc => ?_
  ·
   have hil : i < ss.length := by simpa using hc
   apply W.skip; try simp only [Then, InBlk]
   obtain ⟨lv, b1, o1, a1, a2, a3⟩ := SlotsK.get h3 (i := i) (l := ss[i]) (by simp [hil])
   have hdrop : ss.drop i = ss[i] :: ss.drop (i + 1) := List.drop_eq_getElem_cons hil
   generalize ss[i] = lx at *
   apply W.seq
   apply W.block
   repeat apply W.seq
   apply W.regN; simp [hnt]
   apply W.block
   refine W.upto (ws := [26, 27, 28, 29, 30, 31, 32, 33, 36, 37, 38, 4, 39, 40, 41, 42, 43, 44, 45, 46, 47, 48, 1, 34, 35, 6]) (by kernel_rfl) 31
    (fun j t m => t.get 6 = some (.int .i64 j) ∧ j ≤ lx.length ∧ S (cfg gl ng).toEnv σ m0 σ m [(nb, ⟨[.int .i64 k, .string tx, sv], none⟩)] ∧
     ∃ M : Int, t.get 1 = some (.int .i64 M) ∧ -1 ≤ M ∧ M + j < 31 ∧ M ≤ L ∧ deepL (lx.drop j) M = deepL lx L) 0 (by omega) ?_ ?_
   · simp [hS2, hfr, q1]
     exact ⟨by omega, by omega⟩
   rintro j t' m3 hj hfr' ⟨p6, hjl, hS3, M, p1, hM1, hM2, hM3, hMM⟩
   repeat apply W.seq
   apply W.regN; simp [hnt, hS3.c0, hS3.kn, hfr', hfr, q5, p6, K.iy25 h2 hil, a1, K.ly59 a2]
   refine W.choose (by simp; rfl) (fun hc => ?_) fun hc => ?_
   ·
    have hjl2 : j < lx.length := by simpa using hc
    apply W.skip; try simp only [Then, InBlk]
    obtain ⟨x1, y1, z1, d1, d2, d3, d4⟩ := TreesK.get a3 (i := j) (t := lx[j]) (by simp [hjl2])
    have hdrop2 : lx.drop j = lx[j] :: lx.drop (j + 1) := List.drop_eq_getElem_cons hjl2
    generalize lx[j] = tj at *
    apply W.seq
    apply W.block
    repeat apply W.seq
    apply W.regN; simp [hnt, p1]
    refine W.choose (by simp; rfl) (fun hc => ?_) fun hc => ?_
    ·
     have hneg : M < 0 := by simpa using hc
     repeat apply W.seq
     apply W.regN; simp [hnt, p1]
     apply W.ret; try simp only [Then, InBlk]
     refine ⟨.inr rfl, rfl, rfl, _, by simp [unwind.results, Tryz.f13]; rfl, _, hS3.learn, ?_⟩
     simp only [retV, deepT, Value.int.injEq, true_and]
     rw [if_neg (by omega), ← hLL, hdrop]
     simp only [deepSS]
     rw [← hMM, deepL_neg hneg, deepSS_neg hneg]
    have hneg : 0 ≤ M := by simpa using hc
    apply W.skip; try simp only [Then, InBlk]
    apply W.regN; simp [hnt, hS3.c0, hS3.kn, hfr', hfr, q5, p6, p1, K.iy25 h2 hil, a1, K.iy59 a2 hjl2, d1, d2, d3]
    refine Ct.use (ih M.toNat (by omega) tj M σ m3 _ (by omega) (by omega) hS3.wf hS3.holds d4) (fun σ' v' m4 hl hv => ?_)
    subst hv
    have hr := deepT_rng tj M hneg
    simp
    apply W.regN; simp [hnt, p6, hfr']
    rw [wrap_i64 (by omega) (by omega)]
    refine ⟨j + 1, by omega, by omega, by simp, by omega, hS3.grow hl.grow, by omega, by omega, by omega, ?_⟩
    rw [← hMM, hdrop2]
    simp only [deepL]
    rw [if_neg (by omega)]
   have hjl2 : j = lx.length := by
    have : lx.length ≤ j := by simpa using hc
    omega
   apply W.exit; try simp [Then, InBlk]
   apply W.regN; simp [hnt, hfr', hfr, q5]
   rw [wrap_i64 (by omega) (by omega)]
   refine ⟨i + 1, by omega, by omega, by simp, hS3, M, p1, hM1, by omega, ?_⟩
   rw [← hLL, hdrop]
   simp only [deepSS]
   rw [← hMM, hjl2]
   simp [deepL]
  have hil : i = ss.length := by
   have : ss.length ≤ i := by simpa using hc
   omega
  apply W.exit; try simp [Then, InBlk]
  repeat apply W.seq
  apply W.regN; simp [hnt, q1]
  apply W.ret
  refine ⟨.inr rfl, rfl, rfl, _, by simp [unwind.results, Tryz.f13]; rfl, _, hS2.learn, ?_⟩
  simp only [retV, deepT, Value.int.injEq, true_and]
  rw [if_neg (by omega), ← hLL, hil]
  simp [deepSS]
end Go.Proofs.Lw
namespace Go.Proofs.Lw
open Go Go.Am
structure SlotD where
 many : Int
 kinds : List Int
 between : ByteArray
structure RuleD where
 before : ByteArray
 after : ByteArray
 leaf : Bool
 slots : List SlotD
def SlotsV (σ : Kn) (v : Value) (l : List SlotD) : Prop := ∃ b o, SliceAt v l.length b o ∧ ∀ (i : Nat) (s : SlotD), l[i]? = some s →
 ∃ y, σ b (o + 3 * i) = some (.int .u8 s.many) ∧ σ b (o + 3 * i + 1) = some y ∧ σ b (o + 3 * i + 2) = some (.string s.between) ∧ IntsK σ y s.kinds
def RulesV (σ : Kn) (v : Value) (l : List RuleD) : Prop := ∃ b o, SliceAt v l.length b o ∧ ∀ (i : Nat) (r : RuleD), l[i]? = some r →
 ∃ y, σ b (o + 4 * i) = some (.string r.before) ∧ σ b (o + 4 * i + 1) = some (.string r.after) ∧ σ b (o + 4 * i + 2) = some (.bool r.leaf) ∧ σ b (o + 4 * i + 3) = some y ∧ SlotsV σ y r.slots
theorem SlotsV.mono {σ σ' : Kn} (h : σ.le σ') {v : Value} {l : List SlotD} (hv : SlotsV σ v l) : SlotsV σ' v l := by
 obtain ⟨b, o, h1, h2⟩ := hv
 refine ⟨b, o, h1, fun i s hs => ?_⟩
 obtain ⟨y, a1, a2, a3, a4⟩ := h2 i s hs
 exact ⟨y, h _ _ _ a1, h _ _ _ a2, h _ _ _ a3, a4.mono h⟩
theorem RulesV.mono {σ σ' : Kn} (h : σ.le σ') {v : Value} {l : List RuleD} (hv : RulesV σ v l) : RulesV σ' v l := by
 obtain ⟨b, o, h1, h2⟩ := hv
 refine ⟨b, o, h1, fun i s hs => ?_⟩
 obtain ⟨y, a1, a2, a3, a4, a5⟩ := h2 i s hs
 exact ⟨y, h _ _ _ a1, h _ _ _ a2, h _ _ _ a3, h _ _ _ a4, a5.mono h⟩
variable {gl : Nat → Nat → Option Value} {ng : Nat}
theorem Ct.any {f : FuncId} {args : List Value} {σ : Kn} {m : Mem} {P : Value → Prop} (hw : WF m) (hh : Holds (cfg gl ng).toEnv σ m) (h : Ct gl ng f args (m.load (cfg gl ng).toEnv) m (fun _ => P)) :
 Ct gl ng f args σ m (fun _ => P) := by
 refine C.mono h (fun out m' ho => ?_)
 obtain ⟨σ', v, h1, h2, h3⟩ := ho
 exact ⟨σ, v, h1, Learn.of_grow hw hh h2.grow, h3⟩
theorem Ct.mono {f : FuncId} {args : List Value} {σ : Kn} {m : Mem} {R R' : Kn → Value → Prop} (h : Ct gl ng f args σ m R) (hr : ∀ σ' v, R σ' v → R' σ' v) : Ct gl ng f args σ m R' := by
 refine C.mono h (fun out m' ho => ?_)
 obtain ⟨σ', v, h1, h2, h3⟩ := ho
 exact ⟨σ', v, h1, h2, hr _ _ h3⟩
theorem Ct.of_C {f : FuncId} {args : List Value} {σ : Kn} {m : Mem} {v : Value} (hw : WF m) (hh : Holds (cfg gl ng).toEnv σ m) (h : C (cfg gl ng) f args m (fun out m' => out = .returned v ∧ Grow m m')) :
 Ct gl ng f args σ m (fun _ r => r = v) := by
 refine C.mono h (fun out m' ho => ?_)
 obtain ⟨rfl, h2⟩ := ho
 exact ⟨σ, v, rfl, Learn.of_grow hw hh h2, rfl⟩
theorem Holds.self {E : Env} {m : Mem} : Holds E (m.load E) m := fun _ _ _ h => h
def at' (l : List Int) (k : Int) : Int := l.getD k.toNat 0
theorem IntsK.at {σ : Kn} {v : Value} {l : List Int} (h : IntsK σ v l) {i : Nat} (hi : i < l.length) : ∃ b o, (∀ m, opIndexAddr (cfg gl ng).toEnv 53 v (.int .i64 i) m = .value (.pointer (some ⟨b, o, none⟩)) m) ∧ σ b o = some (.int .i64 (at' l i)) := by
 obtain ⟨b, o, h1, h2⟩ := h
 refine ⟨b, o + i, fun m => K.iy53 h1 hi, h2 i _ ?_⟩
 simp [at', hi]
theorem IntsK.len {σ : Kn} {v : Value} {l : List Int} (h : IntsK σ v l) {m : Mem} : opLen (cfg gl ng) 53 v m = .value (.int .i64 l.length) m := by
 obtain ⟨b, o, h1, _⟩ := h
 exact K.ly53 h1
theorem IntsK.plain {σ : Kn} {v : Value} {l : List Int} (h : IntsK σ v l) : plainV v = true := by
 obtain ⟨b, o, h1, _⟩ := h
 exact h1.plain
def KindsOk (kinds : List Int) (n : Nat) : Prop := ∀ k ∈ kinds, 0 ≤ k ∧ k < n
def choiceGo (nodes : List Int) : List Int → Int → Int
 | [], best => best
 | k :: r, best => choiceGo nodes r (if 0 < at' nodes k ∧ (best < 0 ∨ at' nodes k < at' nodes best) then k else best)
theorem S.box {E : Env} {σ0 σ : Kn} {m0 m : Mem} {L : List (Nat × Cl)} (h : S E σ0 m0 σ m L) (t : TypeId) (vs : Array Value) (hp : vs.toList.all plainV = true) :
 ∃ m' nb, opBox t (.agg vs) m = .value (.pointer (some ⟨nb, 0, none⟩)) m' ∧ S E σ0 m0 σ m' ((nb, ⟨vs.toList, none⟩) :: L) :=
 ⟨_, _, bx_a hp, h.new t hp⟩
theorem S.boxs {E : Env} {σ0 σ : Kn} {m0 m : Mem} {L : List (Nat × Cl)} (h : S E σ0 m0 σ m L) (t : TypeId) (v : Value) (hp : plainV v = true) :
 ∃ m' nb, opBox t v m = .value (.pointer (some ⟨nb, 0, none⟩)) m' ∧ S E σ0 m0 σ m' ((nb, ⟨[v], none⟩) :: L) :=
 ⟨_, _, bx_s hp, h.new t (by simp [hp])⟩
theorem S.var {E : Env} {σ0 σ : Kn} {m0 m : Mem} {L : List (Nat × Cl)} (h : S E σ0 m0 σ m L) (t : TypeId) (zs vs : List Value) (hz : zs.all plainV = true) (hv : vs.all plainV = true) (hl : zs.length = vs.length) :
 ∃ m', (m.new (.cells (cellsOf zs t))).write m.nb 0 vs = some m' ∧ S E σ0 m0 σ m' ((m.nb, ⟨vs, none⟩) :: L) := by
 obtain ⟨m', e, h'⟩ := (h.new t hz).write (i := 0) rfl (o := 0) (vs := vs) (by simp [hl]) hv
 refine ⟨m', e, ?_⟩
 have : splice zs 0 vs = vs := by simp [splice, hl]
 simpa [this] using h'
theorem f66_ok {m : Mem} {kv nv x z : Value} {kinds nodes : List Int} (hw : WF m) (hk : IntsK (m.load (cfg gl ng).toEnv) kv kinds) (hn : IntsK (m.load (cfg gl ng).toEnv) nv nodes)
 (hx : plainV x = true) (hz : plainV z = true) (hko : KindsOk kinds nodes.length) (hlen : kinds.length < 1048576) :
 Ct gl ng 66 [.agg #[x, kv, z], nv] (m.load (cfg gl ng).toEnv) m (fun _ r => r = .int .i64 (choiceGo nodes kinds (-1))) := by
 refine Ct.of (c := _) Tryz.func66 rfl 42 rfl (fun c hnt => ?_)
 have hS := S.start hw (Holds.self (E := (cfg gl ng).toEnv))
 obtain ⟨m1, nb, hbx, hS1⟩ := hS.box 55 #[x, kv, z] (by simp [hx, hz, hk.plain])
 generalize hσ : m.load (cfg gl ng).toEnv = σ at *
 repeat apply W.seq
 apply W.regN; simp [hnt, hbx]
 repeat apply W.seq
 apply W.regN; simp [hnt]
 repeat apply W.seq
 apply W.regN; simp [hnt]
 apply W.block
 refine W.upto (ws := [8, 9, 10, 11, 12, 15, 16, 17, 18, 19, 7, 20, 21, 22, 23, 24, 25, 26, 27, 28, 29, 30, 31, 32, 33, 34, 35, 36, 37, 38, 39, 40, 5, 13, 14, 6]) (by kernel_rfl) kinds.length
  (fun i t m' => t.get 6 = some (.int .i64 i) ∧ S (cfg gl ng).toEnv σ m σ m' [(nb, ⟨[x, kv, z], none⟩)] ∧ ∃ best : Int, t.get 5 = some (.int .i64 best) ∧ best < nodes.length ∧ choiceGo nodes (kinds.drop i) best = choiceGo nodes kinds (-1)) 0 (by omega) ?_ ?_
 · simp [hS1]
   omega
 rintro i t m' hi hfr ⟨q6, hS2, best, q5, hb, hch⟩
 repeat apply W.seq
 apply W.regN; simp [hnt, hS2.c0, hfr, q6, hk.len]
 refine W.choose (by simp; rfl) (fun hc => ?_) fun hc => ?_
 ·
  have hil : i < kinds.length := by simpa using hc
  apply W.skip; try simp only [Then, InBlk]
  have hdrop : kinds.drop i = kinds[i] :: kinds.drop (i + 1) := List.drop_eq_getElem_cons hil
  obtain ⟨b1, o1, e1, e2⟩ := hk.at (gl := gl) (ng := ng) hil
  have hki := hko kinds[i] (by simp)
  have hat : at' kinds i = kinds[i] := by simp [at', hil]
  rw [hat] at e2
  generalize kinds[i] = k at *
  obtain ⟨kn, rfl⟩ : ∃ kn : Nat, k = kn := ⟨k.toNat, by omega⟩
  obtain ⟨b2, o2, e3, e4⟩ := hn.at (gl := gl) (ng := ng) (i := kn) (by omega)
  apply W.seq
  apply W.block
  repeat apply W.seq
  apply W.regN; simp [hnt, hS2.c0, hS2.kn, hfr, q6, e1, e2]
  have hstep : ∀ best' : Int, best' = (if 0 < at' nodes kn ∧ (best < 0 ∨ at' nodes kn < at' nodes best) then (kn : Int) else best) → best' < nodes.length ∧ choiceGo nodes (kinds.drop (i + 1)) best' = choiceGo nodes kinds (-1) := by
   rintro _ rfl
   constructor
   · split <;> omega
   rw [← hch, hdrop]; rfl
  by_cases c1 : 0 < at' nodes kn
  ·
   by_cases c2 : best < 0
   ·
    repeat apply W.seq
    apply W.regD (by kernel_rfl); simp [hnt, hS2.c0, hS2.kn, hfr, q6, q5, e3, e4, c1, c2]
    refine W.choose (by simp; rfl) (fun hc => ?_) fun hc => ?_
    · apply W.regN; simp [hnt]
      apply W.regN; simp [hnt, hfr, q6]
      rw [wrap_i64 (by omega) (by omega)]
      exact ⟨i + 1, by omega, by omega, by simp, hS2, by simpa using hstep kn (by simp [c1, c2])⟩
    cases hc
   obtain ⟨bn, rfl⟩ : ∃ bn : Nat, best = bn := ⟨best.toNat, by omega⟩
   obtain ⟨b3, o3, e5, e6⟩ := hn.at (gl := gl) (ng := ng) (i := bn) (by omega)
   by_cases c3 : at' nodes kn < at' nodes bn
   ·
    repeat apply W.seq
    apply W.regD (by kernel_rfl); simp [hnt, hS2.c0, hS2.kn, hfr, q6, q5, e3, e4, e5, e6, c1, c2, c3]
    refine W.choose (by simp; rfl) (fun hc => ?_) fun hc => ?_
    · apply W.regN; simp [hnt]
      apply W.regN; simp [hnt, hfr, q6]
      rw [wrap_i64 (by omega) (by omega)]
      exact ⟨i + 1, by omega, by omega, by simp, hS2, by simpa using hstep kn (by simp [c1, c3])⟩
    cases hc
   repeat apply W.seq
   apply W.regD (by kernel_rfl); simp [hnt, hS2.c0, hS2.kn, hfr, q6, q5, e3, e4, e5, e6, c1, c2, c3]
   refine W.choose (by simp; rfl) (fun hc => ?_) fun hc => ?_
   · cases hc
   apply W.skip; try simp only [Then, InBlk]
   apply W.regN; simp [hnt, hfr, q6]
   rw [wrap_i64 (by omega) (by omega)]
   exact ⟨i + 1, by omega, by omega, by simp, hS2, bn, q5, hstep _ (by rw [if_neg (by omega)])⟩
  repeat apply W.seq
  apply W.regD (by kernel_rfl); simp [hnt, hS2.c0, hS2.kn, hfr, q6, q5, e3, e4, c1]
  refine W.choose (by simp; rfl) (fun hc => ?_) fun hc => ?_
  · cases hc
  apply W.skip; try simp only [Then, InBlk]
  apply W.regN; simp [hnt, hfr, q6]
  rw [wrap_i64 (by omega) (by omega)]
  exact ⟨i + 1, by omega, by omega, by simp, hS2, best, q5, hstep _ (by rw [if_neg (by omega)])⟩
 have hil : i = kinds.length := by
  have : kinds.length ≤ i := by simpa using hc
  omega
 apply W.exit; try simp [Then, InBlk]
 repeat apply W.seq
 apply W.regN; simp [hnt, q5]
 apply W.ret
 refine ⟨.inr rfl, rfl, rfl, _, by simp [unwind.results, Tryz.f66]; rfl, _, hS2.learn, ?_⟩
 simp [retV, ← hch, hil, choiceGo]
end Go.Proofs.Lw
namespace Go.Proofs.Lw
open Go Go.Am
variable {gl : Nat → Nat → Option Value} {ng : Nat}
theorem wr1 {i : Nat} (h : i < 4611686018427387904) : IntKind.i64.wrap ((i : Int) + 1) = (i : Int) + 1 := wrap_i64 (by omega) (by omega)
@[simp] theorem rp_min {P : Program} {a b : Int} {t : Array TypeId} {ty : TypeId} {m : Mem} : rp (pureRun P (Builtin.min_ t ty #[.int .i64 a, .int .i64 b])) m = .value (.int .i64 (min a b)) m := by
 simp [Builtin.min_, Builtin.min2, pureRun_pure, rp, flat]
 split <;> omega
@[simp] theorem rp_max {P : Program} {a b : Int} {t : Array TypeId} {ty : TypeId} {m : Mem} : rp (pureRun P (Builtin.max_ t ty #[.int .i64 a, .int .i64 b])) m = .value (.int .i64 (max a b)) m := by
 simp [Builtin.max_, Builtin.max2, pureRun_pure, rp, flat]
 split <;> omega
def iv (n : Int) : Value := .int .i64 n
theorem info3' : ∃ i, (cfg gl ng).toEnv.P.info? 3 = some i ∧ i.size = 1 ∧ i.bytes ≤ 1048576 := by
 have h : (((cfg gl ng).toEnv.P.info? 3).map fun i => decide (i.size = 1) && decide (i.bytes ≤ 1048576)) = some true := by kernel_rfl
 cases e : (cfg gl ng).toEnv.P.info? 3 with
 | none => rw [e] at h; cases h
 | some i =>
  rw [e] at h
  simp at h
  exact ⟨i, rfl, h⟩
theorem zero3 : zeroOf (cfg gl ng).toEnv 3 = some (.int .i64 0) := by kernel_rfl
theorem mk53 {m : Mem} {n : Nat} (hn : n ≤ 1048576) : opMakeSlice (cfg gl ng).toEnv 53 (.int .i64 n) (.int .i64 n) m =
 .value (.slice (some ⟨m.nb, 0, none⟩) n (mkCap n true)) (m.new (.cells (cellsOf (List.replicate n (iv 0)) 3))) := by
 obtain ⟨i, h1, h2, h3⟩ := info3' (gl := gl) (ng := ng)
 have hu : und (cfg gl ng).toEnv 53 = some (.slice 3) := und53
 have hcond : (decide ((0 : Int) ≤ n) && decide ((n : Int) ≤ n) && decide ((n : Int) ≤ 1048576) && decide (i.bytes ≤ 1048576)) = true := by
  simp; omega
 unfold opMakeSlice
 rw [hu]
 simp only [h1]
 rw [hcond]
 simp only [if_true, Int.toNat_natCast, h2, Nat.mul_one]
 by_cases h0 : n = 0
 · subst h0
   simp [Mem.newCells, mkCap]
 rw [if_neg h0, zero3]
 simp only
 have e : ((Array.range n).map fun j => (Value.int .i64 0).cells[j % (Value.int .i64 0).cells.size]!).toList = List.replicate n (iv 0) := by
  rw [Array.toList_map, Array.toList_range]
  apply List.ext_getElem
  · simp
  intro j h1 h2
  simp [iv, Value.cells, Nat.mod_one]
 rw [e]
 unfold Mem.newCells
 rw [if_pos (by simp [iv])]
theorem S.ints {σ0 σ : Kn} {m0 m : Mem} {L : List (Nat × Cl)} (h : S (cfg gl ng).toEnv σ0 m0 σ m L) {i b : Nat} {l : List Int} {x : Option TypeId} (hi : L[i]? = some (b, ⟨l.map iv, x⟩)) (c : Nat) :
 IntsK (m.load (cfg gl ng).toEnv) (.slice (some ⟨b, 0, none⟩) l.length c) l := by
 refine ⟨b, 0, .inr ⟨c, rfl⟩, fun j n hj => ?_⟩
 rw [h.cell hi, Nat.zero_add]
 simp only [List.getElem?_map, hj]
 rfl
theorem splice_set {l : List Int} {k : Nat} {n : Int} (hk : k < l.length) : splice (l.map iv) k [iv n] = (l.set k n).map iv := by
 unfold splice
 apply List.ext_getElem?
 intro j
 rw [List.getElem?_map, List.getElem?_set]
 rcases Nat.lt_trichotomy j k with h | h | h
 · rw [List.append_assoc, List.getElem?_append_left (by simp; omega), List.getElem?_take, if_pos h, if_neg (by omega), List.getElem?_map]
 · subst h
   rw [List.append_assoc, List.getElem?_append_right (by simp; omega), if_pos rfl, if_pos hk]
   have : min j l.length = j := by omega
   simp [this]
 rw [List.getElem?_append_right (by simp; omega), if_neg (by omega), List.getElem?_drop]
 simp
 congr 2
 omega
theorem S.seti {σ0 σ : Kn} {m0 m : Mem} {L : List (Nat × Cl)} (h : S (cfg gl ng).toEnv σ0 m0 σ m L) {i b : Nat} {l : List Int} {x : Option TypeId} (hi : L[i]? = some (b, ⟨l.map iv, x⟩)) {k : Nat} (hk : k < l.length) (n : Int) :
 ∃ m', m.write b k [.int .i64 n] = some m' ∧ S (cfg gl ng).toEnv σ0 m0 σ m' (L.set i (b, ⟨(l.set k n).map iv, x⟩)) := by
 obtain ⟨m', e, h'⟩ := h.write hi (o := k) (vs := [iv n]) (by simp; omega) (by simp [iv])
 refine ⟨m', e, ?_⟩
 rw [splice_set hk] at h'
 exact h'
theorem map_at {l : List Int} {i : Nat} (hi : i < l.length) : (l.map iv)[i]? = some (.int .i64 (at' l i)) := by
 simp [at', hi, iv]
structure SlotOk (n : Nat) (s : SlotD) : Prop where
 many : 0 ≤ s.many ∧ s.many ≤ 2
 between : s.between.size ≤ 16
 some : s.kinds ≠ []
 rise : Rises s.kinds n
structure RuleOk (n : Nat) (r : RuleD) : Prop where
 before : r.before.size ≤ 16
 after : r.after.size ≤ 16
 leaf : r.leaf = true → r.slots = []
 few : r.slots.length ≤ 8
 slots : ∀ s ∈ r.slots, SlotOk n s
structure RulesOk (g : List RuleD) : Prop where
 some : g ≠ []
 few : g.length ≤ 32
 rules : ∀ r ∈ g, RuleOk g.length r
theorem Rises.kinds {l : List Int} {n : Nat} (h : Rises l n) : KindsOk l n := by
 intro k hk
 obtain ⟨j, hj, e⟩ := List.getElem_of_mem hk
 have := h j hj l[j] (by simp [hj])
 rw [e] at this
 exact ⟨this.1, this.2.1⟩
theorem Rises.ge {l : List Int} {n : Int} (h : Rises l n) : ∀ (j : Nat) (x : Int), l[j]? = some x → (j : Int) ≤ x := by
 intro j
 induction j with
 | zero =>
  intro x hx
  have hj : 0 < l.length := by
   rcases Nat.lt_or_ge 0 l.length with h | h
   · exact h
   rw [List.getElem?_eq_none h] at hx; cases hx
  exact (h 0 hj x hx).1
 | succ j ih =>
  intro x hx
  have hj : j + 1 < l.length := by
   rcases Nat.lt_or_ge (j + 1) l.length with h | h
   · exact h
   rw [List.getElem?_eq_none h] at hx; cases hx
  have hy : l[j]? = some l[j] := by simp
  have := ih _ hy
  have := (h (j + 1) hj x hx).2.2.resolve_left (by omega) l[j] (by simp)
  omega
theorem Rises.len {l : List Int} {n : Nat} (h : Rises l n) : l.length ≤ n := by
 rcases Nat.eq_zero_or_pos l.length with h0 | h0
 · omega
 have hx : l[l.length - 1]? = some l[l.length - 1] := by simp
 have h1 := Rises.ge h _ _ hx
 have h2 := (h (l.length - 1) (by omega) _ hx).2.1
 omega
end Go.Proofs.Lw
