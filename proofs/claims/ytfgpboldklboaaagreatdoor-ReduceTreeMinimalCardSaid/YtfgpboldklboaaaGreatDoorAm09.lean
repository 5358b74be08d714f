/-
  PROVED here: steps on the way to the card of 'sleuthlaw06.ReduceTreeMinimal' (an abstract machine, its soundness, what each function computes). No conditions beyond those that each theorem states.
-/
import Derived.Test.YtfgpboldklboaaaGreatDoorAm08
namespace Go.Am
variable {G : Cfg} {N : Nat} {x : Ctx} {ops : Array Oper} {T : Nat → St} {p a : Nat}
variable {w0 wS w : World} {cs : List Frame} {D : Nat → Prop} {ρ0 ρ : Emb} {e : Nat} {tm : Array Value} {df : List Deferred} {md : FrameMode}
def undone (l : List Bool) : Nat := l.countP (fun b => !b)
theorem undone_set : ∀ (l : List Bool) (q : Nat), l[q]? = some false → undone (l.set q true) + 1 = undone l := by
 intro l
 induction l with
 | nil => intro q h; simp at h
 | cons b l ih =>
  intro q h
  cases q with
  | zero => simp at h; subst h; simp [undone]
  | succ q =>
   have := ih q (by simpa using h)
   simp only [List.set_cons_succ]
   unfold undone at this ⊢
   cases b <;> simp <;> omega
theorem forget_spec {x : Ctx} : ∀ (l : List Oper) (s s' : St), forget x l s = some s' → s'.m = s.m ∧ s'.defers = s.defers ∧ s'.cm = s.cm ∧
 ∀ t, (s'.tmps.get t).getD undef = undef ∨ (s'.tmps.get t = s.tmps.get t ∧ ∀ o ∈ l, o.dst ≠ some t) := by
 intro l
 induction l with
 | nil => intro s s' h; simp only [forget, Option.some.injEq] at h; subst h; exact ⟨rfl, rfl, rfl, fun t => .inr ⟨rfl, fun o ho => by simp at ho⟩⟩
 | cons o rest ih =>
  intro s s' h
  simp only [forget] at h
  cases hp : s.put x o.dst undef with
  | none => rw [hp] at h; cases h
  | some s1 =>
   rw [hp] at h
   obtain ⟨h1, h2, h3, h4⟩ := ih s1 s' h
   have hs1 : s1.m = s.m ∧ s1.defers = s.defers ∧ s1.cm = s.cm ∧ s1.tmps = putT s.tmps o.dst undef := by
    unfold St.put at hp
    cases hd : o.dst with
    | none => rw [hd] at hp; simp at hp; subst hp; exact ⟨rfl, rfl, rfl, rfl⟩
    | some d =>
     rw [hd] at hp
     simp only at hp
     by_cases hlt : d < x.nt
     · rw [if_pos hlt] at hp; simp at hp; subst hp; exact ⟨rfl, rfl, rfl, rfl⟩
     rw [if_neg hlt] at hp; cases hp
   refine ⟨h1.trans hs1.1, h2.trans hs1.2.1, h3.trans hs1.2.2.1, fun t => ?_⟩
   rcases h4 t with h5 | ⟨h5, h6⟩
   · exact .inl h5
   cases hd : o.dst with
   | none =>
    rw [hs1.2.2.2, hd] at h5
    exact .inr ⟨h5, fun y hy => by
     simp only [List.mem_cons] at hy
     rcases hy with rfl | hy
     · rw [hd]; simp
     exact h6 y hy⟩
   | some d =>
    rw [hs1.2.2.2, hd] at h5
    simp only [putT] at h5
    rw [Tr.get_set] at h5
    by_cases ht : t = d
    · rw [if_pos ht] at h5; exact .inl (by rw [h5]; rfl)
    rw [if_neg ht] at h5
    exact .inr ⟨h5, fun y hy => by
     simp only [List.mem_cons] at hy
     rcases hy with rfl | hy
     · rw [hd]; simp; exact fun e => ht e.symm
     exact h6 y hy⟩
def Ends (G : Cfg) (N : Nat) (x : Ctx) (ops : Array Oper) (T : Nat → St) (p : Nat) (ex : Ex) (s' : St) : Prop :=
 (p = ops.size ∧ ex = .normal ∧ s' = T p) ∨
 (∃ o n ch s1, ops[p]? = some o ∧ n < N ∧ execOp1 G n x ops o (T p) = some (.panic ch, s1) ∧ (∀ j, p < j → j < ops.size → prec (before ops) p j = true) ∧ ex = .panic ch ∧ forget x ops.toList s1 = some s')
theorem draw_go (H : ∀ n, n < N → Op1Ok G n) (hb : Base G w0) (R : Run G N x ops T p a) (hwS : w0.heap.size ≤ wS.heap.size) {c : Fr} (hx : CtxOk G.P ρ0 w0.heap.size x c) {ex : Ex} {s' : St} (E : Ends G N x ops T p ex s') {k : List Item} :
 ∀ (fuel t : Nat) (listed : Array Bool) (e : Nat) (ρ : Emb) (tm : Array Value) (df : List Deferred) (md : FrameMode) (w : World),
 Flow G w0 x ops T p a cs (fun j => listed.getD j false = true) ρ0 wS e ρ tm df md w → listed.size = ops.size → undone listed.toList ≤ fuel →
 ExRes G w0 ρ0 x c k cs tm wS (lone (F x c tm df .run (.inRegion ops (Region.linearise.go .any ops fuel t listed []) :: k)) (reMode x.deferred cs md) w) (T 0) ex s' := by
 intro fuel
 have fin : ∀ (listed : Array Bool) (e : Nat) (ρ : Emb) (tm : Array Value) (df : List Deferred) (md : FrameMode) (w : World),
  Flow G w0 x ops T p a cs (fun j => listed.getD j false = true) ρ0 wS e ρ tm df md w → (∀ j, j < ops.size → listed.getD j false = true) →
  ExRes G w0 ρ0 x c k cs tm wS (lone (F x c tm df .run (.inRegion ops [] :: k)) (reMode x.deferred cs md) w) (T 0) ex s' := by
  intro listed e ρ tm df md w J hall
  obtain ⟨e, ρ, I⟩ := J.settle R hwS (fun ha _ k hk _ => hall k (by have := R.le; omega))
  have hp : p = ops.size := by
   have := R.le
   rcases Nat.lt_or_ge p ops.size with h | h
   · exact absurd (I.lt p (hall p h)) (by omega)
   omega
  rcases E with ⟨_, rfl, rfl⟩ | ⟨o, _, _, _, ho, _⟩
  ·
   have hst := R.still I.ep (Nat.le_refl _) (fun k hk1 hk2 => by
    cases hk : actsAt G ops k (T k) with
    | false => rfl
    | true => exact absurd (hall k (by omega)) (I.behind k hk1 hk2 hk))
   have sr := I.post.sr
   refine ⟨ρ, tm, df, md, w, ⟨⟨by rw [hst.1]; exact sr.mem, by rw [hst.2.1]; exact sr.defers, by rw [hst.2.2]; exact sr.cm, sr.size, sr.cs⟩, by rw [hst.1]; exact I.post.ext, fun h => by rw [hst.2.2]; exact I.post.cm h⟩, ?_, rfl, .one mv_end⟩
   intro t
   rcases exists_max (fun i => ∃ y, ops[i]? = some y ∧ y.dst = some t) p with h | ⟨i, h3, ⟨y, h4, h5⟩, h6⟩
   · rw [R.keeps (Nat.zero_le _) (Nat.le_refl _) (fun k o _ hk ho hd => h k hk ⟨o, ho, hd⟩)]
     exact I.never t (fun i o hi hy hd => h i (I.lt i hi) ⟨o, hy, hd⟩)
   rw [R.keeps (by omega : i + 1 ≤ p) (Nat.le_refl _) (fun k o hk1 hk ho hd => by have := h6 k hk ⟨o, ho, hd⟩; omega)]
   exact I.last t i y (hall i (by omega)) h4 h5 (fun j z hj hz hzd => h6 j (I.lt j hj) ⟨z, hz, hzd⟩)
  have := lt_of_some ho; omega
 have done_of : ∀ (listed : Array Bool), listed.size = ops.size → Region.ready .any ops listed = [] → ∀ j, j < ops.size → listed.getD j false = true := by
  intro listed hsz hr j
  induction j using Nat.strongRecOn with
  | _ j ih =>
   intro hj
   cases hd : listed.getD j false with
   | true => rfl
   | false =>
    exfalso
    have hmem : j ∈ Region.ready .any ops listed := by
     rw [mem_ready]
     refine ⟨?_, ops[j], by simp [hj], fun e he hbd => ?_⟩
     · rw [Array.getD_eq_getD_getElem?] at hd ⊢
       have : j < listed.size := by omega
       simp [this] at hd ⊢
       exact hd
     exact ih e.on (R.edges j ops[j] (by simp [hj]) e he hbd) (by have := R.edges j ops[j] (by simp [hj]) e he hbd; omega)
    rw [hr] at hmem
    simp at hmem
 induction fuel with
 | zero =>
  intro t listed e ρ tm df md w I hsz hu
  have hall : ∀ j, j < ops.size → listed.getD j false = true := by
   intro j hj
   have hjl : j < listed.size := by omega
   have h0 : undone listed.toList = 0 := by omega
   unfold undone at h0
   rw [List.countP_eq_zero] at h0
   have := h0 listed[j] (by simp)
   simpa [hjl] using this
  simpa [Region.linearise.go] using fin listed e ρ tm df md w I hall
 | succ fuel ih =>
  intro t listed e ρ tm df md w I hsz hu
  simp only [Region.linearise.go]
  change ExRes G w0 ρ0 x c k cs tm wS (lone (F x c tm df .run (.inRegion ops (match (Region.ready .any ops listed)[t % (Region.ready .any ops listed).length]? with
   | some i => Region.linearise.go .any ops fuel (t / (Region.ready .any ops listed).length) (listed.setIfInBounds i true) [i]
   | none => [].reverse) :: k)) (reMode x.deferred cs md) w) (T 0) ex s'
  cases hi : (Region.ready .any ops listed)[t % (Region.ready .any ops listed).length]? with
  | none =>
   have hnil : Region.ready .any ops listed = [] := by
    cases hr : Region.ready .any ops listed with
    | nil => rfl
    | cons y ys =>
     rw [hr] at hi
     have hlt : t % (y :: ys).length < (y :: ys).length := Nat.mod_lt _ (by simp)
     rw [List.getElem?_eq_getElem hlt] at hi
     cases hi
   exact fin listed e ρ tm df md w I (done_of listed hsz hnil)
  | some q =>
   simp only
   rw [linearise_go_acc, List.reverse_singleton, List.singleton_append]
   have hmem := List.mem_of_getElem? hi
   rw [mem_ready] at hmem
   obtain ⟨hq0, o, ho, hedges⟩ := hmem
   have hqs := lt_of_some ho
   have hql : q < listed.size := by omega
   have hqf : listed[q]? = some false := by
    rw [Array.getD_eq_getD_getElem?] at hq0
    simp [hql] at hq0 ⊢
    exact hq0
   have hnd : ¬ (listed.getD q false = true) := by
    rw [Array.getD_eq_getD_getElem?, hqf]; simp
   have hc : Closed ops (fun j => listed.getD j false = true) q := by
    intro o2 h2 e2 he2 hb2
    rw [ho] at h2; cases h2
    exact hedges e2 he2 hb2
   rcases Nat.lt_or_ge q p with hqp | hqp
   ·
    obtain ⟨e', ρ', tm', df', md', w', I', hsz', hst⟩ := I.step H hb R hwS hx ho hqp hnd hc (k := k) (rest := Region.linearise.go .any ops fuel (t / (Region.ready .any ops listed).length) (listed.setIfInBounds q true) [])
    have hD : (fun j => (listed.setIfInBounds q true).getD j false = true) = (fun j => listed.getD j false = true ∨ j = q) := by
     funext j
     apply propext
     by_cases hjq : j = q
     · subst hjq; simp [hql]
     rw [getD_set_ne false (Ne.symm hjq)]; simp [hjq]
    have hu' : undone (listed.setIfInBounds q true).toList ≤ fuel := by
     have := undone_set listed.toList q (by simpa using hqf)
     rw [Array.toList_setIfInBounds]
     omega
    have := ih (t / (Region.ready .any ops listed).length) (listed.setIfInBounds q true) e' ρ' tm' df' md' w' (by rw [hD]; exact I') (by simpa using hsz) hu'
    obtain ⟨ρ2, tm2, df2, md2, w2, a1, a2, a3, a4⟩ := this
    exact ⟨ρ2, tm2, df2, md2, w2, a1, a2, a3.trans hsz', .of_steps hst a4⟩
   rcases E with ⟨hpe, _, _⟩ | ⟨o', n, ch, s1, ho', hn, hop, hafter, rfl, hfg⟩
   · omega
   have hqe : q = p := by
    rcases Nat.lt_or_ge p q with h | h
    · have := prec_in R.edges I.closed q hqs hc p (hafter q h hqs)
      exact absurd (I.lt p this) (by omega)
    omega
   subst hqe
   rw [ho] at ho'; cases ho'
   have hact : actsAt G ops q (T q) = true := by
    unfold actsAt
    rw [ho]
    exact op1_panic hop
   have hqa : q ≠ a := by
    intro e2
    subst e2
    obtain ⟨t, d, h1, h2, h3, _⟩ := R.float o ho
    have := (op1_alloc hop h1 h2 h3).1
    cases this
   obtain ⟨e, ρ, I⟩ := I.settle R hwS (fun ha _ => R.acted I.closed ha hqs hc)
   obtain ⟨he, hm1, hm2, hm3⟩ := I.next R ho (Nat.le_refl _) hnd hc hact hqa
   have sr := I.post.sr
   have sr' : SR G w0 ρ x (T q) tm df cs md w := ⟨by rw [hm1]; exact sr.mem, by rw [hm2]; exact sr.defers, by rw [hm3]; exact sr.cm, sr.size, sr.cs⟩
   obtain ⟨ρ', df', md', w', hp, e2, ch', todo, e3, e4⟩ := H n hn x ops o (T q) (.panic ch) s1 hop w0 hb ρ c k cs tm df md w q (Region.linearise.go .any ops fuel (t / (Region.ready .any ops listed).length) (listed.setIfInBounds q true) []) ho (hx.mono I.post.ext.le) sr'
    (fun t ht => I.reads R ho (Nat.le_refl _) hnd hc ht)
   obtain ⟨f1, f2, f3, f4⟩ := forget_spec _ _ _ hfg
   have hext : Ext w0 ρ ρ' (T e).m s'.m w w' := by rw [← hm1, f1]; exact hp.ext
   refine ⟨ρ', tm, df', md', w', ⟨⟨by rw [f1]; exact hp.sr.mem, by rw [f2]; exact hp.sr.defers, by rw [f3]; exact hp.sr.cm, hp.sr.size, hp.sr.cs⟩, I.post.ext.trans hext, fun h => by rw [f3]; exact hp.cm (by rw [hm3]; exact I.post.cm h)⟩, ?_, rfl, ch', todo, e3, e4⟩
   intro t
   rcases f4 t with h5 | ⟨h5, h6⟩
   · rw [h5]; exact .undef _
   rw [h5, e2, R.keeps (Nat.zero_le _) (Nat.le_refl _) (fun k o _ hk hok hd => h6 o (by
    have := lt_of_some hok
    have h7 : ops[k] = o := by simpa [this] using hok
    rw [← h7]; simp) hd)]
   exact (I.never t (fun i y hi hy hd => h6 y (by
    have := lt_of_some hy
    have h7 : ops[i] = y := by simpa [this] using hy
    rw [← h7]; simp) hd)).mono hp.ext.le
end Go.Am
namespace Go.Am
variable {G : Cfg}
def StepAt (G : Cfg) (n : Nat) (x : Ctx) (ops : Array Oper) (l : List Oper) (Q : List St) (j : Nat) (e : Ex) : Prop :=
 ∃ o nj a b, l[j]? = some o ∧ nj < n ∧ Q[j]? = some a ∧ Q[j + 1]? = some b ∧ execOp1 G nj x ops o a = some (e, b)
theorem execOps_chain {x : Ctx} {ops : Array Oper} : ∀ (n : Nat) (l : List Oper) (s : St) (tr : List St) (e : Ex) (s' : St) (tr' : List St), execOps G n x ops l s tr = some (e, s', tr') →
 ∃ L : List St, tr' = L.reverse ++ tr ∧ (L ++ [s'])[0]? = some s ∧
  ((e = .normal ∧ L.length = l.length ∧ ∀ j, j < L.length → StepAt G n x ops l (L ++ [s']) j .normal) ∨
   (∃ p ch, e = .panic ch ∧ L.length = p + 1 ∧ (∀ j, j < p → StepAt G n x ops l (L ++ [s']) j .normal) ∧ StepAt G n x ops l (L ++ [s']) p (.panic ch))) := by
 intro n
 induction n with
 | zero => intro l s tr e s' tr' h; simp [execOps] at h
 | succ n ih =>
  intro l s tr e s' tr' h
  unfold execOps at h
  cases l with
  | nil =>
   simp only [Option.some.injEq, Prod.mk.injEq] at h
   obtain ⟨rfl, rfl, rfl⟩ := h
   exact ⟨[], by simp, by simp, .inl ⟨rfl, rfl, fun j hj => by simp at hj⟩⟩
  | cons o rest =>
   simp only at h
   cases h1 : execOp1 G n x ops o s with
   | none => rw [h1] at h; cases h
   | some q =>
    obtain ⟨e1, s1⟩ := q
    rw [h1] at h
    have shift : ∀ {L : List St} {j : Nat} {e : Ex}, StepAt G n x ops rest (L ++ [s']) j e → StepAt G (n + 1) x ops (o :: rest) ((s :: L) ++ [s']) (j + 1) e := by
     intro L j e ⟨o', nj, a, b, g1, g2, g3, g4, g5⟩
     exact ⟨o', nj, a, b, by simpa using g1, by omega, by simpa using g3, by simpa using g4, g5⟩
    cases e1 with
    | normal =>
     simp only at h
     obtain ⟨L, f1, f2, f3⟩ := ih rest s1 (s :: tr) e s' tr' h
     have h0 : StepAt G (n + 1) x ops (o :: rest) ((s :: L) ++ [s']) 0 .normal := ⟨o, n, s, s1, rfl, by omega, rfl, by simpa using f2, h1⟩
     refine ⟨s :: L, by rw [f1]; simp, rfl, ?_⟩
     rcases f3 with ⟨rfl, f4, f5⟩ | ⟨p, ch, rfl, f4, f5, f6⟩
     · refine .inl ⟨rfl, by simp [f4], fun j hj => ?_⟩
       cases j with
       | zero => exact h0
       | succ j => exact shift (f5 j (by simpa using hj))
     refine .inr ⟨p + 1, ch, rfl, by simp [f4], fun j hj => ?_, shift f6⟩
     cases j with
     | zero => exact h0
     | succ j => exact shift (f5 j (by omega))
    | panic ch =>
     simp only [Option.some.injEq, Prod.mk.injEq] at h
     obtain ⟨rfl, rfl, rfl⟩ := h
     exact ⟨[s], by simp, rfl, .inr ⟨0, ch, rfl, rfl, fun j hj => by omega, o, n, s, s1, rfl, by omega, rfl, rfl, h1⟩⟩
    | exit id => cases h
    | ret => cases h
theorem Run.of {N : Nat} {x : Ctx} {ops : Array Oper} {Q : List St} {p : Nat} {s : St} (hp : p ≤ ops.size) (hlen : p < Q.length) (hst : ∀ j, j < p → StepAt G N x ops ops.toList Q j .normal) (hd : drawOk G ops Q p = true) :
 Run G N x ops (fun j => (Q[j]?).getD s) p (floatAt G ops (before ops)) := by
 unfold drawOk at hd
 simp only [Bool.and_eq_true] at hd
 obtain ⟨hr1, hr2⟩ := regOk_spec hd.1
 have hQ : ∀ j, j ≤ p → Q[j]? = some ((Q[j]?).getD s) := by
  intro j hj
  have : j < Q.length := by omega
  simp [this]
 refine ⟨hp, fun j hj => ?_, hr1, hr2, float_spec, fun k hk ha q hq => ?_⟩
 · obtain ⟨o, nj, a, b, g1, g2, g3, g4, g5⟩ := hst j hj
   refine ⟨o, nj, by simpa using g1, g2, ?_⟩
   simp only [g3, g4, Option.getD_some]
   exact g5
 have h1 := hd.2
 rw [List.all_eq_true] at h1
 have h2 := h1 k (List.mem_range.2 hk)
 rw [hQ k (by omega)] at h2
 simp only at h2
 rw [if_pos ha] at h2
 rw [List.all_eq_true] at h2
 have h3 := h2 q (List.mem_range.2 hq)
 constructor
 · intro hlt
   rw [if_pos hlt, hQ q (by omega), hQ (k + 1) (by omega)] at h3
   simp only [Bool.or_eq_true] at h3
   exact h3
 intro hlt
 rw [if_neg (by omega), if_pos hlt, hQ q (by omega)] at h3
 simp only [Bool.or_eq_true] at h3
 exact h3
theorem region_ok {N : Nat} (H : ∀ n, n < N → Op1Ok G n) {w0 : World} (hb : Base G w0) {n : Nat} (hn : n ≤ N) {x : Ctx} {id : Nat} {ops : Array Oper} {draw : Bool} {s s' : St} {e : Ex}
 (he : exec G (n + 1) x (.region id ops draw) s = some (e, s')) {ρ : Emb} {c : Fr} {k : List Item} {cs : List Frame} {tm : Array Value} {df : List Deferred} {md : FrameMode} {w : World}
 (hx : CtxOk G.P ρ w0.heap.size x c) (hs : SR G w0 ρ x s tm df cs md w) (ht : TmpsR ρ w0.heap.size s.tmps tm) :
 ExRes G w0 ρ x c k cs tm w (lone (F x c tm df .run (.code (.region id ops draw) :: k)) (reMode x.deferred cs md) w) s e s' := by
 unfold exec at he
 simp only at he
 cases hops : execOps G n x ops ops.toList s [] with
 | none => rw [hops] at he; simp at he
 | some q =>
  obtain ⟨e1, s1, tr⟩ := q
  rw [hops] at he
  cases draw with
  | false =>
   have hee : e1 = e ∧ s1 = s' := by
    cases e1 <;> simp at he
    · exact ⟨he.1, he.2⟩
    exact ⟨he.1, he.2⟩
   obtain ⟨rfl, rfl⟩ := hee
   have := text_ok H hb (c := c) (k := k) (cs := cs) n ops.toList s [] e1 s1 tr hn hops 0 rfl ρ tm df md w hx hs ht
   refine .of_steps (.one mv_region) ?_
   rw [List.range_eq_range']
   simpa using this
  | true =>
   obtain ⟨L, hL, h0, hcase⟩ := execOps_chain n ops.toList s [] e1 s1 tr hops
   rw [List.append_nil] at hL
   have hT0 : (((L ++ [s1])[0]?).getD s) = s := by rw [h0]; rfl
   have hm : G.P.follows .mixedOrders = true := hb.cfg.mixed
   have like : Like w { w with drawn := w.drawn + 1 } := ⟨rfl, rfl, rfl⟩
   obtain ⟨hmem, hext⟩ := hs.mem.like like rfl
   have hstart : ∀ (ex : Ex) (s2 : St) (p : Nat), Run G n x ops (fun j => ((L ++ [s1])[j]?).getD s) p (floatAt G ops (before ops)) → Ends G n x ops (fun j => ((L ++ [s1])[j]?).getD s) p ex s2 →
    ExRes G w0 ρ x c k cs tm w (lone (F x c tm df .run (.code (.region id ops true) :: k)) (reMode x.deferred cs md) w) s ex s2 := by
    intro ex s2 p R E
    refine .of_steps (.one mv_draw) ?_
    simp only [Region.schedule, hm, Bool.true_or, if_true]
    have I : Inv G w0 x ops (fun j => ((L ++ [s1])[j]?).getD s) p cs (fun j => (Array.replicate ops.size false).getD j false = true) ρ w 0 ρ tm df md { w with drawn := w.drawn + 1 } := by
     have hno : ∀ j, ¬ ((Array.replicate ops.size false).getD j false = true) := by
      intro j
      rw [Array.getD_eq_getD_getElem?, Array.getElem?_replicate]
      split <;> simp
     refine ⟨fun j hj => absurd hj (hno j), fun j hj => absurd hj (hno j), Nat.zero_le _, fun k hk => by omega, fun k _ _ _ => hno k, ?_, fun t i o hi => absurd hi (hno i), fun t _ => ?_⟩
     · rw [hT0]
       exact ⟨⟨hmem, hs.defers, hs.cm, hs.size, hs.cs⟩, hext, fun h => h⟩
     rw [hT0]; exact ht t
    have hu : undone (Array.replicate ops.size false).toList ≤ ops.size := by
     unfold undone
     exact Nat.le_trans (List.countP_le_length) (by simp)
    have := draw_go (k := k) (fun n' hn' => H n' (Nat.lt_of_lt_of_le hn' hn)) hb R hs.mem.le hx E ops.size (w.tape w.drawn (.order x.fn id)) (Array.replicate ops.size false) 0 ρ tm df md _ (.inl I) (by simp) hu
    rw [hT0] at this
    exact this
   rcases hcase with ⟨rfl, h1, h2⟩ | ⟨p, ch, rfl, h1, h2, h3⟩
   ·
    simp only [if_true] at he
    split at he
    ·
     rename_i hdraw
     simp only [Option.some.injEq, Prod.mk.injEq] at he
     obtain ⟨rfl, rfl⟩ := he
     rw [hL] at hdraw
     simp only [List.reverse_cons, List.reverse_reverse] at hdraw
     have hlen : L.length = ops.size := by simpa using h1
     rw [← hlen] at hdraw
     refine hstart .normal s1 L.length (Run.of (by omega) (by simp) h2 hdraw) (.inl ⟨hlen, rfl, ?_⟩)
     simp
    cases he
   simp only [if_true] at he
   have hp : tr.length - 1 = p := by rw [hL]; simp [h1]
   rw [hp] at he
   split at he
   ·
    rename_i hdraw
    simp only [Bool.and_eq_true] at hdraw
    obtain ⟨hd1, hd2⟩ := hdraw
    rw [hL] at hd1
    simp only [List.reverse_cons, List.reverse_reverse] at hd1
    obtain ⟨o, np, a, b, g1, g2, g3, g4, g5⟩ := h3
    have hop : ops[p]? = some o := by simpa using g1
    cases hf : forget x ops.toList s1 with
    | none => rw [hf] at he; cases he
    | some s2 =>
     rw [hf] at he
     simp only [Option.some.injEq, Prod.mk.injEq] at he
     obtain ⟨rfl, rfl⟩ := he
     have hb1 : b = s1 := by
      rw [← h1] at g4
      simpa using g4.symm
     subst hb1
     refine hstart (.panic ch) s2 p (Run.of (Nat.le_of_lt (lt_of_some hop)) (by simp [h1]; omega) h2 hd1) (.inr ⟨o, np, ch, b, hop, g2, ?_, ?_, rfl, hf⟩)
     · simp only [g3, Option.getD_some]; exact g5
     intro j hj1 hj2
     rw [List.all_eq_true] at hd2
     have := hd2 j (List.mem_range.2 hj2)
     simp only [Bool.or_eq_true, decide_eq_true_eq] at this
     rcases this with h | h
     · omega
     exact h
   cases he
end Go.Am
namespace Go.Am
variable {G : Cfg}
def ExecOk (G : Cfg) (n : Nat) : Prop := ∀ (x : Ctx) (code : Code) (s : St) (e : Ex) (s' : St), exec G n x code s = some (e, s') → ∀ (w0 : World), Base G w0 →
 ∀ (ρ : Emb) (c : Fr) (k : List Item) (cs : List Frame) (tm : Array Value) (df : List Deferred) (md : FrameMode) (w : World),
 CtxOk G.P ρ w0.heap.size x c → SR G w0 ρ x s tm df cs md w → TmpsR ρ w0.heap.size s.tmps tm →
 ExRes G w0 ρ x c k cs tm w (lone (F x c tm df .run (.code code :: k)) (reMode x.deferred cs md) w) s e s'
theorem ExRes.here {w0 : World} {ρ : Emb} {x : Ctx} {c : Fr} {k : List Item} {cs : List Frame} {tm : Array Value} {w : World} {m0 : Machine} {s : St} {e : Ex} {df : List Deferred} {md : FrameMode}
 (hs : SR G w0 ρ x s tm df cs md w) (ht : TmpsR ρ w0.heap.size s.tmps tm) (h : Arr G.P ρ w0.heap.size x c k cs m0 tm df md w e) : ExRes G w0 ρ x c k cs tm w m0 s e s :=
 ⟨ρ, tm, df, md, w, ⟨hs, Ext.refl .., fun h => h⟩, ht, rfl, h⟩
theorem ExRes.pass {w0 : World} {ρ : Emb} {x : Ctx} {c : Fr} {i : Item} {k : List Item} {cs : List Frame} {tm : Array Value} {w : World} {m0 : Machine} {s s' : St} {e : Ex}
 (hi : ∀ id, i ≠ .inBlock id) (he : e ≠ .normal) (h : ExRes G w0 ρ x c (i :: k) cs tm w m0 s e s') : ExRes G w0 ρ x c k cs tm w m0 s e s' := by
 obtain ⟨ρ', tm', df', md', w', h1, h2, h3, h4⟩ := h
 exact ⟨ρ', tm', df', md', w', h1, h2, h3, h4.pass hi he⟩
theorem ExRes.then {n : Nat} (H : ExecOk G n) {w0 : World} (hb : Base G w0) {ρ : Emb} {x : Ctx} {c : Fr} {k : List Item} {cs : List Frame} {tm : Array Value} {w : World} {m0 : Machine} {s s1 s' : St} {e : Ex} {i : Item} {code : Code}
 (hx : CtxOk G.P ρ w0.heap.size x c) (hi : ∀ (tm : Array Value) (df : List Deferred) (cs : List Frame) (w : World), Steps G.P (lone (F x c tm df .run (i :: k)) cs w) (lone (F x c tm df .run (.code code :: k)) cs w))
 (h : ExRes G w0 ρ x c (i :: k) cs tm w m0 s .normal s1) (he : exec G n x code s1 = some (e, s')) : ExRes G w0 ρ x c k cs tm w m0 s e s' := by
 obtain ⟨ρ', tm', df', md', w', h1, h2, h3, h4⟩ := h
 have := H x code s1 e s' he w0 hb ρ' c k cs tm' df' md' w' (hx.mono h1.ext.le) h1.sr h2
 exact ExRes.after h1 h3 (.of_steps (Steps.trans h4 (hi _ _ _ _)) this)
theorem getLoop_ok {w0 w : World} {ρ : Emb} {m : Mem} (h : MR G.toEnv w0 ρ m w) {l l' : Nat} {r : ALoop} (hl : getLoop m l = some r) (ha : ρ.at w0.heap.size l = some (l', 0)) :
 l % 2 = 1 ∧ ∃ L, ρ (l / 2) = some L ∧ L.b = l' ∧ L.s = 0 ∧ m.blks.get (l / 2) = some (.loop r) ∧ ∃ r', w.heap[l']? = some (.loop r') ∧ LoopR ρ w0.heap.size r r' := by
 unfold getLoop at hl
 by_cases ho : l % 2 = 1
 ·
  rw [if_pos ho] at hl
  refine ⟨ho, ?_⟩
  unfold Emb.at at ha
  rw [if_pos ho] at ha
  cases hr : ρ (l / 2) with
  | none => rw [hr] at ha; simp at ha
  | some L =>
   rw [hr] at ha
   simp only [Option.map_some, Option.some.injEq, Prod.mk.injEq] at ha
   cases hg : m.blks.get (l / 2) with
   | none => rw [hg] at hl; cases hl
   | some bl =>
    rw [hg] at hl
    cases bl with
    | loop r2 =>
     simp only [Option.some.injEq] at hl
     subst hl
     obtain ⟨_, r', h1, h2⟩ := h.blk _ _ _ hr hg
     exact ⟨L, rfl, ha.1, ha.2, rfl, r', by rw [← ha.1]; exact h1, h2⟩
    | _ => simp at hl
 rw [if_neg ho] at hl; cases hl
theorem run_getLoop {P : Program} {w : World} {l : Nat} {r : Loop} (h : w.heap[l]? = some (.loop r)) : (Instr.getLoop l).run P w = .ok r w := by
 simp [Instr.getLoop, getObj, Sem.run, h]
theorem setBlk_ok {w0 w : World} {ρ : Emb} {m : Mem} (h : MR G.toEnv w0 ρ m w) {k : Nat} {L : Loc} {bl bl2 : Blk} {o o2 : Obj} (hr : ρ k = some L) (hg : m.blks.get k = some bl) (ha : bl.alive = true)
 (hc : match o with | .cells .. => False | _ => True) (hh : w.heap[L.b]? = some o)
 (hb : ∀ w' : World, w'.heap[L.b]? = some o2 → BR G.P ρ w0.heap.size bl2 L w') :
 ∃ w', (setObj L.b o2).run G.P w = .ok () w' ∧ MR G.toEnv w0 ρ (m.setB k bl2) w' ∧ Ext w0 ρ ρ m (m.setB k bl2) w w' ∧ w'.heap[L.b]? = some o2 := by
 have hlt := (h.loc _ _ hr).2.1
 have e : ({ w with heap := w.heap.setIfInBounds L.b o2 } : World).heap[L.b]? = some o2 := by simp [hlt]
 have hT := h.turn (w' := { w with heap := w.heap.setIfInBounds L.b o2 }) (bl' := bl2) hr hg ha ⟨rfl, rfl, rfl⟩ (by simp) (fun x hx => by
  simp only
  rw [Array.getElem?_setIfInBounds_ne (Ne.symm hx)]) (hb _ e)
 exact ⟨_, run_setObj hh (by cases o <;> first | exact hc | trivial) G.P, hT.1, hT.2, e⟩
theorem setLoop_ok {w0 w : World} {ρ : Emb} {m : Mem} (h : MR G.toEnv w0 ρ m w) {l l' : Nat} {r r2 : ALoop} {r2' : Loop} (hl : getLoop m l = some r) (ha : ρ.at w0.heap.size l = some (l', 0)) (hr : LoopR ρ w0.heap.size r2 r2') :
 ∃ w', (setObj l' (.loop r2')).run G.P w = .ok () w' ∧ MR G.toEnv w0 ρ (m.setB (l / 2) (.loop r2)) w' ∧ Ext w0 ρ ρ m (m.setB (l / 2) (.loop r2)) w w' ∧ w'.heap[l']? = some (.loop r2') := by
 obtain ⟨ho, L, h1, rfl, h3, h4, r', h5, h6⟩ := getLoop_ok h hl ha
 exact setBlk_ok h h1 h4 rfl trivial h5 (fun w' e => ⟨h3, r2', e, hr⟩)
theorem mv_returning {P : Program} {x : Ctx} {c : Fr} {tm : Array Value} {df : List Deferred} {k : List Item} {cs : List Frame} {w : World} (hc : c.rd = none) :
 step P (lone (F x c tm df .run (.code .ret :: k)) cs w) = .next (lone (F x c tm df .returning (.code .ret :: k)) cs w) := by
 refine step_lone_go ?_
 simp only [stepG, stepG.exec, F, hc]
 simp
theorem mv_over {P : Program} {x : Ctx} {c : Fr} {tm : Array Value} {df : List Deferred} {cs : List Frame} {w : World} (hc : c.rd = none) :
 step P (lone (F x c tm df .run []) cs w) = .next (lone (F x c tm df .returning []) cs w) := by
 refine step_lone_go ?_
 simp only [stepG, stepG.exec, F, hc]
 simp
theorem mv_round {P : Program} {x : Ctx} {c : Fr} {tm : Array Value} {df : List Deferred} {todo : List Item} {caller : Frame} {cs : List Frame} {w w' : World} {l : Nat} {v : Value} {jump : Option Code}
 (hc : c.rd = some l) (hk : c.kind = .normal) (ht : (todo = [] ∧ jump = none) ∨ (∃ k, todo = .code .ret :: k ∧ jump = some .ret) ∨ (∃ k id, todo = .code (.exit id) :: k ∧ exitTo id k = none ∧ jump = some (.exit id)))
 (h : (Instr.endRound l jump).run P w = .ok v w') : step P (lone (F x c tm df .run todo) (caller :: cs) w) = .next (lone (caller.finish v) cs w') := by
 refine step_lone_go ?_
 rcases ht with ⟨rfl, rfl⟩ | ⟨k, rfl, rfl⟩ | ⟨k, id, rfl, he, rfl⟩
 · simp [stepG, stepG.exec, F, hc, h, doReturn, hk]
 · simp [stepG, stepG.exec, F, hc, h, doReturn, hk]
 simp [stepG, stepG.exec, F, hc, he, h, doReturn, hk]
theorem zipSet_ok {ρ : Emb} {B nt : Nat} : ∀ (ps : List Tmp) (as as' : List Value) (t t' : Tr Value) (tm : Array Value), zipSet nt t ps as = some t' → VL ρ B as as' → TmpsR ρ B t tm → nt ≤ tm.size →
 ps.length = as.length ∧ TmpsR ρ B t' ((ps.zip as').foldl (fun tmps p => tmps.setIfInBounds p.1 p.2) tm) ∧ ((ps.zip as').foldl (fun tmps p => tmps.setIfInBounds p.1 p.2) tm).size = tm.size := by
 intro ps
 induction ps with
 | nil =>
  intro as as' t t' tm h hv ht hn
  cases as with
  | nil => simp only [zipSet, Option.some.injEq] at h; subst h; exact ⟨rfl, by simpa using ht, by simp⟩
  | cons a as => simp [zipSet] at h
 | cons d ds ih =>
  intro as as' t t' tm h hv ht hn
  cases as with
  | nil => simp [zipSet] at h
  | cons a as =>
   simp only [zipSet] at h
   by_cases hd : d < nt
   ·
    rw [if_pos hd] at h
    have hl := hv.1
    cases as' with
    | nil => simp at hl
    | cons a' as' =>
     have h0 : VR ρ B a a' := by simpa using hv.2 0
     have htl : VL ρ B as as' := ⟨by simpa using hl, fun i => by simpa using hv.2 (i + 1)⟩
     have ht1 : TmpsR ρ B (t.set d a) (tm.setIfInBounds d a') := TmpsR.put (dst := some d) ht (fun d' e => by cases e; exact Nat.lt_of_lt_of_le hd hn) h0
     obtain ⟨h1, h2, h3⟩ := ih as as' (t.set d a) t' (tm.setIfInBounds d a') h htl ht1 (by simpa using hn)
     exact ⟨by simp [h1], by simpa using h2, by simpa using h3⟩
   rw [if_neg hd] at h; cases h
theorem run_endRound {P : Program} {w w' : World} {l : Nat} {r : Loop} {jump : Option Code} (h : w.heap[l]? = some (.loop r))
 (hs : (setObj l (.loop { r with state := if jump.isNone then .ready else .done, pending := jump })).run P w = .ok () w') : (Instr.endRound l jump).run P w = .ok (.bool jump.isNone) w' := by
 simp only [Instr.endRound, Sem.run_bind, run_getLoop h, Result.andThen_ok, hs]
 rfl
theorem mv_beginRound {P : Program} {x : Ctx} {c : Fr} {tm : Array Value} {df : List Deferred} {k : List Item} {cs : List Frame} {w w' : World} {l : Nat} {r : Loop} (hc : c.rd = some l) (h : w.heap[l]? = some (.loop r)) (hr : r.state = .ready)
 (hs : (setObj l (.loop { r with state := .busy })).run P w = .ok () w') : step P (lone (F x c tm df .run (.beginRound :: k)) cs w) = .next (lone (F x c tm df .run k) cs w') := by
 refine step_lone_go ?_
 have hb : (Instr.beginRound l).run P w = .ok () w' := by
  simp only [Instr.beginRound, Sem.run_bind, run_getLoop h, Result.andThen_ok, hs, hr]
  rfl
 simp [stepG, stepG.exec, F, hc, stepG.apply, hb, Frame.finish]
theorem round_ok {n : Nat} (H : ExecOk G n) : RoundOk G (n + 1) := by
 intro l args m out m' he w0 hb ρ caller rest w l' args' hm hargs ha hodd
 unfold callRound at he
 cases hl : getLoop m l with
 | none => rw [hl] at he; cases he
 | some r =>
  rw [hl] at he
  simp only at he
  obtain ⟨_, L, hL, hLb, hLs, hg, r', hr', q1, q2, q3, q4, q5, q6, q7, q8, q9, q10⟩ := getLoop_ok hm hl ha
  cases hf : G.P.funcs[r.fn]? with
  | none => rw [hf] at he; simp at he
  | some fn =>
   cases hz : zipSet r.nt r.tmps r.params args with
   | none => rw [hf, hz] at he; simp at he
   | some t =>
    rw [hf, hz] at he
    simp only at he
    obtain ⟨z1, z2, z3⟩ := zipSet_ok (ρ := ρ) (B := w0.heap.size) r.params args args'.toList r.tmps t r'.tmps hz hargs q4 q10
    have hsz : args'.size = r'.params.size := by
     have e1 := hargs.1
     have e2 : r'.params.toList.length = r.params.length := by rw [q5]
     simp at e1 e2
     omega
    let tm := (r'.params.zip args').foldl (fun tmps p => tmps.setIfInBounds p.1 p.2) r'.tmps
    have htm : tm = (r.params.zip args'.toList).foldl (fun tmps p => tmps.setIfInBounds p.1 p.2) r'.tmps := by
     simp only [tm]
     rw [← Array.foldl_toList, Array.toList_zip, q5]
    have hyield : (Instr.yield l' args').run G.P w = .ok (.round l' r'.fn tm r'.assign r'.body) w := by
     simp only [Instr.yield, Sem.run_bind, run_getLoop hr', Result.andThen_ok]
     rw [if_neg (by omega)]
     rfl
    refine ⟨r'.fn, tm, r'.assign, r'.body, hyield, ?_⟩
    let x : Ctx := { fn := r.fn, deferred := false, round := some l, nt := r.nt }
    let c : Fr := { kind := .normal, rd := some l' }
    have hframe : Frame.round l' r'.fn tm r'.assign r'.body .normal = F x c tm [] .run [.code r.assign, .beginRound, .code r.body] := by
     simp [Frame.round, F, x, c, q3, q6, q7]
    rw [hframe]
    have hx : CtxOk G.P ρ w0.heap.size x c := ⟨⟨fn, hf⟩, rfl, ⟨ha, hodd⟩, fun _ => rfl⟩
    cases he1 : exec G n x r.assign { tmps := t, defers := [], cm := none, m } with
    | none => simp only [x] at he1; rw [he1] at he; cases he
    | some q =>
     obtain ⟨e1, s1⟩ := q
     have he1' := he1
     simp only [x] at he1'
     rw [he1'] at he
     cases e1 with
     | normal =>
      simp only at he
      have hs0 : SR G w0 ρ x { tmps := t, defers := [], cm := none, m } tm [] (caller :: rest) .run w :=
       ⟨hm, .nil, fun h => (by cases h), by rw [htm, z3]; exact q10, fun h => (by cases h)⟩
      obtain ⟨ρ1, tm1, df1, md1, w1, p1, p2, p3, p4⟩ := H x r.assign _ .normal s1 he1 w0 hb ρ c [.beginRound, .code r.body] (caller :: rest) tm [] .run w hx hs0 (by rw [htm]; exact z2)
      cases hl1 : getLoop s1.m l with
      | none => rw [hl1] at he; cases he
      | some r1 =>
       rw [hl1] at he
       simp only at he
       have ha1 := Emb.at_mono p1.ext.le ha
       obtain ⟨_, L1, hL1, hLb1, hLs1, hg1, r1', hr1', u1, u2, u3, u4, u5, u6, u7, u8, u9, u10⟩ := getLoop_ok p1.sr.mem hl1 ha1
       split at he
       ·
        rename_i hrd
        have hrd' : r1.state = .ready := by
         cases hst : r1.state <;> rw [hst] at hrd <;> first | rfl | cases hrd
        obtain ⟨w2, b1, b2, b3, b4⟩ := setLoop_ok (r2 := { r1 with state := .busy }) (r2' := { r1' with state := .busy }) p1.sr.mem hl1 ha1 ⟨rfl, u2, u3, u4, u5, u6, u7, u8, u9, u10⟩
        have hbr := mv_beginRound (P := G.P) (x := x) (c := c) (tm := tm1) (df := df1) (k := [.code r.body]) (cs := caller :: rest) rfl hr1' (by rw [u1]; exact hrd') b1
        cases he2 : exec G n x r.body { s1 with m := s1.m.setB (l / 2) (.loop { r1 with state := .busy }) } with
        | none => simp only [x] at he2; rw [he2] at he; cases he
        | some q2 =>
         obtain ⟨e2, s2⟩ := q2
         have he2' := he2
         simp only [x] at he2'
         rw [he2'] at he
         obtain ⟨ρ3, tm3, df3, md3, w3, t1, t2, t3, t4⟩ := H x r.body _ e2 s2 he2 w0 hb ρ1 c [] (caller :: rest) tm1 df1 md1 w2 (hx.mono p1.ext.le) ⟨b2, p1.sr.defers, p1.sr.cm, p1.sr.size, p1.sr.cs⟩ p2
         have hto : Steps G.P (lone (F x c tm [] .run [.code r.assign, .beginRound, .code r.body]) (caller :: rest) w) (lone (F x c tm1 df1 .run [.code r.body]) (caller :: rest) w2) :=
          Steps.trans p4 (.one hbr)
         have hext : Ext w0 ρ ρ3 m s2.m w w3 := (p1.ext.trans b3).trans t1.ext
         have ha3 := Emb.at_mono hext.le ha
         have hend : ∀ (jump : Option Code) (r2 : ALoop), getLoop s2.m l = some r2 →
          ∃ w4, (Instr.endRound l' jump).run G.P w3 = .ok (.bool jump.isNone) w4 ∧ MR G.toEnv w0 ρ3 (s2.m.setB (l / 2) (.loop { r2 with state := if jump.isNone then .ready else .done, pending := jump })) w4 ∧
           Ext w0 ρ3 ρ3 s2.m (s2.m.setB (l / 2) (.loop { r2 with state := if jump.isNone then .ready else .done, pending := jump })) w3 w4 := by
          intro jump r2 hl2
          obtain ⟨_, L2, hL2, _, _, _, r2', hr2', v1, v2, v3, v4, v5, v6, v7, v8, v9, v10⟩ := getLoop_ok t1.sr.mem hl2 ha3
          obtain ⟨w4, d1, d2, d3, _⟩ := setLoop_ok (r2 := { r2 with state := if jump.isNone then .ready else .done, pending := jump }) (r2' := { r2' with state := if jump.isNone then .ready else .done, pending := jump }) t1.sr.mem hl2 ha3
           ⟨rfl, rfl, v3, v4, v5, v6, v7, v8, v9, v10⟩
          exact ⟨w4, run_endRound hr2' d1, d2, d3⟩
         cases e2 with
         | panic ch =>
          simp only at he
          split at he
          ·
           rename_i hemp
           simp only [Option.some.injEq, Prod.mk.injEq] at he
           obtain ⟨rfl, rfl⟩ := he
           obtain ⟨ch', todo, c1, c2⟩ := t4
           have hdf : df3 = [] := by
            have := t1.sr.defers
            have h0 : s2.defers = [] := by simpa using hemp
            rw [h0] at this
            cases this; rfl
           subst hdf
           refine ⟨ρ3, w3, t1.sr.mem, hext, ch', c1, hto.trans (Steps.trans c2 (.one ?_))⟩
           refine step_lone_go ?_
           have hfx : G.P.funcs[x.fn]? = some fn := hf
           simp only [x] at hfx
           simp [stepG, Go.unwind, F, Frame.catches, x, hfx, reMode]
          cases he
         | normal =>
          simp only at he
          cases hl2 : getLoop s2.m l with
          | none => rw [hl2] at he; cases he
          | some r2 =>
           rw [hl2] at he
           simp only [Option.some.injEq, Prod.mk.injEq] at he
           obtain ⟨rfl, rfl⟩ := he
           obtain ⟨w4, d1, d2, d3⟩ := hend none r2 hl2
           refine ⟨ρ3, w4, d2, hext.trans d3, .bool true, .bool true, hto.trans (Steps.trans t4 (.one ?_))⟩
           exact mv_round (x := x) (c := c) rfl rfl (.inl ⟨rfl, rfl⟩) d1
         | exit id =>
          simp only at he
          cases hl2 : getLoop s2.m l with
          | none => rw [hl2] at he; cases he
          | some r2 =>
           rw [hl2] at he
           simp only [Option.some.injEq, Prod.mk.injEq] at he
           obtain ⟨rfl, rfl⟩ := he
           obtain ⟨w4, d1, d2, d3⟩ := hend (some (.exit id)) r2 hl2
           obtain ⟨kk, g1, g2⟩ := t4
           refine ⟨ρ3, w4, d2, hext.trans d3, .bool false, .bool false, hto.trans (Steps.trans g2 (.one ?_))⟩
           exact mv_round (x := x) (c := c) rfl rfl (.inr (.inr ⟨kk, id, rfl, g1, rfl⟩)) d1
         | ret =>
          simp only at he
          cases hl2 : getLoop s2.m l with
          | none => rw [hl2] at he; cases he
          | some r2 =>
           rw [hl2] at he
           simp only [Option.some.injEq, Prod.mk.injEq] at he
           obtain ⟨rfl, rfl⟩ := he
           obtain ⟨w4, d1, d2, d3⟩ := hend (some .ret) r2 hl2
           obtain ⟨kk, g2⟩ := t4
           refine ⟨ρ3, w4, d2, hext.trans d3, .bool false, .bool false, hto.trans (Steps.trans g2 (.one ?_))⟩
           exact mv_round (x := x) (c := c) rfl rfl (.inr (.inl ⟨kk, rfl, rfl⟩)) d1
       cases he
     | _ => cases he
end Go.Am
