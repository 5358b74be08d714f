/-
  PROVED here: steps on the way to the card of 'sleuthlaw06.ReduceTreeMinimal' (an abstract machine, its soundness, what each function computes). No conditions beyond those that each theorem states.
-/
import Derived.Test.YtfgpboldklboaaaGreatDoorAm28
import Derived.Test.YtfgpboldklboaaaGreatDoorAm15
namespace Go.Proofs.Lw
open Go Go.Am
set_option maxRecDepth 8000
variable {gl : Nat → Nat → Option Value} {ng : Nat} {g : List RuleD} {a b : Nat} {ea eb : SpotD} {l : List SpotD}
theorem f84_ok {σb : Kn} {lv : Value} {ba bl bf : Nat} (hl : SpotsW σb lv l) (heb : l[b]? = some eb) (hwb : wt eb.1 < 1048576)
 (k1 : σb ba 0 = some (.int .i64 a)) (k2 : σb bl 0 = some lv) (k3 : σb bf 0 = some (.int .i64 b)) :
 EdOk gl ng 84 [.pointer (some ⟨ba, 0, none⟩), .pointer (some ⟨bl, 0, none⟩), .pointer (some ⟨bf, 0, none⟩)] σb g.length (edH eb.1 a) := by
 refine ⟨fun args m => callV_of (fn := Tryz.f84) Tryz.func84 rfl rfl, fun n s l h => ?_, fun n s kv σ m hnl hs hw hh hle hk => ?_⟩
 · unfold edH at h
   split at h
   · cases h; simp
   cases h
 refine Ct.of (c := _) Tryz.func84 rfl 19 rfl (fun c hnt => ?_)
 have hS := S.start hw hh
 obtain ⟨m1, nb6, hbx, hS1⟩ := hS.box 55 #[.int .u8 s.many, kv, .string s.between] (by simp [hk.plain])
 have k1' := hle _ _ _ k1
 have k2' := hle _ _ _ k2
 have k3' := hle _ _ _ k3
 repeat apply W.seq
 apply W.regN; simp [hnt, hbx]
 by_cases hna : n = a
 ·
  subst hna
  repeat apply W.seq
  apply W.regN; simp [hnt, hS1.kn, k1']
  refine W.choose (by simp; rfl) (fun hc => ?_) fun hc => ?_
  · cases hc
  apply W.skip; try simp only [Then, InBlk]
  obtain ⟨bb, x, y, z, kv', ix, s0, s1, s2, _, _, _, _, _, w1, _⟩ := (hl.mono hle).at (gl := gl) (ng := ng) heb
  repeat apply W.seq
  apply W.regN; simp [hnt, hS1.kn, k2', k3', ix, s0, s1, s2]
  refine Ct.use (f26_ok (wt eb.1) eb.1 σ m1 _ (Nat.le_refl _) hwb hS1.wf hS1.holds w1) (fun σ3 v3 m3 hl3 hv3 => ?_)
  obtain ⟨x1, y1, z1, rfl, px, py, pz⟩ := hv3.agg
  have hS3 := hS1.learn' hl3
  have hS4 := hS3.new (vs := [x1, y1, z1]) 27 (by simp [px, py, pz])
  obtain ⟨σ5, hle5, hS5, hn5⟩ := hS4.freeze (i := 0) rfl
  simp [hnt, bs59 px py pz]
  apply W.ret
  refine ⟨.inr rfl, rfl, rfl, _, by simp [unwind.results, Tryz.f84]; rfl, _, hS5.learn, ?_⟩
  have e : edH eb.1 n n s = some [eb.1] := by simp [edH]
  rw [e]
  refine ⟨_, rfl, ⟨m3.nb, 0, .inr ⟨_, rfl⟩, ?_⟩, by simp⟩
  simp only [TreesK, and_true]
  exact ⟨x1, y1, z1, (hn5 0).trans rfl, (hn5 1).trans rfl, (hn5 2).trans rfl, hv3.mono hle5⟩
 have hna' : ¬ ((n : Int) = a) := by omega
 repeat apply W.seq
 apply W.regN; simp [hnt, hS1.kn, k1', hna, hna']
 refine W.choose (by simp; rfl) (fun hc => ?_) fun hc => ?_
 ·
  repeat apply W.seq
  apply W.regN; simp [hnt]
  apply W.ret; try simp only [Then, InBlk]
  refine ⟨.inr rfl, rfl, rfl, _, by simp [unwind.results, Tryz.f84]; rfl, _, hS1.learn, ?_⟩
  have e : edH eb.1 a n s = none := by simp [edH, hna]
  rw [e]
  rfl
 cases hc
def HoistP (g : List RuleD) (t : T) (ea eb : SpotD) (a b : Nat) (σ' : Kn) (v : Value) : Prop :=
 (canH (spotsOf g t) ea eb a b = true → ∃ v', v = .tuple #[v', .bool true] ∧ TreeK σ' v' (replT eb.1 a t 0)) ∧ (canH (spotsOf g t) ea eb a b = false → v = .tuple #[.agg #[.int .i64 0, .string .empty, .slice none 0 0], .bool false])
theorem f59_ok {σ : Kn} {m : Mem} {rv tv lv : Value} {t : T} (hw : WF m) (hh : Holds (cfg gl ng).toEnv σ m) (hg : RulesV σ rv g) (hru : RulesOk g) (ht : TreeK σ tv t) (hwt : wt t < 1048575) (hok : OkN g t) (hno : nodes t ≤ 1024)
 (hlv : SpotsW σ lv (spotsOf g t)) (hab : a < b) (hbn : b < a + nodes ea.1) (hea : (spotsOf g t)[a]? = some ea) (heb : (spotsOf g t)[b]? = some eb) :
 Ct gl ng 59 [.agg #[rv], tv, lv, .int .i64 a, .int .i64 b] σ m (HoistP g t ea eb a b) := by
 refine Ct.of (c := _) Tryz.func59 rfl 79 rfl (fun c hnt => ?_)
 obtain ⟨bg, og, hg1, _⟩ := id hg
 have hS := S.start hw hh
 obtain ⟨m1, nb5, hbx1, hS1⟩ := hS.box 24 #[rv] (by simp [hg1.plain])
 have ht0 := ht
 obtain ⟨x, y, z, rfl, px, py, pz⟩ := ht.agg
 obtain ⟨rfl, hyt, _, _⟩ := ht0.inv
 obtain ⟨m2, nb6, hbx2, hS2⟩ := hS1.box 27 #[.int .i64 (kindT t), y, z] (by simp [py, pz])
 obtain ⟨m3, nb7, hbx3, hS3⟩ := hS2.boxs 83 lv hlv.plain
 obtain ⟨m4, nb8, hbx4, hS4⟩ := hS3.boxs 3 (.int .i64 a) (by simp)
 obtain ⟨m5, nb9, hbx5, hS5⟩ := hS4.boxs 3 (.int .i64 b) (by simp)
 have hS6 := hS5.new (vs := [.int .i64 0, .string .empty, .slice none 0 0]) 27 (by simp)
 repeat apply W.seq
 apply W.regN; simp [hnt, hbx1, hbx2, hbx3, hbx4, hbx5]
 generalize m5.new (.cells (cellsOf [.int .i64 0, .string .empty, .slice none 0 0] 27)) = m6 at *
 generalize m5.nb = nb10 at *
 have hal := lt_of_get hea
 have hbl := lt_of_get heb
 have hll : (spotsOf g t).length ≤ 1024 := by have h1 := below_len (d := 1) hok; simp [spotsOf]; omega
 have h0 : (spotsOf g t)[0]? = some (t, zeroSlot, 1) := rfl
 have hda : ∀ i (e : SpotD), (spotsOf g t)[i]? = some e → wt e.1 ≤ wt t ∧ (0 < i → SpotOk g (wt t) e) := by
  intro i e hi
  cases i with
  | zero => rw [h0] at hi; cases hi; exact ⟨Nat.le_refl _, fun h => by omega⟩
  | succ i =>
   have hem : e ∈ below g t 1 := by
    simp only [spotsOf, List.getElem?_cons_succ] at hi
    exact List.mem_of_getElem? hi
   have h1 := below_ok hru hok e hem
   exact ⟨Nat.le_of_lt h1.lt, fun _ => h1⟩
 obtain ⟨hwa, hoa⟩ := hda a ea hea
 obtain ⟨hwb, hob⟩ := hda b eb heb
 obtain ⟨ba, xa, ya, za, kva, ixa, a0, a1, a2, a3, a4, a5, a6, a7, wa1, wa2⟩ := hlv.at (gl := gl) (ng := ng) hea
 obtain ⟨bb, xb, yb, zb, kvb, ixb, b0, b1, b2, b3, b4, b5, b6, b7, wb1, wb2⟩ := hlv.at (gl := gl) (ng := ng) heb
 obtain ⟨rfl, rfl, pzb, _⟩ := wb1.inv
 have hna := nodes_le_wt ea.1
 have a4' : σ ba (8 * a + 3 + 1) = some kva := a4
 have n1 : ¬ ((a : Int) < 0) := by omega
 have n2 : ¬ ((spotsOf g t).length ≤ a) := by omega
 have n3 : ¬ (b ≤ a) := by omega
 have hwr : IntKind.i64.wrap ((a : Int) + nodes ea.1) = (a : Int) + nodes ea.1 := by
  have : a + nodes ea.1 < 2097152 := by omega
  exact wrap_i64 (by omega) (by omega)
 have hge : ¬ ((a : Int) + nodes ea.1 ≤ b) := by omega
 have hge2 : ¬ (a + nodes ea.1 ≤ b) := by omega
 repeat apply W.seq
 apply W.regD (by kernel_rfl); simp [hnt, hS6.c1, hS6.c2, hS6.c3, hlv.len, ixa, hS6.kn, a7, n1, n2, n3, hwr, hge, hge2]
 refine W.choose (by simp; rfl) (fun hc => ?_) fun hc => ?_
 · cases hc
 apply W.skip; try simp only [Then, InBlk]
 repeat apply W.seq
 apply W.regN; simp [hnt, hS6.c1, hS6.c3, ixb, hS6.kn, b0]
 obtain ⟨J, hJ⟩ : ∃ J : Tr Value → Mem → Prop, J = fun t' m' => S (cfg gl ng).toEnv σ m σ m' [(nb10, ⟨[.int .i64 0, .string .empty, .slice none 0 0], none⟩), (nb9, ⟨[.int .i64 b], none⟩), (nb8, ⟨[.int .i64 a], none⟩), (nb7, ⟨[lv], none⟩), (nb6, ⟨[.int .i64 (kindT t), y, z], none⟩), (nb5, ⟨[rv], none⟩)] ∧ t'.get 67 = some (.bool (!canH (spotsOf g t) ea eb a b)) := ⟨_, rfl⟩
 repeat apply W.seq
 refine W.cut' (ws := [45, 46, 47, 48, 49, 50, 51, 52, 53, 54, 55, 56, 57, 58, 59, 60, 61, 62, 63, 64, 65, 66, 67]) (by kernel_rfl) J ?_ (fun t2 m7 hfr2 hJ2 => ?_)
 ·
  by_cases ha0 : a = 0
  ·
   subst ha0
   rw [h0] at hea
   cases hea
   have hltn : b < nodes t := by simpa using hbn
   by_cases hk : kindT eb.1 = kindT t
   · apply W.regN; simp [hnt, hS6.c2, hS6.c4, hk]
     rw [hJ]
     refine ⟨hS6, ?_⟩
     simp [canH, hk]
     simpa using hltn
   apply W.regN; simp [hnt, hS6.c2, hS6.c4, hk]
   rw [hJ]
   refine ⟨hS6, ?_⟩
   simp [canH, hltn, hk]
  have hps : 0 < a := by omega
  have hsl := (hoa hps).slot
  have hkl := hsl.rise.len
  have hfew := hru.few
  have m1' : ¬ (a : Int) = 0 := by omega
  have m2' : (0 : Int) < a := by omega
  apply W.regN; simp [hnt, hS6.c2, hS6.c3, ixa, hS6.kn, a4', a4, m1', m2', ha0, hps]
  refine Ct.use (Ct.any hS6.wf hS6.holds (f47_ct hS6.wf (IntsK.mono hS6.holds wa2) (by omega))) (fun σ7 v7 m7 hl7 hv7 => ?_)
  subst hv7
  have hS7 := hS6.grow hl7.grow
  simp [hnt, ha0, hps]
  rw [hJ]
  refine ⟨hS7, ?_⟩
  simp [canH, hbn, ha0]
 rw [hJ] at hJ2
 obtain ⟨hS7, p67⟩ := hJ2
 cases hcan : canH (spotsOf g t) ea eb a b with
 | false =>
  rw [hcan] at p67
  refine W.choose (by simp[p67]; rfl) (fun hc => ?_) fun hc => ?_
  ·
   have hbu := K.bu27_ (gl := gl) (ng := ng) (m := m7)
   obtain ⟨m8, e8, hS8⟩ := hS7.setAll (i := 0) rfl (vs := [.int .i64 0, .string .empty, .slice none 0 0]) rfl (by simp)
   repeat apply W.seq
   apply W.regN; simp [hnt, hbu, hfr2, e8]
   apply W.ret; try simp only [Then, InBlk]
   refine ⟨.inr rfl, rfl, rfl, _, by simp [unwind.results, Tryz.f59, addrOf, loadV, K.is27, K.zs27, Mem.loadN, hfr2, hS8.c0]; rfl, _, hS8.learn, ?_⟩
   exact ⟨fun h => absurd (hcan.symm.trans h) (by decide), fun _ => rfl⟩
  cases hc
 | true =>
  rw [hcan] at p67
  refine W.choose (by simp[p67]; rfl) (fun hc => ?_) fun hc => ?_
  · cases hc
  apply W.skip; try simp only [Then, InBlk]
  have hfv : opMakeFunc (.func 84) #[] #[.pointer (some ⟨nb8, 0, none⟩), .pointer (some ⟨nb7, 0, none⟩), .pointer (some ⟨nb9, 0, none⟩)] m7 = .value (.func (.func 84) #[] ⟨[.pointer (some ⟨nb8, 0, none⟩), .pointer (some ⟨nb7, 0, none⟩), .pointer (some ⟨nb9, 0, none⟩)]⟩) m7 := rfl
  have hbu := K.bu129_0_2 (gl := gl) (ng := ng) (m := m7) (x0_0 := rv) (x2 := .func (.func 84) #[] ⟨[.pointer (some ⟨nb8, 0, none⟩), .pointer (some ⟨nb7, 0, none⟩), .pointer (some ⟨nb9, 0, none⟩)]⟩) (by simp)
  obtain ⟨m8, nbx, hbx8, hS8⟩ := hS7.box 129 #[rv, .int .i64 0, .func (.func 84) #[] ⟨[.pointer (some ⟨nb8, 0, none⟩), .pointer (some ⟨nb7, 0, none⟩), .pointer (some ⟨nb9, 0, none⟩)]⟩] (by simp [hg1.plain])
  repeat apply W.seq
  apply W.regN; simp [hnt, hfr2, hS7.c5, hfv, hbu, hbx8]
  repeat apply W.seq
  apply W.regN; simp [hnt, hfr2, hS8.c5]
  obtain ⟨σ9, hle9, hS9, hn9⟩ := hS8.freeze (i := 2) rfl
  obtain ⟨σ10, hle10, hS10, hn10⟩ := hS9.freeze (i := 2) rfl
  obtain ⟨σ11, hle11, hS11, hn11⟩ := hS10.freeze (i := 2) rfl
  have hle : σ.le σ11 := Kn.le_trans hle9 (Kn.le_trans hle10 hle11)
  simp only [List.eraseIdx_cons_succ, List.eraseIdx_cons_zero] at hS11 hn9 hn10 hn11
  have hed := f84_ok (gl := gl) (ng := ng) (g := g) (a := a) (σb := σ11) (hlv.mono hle) heb (by omega) (ba := nb8) (bl := nb7) (bf := nb9) (hle11 _ _ _ ((hn10 0).trans rfl)) ((hn11 0).trans rfl) (hle11 _ _ _ (hle10 _ _ _ ((hn9 0).trans rfl)))
  refine C.mono (f74_ok (wt t) t zeroSlot 0 σ m σ11 m8 nbx rv _ (.slice none 0 0) _ (Nat.le_refl _) (by omega) (by omega) hed (Kn.le_refl _) hS11 (hg.mono hle) hru hok (ht0.mono hle) ⟨0, 0, .inl ⟨rfl, rfl⟩, fun i n h => by simp [zeroSlot] at h⟩ (.inl rfl)) (fun out8 m9 ho8 => ?_)
  obtain ⟨σ12, v12, rfl, hle12, hS12, hv12⟩ := ho8
  rw [editH hok] at hv12
  obtain ⟨b', o', hv1, hv2⟩ := hv12
  simp only [TreesK, and_true] at hv2
  obtain ⟨x1, y1, z1, w1, w2, w3, w4⟩ := hv2
  obtain ⟨q1, q2, pz1, _⟩ := w4.inv
  have hix : ∀ m', opIndexAddr (cfg gl ng).toEnv 59 v12 (.int .i64 0) m' = .value (.pointer (some ⟨b', o', none⟩)) m' := fun m' => K.iy59 hv1 (i := 0) (by simp)
  have p1 : plainV x1 = true := by rw [q1]; simp
  have p2 : plainV y1 = true := by rw [q2]; simp
  obtain ⟨m13, e13, hS13⟩ := hS12.setAll (i := 1) rfl (vs := [x1, y1, z1]) rfl (by simp [p1, p2, pz1])
  simp [hnt, hfr2, hix, hS12.kn, w1, w2, w3, e13]
  apply W.ret
  refine ⟨.inr rfl, rfl, rfl, _, by simp [unwind.results, Tryz.f59, addrOf, loadV, K.is27, K.zs27, Mem.loadN, hfr2, hS13.c1]; rfl, _, hS13.learn, ?_⟩
  exact ⟨fun _ => ⟨_, rfl, w4⟩, fun h => absurd (hcan.symm.trans h) (by decide)⟩
end Go.Proofs.Lw
namespace Go.Am
variable (G : Cfg)
def CR (l : Nat) (args : List Value) (m : Mem) (Q : Out → Mem → Prop) : Prop := ∃ n0 out m', (∀ n, n0 ≤ n → callRound G n l args m = some (out, m')) ∧ Q out m'
def uponX (x : Ctx) (s : St) (dst : Option Tmp) (K : St → Prop) (P : List PanicEntry → St → Prop) : ORes → Prop
 | .value v m => K { s with m, tmps := putT s.tmps dst v }
 | .skip m => K { s with m, tmps := putT s.tmps dst undef }
 | .enter f args m => C G f args m (fun out m' => match out with
  | .returned v => K { s with m := m', tmps := putT s.tmps dst v }
  | .panicked ch => P ch { s with m := m' })
 | .round l args m => CR G l args m (fun out m' => match out with
  | .returned v => K { s with m := m', tmps := putT s.tmps dst v }
  | .panicked ch => P ch { s with m := m' })
 | .defer d m => x.round = none ∧ K { s with m, defers := d :: s.defers, tmps := putT s.tmps dst undef }
 | .recover m => x.round = none ∧ ((x.deferred = true ∧ ∃ v older, s.cm = some ({ v, recovered := false, goexit := false } :: older) ∧ K { s with m, cm := some ({ v, recovered := true } :: older), tmps := putT s.tmps dst v }) ∨
  ((x.deferred = false ∨ s.cm = none) ∧ K { s with m, tmps := putT s.tmps dst .nilIface }))
 | .panic v m => P [{ v, recovered := false }] { s with m }
 | .fail => False
variable {G} {x : Ctx}
theorem CR.mono {l : Nat} {args : List Value} {m : Mem} {Q Q' : Out → Mem → Prop} (h : CR G l args m Q) (hq : ∀ o m, Q o m → Q' o m) : CR G l args m Q' :=
 let ⟨n, e, s', h1, h2⟩ := h; ⟨n, e, s', h1, hq _ _ h2⟩
theorem uponX_run {ops : Array Oper} {o : Oper} {s : St} {Q : Ex → St → Prop} (hg : guardOk o ops s.tmps = true) (hw : wantedV o ops s.tmps = true) (hd : ∀ d, o.dst = some d → d < x.nt)
 (h : uponX G x s o.dst (fun s' => Q .normal s') (fun ch s' => Q (.panic ch) s') (opV G (evalT G.ng s.tmps) o s.m)) : WO1 G x ops o s Q := by
 generalize hr : opV G (evalT G.ng s.tmps) o s.m = r at h
 cases r with
 | value v m => exact WO1.value hg hw hr hd h
 | skip m => exact WO1.skip hg hw hr hd h
 | enter f args m =>
  refine WO1.call hg hw hr hd (C.mono h (fun out m' ho => ?_))
  cases out with
  | returned v => exact ho
  | panicked ch => exact ho
 | round l args m =>
  obtain ⟨n1, out, m', h1, h2⟩ := h
  cases out with
  | returned v =>
   refine ⟨n1 + 1, _, _, fun n hn => ?_, h2⟩
   obtain ⟨k, rfl⟩ : ∃ k, n = k + 1 := ⟨n - 1, by omega⟩
   unfold execOp1
   rw [if_pos hg, if_pos hw, hr]
   simp only
   rw [h1 k (by omega)]
   exact next_of (s := { s with m := m' }) hd
  | panicked ch =>
   refine ⟨n1 + 1, _, _, fun n hn => ?_, h2⟩
   obtain ⟨k, rfl⟩ : ∃ k, n = k + 1 := ⟨n - 1, by omega⟩
   unfold execOp1
   rw [if_pos hg, if_pos hw, hr]
   simp only
   rw [h1 k (by omega)]
 | defer d m =>
  obtain ⟨h1, h2⟩ := h
  refine ⟨1, _, _, fun n hn => ?_, h2⟩
  obtain ⟨k, rfl⟩ : ∃ k, n = k + 1 := ⟨n - 1, by omega⟩
  unfold execOp1
  rw [if_pos hg, if_pos hw, hr]
  simp only
  rw [if_neg (by rw [h1]; simp)]
  exact next_of (s := { s with m, defers := d :: s.defers }) hd
 | recover m =>
  obtain ⟨h1, h2⟩ := h
  rcases h2 with ⟨h3, v, older, h4, h5⟩ | ⟨h3, h5⟩
  ·
   refine ⟨1, _, _, fun n hn => ?_, h5⟩
   obtain ⟨k, rfl⟩ : ∃ k, n = k + 1 := ⟨n - 1, by omega⟩
   unfold execOp1
   rw [if_pos hg, if_pos hw, hr]
   simp only
   rw [if_neg (by rw [h1]; simp), h3, h4]
   exact next_of (s := { s with m, cm := some ({ v, recovered := true } :: older) }) hd
  refine ⟨1, _, _, fun n hn => ?_, h5⟩
  obtain ⟨k, rfl⟩ : ∃ k, n = k + 1 := ⟨n - 1, by omega⟩
  unfold execOp1
  rw [if_pos hg, if_pos hw, hr]
  simp only
  rw [if_neg (by rw [h1]; simp)]
  rcases h3 with h3 | h3
  · rw [h3]; exact next_of (s := { s with m }) hd
  rw [h3]
  cases x.deferred <;> exact next_of (s := { s with m, cm := none }) hd
 | panic v m =>
  refine ⟨1, .panic [{ v, recovered := false }], { s with m }, fun n hn => ?_, h⟩
  obtain ⟨k, rfl⟩ : ∃ k, n = k + 1 := ⟨n - 1, by omega⟩
  unfold execOp1
  rw [if_pos hg, if_pos hw, hr]
 | fail => exact h.elim
def wpX (G : Cfg) (x : Ctx) (ops : Array Oper) : List Oper → St → (Ex → St → Prop) → Prop
 | [], s, Q => Q .normal s
 | o :: l, s, Q => dstOk x o.dst = true ∧ guardOk o ops s.tmps = true ∧
  if wantedV o ops s.tmps = true then uponX G x s o.dst (fun s' => wpX G x ops l s' Q) (fun ch s' => Q (.panic ch) s') (opV G (evalT G.ng s.tmps) o s.m)
  else wpX G x ops l { s with tmps := putT s.tmps o.dst ku } Q
def stepX (G : Cfg) (x : Ctx) (ops : Array Oper) (l : List Oper) (s : St) (dst : Option Tmp) (Q : Ex → St → Prop) (r : ORes) : Prop :=
 uponX G x s dst (fun s' => wpX G x ops l s' Q) (fun ch s' => Q (.panic ch) s') r
variable {ops : Array Oper} {l : List Oper} {s : St} {dst : Option Tmp} {Q : Ex → St → Prop} {v : Value} {m : Mem}
theorem wpX_nil : wpX G x ops [] s Q = Q .normal s := by rw [wpX]
theorem wpX_cons {o : Oper} : wpX G x ops (o :: l) s Q =
 (dstOk x o.dst = true ∧ guardOk o ops s.tmps = true ∧ stepX G x ops l s o.dst Q (if wantedV o ops s.tmps = true then opV G (evalT G.ng s.tmps) o s.m else .value ku s.m)) := by
 simp only [wpX, stepX]
 congr 2
 split <;> rfl
theorem stepX_value : stepX G x ops l s dst Q (.value v m) = wpX G x ops l { s with m, tmps := putT s.tmps dst v } Q := by rw [stepX, uponX]
theorem stepX_skip : stepX G x ops l s dst Q (.skip m) = wpX G x ops l { s with m, tmps := putT s.tmps dst undef } Q := by rw [stepX, uponX]
theorem stepX_enter {f : FuncId} {args : List Value} : stepX G x ops l s dst Q (.enter f args m) = C G f args m (fun out m' => match out with
 | .returned v => wpX G x ops l { s with m := m', tmps := putT s.tmps dst v } Q
 | .panicked ch => Q (.panic ch) { s with m := m' }) := by unfold stepX; rfl
theorem stepX_round {k : Nat} {args : List Value} : stepX G x ops l s dst Q (.round k args m) = CR G k args m (fun out m' => match out with
 | .returned v => wpX G x ops l { s with m := m', tmps := putT s.tmps dst v } Q
 | .panicked ch => Q (.panic ch) { s with m := m' }) := by unfold stepX; rfl
theorem stepX_defer {d : Deferred} : stepX G x ops l s dst Q (.defer d m) = (x.round = none ∧ wpX G x ops l { s with m, defers := d :: s.defers, tmps := putT s.tmps dst undef } Q) := by rw [stepX, uponX]
theorem stepX_recover : stepX G x ops l s dst Q (.recover m) = (x.round = none ∧ ((x.deferred = true ∧ ∃ v older, s.cm = some ({ v, recovered := false, goexit := false } :: older) ∧ wpX G x ops l { s with m, cm := some ({ v, recovered := true } :: older), tmps := putT s.tmps dst v } Q) ∨
 ((x.deferred = false ∨ s.cm = none) ∧ wpX G x ops l { s with m, tmps := putT s.tmps dst .nilIface } Q))) := by rw [stepX, uponX]
theorem stepX_panic : stepX G x ops l s dst Q (.panic v m) = Q (.panic [{ v, recovered := false }]) { s with m } := by rw [stepX, uponX]
theorem uponX_mono {K K' : St → Prop} {P P' : List PanicEntry → St → Prop} (hk : ∀ s, K s → K' s) (hp : ∀ ch s, P ch s → P' ch s) : ∀ {r : ORes}, uponX G x s dst K P r → uponX G x s dst K' P' r
 | .value _ _, h => hk _ h
 | .skip _, h => hk _ h
 | .enter _ _ _, h => C.mono h (fun out m ho => by cases out with | returned v => exact hk _ ho | panicked ch => exact hp _ _ ho)
 | .panic _ _, h => hp _ _ h
 | .round _ _ _, h => CR.mono h (fun out m ho => by cases out with | returned v => exact hk _ ho | panicked ch => exact hp _ _ ho)
 | .defer _ _, h => ⟨h.1, hk _ h.2⟩
 | .recover _, h => by
  refine ⟨h.1, ?_⟩
  rcases h.2 with ⟨h1, v, older, h2, h3⟩ | ⟨h1, h2⟩
  · exact .inl ⟨h1, v, older, h2, hk _ h3⟩
  exact .inr ⟨h1, hk _ h2⟩
 | .fail, h => h.elim
theorem WOs.ofX : ∀ {l : List Oper} {s : St} {tr : List St}, wpX G x ops l s (fun e s => match e with | .normal => Q .normal s | .panic ch => Q (.panic ch) s | _ => False) →
 WOs G x ops l s tr (fun e s' _ => match e with | .normal => Q .normal s' | .panic ch => Q (.panic ch) s' | _ => False)
 | [], s, tr, h => by rw [wpX_nil] at h; exact .nil h
 | o :: l, s, tr, h => by
  simp only [wpX] at h
  obtain ⟨h1, h2, h3⟩ := h
  have hd := dstOk_spec h1
  refine .cons ?_
  by_cases hw : wantedV o ops s.tmps = true
  ·
   rw [if_pos hw] at h3
   refine uponX_run (Q := fun e s' => match e with
    | .normal => WOs G x ops l s' (s :: tr) (fun e s' _ => match e with | .normal => Q .normal s' | .panic ch => Q (.panic ch) s' | _ => False)
    | .panic ch => Q (.panic ch) s'
    | _ => False) h2 hw hd ?_
   exact uponX_mono (fun s hs => WOs.ofX hs) (fun ch s hs => hs) h3
  rw [if_neg hw] at h3
  exact WO1.unwanted h2 (by simpa using hw) hd (WOs.ofX h3)
theorem W.regX {id : Nat} {ops : Array Oper} {s : St} (h : wpX G x ops ops.toList s (EndN Q)) : W G x (.region id ops false) s Q := by
 refine W.region (WOs.ofX (Q := Q) ?_)
 have : EndN Q = fun e s => match e with | .normal => Q .normal s | .panic ch => Q (.panic ch) s | _ => False := by
  funext e s; cases e <;> rfl
 rw [this] at h; exact h
def lastOk (ops : Array Oper) (p : Nat) : Bool := (List.range ops.size).all fun j => decide (j ≤ p) || prec (before ops) p j
def forgetOk (x : Ctx) (ops : Array Oper) : Bool := ops.toList.all fun o => dstOk x o.dst
theorem forget_of : ∀ (l : List Oper) (s : St), l.all (fun o => dstOk x o.dst) = true → ∃ t, forget x l s = some { s with tmps := t }
 | [], s, _ => ⟨s.tmps, rfl⟩
 | o :: l, s, h => by
  simp only [List.all_cons, Bool.and_eq_true] at h
  have hd := dstOk_spec h.1
  simp only [forget]
  have hp : s.put x o.dst undef = some { s with tmps := putT s.tmps o.dst undef } := by
   unfold St.put
   cases ho : o.dst with
   | none => rfl
   | some d => simp only [if_pos (hd d ho)]; rfl
  rw [hp]
  obtain ⟨t, ht⟩ := forget_of l { s with tmps := putT s.tmps o.dst undef } h.2
  exact ⟨t, ht⟩
def belowU (U : List (Nat × Nat)) (j : Nat) : List (Nat × Nat) := U.filter fun p => decide (p.1 < j) && decide (p.2 < j)
def wpP (G : Cfg) (x : Ctx) (ops : Array Oper) (U : List (Nat × Nat)) (J : List Nat) : List Oper → Nat → St → List (Nat × St) → (Ex → St → Prop) → Prop
 | [], j, s, rs, Q => looseOk G ops ((j, s) :: rs) U ∧ Q .normal s
 | o :: l, j, s, rs, Q => dstOk x o.dst = true ∧ guardOk o ops s.tmps = true ∧
  if wantedV o ops s.tmps = true then uponX G x s o.dst (fun s' => wpP G x ops U J l (j + 1) s' (if J.contains j then (j, s) :: rs else rs) Q)
   (fun ch s' => lastOk ops j = true ∧ forgetOk x ops = true ∧ looseOk G ops ((j, s) :: rs) (belowU U j) ∧ ∀ t, Q (.panic ch) { s' with tmps := t }) (opV G (evalT G.ng s.tmps) o s.m)
  else wpP G x ops U J l (j + 1) { s with tmps := putT s.tmps o.dst ku } (if J.contains j then (j, s) :: rs else rs) Q
def stepP (G : Cfg) (x : Ctx) (ops : Array Oper) (U : List (Nat × Nat)) (J : List Nat) (l : List Oper) (j : Nat) (s0 s : St) (rs0 rs : List (Nat × St)) (dst : Option Tmp) (Q : Ex → St → Prop) (r : ORes) : Prop :=
 uponX G x s dst (fun s' => wpP G x ops U J l (j + 1) s' rs Q) (fun ch s' => lastOk ops j = true ∧ forgetOk x ops = true ∧ looseOk G ops ((j, s0) :: rs0) (belowU U j) ∧ ∀ t, Q (.panic ch) { s' with tmps := t }) r
variable {U : List (Nat × Nat)} {J : List Nat} {j : Nat} {s0 : St} {rs rs0 : List (Nat × St)}
theorem wpP_nil : wpP G x ops U J [] j s rs Q = (looseOk G ops ((j, s) :: rs) U ∧ Q .normal s) := by rw [wpP]
theorem wpP_cons {o : Oper} : wpP G x ops U J (o :: l) j s rs Q =
 (dstOk x o.dst = true ∧ guardOk o ops s.tmps = true ∧ stepP G x ops U J l j s s rs (if J.contains j then (j, s) :: rs else rs) o.dst Q (if wantedV o ops s.tmps = true then opV G (evalT G.ng s.tmps) o s.m else .value ku s.m)) := by
 simp only [wpP, stepP]
 congr 2
 split <;> rfl
theorem stepP_value : stepP G x ops U J l j s0 s rs0 rs dst Q (.value v m) = wpP G x ops U J l (j + 1) { s with m, tmps := putT s.tmps dst v } rs Q := by rw [stepP, uponX]
theorem stepP_skip : stepP G x ops U J l j s0 s rs0 rs dst Q (.skip m) = wpP G x ops U J l (j + 1) { s with m, tmps := putT s.tmps dst undef } rs Q := by rw [stepP, uponX]
theorem stepP_enter {f : FuncId} {args : List Value} : stepP G x ops U J l j s0 s rs0 rs dst Q (.enter f args m) = C G f args m (fun out m' => match out with
 | .returned v => wpP G x ops U J l (j + 1) { s with m := m', tmps := putT s.tmps dst v } rs Q
 | .panicked ch => lastOk ops j = true ∧ forgetOk x ops = true ∧ looseOk G ops ((j, s0) :: rs0) (belowU U j) ∧ ∀ t, Q (.panic ch) { s with m := m', tmps := t }) := by unfold stepP; rfl
theorem stepP_round {k : Nat} {args : List Value} : stepP G x ops U J l j s0 s rs0 rs dst Q (.round k args m) = CR G k args m (fun out m' => match out with
 | .returned v => wpP G x ops U J l (j + 1) { s with m := m', tmps := putT s.tmps dst v } rs Q
 | .panicked ch => lastOk ops j = true ∧ forgetOk x ops = true ∧ looseOk G ops ((j, s0) :: rs0) (belowU U j) ∧ ∀ t, Q (.panic ch) { s with m := m', tmps := t }) := by unfold stepP; rfl
theorem drawOk_at {ops : Array Oper} {U : List (Nat × Nat)} (hU : drawIs G ops U = true) {n : Nat} (hn : n ≤ ops.size) {T : List St} (hT : n < T.length)
 (h : ∀ k q, k < n → q < n → (k, q) ∈ U → ∀ sq sk s1, T[q]? = some sq → T[k]? = some sk → T[k + 1]? = some s1 → (q < k → againOk G ops q sq s1.m = true) ∧ (¬ q < k → againOk G ops q sq sk.m = true)) : drawOk G ops T n = true := by
 unfold drawIs at hU
 simp only [Bool.and_eq_true] at hU
 obtain ⟨hU1, hU2⟩ := hU
 unfold drawOk
 simp only [Bool.and_eq_true]
 refine ⟨hU1, ?_⟩
 rw [List.all_eq_true]
 intro k hk
 have hk' := List.mem_range.1 hk
 obtain ⟨sk, hsk⟩ : ∃ sk, T[k]? = some sk := ⟨T[k], by simp⟩
 obtain ⟨s1, hs1⟩ : ∃ s1, T[k + 1]? = some s1 := ⟨T[k + 1], by simp⟩
 rw [hsk]
 simp only
 split
 ·
  rename_i hact
  rw [List.all_eq_true]
  intro q hq
  have hq' := List.mem_range.1 hq
  have hkz : k < ops.size := by omega
  have hqz : q < ops.size := by omega
  obtain ⟨sq, hsq⟩ : ∃ sq, T[q]? = some sq := ⟨T[q], by simp⟩
  have hokk : ops[k]? = some ops[k] := by simp [hkz]
  have hoqq : ops[q]? = some ops[q] := by simp [hqz]
  have hkq : quiet G ops[k].op = false := by
   unfold actsAt at hact
   rw [hokk] at hact
   simp only [Bool.and_eq_true, Bool.not_eq_true'] at hact
   exact hact.2
  have hfree : (quiet G ops[q].op = false ∨ still ops[q].op = true) → ∀ sq m, againOk G ops q sq m = true := by
   intro hc sq m
   unfold againOk
   rw [hoqq]
   simp only
   rcases hc with hc | hc
   · rw [hc]; simp
   rw [hc]; simp
  have key : (¬ (q = k)) → prec (before ops) k q = true ∨ prec (before ops) q k = true ∨ ((q < k → againOk G ops q sq s1.m = true) ∧ (¬ q < k → againOk G ops q sq sk.m = true)) := by
   intro hne
   by_cases c1 : prec (before ops) k q = true
   · exact .inl c1
   by_cases c2 : prec (before ops) q k = true
   · exact .inr (.inl c2)
   by_cases c3 : quiet G ops[q].op = false ∨ still ops[q].op = true
   · exact .inr (.inr ⟨fun _ => hfree c3 _ _, fun _ => hfree c3 _ _⟩)
   have hm : (k, q) ∈ U := by
    rw [List.all_eq_true] at hU2
    have := hU2 (k, q) (by
     unfold loose
     rw [List.mem_flatMap]
     refine ⟨k, List.mem_range.2 hkz, List.mem_filterMap.2 ⟨q, List.mem_range.2 hqz, ?_⟩⟩
     rw [hokk, hoqq]
     simp only
     rw [if_neg]
     simp only [not_or] at c3
     simp [hkq, c3.1, c3.2, c1, c2]
     exact fun e => hne e.symm)
    simpa using this
   exact .inr (.inr (h k q hk' hq' hm sq sk s1 hsq hsk hs1))
  split
  ·
   rename_i hlt
   rcases key (by omega) with h1 | h1 | h1
   · simp only [Bool.or_eq_true]
     left
     have hr := (regOk_spec hU1).1
     exfalso
     have := prec_in hr (D := fun i => i < q) (fun i hi o ho e he hb => by have := hr i o ho e he hb; show e.on < q; omega) q hqz (fun o ho e he hb => hr q o ho e he hb) k h1
     omega
   · rw [h1]; rfl
   rw [hsq, hs1]; simp [h1.1 hlt]
  split
  ·
   rename_i hlt
   rcases key (by omega) with h1 | h1 | h1
   · rw [h1]; rfl
   · exfalso
     have hr := (regOk_spec hU1).1
     have := prec_in hr (D := fun i => i < k) (fun i hi o ho e he hb => by have := hr i o ho e he hb; show e.on < k; omega) k hkz (fun o ho e he hb => hr k o ho e he hb) q h1
     omega
   rw [hsq]; simp [h1.2 (by omega)]
  rfl
 rfl
def RunP (G : Cfg) (x : Ctx) (ops : Array Oper) (U : List (Nat × Nat)) (n : Nat) (Q : Ex → St → Prop) : Ex → St → List St → Prop
 | .normal, s', tr => tr.length = n ∧ (∃ rs, looseOk G ops rs U ∧ ∀ i t, getS rs i = some t → (s' :: tr).reverse[i]? = some t) ∧ Q .normal s'
 | .panic ch, s', tr => ∃ p, tr.length = p + 1 ∧ p < n ∧ lastOk ops p = true ∧ forgetOk x ops = true ∧ (∃ rs, looseOk G ops rs (belowU U p) ∧ ∀ i t, getS rs i = some t → i ≤ p ∧ tr.reverse[i]? = some t) ∧ ∀ t, Q (.panic ch) { s' with tmps := t }
 | _, _, _ => False
theorem getS_cons {i k : Nat} {s t : St} {rs : List (Nat × St)} (h : getS ((k, s) :: rs) i = some t) : (i = k ∧ t = s) ∨ getS rs i = some t := by
 unfold getS at h ⊢
 simp only [List.find?_cons] at h
 by_cases e : k = i
 · subst e; simp at h; exact .inl ⟨rfl, h.symm⟩
 have e' : (k == i) = false := by simpa using e
 rw [e'] at h; exact .inr h
theorem wpP_run : ∀ {l : List Oper} {j : Nat} {s : St} {tr : List St} {rs : List (Nat × St)}, tr.length = j →
 (∀ i t, getS rs i = some t → i < j ∧ tr.reverse[i]? = some t) → wpP G x ops U J l j s rs Q → WOs G x ops l s tr (RunP G x ops U (j + l.length) Q)
 | [], j, s, tr, rs, hl, hg, h => by
  rw [wpP_nil] at h
  refine .nil ⟨by simp [hl], ⟨_, h.1, fun i t hi => ?_⟩, h.2⟩
  rcases getS_cons hi with ⟨rfl, rfl⟩ | hi
  · rw [List.reverse_cons, List.getElem?_append_right (by simp [hl])]; simp [hl]
  obtain ⟨g1, g2⟩ := hg i t hi
  rw [List.reverse_cons, List.getElem?_append_left (by simp; omega)]
  exact g2
 | o :: l, j, s, tr, rs, hl, hg, h => by
  simp only [wpP] at h
  obtain ⟨h1, h2, h3⟩ := h
  have hd := dstOk_spec h1
  have hnew : ∀ i t, getS ((j, s) :: rs) i = some t → i < j + 1 ∧ (s :: tr).reverse[i]? = some t := by
   intro i t hi
   rcases getS_cons hi with ⟨rfl, rfl⟩ | hi
   · refine ⟨by omega, ?_⟩
     rw [List.reverse_cons, List.getElem?_append_right (by simp [hl])]; simp [hl]
   obtain ⟨g1, g2⟩ := hg i t hi
   refine ⟨by omega, ?_⟩
   rw [List.reverse_cons, List.getElem?_append_left (by simp; omega)]
   exact g2
  have hg' : ∀ i t, getS (if J.contains j then (j, s) :: rs else rs) i = some t → i < j + 1 ∧ (s :: tr).reverse[i]? = some t := by
   intro i t hi
   split at hi
   · exact hnew i t hi
   obtain ⟨g1, g2⟩ := hg i t hi
   refine ⟨by omega, ?_⟩
   rw [List.reverse_cons, List.getElem?_append_left (by simp; omega)]
   exact g2
  have hn : j + (o :: l).length = j + 1 + l.length := by simp only [List.length_cons]; omega
  rw [hn]
  refine .cons ?_
  by_cases hw : wantedV o ops s.tmps = true
  ·
   rw [if_pos hw] at h3
   refine uponX_run (Q := fun e s' => match e with
    | .normal => WOs G x ops l s' (s :: tr) (RunP G x ops U (j + 1 + l.length) Q)
    | .panic ch => RunP G x ops U (j + 1 + l.length) Q (.panic ch) s' (s :: tr)
    | _ => False) h2 hw hd ?_
   refine uponX_mono (fun s' hs => wpP_run (by simp [hl]) hg' hs) (fun ch s' hs => ?_) h3
   obtain ⟨a1, a2, a3, a4⟩ := hs
   exact ⟨j, by simp [hl], by omega, a1, a2, ⟨_, a3, fun i t hi => by have := hnew i t hi; exact ⟨by omega, this.2⟩⟩, a4⟩
  rw [if_neg hw] at h3
  exact WO1.unwanted h2 (by simpa using hw) hd (wpP_run (by simp [hl]) hg' h3)
theorem W.regP {id : Nat} {ops : Array Oper} {s : St} (U : List (Nat × Nat)) (J : List Nat) (hU : drawIs G ops U = true) (h : wpP G x ops U J ops.toList 0 s [] (EndN Q)) : W G x (.region id ops true) s Q := by
 obtain ⟨n, e, s', tr, h2, h3⟩ := wpP_run (tr := []) rfl (fun i t hi => by simp [getS] at hi) h
 have hz : ops.toList.length = ops.size := by simp
 rw [List.length_nil, Nat.zero_add, hz] at h3
 cases e with
 | normal =>
  obtain ⟨h4, ⟨rs, h6, h5⟩, h7⟩ := h3
  refine W.draw ⟨n, .normal, s', tr, h2, drawOk_at hU (Nat.le_refl _) (by simp [h4]) (fun k q hk hq hm sq sk s1 g1 g2 g3 => ?_), h7⟩
  obtain ⟨sq', sk', s1', a1, a2, a3, a4, a5⟩ := looseOk_mem h6 hm
  have := h5 _ _ a1; rw [g1] at this; cases this
  have := h5 _ _ a2; rw [g2] at this; cases this
  have := h5 _ _ a3; rw [g3] at this; cases this
  exact ⟨a4, a5⟩
 | panic ch =>
  obtain ⟨p, h4, hp, hlast, hfo, ⟨rs, h6, h5⟩, h7⟩ := h3
  obtain ⟨t, ht⟩ := forget_of (x := x) ops.toList s' hfo
  refine ⟨n + 1, .panic ch, { s' with tmps := t }, fun k hk => ?_, h7 t⟩
  obtain ⟨k, rfl⟩ : ∃ k', k = k' + 1 := ⟨k - 1, by omega⟩
  simp only [exec]
  rw [h2 k (by omega)]
  simp only [if_true]
  have hd : drawOk G ops (s' :: tr).reverse p = true := by
   refine drawOk_at hU (by omega) (by simp [h4]; omega) (fun k q hk hq hm sq sk s1 g1 g2 g3 => ?_)
   have hm' : (k, q) ∈ belowU U p := by unfold belowU; rw [List.mem_filter]; exact ⟨hm, by simp [hk, hq]⟩
   obtain ⟨sq', sk', s1', a1, a2, a3, a4, a5⟩ := looseOk_mem h6 hm'
   have up : ∀ (i : Nat) (t : St), tr.reverse[i]? = some t → (s' :: tr).reverse[i]? = some t := by
    intro i t hi
    have : i < tr.reverse.length := (List.getElem?_eq_some_iff.1 hi).1
    rw [List.reverse_cons, List.getElem?_append_left this]; exact hi
   have := up _ _ (h5 _ _ a1).2; rw [g1] at this; cases this
   have := up _ _ (h5 _ _ a2).2; rw [g2] at this; cases this
   have := up _ _ (h5 _ _ a3).2; rw [g3] at this; cases this
   exact ⟨a4, a5⟩
  have hp1 : tr.length - 1 = p := by omega
  rw [hp1, hd]
  unfold lastOk at hlast
  rw [hlast]
  simp only [Bool.and_self, if_true]
  rw [ht]
 | exit id => exact h3.elim
 | ret => exact h3.elim
attribute [simp] wpX_cons wpX_nil stepX_value stepX_skip stepX_enter stepX_round stepX_defer stepX_recover stepX_panic wpP_cons wpP_nil stepP_value stepP_skip stepP_enter stepP_round
end Go.Am
