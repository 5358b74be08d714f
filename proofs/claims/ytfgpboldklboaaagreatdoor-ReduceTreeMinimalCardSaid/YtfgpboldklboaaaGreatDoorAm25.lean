/-
  PROVED here: steps on the way to the card of 'sleuthlaw06.ReduceTreeMinimal' (an abstract machine, its soundness, what each function computes). No conditions beyond those that each theorem states.
-/
import Derived.Test.YtfgpboldklboaaaGreatDoorAm24
namespace Go.Proofs.Lw
open Go Go.Am
set_option maxRecDepth 8000
variable {gl : Nat → Nat → Option Value} {ng : Nat}
def SpotsV (σ : Kn) (v : Value) (l : List SpotD) : Prop := ∃ b vs, SliceAt v l.length b 0 ∧ SpotsK σ vs l ∧ ∀ j x, vs[j]? = some x → σ b j = some x
def zeroSlot : SlotD := ⟨0, [], .empty⟩
def spotsOf (g : List RuleD) (t : T) : List SpotD := (t, zeroSlot, 1) :: below g t 1
theorem f65_ok {σ : Kn} {m : Mem} {rv tv : Value} {g : List RuleD} {t : T} (hw : WF m) (hh : Holds (cfg gl ng).toEnv σ m) (hg : RulesV σ rv g) (hru : RulesOk g) (ht : TreeK σ tv t) (hwt : wt t < 1048575) (hok : OkN g t) (hn : nodes t ≤ 1024) (hd : depth t ≤ 24) :
 Ct gl ng 65 [.agg #[rv], tv] σ m (fun σ' r => SpotsV σ' r (spotsOf g t)) := by
 refine Ct.of (c := _) Tryz.func65 rfl 10 rfl (fun c hnt => ?_)
 obtain ⟨bg, og, hg1, _⟩ := id hg
 have hS := S.start hw hh
 obtain ⟨m1, nb2, hbx1, hS1⟩ := hS.box 24 #[rv] (by simp [hg1.plain])
 have ht0 := ht
 obtain ⟨x, y, z, rfl, px, py, pz⟩ := ht.agg
 obtain ⟨m2, nb3, hbx2, hS2⟩ := hS1.box 27 #[x, y, z] (by simp [px, py, pz])
 repeat apply W.seq
 apply W.regN; simp [hnt, hbx1, hbx2]
 have hS3 := hS2.new (vs := [x, y, z, .int .i64 (-1), .int .u8 0, .slice none 0 0, .string .empty, .int .i64 1]) 111 (by simp [px, py, pz])
 have hbs := bs108 (gl := gl) (ng := ng) (m := m2) (a0 := x) (a1 := y) (a2 := z) (a3 := .int .i64 (-1)) (a4 := .int .u8 0) (a5 := .slice none 0 0) (a6 := .string .empty) (a7 := .int .i64 1) (by simp [px, py, pz])
 repeat apply W.seq
 apply W.regN; simp [hnt, hS2.c0, hS2.c1, hbs]
 have hS3' : S (cfg gl ng).toEnv σ m σ _ ([] ++ ([(m2.nb, ⟨[x, y, z, .int .i64 (-1), .int .u8 0, .slice none 0 0, .string .empty, .int .i64 1], none⟩)] ++ [(nb3, ⟨[x, y, z], none⟩), (nb2, ⟨[rv], none⟩)])) := hS3
 have hB : BldV 111 8 (.slice (some ⟨m2.nb, 0, none⟩) 1 (mkCap 1 true)) 1 [x, y, z, .int .i64 (-1), .int .u8 0, .slice none 0 0, .string .empty, .int .i64 1] [(m2.nb, ⟨[x, y, z, .int .i64 (-1), .int .u8 0, .slice none 0 0, .string .empty, .int .i64 1], none⟩)] := ⟨rfl, .inr (.inr ⟨m2.nb, rfl, rfl⟩)⟩
 have hV : SpotsK σ [x, y, z, .int .i64 (-1), .int .u8 0, .slice none 0 0, .string .empty, .int .i64 1] [(t, zeroSlot, 1)] := SpotsK.nil.snoc (e := (t, zeroSlot, 1)) (ab := -1) ht0 ⟨0, 0, .inl ⟨rfl, rfl⟩, fun i n h => by simp [zeroSlot] at h⟩
 refine C.mono (f85_ok 1048575 t zeroSlot 0 1 1 g σ m σ _ [] _ _ rv _ _ _ (by omega) (by omega) (by omega) (by omega) hS3' hB hV rfl hg hru hok) (fun out m6 ho => ?_)
 obtain ⟨s6, len6, vs6, B6, rfl, hS6, hB6, hV6⟩ := ho
 simp [hnt]
 obtain ⟨σ7, b7, hle7, hS7, hv7, hn7⟩ := hS6.done hB6
 apply W.ret
 refine ⟨.inr rfl, rfl, rfl, _, by simp [unwind.results, Tryz.f65]; rfl, _, hS7.learn, ?_⟩
 have hl6 : len6 = (spotsOf g t).length := by have h1 := hB6.1; have h2 := hV6.1; simp [spotsOf] at h2 ⊢; omega
 exact ⟨b7, vs6, by rw [← hl6]; exact hv7, hV6.mono hle7, hn7⟩
structure SpotOk (g : List RuleD) (w : Nat) (e : SpotD) : Prop where
 slot : SlotOk g.length e.2.1
 fit : OkN g e.1
 lt : wt e.1 < w
mutual
theorem below_ok {g : List RuleD} (hr : RulesOk g) : ∀ {t : T} {d : Nat}, OkN g t → ∀ e ∈ below g t d, SpotOk g (wt t) e
 | .mk k tx ss, d, h => by
  simp only [OkN] at h
  obtain ⟨⟨r, hn⟩, h2⟩ := h
  have e : slotsOf g k = r.slots := by simp only [slotsOf, hn.rule]
  intro e' he'
  simp only [below, e] at he'
  have := belowSS_ok hr (sl := r.slots) h2 (fun s hs => (hr.rules r (List.mem_of_getElem? hn.rule)).slots s hs) e' he'
  exact ⟨this.slot, this.fit, by have := this.lt; simp only [wt]; omega⟩
theorem belowSS_ok {g : List RuleD} (hr : RulesOk g) : ∀ {ss : List (List T)} {sl : List SlotD} {d : Nat}, OkSS g ss → (∀ s ∈ sl, SlotOk g.length s) → ∀ e ∈ belowSS g ss sl d, SpotOk g (wtSS ss + 1) e
 | [], _, d, _, _ => by intro e he; simp [belowSS] at he
 | _ :: _, [], d, _, _ => by intro e he; simp [belowSS] at he
 | l :: r, s :: sl, d, h, hs => by
  simp only [OkSS] at h
  intro e he
  simp only [belowSS, List.mem_append] at he
  rcases he with he | he
  · have := belowL_ok hr h.1 (hs s (by simp)) e he
    exact ⟨this.slot, this.fit, by have := this.lt; simp only [wtSS]; omega⟩
  have := belowSS_ok hr h.2 (fun x hx => hs x (by simp [hx])) e he
  exact ⟨this.slot, this.fit, by have := this.lt; simp only [wtSS]; omega⟩
theorem belowL_ok {g : List RuleD} (hr : RulesOk g) : ∀ {l : List T} {s : SlotD} {d : Nat}, OkL g l → SlotOk g.length s → ∀ e ∈ belowL g l s d, SpotOk g (wtL l + 1) e
 | [], _, d, _, _ => by intro e he; simp [belowL] at he
 | t :: r, s, d, h, hs => by
  simp only [OkL] at h
  intro e he
  simp only [belowL, List.mem_cons, List.mem_append] at he
  rcases he with rfl | he | he
  · exact ⟨hs, h.1, by simp only [wtL]; omega⟩
  · have := below_ok hr h.1 e he
    exact ⟨this.slot, this.fit, by have := this.lt; simp only [wtL]; omega⟩
  have := belowL_ok hr h.2 hs e he
  exact ⟨this.slot, this.fit, by have := this.lt; simp only [wtL]; omega⟩
end
def canD (ns : List Int) (e : SpotD) : Bool := decide (e.2.1.many ≠ 0) || decide (at' ns (pickR ns e.2.1) < nodes e.1)
def prunTo (ns : List Int) (l : List SpotD) (n : Nat) : List Int := ((List.range n).filter fun i => decide (1 ≤ i) && (match l[i]? with | some e => canD ns e | none => false)).map fun (i : Nat) => (i : Int)
def prunableD (ns : List Int) (g : List RuleD) (t : T) : List Int := prunTo ns (spotsOf g t) (spotsOf g t).length
theorem prunTo_len {ns : List Int} {l : List SpotD} {n : Nat} : (prunTo ns l n).length ≤ n := by
 unfold prunTo
 rw [List.length_map]
 exact Nat.le_trans (List.length_filter_le _ _) (by simp)
theorem prunTo_succ {ns : List Int} {l : List SpotD} {n : Nat} {e : SpotD} (h1 : 1 ≤ n) (h : l[n]? = some e) : prunTo ns l (n + 1) = if canD ns e then prunTo ns l n ++ [(n : Int)] else prunTo ns l n := by
 unfold prunTo
 rw [List.range_succ, List.filter_append, List.map_append]
 by_cases hc : canD ns e = true
 · simp [h1, h, hc]
 simp [h1, h, hc]
theorem SpotsV.at {σ : Kn} {v : Value} {l : List SpotD} (h : SpotsV σ v l) {i : Nat} {e : SpotD} (hi : l[i]? = some e) : ∃ b x y z kv, (∀ m, opIndexAddr (cfg gl ng).toEnv 108 v (.int .i64 i) m = .value (.pointer (some ⟨b, 8 * i, none⟩)) m) ∧
 σ b (8 * i) = some x ∧ σ b (8 * i + 1) = some y ∧ σ b (8 * i + 2) = some z ∧ σ b (8 * i + 4) = some (.int .u8 e.2.1.many) ∧ σ b (8 * i + 5) = some kv ∧ σ b (8 * i + 6) = some (.string e.2.1.between) ∧ σ b (8 * i + 7) = some (.int .i64 e.2.2) ∧ TreeK σ (.agg #[x, y, z]) e.1 ∧ IntsK σ kv e.2.1.kinds := by
 obtain ⟨b, vs, h1, h2, h3⟩ := h
 obtain ⟨x, y, z, ab, kv, a1, a2, a3⟩ := h2.2 i e hi
 refine ⟨b, x, y, z, kv, fun m => ?_, ?_, ?_, ?_, ?_, ?_, ?_, ?_, a2, a3⟩
 · rw [K.iy108 h1 (lt_of_get hi), Nat.zero_add]
 · exact h3 _ _ (a1 0 x rfl)
 · exact h3 _ _ (a1 1 y rfl)
 · exact h3 _ _ (a1 2 z rfl)
 · exact h3 _ _ (a1 4 _ rfl)
 · exact h3 _ _ (a1 5 _ rfl)
 · exact h3 _ _ (a1 6 _ rfl)
 exact h3 _ _ (a1 7 _ rfl)
theorem SpotsV.len {σ : Kn} {v : Value} {l : List SpotD} (h : SpotsV σ v l) {m : Mem} : opLen (cfg gl ng) 108 v m = .value (.int .i64 l.length) m := by
 obtain ⟨b, vs, h1, _⟩ := h
 exact K.ly108 h1
theorem SpotsV.mono {σ σ' : Kn} (h : σ.le σ') {v : Value} {l : List SpotD} (hv : SpotsV σ v l) : SpotsV σ' v l := by
 obtain ⟨b, vs, h1, h2, h3⟩ := hv
 exact ⟨b, vs, h1, h2.mono h, fun j x hx => h _ _ _ (h3 j x hx)⟩
theorem f35_ok {σ : Kn} {m : Mem} {rv tv : Value} {g : List RuleD} {t : T} {ns : List Int} (hw : WF m) (hh : Holds (cfg gl ng).toEnv σ m) (hg : RulesV σ rv g) (hl : GramLen g) (ht : TreeK σ tv t) (hwt : wt t < 1048575) (hok : OkTree g t) (hmin : MinL g ns) :
 Ct gl ng 35 [.agg #[rv], tv] σ m (fun σ' r => ∃ v, r = .tuple #[v, .int .i64 0] ∧ IntsK σ' v (prunableD ns g t)) := by
 refine Ct.of (c := _) Tryz.func35 rfl 59 rfl (fun c hnt => ?_)
 obtain ⟨bg, og, hg1, _⟩ := id hg
 have hru := hok.gram.rules
 have hS := S.start hw hh
 obtain ⟨m1, nb2, hbx1, hS1⟩ := hS.box 24 #[rv] (by simp [hg1.plain])
 have ht0 := ht
 obtain ⟨x, y, z, rfl, px, py, pz⟩ := ht.agg
 obtain ⟨m2, nb3, hbx2, hS2⟩ := hS1.box 27 #[x, y, z] (by simp [px, py, pz])
 repeat apply W.seq
 apply W.regN; simp [hnt, hbx1, hbx2]
 repeat apply W.seq
 apply W.regN; simp [hnt, hS2.c0, hS2.c1]
 refine Ct.use (f6_ok hS2.wf hS2.holds hg hl ht0 hwt) (fun σ3 v3 m3 hl3 hv3 => ?_)
 obtain ⟨e, rfl, he⟩ := hv3
 have e0 := he.2 hok
 subst e0
 have hS3 := hS2.grow hl3.grow
 simp [hnt]
 repeat apply W.seq
 apply W.regN; simp [hnt]
 refine W.choose (by simp; rfl) (fun hc => ?_) fun hc => ?_
 · cases hc
 apply W.skip; try simp only [Then, InBlk]
 repeat apply W.seq
 apply W.regN; simp [hnt, hS3.c1]
 refine Ct.use (f39_ok hS3.wf hS3.holds hg hru) (fun σ4 nv m4 hl4 hv4 => ?_)
 obtain ⟨ns', hn, hgood, hcalm⟩ := hv4
 have hfix : Fixed g ns' := ⟨hgood, hcalm, hru⟩
 have e1 := hfix.of_minl hmin
 subst e1
 have hS4 := hS3.learn' hl4
 have hnl := hmin.len
 have hfew := hru.few
 simp [hnt]
 repeat apply W.seq
 apply W.regN; simp [hnt, hS4.c0, hS4.c1]
 refine Ct.use (f65_ok hS4.wf hS4.holds (hg.mono hl4.le) hru (ht0.mono hl4.le) hwt hok.fit hok.few hok.flat) (fun σ5 v5 m5 hl5 hv5 => ?_)
 have hS5 := hS4.learn' hl5
 have hnV := hn.mono hl5.le
 have hbl := below_len (d := 1) hok.fit
 have hll : (spotsOf g t).length ≤ 1024 := by have := hok.few; simp [spotsOf]; omega
 simp [hnt]
 repeat apply W.seq
 apply W.regN; simp [hnt]
 repeat apply W.seq
 apply W.regN; simp [hnt]
 apply W.block
 obtain ⟨I, hI⟩ : ∃ I : Nat → Tr Value → Mem → Prop, I = fun (i : Nat) (t' : Tr Value) (m' : Mem) => t'.get 10 = some (.int .i64 i) ∧ 1 ≤ i ∧ ∃ v B, t'.get 9 = some v ∧ S (cfg gl ng).toEnv σ m σ5 m' ([(nb3, ⟨[x, y, z], none⟩), (nb2, ⟨[rv], none⟩)] ++ (B ++ [])) ∧ BldV 3 1 v (prunTo ns' (spotsOf g t) i).length ((prunTo ns' (spotsOf g t) i).map iv) B := ⟨_, rfl⟩
 refine W.upto (ws := [22, 23, 24, 25, 28, 29, 30, 31, 32, 33, 34, 35, 36, 37, 38, 39, 40, 41, 42, 43, 44, 45, 46, 47, 48, 49, 50, 51, 52, 53, 54, 55, 56, 57, 9, 26, 27, 10]) (by kernel_rfl) (spotsOf g t).length I 1 (by simp [spotsOf]) (by rw [hI]; exact ⟨by simp, by omega, .slice none 0 0, [], by simp, hS5, by simpa [prunTo] using BldV.nil⟩) ?_
 intro i t1 m6 hi hfr hIi
 rw [hI] at hIi
 obtain ⟨q10, hi1, v, B, q9, hS6, hB⟩ := hIi
 have hpl := prunTo_len (ns := ns') (l := spotsOf g t) (n := i)
 repeat apply W.seq
 apply W.regN; simp [hnt, q10, hfr, hv5.len]
 refine W.choose (by simp; rfl) (fun hc => ?_) fun hc => ?_
 ·
  have hil : i < (spotsOf g t).length := by simpa using hc
  apply W.skip; try simp only [Then, InBlk]
  obtain ⟨e, hei⟩ : ∃ e, (spotsOf g t)[i]? = some e := ⟨_, List.getElem?_eq_getElem hil⟩
  have hem : e ∈ below g t 1 := by
   obtain ⟨i', rfl⟩ : ∃ i', i = i' + 1 := ⟨i - 1, by omega⟩
   simp only [spotsOf, List.getElem?_cons_succ] at hei
   exact List.mem_of_getElem? hei
  have heo := below_ok hru hok.fit e hem
  have hsucc := prunTo_succ (ns := ns') hi1 hei
  obtain ⟨b, x1, y1, z1, kv, ix, s0, s1, s2, s4, s5, s6, s7, w4, w5⟩ := hv5.at (gl := gl) (ng := ng) hei
  have s5' : σ5 b (8 * i + 4 + 1) = some kv := s5
  have s6' : σ5 b (8 * i + 4 + 2) = some (.string e.2.1.between) := s6
  have hwe := heo.lt
  have hne := nodes_le_wt e.1
  have hpk := hmin.pick heo.slot
  have hlm := low_mem (sizes := ns') heo.slot.some
  rw [← hpk] at hlm
  have hlk := heo.slot.rise.kinds _ hlm
  obtain ⟨cn, hcn⟩ : ∃ cn : Nat, pickR ns' e.2.1 = cn := ⟨(pickR ns' e.2.1).toNat, by omega⟩
  have hcnl : cn < ns'.length := by omega
  obtain ⟨b9, o9, ix9, s9⟩ := hnV.at (gl := gl) (ng := ng) hcnl
  have hb9 : beqV 9 kv kv = true := by obtain ⟨_, _, h1, _⟩ := w5; exact beq_slice h1 9
  have hb8 : beqV 8 kv kv = true := by obtain ⟨_, _, h1, _⟩ := w5; exact beq_slice h1 8
  obtain ⟨J, hJ⟩ : ∃ J : Tr Value → Mem → Prop, J = fun t' m' => S (cfg gl ng).toEnv σ m σ5 m' ([(nb3, ⟨[x, y, z], none⟩), (nb2, ⟨[rv], none⟩)] ++ (B ++ [])) ∧ t'.get 53 = some (.bool (canD ns' e)) := ⟨_, rfl⟩
  repeat apply W.seq
  apply W.block
  refine W.cut (ws := [28, 29, 30, 31, 32, 33, 34, 35, 36, 37, 38, 39, 40, 41, 42, 43, 44, 45, 46, 47, 48, 49, 50, 51, 52, 53]) (by kernel_rfl) J ?_ (fun t2 m7 hfr2 hJ2 => ?_)
  ·
   by_cases hm : e.2.1.many = 0
   ·
    refine W.regU [(13, 19)] [13, 14, 19] (by as_aux_lemma => kernel_rfl) ?_
    simp [hnt, q10, hfr, ix, hS6.kn, s0, s1, s2, s4, hm]
    refine Ct.use (f7_ct hS6.wf hS6.holds w4 (by omega)) (fun σ8 v8 m8 hl8 hv8 => ?_)
    subst hv8
    have hS8 := hS6.grow hl8.grow
    simp [hnt, q10, hfr, ix, hS8.kn, s4, s5, s5', s6, s6', hm]
    refine Ct.use (Ct.any hS8.wf hS8.holds (f66_ok hS8.wf (IntsK.mono hS8.holds w5) (IntsK.mono hS8.holds hnV) (by simp) (by simp) (by rw [hnl]; exact heo.slot.rise.kinds) (by have := heo.slot.rise.len; omega))) (fun σ9 v9 m9 hl9 hv9 => ?_)
    subst hv9
    have hS9 := hS8.grow hl9.grow
    have hcn2 : choiceGo ns' e.2.1.kinds (-1) = cn := hcn
    simp [hnt, hcn2, ix9, hS9.kn, s9]
    refine ⟨?_, ?_⟩
    · simp [looseOk, getS, againOk, quiet, still, beqV, q10, hfr, ix, hS6.kn, hS8.kn, s4, s5, s5', s6, s6', hm, hb8, hb9]
    rw [hJ]
    refine ⟨hS9, ?_⟩
    simp [canD, hm, hcn]
   refine W.regU [(13, 19)] [13, 14, 19] (by as_aux_lemma => kernel_rfl) ?_
   simp [hnt, q10, hfr, ix, hS6.kn, s4, hm]
   refine ⟨?_, ?_⟩
   · simp [looseOk, getS, againOk, quiet, still, beqV, hm]
   rw [hJ]
   refine ⟨hS6, ?_⟩
   simp [canD, hm]
  rw [hJ] at hJ2
  obtain ⟨hS7, p53⟩ := hJ2
  cases hcan : canD ns' e with
  | true =>
   rw [hcan] at p53
   rw [if_pos hcan] at hsucc
   apply W.choose'
   refine ⟨true, by simp [p53], fun hc => ?_, fun hc => absurd hc (by decide)⟩
   obtain ⟨s', m8, B', e8, hS8, hB8⟩ := hS7.appi hB (i : Int) (by omega)
   have e8' : opAppend (cfg gl ng).toEnv 53 (some 53) v (.slice (some ⟨m7.nb, 0, none⟩) 1 (mkCap 1 true)) (m7.new (.cells (cellsOf [.int .i64 i] 3))) = .value s' m8 := e8
   apply W.regN; simp [hnt, q9, q10, hfr2, hfr, bs53, e8']
   apply W.regN; simp [hnt, q10, hfr2, wr1 (show i < _ by omega)]
   exact ⟨i + 1, by omega, by omega, by rw [hI]; exact ⟨by simp, by omega, s', B', by simp, hS8, by rw [hsucc]; exact hB8⟩⟩
  | false =>
   rw [hcan] at p53
   rw [if_neg (by simp [hcan])] at hsucc
   apply W.choose'
   refine ⟨false, by simp [p53], fun hc => absurd hc (by decide), fun hc => ?_⟩
   apply W.skip; try simp only [Then, InBlk]
   apply W.regN; simp [hnt, q10, hfr2, wr1 (show i < _ by omega)]
   exact ⟨i + 1, by omega, by omega, by rw [hI]; exact ⟨by simp, by omega, v, B, by simp [q9, hfr2], hS7, by rw [hsucc]; exact hB⟩⟩
 have hil : i = (spotsOf g t).length := by
  have : (spotsOf g t).length ≤ i := by simpa using hc
  omega
 apply W.exit; try simp [Then, InBlk]
 obtain ⟨σ8, hle8, hS8, hv8⟩ := hS6.donei hB
 repeat apply W.seq
 apply W.regN; simp [hnt, q9]
 apply W.ret
 refine ⟨.inr rfl, rfl, rfl, _, by simp [unwind.results, Tryz.f35]; rfl, _, hS8.learn, ?_⟩
 exact ⟨v, rfl, by rw [hil] at hv8; exact hv8⟩
end Go.Proofs.Lw
namespace Go.Proofs.Lw
open Go Go.Am
set_option maxRecDepth 8000
variable {gl : Nat → Nat → Option Value} {ng : Nat}
def leastD (ns : List Int) (g : List RuleD) (s : SlotD) : T := leastT g (pickR ns) 1024 (pickR ns s).toNat
theorem f36_ok {σ : Kn} {m : Mem} {rv tv ov : Value} {g : List RuleD} {t : T} {ns : List Int} {c0 : Nat} (hw : WF m) (hh : Holds (cfg gl ng).toEnv σ m) (hg : RulesV σ rv g) (hl : GramLen g) (ht : TreeK σ tv t) (hwt : wt t < 1048575) (hok : OkTree g t) (hmin : MinL g ns)
 (ho : IntsK σ ov [(c0 : Int)]) (hc0 : (c0 : Int) ∈ prunableD ns g t) :
 Ct gl ng 36 [.agg #[rv], tv, ov] σ m (fun σ' v => ∃ v', v = .tuple #[v', .int .i64 0] ∧ TreeK σ' v' (prunT g (leastD ns g) [(c0 : Int)] t 0)) := by
 refine Ct.of (c := _) Tryz.func36 rfl 63 rfl (fun c hnt => ?_)
 obtain ⟨bg, og, hg1, _⟩ := id hg
 have hru := hok.gram.rules
 have hS := S.start hw hh
 obtain ⟨m1, nb2, hbx1, hS1⟩ := hS.box 24 #[rv] (by simp [hg1.plain])
 have ht0 := ht
 obtain ⟨x, y, z, rfl, px, py, pz⟩ := ht.agg
 obtain ⟨m2, nb3, hbx2, hS2⟩ := hS1.box 27 #[x, y, z] (by simp [px, py, pz])
 have hS3 := hS2.new (vs := [.int .i64 0, .string .empty, .slice none 0 0]) 27 (by simp)
 repeat apply W.seq
 apply W.regN; simp [hnt, hbx1, hbx2]
 generalize m2.new (.cells (cellsOf [.int .i64 0, .string .empty, .slice none 0 0] 27)) = m3 at *
 generalize m2.nb = nb6 at *
 repeat apply W.seq
 apply W.regN; simp [hnt, hS3.c1, hS3.c2]
 refine Ct.use (f35_ok hS3.wf hS3.holds hg hl ht0 hwt hok hmin) (fun σ4 v4 m4 hl4 hv4 => ?_)
 obtain ⟨pv, rfl, hpv⟩ := hv4
 have hS4 := hS3.learn' hl4
 simp [hnt]
 repeat apply W.seq
 apply W.regN; simp [hnt]
 refine W.choose (by simp; rfl) (fun hc => ?_) fun hc => ?_
 · cases hc
 apply W.skip; try simp only [Then, InBlk]
 repeat apply W.seq
 apply W.regN; simp [hnt]
 apply W.block
 obtain ⟨I, hI⟩ : ∃ I : Nat → Tr Value → Mem → Prop, I = fun (i : Nat) (t' : Tr Value) (m' : Mem) => t'.get 10 = some (.int .i64 i) ∧ S (cfg gl ng).toEnv σ m σ4 m' [(nb6, ⟨[.int .i64 0, .string .empty, .slice none 0 0], none⟩), (nb3, ⟨[x, y, z], none⟩), (nb2, ⟨[rv], none⟩)] := ⟨_, rfl⟩
 have hoV := ho.mono hl4.le
 refine W.upto (ws := [23, 24, 25, 26, 29, 30, 31, 32, 33, 34, 35, 36, 37, 38, 39, 40, 41, 42, 43, 44, 45, 46, 47, 48, 49, 50, 51, 52, 7, 27, 28, 10]) (by kernel_rfl) 1 I 0 (by omega) (by rw [hI]; exact ⟨by simp, hS4⟩) ?_
 intro i t1 m6 hi hfr hIi
 rw [hI] at hIi
 obtain ⟨q10, hS6⟩ := hIi
 have hlen1 : ∀ m', opLen (cfg gl ng) 53 ov m' = .value (.int .i64 1) m' := fun m' => by obtain ⟨b, o, h1, _⟩ := hoV; exact K.ly53 h1
 repeat apply W.seq
 apply W.regN; simp [hnt, q10, hfr, hlen1]
 refine W.choose (by simp; rfl) (fun hc => ?_) fun hc => ?_
 ·
  have hil : (i : Int) < 1 := by simpa using hc
  obtain rfl : i = 0 := by omega
  apply W.skip; try simp only [Then, InBlk]
  obtain ⟨b9, o9, ix9, s9⟩ := hoV.at (gl := gl) (ng := ng) (i := 0) (by simp)
  simp only [Int.natCast_zero] at ix9
  have hplen : (prunableD ns g t).length < 1048576 := by
   have := prunTo_len (ns := ns) (l := spotsOf g t) (n := (spotsOf g t).length)
   have hbl := below_len (d := 1) hok.fit
   have := hok.few
   simp [prunableD, spotsOf] at *; omega
  repeat apply W.seq
  apply W.block
  repeat apply W.seq
  refine W.regU [] [] (by as_aux_lemma => kernel_rfl) ?_
  simp [hnt, q10, hfr, ix9, hS6.kn, s9]
  refine Ct.use (Ct.any hS6.wf hS6.holds (f41_ct hS6.wf (IntsK.mono hS6.holds hpv) hplen)) (fun σ8 v8 m8 hl8 hv8 => ?_)
  subst hv8
  have hS8 := hS6.grow hl8.grow
  have hin : (decide (at' [(c0 : Int)] 0 ∈ prunableD ns g t)) = true := by simpa [at'] using hc0
  rw [hin]
  simp [hnt]
  refine ⟨?_, ?_⟩
  · simp [looseOk, getS, againOk, quiet, still, beqV, q10, hfr, ix9, hS6.kn, s9]
  refine W.choose (by simp; rfl) (fun hc => ?_) fun hc => ?_
  · cases hc
  apply W.skip; try simp only [Then, InBlk]
  apply W.regN; simp [hnt, q10, hfr]
  exact ⟨1, by omega, by omega, by rw [hI]; exact ⟨by simp; rfl, hS8⟩⟩
 apply W.exit; try simp [Then, InBlk]
 obtain ⟨ex1, ey1, ez1⟩ := ht0.beq 8
 repeat apply W.seq
 refine W.regU [(2, 0), (2, 3), (9, 0), (9, 1), (9, 3)] [2, 3, 0, 9, 10, 1] (by as_aux_lemma => kernel_rfl) ?_
 simp [hnt, hS6.c1, hS6.c2, hfr]
 refine Ct.use (f39_ok hS6.wf hS6.holds (hg.mono hl4.le) hru) (fun σ7 nv m7 hl7 hv7 => ?_)
 obtain ⟨ns', hn, hgood, hcalm⟩ := hv7
 have hfix : Fixed g ns' := ⟨hgood, hcalm, hru⟩
 have e1 := hfix.of_minl hmin
 subst e1
 have hS7 := hS6.learn' hl7
 have hnb : beqV 9 nv nv = true := by obtain ⟨_, _, h1, _⟩ := hn; exact beq_slice h1 9
 have hle := Kn.le_trans hl4.le hl7.le
 simp [hnt, hfr, hS7.c1, hS7.c2]
 refine Ct.use (f67_ok (wt t) t 0 ns' [(c0 : Int)] g σ7 m7 rv nv _ ov (Nat.le_refl _) (by omega) (by have := hok.few; omega) (by simp) hS7.wf hS7.holds (hg.mono hle) hn hmin hru hok.fit (ht0.mono hle) (ho.mono hle)) (fun σ8 v8 m8 hl8 hv8 => ?_)
 obtain ⟨v8', rfl, hv8⟩ := hv8
 obtain ⟨x1, y1, z1, rfl, px1, py1, pz1⟩ := hv8.agg
 have hS8 := hS7.learn' hl8
 obtain ⟨m9, e9, hS9⟩ := hS8.var 27 [.int .i64 0, .string .empty, .slice none 0 0] [x1, y1, z1] (by simp) (by simp [px1, py1, pz1]) rfl
 have hS8n := hS8.new (vs := [.int .i64 0, .string .empty, .slice none 0 0]) 27 (by simp)
 simp [hnt, e9]
 refine ⟨?_, ?_⟩
 · simp [looseOk, getS, againOk, quiet, still, beqV, hS6.c1, hS6.c2, hS7.c1, hS7.c2, hS8n.c2, hS8n.c3, hS8.c1, hS8.c2, hfr, beq_slice hg1, beq_plain_slice, hnb, ex1, ey1, ez1]
 obtain ⟨m10, e10, hS10⟩ := hS9.setAll (i := 1) rfl (vs := [x1, y1, z1]) rfl (by simp [px1, py1, pz1])
 repeat apply W.seq
 apply W.regN; simp [hnt, hfr, hS9.c0, e10]
 apply W.ret
 refine ⟨.inr rfl, rfl, rfl, _, by simp [unwind.results, Tryz.f36, addrOf, loadV, K.is27, K.zs27, Mem.loadN, hfr, hS10.c1]; rfl, _, hS10.learn, ?_⟩
 exact ⟨_, rfl, hv8⟩
def canH (l : List SpotD) (ea eb : SpotD) (a b : Nat) : Bool := decide (b < a + nodes ea.1) && (if a = 0 then decide (kindT eb.1 = kindT ea.1) else decide (kindT eb.1 ∈ ea.2.1.kinds))
def HoistR (g : List RuleD) (t : T) (ea eb : SpotD) (a b : Nat) (σ' : Kn) (v : Value) : Prop :=
 (canH (spotsOf g t) ea eb a b = true → ∃ v', v = .tuple #[v', .int .i64 0] ∧ TreeK σ' v' (replT eb.1 a t 0)) ∧ (canH (spotsOf g t) ea eb a b = false → v = .tuple #[.agg #[.int .i64 0, .string .empty, .slice none 0 0], .int .i64 1])
theorem f37_ok {σ : Kn} {m : Mem} {rv tv : Value} {g : List RuleD} {t : T} {a b : Nat} {ea eb : SpotD} (hw : WF m) (hh : Holds (cfg gl ng).toEnv σ m) (hg : RulesV σ rv g) (hl : GramLen g) (ht : TreeK σ tv t) (hwt : wt t < 1048575) (hok : OkTree g t)
 (hab : a < b) (hea : (spotsOf g t)[a]? = some ea) (heb : (spotsOf g t)[b]? = some eb) :
 Ct gl ng 37 [.agg #[rv], tv, .int .i64 a, .int .i64 b] σ m (HoistR g t ea eb a b) := by
 refine Ct.of (c := _) Tryz.func37 rfl 93 rfl (fun c hnt => ?_)
 obtain ⟨bg, og, hg1, _⟩ := id hg
 have hru := hok.gram.rules
 have hS := S.start hw hh
 obtain ⟨m1, nb2, hbx1, hS1⟩ := hS.box 24 #[rv] (by simp [hg1.plain])
 have ht0 := ht
 obtain ⟨x, y, z, rfl, px, py, pz⟩ := ht.agg
 obtain ⟨rfl, hyt, _, _⟩ := ht0.inv
 obtain ⟨m2, nb3, hbx2, hS2⟩ := hS1.box 27 #[.int .i64 (kindT t), y, z] (by simp [py, pz])
 have hS3 := hS2.new (vs := [.int .i64 0, .string .empty, .slice none 0 0]) 27 (by simp)
 repeat apply W.seq
 apply W.regN; simp [hnt, hbx1, hbx2]
 generalize m2.new (.cells (cellsOf [.int .i64 0, .string .empty, .slice none 0 0] 27)) = m3 at *
 generalize m2.nb = nb8 at *
 repeat apply W.seq
 apply W.regN; simp [hnt, hS3.c1, hS3.c2]
 refine Ct.use (f6_ok hS3.wf hS3.holds hg hl ht0 hwt) (fun σ4 v4 m4 hl4 hv4 => ?_)
 obtain ⟨e, rfl, he⟩ := hv4
 have e0 := he.2 hok
 subst e0
 have hS4 := hS3.grow hl4.grow
 simp [hnt]
 repeat apply W.seq
 apply W.regN; simp [hnt]
 refine W.choose (by simp; rfl) (fun hc => ?_) fun hc => ?_
 · cases hc
 apply W.skip; try simp only [Then, InBlk]
 repeat apply W.seq
 apply W.regN; simp [hnt, hS4.c1, hS4.c2]
 refine Ct.use (f65_ok hS4.wf hS4.holds hg hru ht0 hwt hok.fit hok.few hok.flat) (fun σ5 v5 m5 hl5 hv5 => ?_)
 have hS5 := hS4.learn' hl5
 have hal := lt_of_get hea
 have hbl := lt_of_get heb
 have hll : (spotsOf g t).length ≤ 1024 := by have h1 := below_len (d := 1) hok.fit; have := hok.few; simp [spotsOf]; omega
 have h0 : (spotsOf g t)[0]? = some (t, zeroSlot, 1) := rfl
 have hda : ∀ i (e : SpotD), (spotsOf g t)[i]? = some e → wt e.1 ≤ wt t ∧ (0 < i → SpotOk g (wt t) e) := by
  intro i e hi
  cases i with
  | zero => rw [h0] at hi; cases hi; exact ⟨Nat.le_refl _, fun h => by omega⟩
  | succ i =>
   have hem : e ∈ below g t 1 := by
    simp only [spotsOf, List.getElem?_cons_succ] at hi
    exact List.mem_of_getElem? hi
   have h1 := below_ok hru hok.fit e hem
   exact ⟨Nat.le_of_lt h1.lt, fun _ => h1⟩
 obtain ⟨hwa, hoa⟩ := hda a ea hea
 obtain ⟨hwb, hob⟩ := hda b eb heb
 obtain ⟨ba, xa, ya, za, kva, ixa, a0, a1, a2, a4, a5, a6, a7, wa1, wa2⟩ := hv5.at (gl := gl) (ng := ng) hea
 obtain ⟨bb, xb, yb, zb, kvb, ixb, b0, b1, b2, b4, b5, b6, b7, wb1, wb2⟩ := hv5.at (gl := gl) (ng := ng) heb
 obtain ⟨rfl, rfl, pza, _⟩ := wa1.inv
 obtain ⟨rfl, rfl, pzb, _⟩ := wb1.inv
 have hna := nodes_le_wt ea.1
 have a5' : σ5 ba (8 * a + 4 + 1) = some kva := a5
 have n1 : ¬ ((a : Int) < 0) := by omega
 have n2 : ¬ ((spotsOf g t).length ≤ a) := by omega
 have n3 : ¬ (b ≤ a) := by omega
 simp [hnt]
 by_cases hlt : (b : Int) < a + nodes ea.1
 ·
  repeat apply W.seq
  apply W.regN; simp [hnt, hv5.len, ixa, hS5.kn, a0, a1, a2, n1, n2, n3]
  refine Ct.use (f7_ct hS5.wf hS5.holds wa1 (by omega)) (fun σ6 v6 m6 hl6 hv6 => ?_)
  subst hv6
  have hS6 := hS5.grow hl6.grow
  have hwr : IntKind.i64.wrap ((a : Int) + nodes ea.1) = (a : Int) + nodes ea.1 := wrap_i64 (by omega) (by omega)
  have hge : ¬ ((a : Int) + nodes ea.1 ≤ b) := by omega
  have hge2 : ¬ (a + nodes ea.1 ≤ b) := by omega
  have hltn : b < a + nodes ea.1 := by omega
  simp [hnt, hwr, hge, hge2, n1, n2, n3]
  refine W.choose (by simp; rfl) (fun hc => ?_) fun hc => ?_
  · cases hc
  apply W.skip; try simp only [Then, InBlk]
  repeat apply W.seq
  apply W.regN; simp [hnt, ixb, hS6.kn, b0]
  obtain ⟨J, hJ⟩ : ∃ J : Tr Value → Mem → Prop, J = fun t' m' => S (cfg gl ng).toEnv σ m σ5 m' [(nb8, ⟨[.int .i64 0, .string .empty, .slice none 0 0], none⟩), (nb3, ⟨[.int .i64 (kindT t), y, z], none⟩), (nb2, ⟨[rv], none⟩)] ∧ t'.get 79 = some (.bool (!canH (spotsOf g t) ea eb a b)) := ⟨_, rfl⟩
  repeat apply W.seq
  refine W.cut' (ws := [57, 58, 59, 60, 61, 62, 63, 64, 65, 66, 67, 68, 69, 70, 71, 72, 73, 74, 75, 76, 77, 78, 79]) (by kernel_rfl) J ?_ (fun t2 m7 hfr2 hJ2 => ?_)
  ·
   by_cases ha0 : a = 0
   ·
    subst ha0
    rw [h0] at hea
    cases hea
    by_cases hk : kindT eb.1 = kindT t
    · apply W.regN; simp [hnt, hS6.c1, hk]
      rw [hJ]
      refine ⟨hS6, ?_⟩
      simp [canH, hk]
      simpa using hltn
    apply W.regN; simp [hnt, hS6.c1, hk]
    rw [hJ]
    refine ⟨hS6, ?_⟩
    simp [canH, hltn, hk]
   have hps : 0 < a := by omega
   have hsl := (hoa hps).slot
   have hkl := hsl.rise.len
   have hfew := hru.few
   have m1' : ¬ (a : Int) = 0 := by omega
   have m2' : (0 : Int) < a := by omega
   have m3' : ¬ (a : Int) ≤ 0 := by omega
   apply W.regN; simp [hnt, ixa, hS6.kn, a5', a5, m1', m2', ha0, hps]
   refine Ct.use (Ct.any hS6.wf hS6.holds (f41_ct hS6.wf (IntsK.mono hS6.holds wa2) (by omega))) (fun σ7 v7 m7 hl7 hv7 => ?_)
   subst hv7
   have hS7 := hS6.grow hl7.grow
   simp [hnt, ha0, hps]
   rw [hJ]
   refine ⟨hS7, ?_⟩
   simp [canH, hltn, ha0]
  rw [hJ] at hJ2
  obtain ⟨hS7, p79⟩ := hJ2
  cases hcan : canH (spotsOf g t) ea eb a b with
  | false =>
   rw [hcan] at p79
   refine W.choose (by simp[p79]; rfl) (fun hc => ?_) fun hc => ?_
   ·
    have hbu := K.bu27_ (gl := gl) (ng := ng) (m := m7)
    obtain ⟨m8, e8, hS8⟩ := hS7.setAll (i := 0) rfl (vs := [.int .i64 0, .string .empty, .slice none 0 0]) rfl (by simp)
    repeat apply W.seq
    apply W.regN; simp [hnt, hbu, hfr2, e8]
    apply W.ret; try simp only [Then, InBlk]
    refine ⟨.inr rfl, rfl, rfl, _, by simp [unwind.results, Tryz.f37, addrOf, loadV, K.is27, K.zs27, Mem.loadN, hfr2, hS8.c0]; rfl, _, hS8.learn, ?_⟩
    exact ⟨fun h => absurd (hcan.symm.trans h) (by decide), fun _ => rfl⟩
   cases hc
  | true =>
   rw [hcan] at p79
   refine W.choose (by simp[p79]; rfl) (fun hc => ?_) fun hc => ?_
   · cases hc
   apply W.skip; try simp only [Then, InBlk]
   obtain ⟨ex1, ey1, ez1⟩ := ht0.beq 8
   obtain ⟨ex2, ey2, ez2⟩ := wb1.beq 8
   repeat apply W.seq
   refine W.regU [(11, 0), (11, 6)] [11, 12, 0, 6] (by as_aux_lemma => kernel_rfl) ?_
   simp [hnt, hfr2, hS7.c1, hS7.kn, ixb, b0, b1, b2]
   refine Ct.use (f68_ok (wt t) t eb.1 0 a σ5 m7 _ _ (Nat.le_refl _) (by omega) (by have := hok.few; omega) (by omega) hS7.wf hS7.holds (ht0.mono hl5.le) wb1) (fun σ8 v8 m8 hl8 hv8 => ?_)
   obtain ⟨v8', rfl, hv8⟩ := hv8
   obtain ⟨x1, y1, z1, rfl, px1, py1, pz1⟩ := hv8.agg
   have hS8 := hS7.learn' hl8
   obtain ⟨m9, e9, hS9⟩ := hS8.var 27 [.int .i64 0, .string .empty, .slice none 0 0] [x1, y1, z1] (by simp) (by simp [px1, py1, pz1]) rfl
   have hS8n := hS8.new (vs := [.int .i64 0, .string .empty, .slice none 0 0]) 27 (by simp)
   simp [hnt, hfr2, e9]
   refine ⟨?_, ?_⟩
   · simp [looseOk, getS, againOk, quiet, still, beqV, hS7.c1, hS8n.c2, hfr2, hS7.kn, hS8n.kn, ixb, b0, b1, b2, hl8.le _ _ _ b0, hl8.le _ _ _ b1, hl8.le _ _ _ b2, ex1, ey1, ez1, ex2, ey2, ez2]
   obtain ⟨m10, e10, hS10⟩ := hS9.setAll (i := 1) rfl (vs := [x1, y1, z1]) rfl (by simp [px1, py1, pz1])
   repeat apply W.seq
   apply W.regN; simp [hnt, hfr2, hS9.c0, e10]
   apply W.ret
   refine ⟨.inr rfl, rfl, rfl, _, by simp [unwind.results, Tryz.f37, addrOf, loadV, K.is27, K.zs27, Mem.loadN, hfr2, hS10.c1]; rfl, _, hS10.learn, ?_⟩
   exact ⟨fun _ => ⟨_, rfl, hv8⟩, fun h => absurd (hcan.symm.trans h) (by decide)⟩
 repeat apply W.seq
 apply W.regN; simp [hnt, hv5.len, ixa, hS5.kn, a0, a1, a2, n1, n2, n3]
 refine Ct.use (f7_ct hS5.wf hS5.holds wa1 (by omega)) (fun σ6 v6 m6 hl6 hv6 => ?_)
 subst hv6
 have hS6 := hS5.grow hl6.grow
 have hwr : IntKind.i64.wrap ((a : Int) + nodes ea.1) = (a : Int) + nodes ea.1 := wrap_i64 (by omega) (by omega)
 have hge : ((a : Int) + nodes ea.1 ≤ b) := by omega
 have hge2 : (a + nodes ea.1 ≤ b) := by omega
 simp [hnt, hwr, hge, hge2, n1, n2, n3]
 refine W.choose (by simp; rfl) (fun hc => ?_) fun hc => ?_
 ·
  have hbu := K.bu27_ (gl := gl) (ng := ng) (m := m6)
  obtain ⟨m8, e8, hS8⟩ := hS6.setAll (i := 0) rfl (vs := [.int .i64 0, .string .empty, .slice none 0 0]) rfl (by simp)
  repeat apply W.seq
  apply W.regN; simp [hnt, hbu, e8]
  apply W.ret; try simp only [Then, InBlk]
  refine ⟨.inr rfl, rfl, rfl, _, by simp [unwind.results, Tryz.f37, addrOf, loadV, K.is27, K.zs27, Mem.loadN, hS8.c0]; rfl, _, hS8.learn, ?_⟩
  have hcf : canH (spotsOf g t) ea eb a b = false := by simp [canH]; exact fun h => absurd h (by omega)
  exact ⟨fun h => absurd (hcf.symm.trans h) (by decide), fun _ => rfl⟩
 cases hc
end Go.Proofs.Lw
namespace Go.Proofs.Lw
open Go Go.Am
set_option maxRecDepth 8000
variable {gl : Nat → Nat → Option Value} {ng : Nat}
structure Quiet (o : OracleD) (g : List RuleD) (u : T) : Prop where
 ok : OkTree g u
 wt : wt u < 1048575
 size : (textG g u).size < 1048576
 say : sayD o (textG g u) ≠ 2
structure BareP (o : OracleD) (g : List RuleD) (t : T) (ns : List Int) : Prop where
 prune : ∀ c : Nat, (c : Int) ∈ prunableD ns g t → Quiet o g (prunT g (leastD ns g) [(c : Int)] t 0)
 hoist : ∀ (a b : Nat) (ea eb : SpotD), a < b → (spotsOf g t)[a]? = some ea → (spotsOf g t)[b]? = some eb → canH (spotsOf g t) ea eb a b = true → Quiet o g (replT eb.1 a t 0)
theorem prun_nat {ns : List Int} {g : List RuleD} {t : T} {i : Nat} (hi : i < (prunableD ns g t).length) : ∃ c : Nat, at' (prunableD ns g t) i = (c : Int) ∧ (c : Int) ∈ prunableD ns g t ∧ c < (spotsOf g t).length := by
 have h1 : at' (prunableD ns g t) i ∈ prunableD ns g t := by
  have e : at' (prunableD ns g t) i = (prunableD ns g t)[i] := by simp [at', hi]
  rw [e]; exact List.getElem_mem hi
 have h2 := h1
 simp only [prunableD, prunTo, List.mem_map, List.mem_filter, List.mem_range] at h2
 obtain ⟨c, ⟨h3, _⟩, h4⟩ := h2
 exact ⟨c, h4.symm, by show (c : Int) ∈ prunableD ns g t; have h5 := h1; rw [show at' (prunableD ns g t) i = (c : Int) from h4.symm] at h5; exact h5, h3⟩
theorem f12_ok {σ : Kn} {m : Mem} {rv tv ov : Value} {g : List RuleD} {t : T} {ns : List Int} {o : OracleD} (hw : WF m) (hh : Holds (cfg gl ng).toEnv σ m) (hg : RulesV σ rv g) (hl : GramLen g) (ht : TreeK σ tv t) (hwt : wt t < 1048575) (hok : OkTree g t) (hmin : MinL g ns)
 (ho : OrK σ ov o) (hsm : OrSmall o) (hb : BareP o g t ns) :
 Ct gl ng 12 [.agg #[rv], tv, ov] σ m (fun _ v => v = .bool true) := by
 refine Ct.of (c := _) Tryz.func12 rfl 88 rfl (fun c hnt => ?_)
 obtain ⟨bg, og, hg1, _⟩ := id hg
 have hru := hok.gram.rules
 have ho0 := ho
 obtain ⟨nv, bv, rfl, hn, hbo⟩ := ho
 have pnv : plainV nv = true := by obtain ⟨_, _, h, _⟩ := hn; exact h.plain
 have pbv : plainV bv = true := by obtain ⟨_, _, h, _⟩ := hbo; exact h.plain
 have hS := S.start hw hh
 obtain ⟨m1, nb2, hbx1, hS1⟩ := hS.box 24 #[rv] (by simp [hg1.plain])
 have ht0 := ht
 obtain ⟨x, y, z, rfl, px, py, pz⟩ := ht.agg
 obtain ⟨m2, nb3, hbx2, hS2⟩ := hS1.box 27 #[x, y, z] (by simp [px, py, pz])
 obtain ⟨m3, nb4, hbx3, hS3⟩ := hS2.box 31 #[nv, bv, .int .u64 o.salt, .int .u8 o.loose] (by simp [pnv, pbv])
 repeat apply W.seq
 apply W.regN; simp [hnt, hbx1, hbx2, hbx3]
 repeat apply W.seq
 apply W.regN; simp [hnt, hS3.c1, hS3.c2]
 refine Ct.use (f35_ok hS3.wf hS3.holds hg hl ht0 hwt hok hmin) (fun σ4 v4 m4 hl4 hv4 => ?_)
 obtain ⟨pv, rfl, hpv⟩ := hv4
 have hS4 := hS3.learn' hl4
 simp [hnt]
 repeat apply W.seq
 apply W.regN; simp [hnt]
 apply W.block
 have hbl := below_len (d := 1) hok.fit
 have hll : (spotsOf g t).length = nodes t := by simp [spotsOf]; omega
 have hno := hok.few
 have hpl : (prunableD ns g t).length ≤ nodes t := by rw [← hll]; exact prunTo_len
 obtain ⟨L0, hL0⟩ : ∃ L0 : List (Nat × Cl), L0 = [(nb4, ⟨[nv, bv, .int .u64 o.salt, .int .u8 o.loose], none⟩), (nb3, ⟨[x, y, z], none⟩), (nb2, ⟨[rv], none⟩)] := ⟨_, rfl⟩
 rw [← hL0] at hS4
 obtain ⟨I, hI⟩ : ∃ I : Nat → Tr Value → Mem → Prop, I = fun (i : Nat) (t' : Tr Value) (m' : Mem) => t'.get 9 = some (.int .i64 i) ∧ ∃ σ', σ4.le σ' ∧ S (cfg gl ng).toEnv σ m σ' m' L0 := ⟨_, rfl⟩
 refine W.upto (ws := [27, 28, 29, 30, 34, 35, 36, 37, 38, 39, 40, 41, 33, 42, 43, 10, 11, 45, 46, 47, 44, 48, 49, 12, 13, 50, 51, 52, 53, 6, 31, 32, 9]) (by kernel_rfl) (prunableD ns g t).length I 0 (by omega) (by rw [hI]; exact ⟨by simp, σ4, Kn.le_refl _, hS4⟩) ?_
 intro i t1 m6 hi hfr hIi
 rw [hI] at hIi
 obtain ⟨q9, σ6, hle6, hS6⟩ := hIi
 have hlen1 : ∀ m', opLen (cfg gl ng) 53 pv m' = .value (.int .i64 (prunableD ns g t).length) m' := fun m' => by obtain ⟨b, o, h1, _⟩ := hpv; exact K.ly53 h1
 have hle := Kn.le_trans hl4.le hle6
 repeat apply W.seq
 apply W.regN; simp [hnt, q9, hfr, hlen1]
 refine W.choose (by simp; rfl) (fun hc => ?_) fun hc => ?_
 ·
  have hil : i < (prunableD ns g t).length := by simpa using hc
  apply W.skip; try simp only [Then, InBlk]
  obtain ⟨c0, hc0, hm0, hc0l⟩ := prun_nat hil
  have hq := hb.prune c0 hm0
  obtain ⟨b9, o9, ix9, s9⟩ := (hpv.mono hle6).at (gl := gl) (ng := ng) hil
  rw [hc0] at s9
  have hbs : opBuildSlice (cfg gl ng).toEnv 53 1 [(0, .int .i64 c0)] m6 = .value (.slice (some ⟨m6.nb, 0, none⟩) 1 (mkCap 1 true)) (m6.new (.cells (cellsOf [.int .i64 c0] 3))) := bs53 (by simp)
  have hS7 := hS6.new (vs := [.int .i64 c0]) 3 (by simp)
  obtain ⟨σ7, hle7, hS8, hn7⟩ := hS7.freeze (i := 0) rfl
  have hov : IntsK σ7 (.slice (some ⟨m6.nb, 0, none⟩) 1 (mkCap 1 true)) [(c0 : Int)] := by
   refine ⟨m6.nb, 0, .inr ⟨_, rfl⟩, fun i n h => ?_⟩
   rw [Nat.zero_add, hn7]
   cases i with
   | zero => simp at h; subst h; rfl
   | succ i => simp at h
  simp only [List.eraseIdx_zero, List.tail_cons] at hS8
  have hle' := Kn.le_trans hle hle7
  rw [hL0] at hS6 hS7 hS8
  obtain ⟨ex1, ey1, ez1⟩ := ht0.beq 8
  repeat apply W.seq
  apply W.block
  repeat apply W.seq
  refine W.regU [(6, 0), (6, 1), (11, 0), (11, 1), (11, 5)] [6, 7, 0, 1, 11, 12, 5] (by as_aux_lemma => kernel_rfl) ?_
  simp [hnt, hfr, hS6.c1, hS6.c2, q9, ix9, hS6.kn, s9, hbs]
  refine Ct.use (f36_ok hS8.wf hS8.holds (hg.mono hle') hl (ht0.mono hle') hwt hok hmin hov hm0) (fun σ9 v9 m9 hl9 hv9 => ?_)
  obtain ⟨v9', rfl, hv9⟩ := hv9
  obtain ⟨x1, y1, z1, rfl, px1, py1, pz1⟩ := hv9.agg
  have hS9 := hS8.learn' hl9
  obtain ⟨m10, e10, hS10⟩ := hS9.var 27 [.int .i64 0, .string .empty, .slice none 0 0] [x1, y1, z1] (by simp) (by simp [px1, py1, pz1]) rfl
  have hS9n := hS9.new (vs := [.int .i64 0, .string .empty, .slice none 0 0]) 27 (by simp)
  simp [hnt, hfr, e10]
  refine ⟨?_, ?_⟩
  · have s9' := (Kn.le_trans hle7 hl9.le) _ _ _ s9
    simp [looseOk, getS, againOk, quiet, still, beqV, hfr, hS6.c1, hS6.c2, hS7.c2, hS7.c3, hS9.c1, hS9.c2, hS9n.c2, hS9n.c3, q9, ix9, hS6.kn, s9, hS9n.kn, s9', beq_slice hg1, ex1, ey1, ez1]
  repeat apply W.seq
  apply W.regN; simp [hnt, hfr, hS10.c0, hS10.c3]
  refine Ct.use (f10_ok hS10.wf hS10.holds (hg.mono (Kn.le_trans hle' hl9.le)) hl hv9 hq.wt hq.ok) (fun σ11 v11 m11 hl11 hv11 => ?_)
  subst hv11
  have hS11 := hS10.learn' hl11
  have hle11 := Kn.le_trans (Kn.le_trans hle' hl9.le) hl11.le
  simp [hnt, hfr]
  repeat apply W.seq
  apply W.regN; simp [hnt, hfr, hS11.c1]
  refine Ct.use (f11_ok hS11.wf hS11.holds ⟨nv, bv, rfl, hn.mono hle11, hbo.mono hle11⟩ hsm hq.size) (fun σ12 v12 m12 hl12 hv12 => ?_)
  subst hv12
  have hS12 := hS11.learn' hl12
  have hsay := hq.say
  simp [hnt, hfr, hsay]
  refine W.choose (by simp; rfl) (fun hc => ?_) fun hc => ?_
  · cases hc
  apply W.skip; try simp only [Then, InBlk]
  apply W.regN; simp [hnt, hfr, q9, wr1 (show i < _ by omega)]
  have h2 := hS12.drop (List.sublist_cons_self _ _)
  exact ⟨i + 1, by omega, by omega, by rw [hI]; exact ⟨by simp, σ12, Kn.le_trans hle6 (Kn.le_trans hle7 (Kn.le_trans hl9.le (Kn.le_trans hl11.le hl12.le))), by rw [hL0]; exact h2⟩⟩
 apply W.exit; try simp [Then, InBlk]
 rw [hL0] at hS6
 repeat apply W.seq
 apply W.regN; simp [hnt, hfr, hS6.c1]
 refine Ct.use (f7_ct hS6.wf hS6.holds (ht0.mono hle) (by omega)) (fun σ7 v7 m7 hl7 hv7 => ?_)
 subst hv7
 have hS7 := hS6.learn' hl7
 simp [hnt, hfr]
 repeat apply W.seq
 apply W.regN; simp [hnt]
 apply W.block
 rw [← hL0] at hS7
 obtain ⟨I2, hI2⟩ : ∃ I2 : Nat → Tr Value → Mem → Prop, I2 = fun (a : Nat) (t' : Tr Value) (m' : Mem) => t'.get 15 = some (.int .i64 a) ∧ ∃ σ', σ7.le σ' ∧ S (cfg gl ng).toEnv σ m σ' m' L0 := ⟨_, rfl⟩
 refine W.upto (ws := [56, 57, 58, 61, 62, 16, 63, 64, 65, 69, 70, 71, 72, 73, 68, 74, 75, 17, 18, 76, 77, 79, 80, 81, 78, 82, 83, 19, 20, 84, 85, 86, 87, 6, 66, 67, 59, 60, 15]) (by kernel_rfl) (nodes t) I2 0 (by omega) (by rw [hI2]; exact ⟨by simp, σ7, Kn.le_refl _, hS7⟩) ?_
 intro a t2 m8 ha hfr2 hIa
 rw [hI2] at hIa
 obtain ⟨q15, σ8, hle8, hS8⟩ := hIa
 repeat apply W.seq
 apply W.regN; simp [hnt, q15, hfr2, hfr]
 refine W.choose (by simp; rfl) (fun hc => ?_) fun hc => ?_
 ·
  have hal : a < nodes t := by simpa using hc
  apply W.skip; try simp only [Then, InBlk]
  repeat apply W.seq
  apply W.block
  repeat apply W.seq
  apply W.regN; simp [hnt, q15, hfr2, hfr, wr1 (show a < _ by omega)]
  apply W.block
  obtain ⟨I3, hI3⟩ : ∃ I3 : Nat → Tr Value → Mem → Prop, I3 = fun (b : Nat) (t' : Tr Value) (m' : Mem) => t'.get 16 = some (.int .i64 b) ∧ a < b ∧ ∃ σ', σ8.le σ' ∧ S (cfg gl ng).toEnv σ m σ' m' L0 := ⟨_, rfl⟩
  refine W.upto (ws := [63, 64, 65, 69, 70, 71, 72, 73, 68, 74, 75, 17, 18, 76, 77, 79, 80, 81, 78, 82, 83, 19, 20, 84, 85, 86, 87, 6, 66, 67, 16]) (by kernel_rfl) (nodes t) I3 (a + 1) (by omega) (by rw [hI3]; exact ⟨by simp, by omega, σ8, Kn.le_refl _, hS8⟩) ?_
  intro b t3 m9 hb3 hfr3 hIb
  rw [hI3] at hIb
  obtain ⟨q16, hab, σ9, hle9, hS9⟩ := hIb
  repeat apply W.seq
  apply W.regN; simp [hnt, q16, hfr3, hfr2, hfr]
  refine W.choose (by simp; rfl) (fun hc => ?_) fun hc => ?_
  ·
   have hbl : b < nodes t := by simpa using hc
   apply W.skip; try simp only [Then, InBlk]
   obtain ⟨ea, hea⟩ : ∃ ea, (spotsOf g t)[a]? = some ea := ⟨_, List.getElem?_eq_getElem (by omega)⟩
   obtain ⟨eb, heb⟩ : ∃ eb, (spotsOf g t)[b]? = some eb := ⟨_, List.getElem?_eq_getElem (by omega)⟩
   have hle9' := Kn.le_trans hle (Kn.le_trans hl7.le (Kn.le_trans hle8 hle9))
   rw [hL0] at hS9
   repeat apply W.seq
   apply W.block
   repeat apply W.seq
   apply W.regN; simp [hnt, q16, q15, hfr3, hfr2, hfr, hS9.c1, hS9.c2]
   refine Ct.use (f37_ok hS9.wf hS9.holds (hg.mono hle9') hl (ht0.mono hle9') hwt hok hab hea heb) (fun σ10 v10 m10 hl10 hv10 => ?_)
   have hS10 := hS9.learn' hl10
   cases hcan : canH (spotsOf g t) ea eb a b with
   | true =>
    have hq := hb.hoist a b ea eb hab hea heb hcan
    obtain ⟨v10', rfl, hv10'⟩ := hv10.1 hcan
    obtain ⟨x1, y1, z1, rfl, px1, py1, pz1⟩ := hv10'.agg
    obtain ⟨m11, e11, hS11⟩ := hS10.var 27 [.int .i64 0, .string .empty, .slice none 0 0] [x1, y1, z1] (by simp) (by simp [px1, py1, pz1]) rfl
    simp [hnt, e11]
    repeat apply W.seq
    apply W.regN; simp [hnt]
    refine W.choose (by simp; rfl) (fun hc => ?_) fun hc => ?_
    · cases hc
    apply W.skip; try simp only [Then, InBlk]
    repeat apply W.seq
    apply W.regN; simp [hnt, hS11.c0, hS11.c3, hfr3, hfr2, hfr]
    refine Ct.use (f10_ok hS11.wf hS11.holds (hg.mono (Kn.le_trans hle9' hl10.le)) hl hv10' hq.wt hq.ok) (fun σ12 v12 m12 hl12 hv12 => ?_)
    subst hv12
    have hS12 := hS11.learn' hl12
    have hle12 := Kn.le_trans (Kn.le_trans hle9' hl10.le) hl12.le
    simp [hnt, hfr3, hfr2, hfr]
    repeat apply W.seq
    apply W.regN; simp [hnt, hfr3, hfr2, hfr, hS12.c1]
    refine Ct.use (f11_ok hS12.wf hS12.holds ⟨nv, bv, rfl, hn.mono hle12, hbo.mono hle12⟩ hsm hq.size) (fun σ13 v13 m13 hl13 hv13 => ?_)
    subst hv13
    have hS13 := hS12.learn' hl13
    have hsay := hq.say
    simp [hnt, hsay]
    refine W.choose (by simp; rfl) (fun hc => ?_) fun hc => ?_
    · cases hc
    apply W.skip; try simp only [Then, InBlk]
    apply W.regN; simp [hnt, hfr3, q16, wr1 (show b < _ by omega)]
    have h2 := hS13.drop (List.sublist_cons_self _ _)
    exact ⟨b + 1, by omega, by omega, by rw [hI3]; exact ⟨by simp, by omega, σ13, Kn.le_trans hle9 (Kn.le_trans hl10.le (Kn.le_trans hl12.le hl13.le)), by rw [hL0]; exact h2⟩⟩
   | false =>
    have e10 := hv10.2 hcan
    subst e10
    obtain ⟨m11, e11, hS11⟩ := hS10.var 27 [.int .i64 0, .string .empty, .slice none 0 0] [.int .i64 0, .string .empty, .slice none 0 0] (by simp) (by simp) rfl
    simp [hnt, e11]
    repeat apply W.seq
    apply W.regN; simp [hnt]
    refine W.choose (by simp; rfl) (fun hc => ?_) fun hc => ?_
    · apply W.exit; try simp [Then, InBlk]
      apply W.regN; simp [hnt, hfr3, q16, wr1 (show b < _ by omega)]
      have h2 := hS11.drop (List.sublist_cons_self _ _)
      exact ⟨b + 1, by omega, by omega, by rw [hI3]; exact ⟨by simp, by omega, σ10, Kn.le_trans hle9 hl10.le, by rw [hL0]; exact h2⟩⟩
    cases hc
  have hbe : b = nodes t := by
   have : nodes t ≤ b := by simpa using hc
   omega
  apply W.exit; try simp [Then, InBlk]
  apply W.regN; simp [hnt, hfr3, q15, wr1 (show a < _ by omega)]
  exact ⟨a + 1, by omega, by omega, by rw [hI2]; exact ⟨by simp, σ9, Kn.le_trans hle8 hle9, hS9⟩⟩
 apply W.exit; try simp [Then, InBlk]
 repeat apply W.seq
 apply W.regN; simp [hnt]
 rw [hL0] at hS8
 apply W.ret
 refine ⟨.inr rfl, rfl, rfl, _, by simp [unwind.results, Tryz.f12]; rfl, _, hS8.learn, ?_⟩
 rfl
end Go.Proofs.Lw
