/-
  PROVED here: steps on the way to the card of 'sleuthlaw06.ReduceTreeMinimal' (an abstract machine, its soundness, what each function computes). No conditions beyond those that each theorem states.
-/
import Derived.Test.YtfgpboldklboaaaGreatDoorAm30
namespace Go.Proofs.Lw
open Go Go.Am
set_option maxRecDepth 8000
variable {gl : Nat → Nat → Option Value} {ng : Nat}
def Cut (O : List (Nat × OE)) (v : Value) : Prop := ∀ a n c, v = .slice (some a) n c → n ≤ capOf c ∧ (exact c = true ∨ (a.block % 2 = 1 ∧ (a.block / 2, OE.slk 3) ∈ O))
theorem Room.cut {O : List (Nat × OE)} {v : Value} (h : Room v) : Cut O v := by
 obtain ⟨b, n, c, rfl, h1, h2⟩ := h
 intro a n' c' e
 cases e
 exact ⟨h2, .inl h1⟩
theorem slc {m0 m : Mem} {O : List (Nat × OE)} {σ : Kn} {v : Value} {c : List Int} (hO : OL m0 m O) (hc : IntsK σ v c) (hcut : Cut O v) (h0 : 0 < c.length) {lo hi : Nat} (h1 : lo ≤ hi) (h2 : hi ≤ c.length) :
 ∃ xv, opSlice (cfg gl ng).toEnv 53 v (some (.int .i64 lo)) (some (.int .i64 hi)) none m = .value xv m ∧ IntsK σ xv ((c.drop lo).take (hi - lo)) := by
 obtain ⟨b, o, hs, hc2⟩ := hc
 rcases hs with ⟨_, h⟩ | ⟨cp, rfl⟩
 · omega
 obtain ⟨h3, h4⟩ := hcut _ _ _ rfl
 have hco : cutOk (cfg gl ng).toEnv m 3 b cp = true := by
  unfold cutOk
  rcases h4 with h4 | ⟨h4, h5⟩
  · rw [h4]; rfl
  obtain ⟨⟨cc, c1, c2, c3, c4⟩, _⟩ := hO.at' _ _ h5
  simp only at c1 h4
  have hl : m.live b = some cc := by unfold Mem.live; rw [if_pos h4, c1]; simp [c2]
  rw [hl]
  simp [c3, c4]
 have e1 : bnd (some (.int .i64 lo)) 0 = some lo := by simp [bnd]
 have e2 : bnd (some (.int .i64 hi)) c.length = some hi := by simp [bnd]
 refine ⟨.slice (some (if exact cp && lo == capOf cp then ⟨b, o, none⟩ else (Addr.add ⟨b, o, none⟩ (lo * 1)))) (hi - lo) (mkCap (capOf cp - lo) (exact cp)), ?_, ?_⟩
 · unfold opSlice sliceV
   simp only [und53, info3, hco, Bool.and_self, if_true, e1, e2, sz3]
   rw [if_pos (by simp; omega)]
   rfl
 by_cases hz : (exact cp && lo == capOf cp) = true
 ·
  rw [if_pos hz]
  simp only [Bool.and_eq_true, beq_iff_eq] at hz
  have : hi = lo := by omega
  subst this
  refine ⟨b, o, .inr ⟨mkCap (capOf cp - hi) (exact cp), by simp⟩, fun i n h => by simp at h⟩
 rw [if_neg hz]
 refine ⟨b, o + lo, .inr ⟨mkCap (capOf cp - lo) (exact cp), ?_⟩, fun i n h => ?_⟩
 · rw [addr_add, Nat.mul_one]
   congr 1
   simp; omega
 rw [List.getElem?_take] at h
 split at h
 · rw [List.getElem?_drop] at h
   rw [Nat.add_assoc]
   exact hc2 _ _ h
 cases h
theorem f75_ok {σ : Kn} {m : Mem} {cv : Value} {c : List Int} {gn : Nat} (hw : WF m) (hh : Holds (cfg gl ng).toEnv σ m) (hc : IntsK σ cv c) (hg : 1 ≤ gn) :
 Ct gl ng 75 [cv, .int .i64 gn] σ m (fun σ' v => ∃ bn bl, v = .func (.func 88) #[] ⟨[.pointer (some ⟨bn, 0, none⟩), .pointer (some ⟨bl, 0, none⟩)]⟩ ∧ σ' bn 0 = some (.int .i64 (min gn c.length : Nat)) ∧ σ' bl 0 = some cv) := by
 refine Ct.of (c := _) Tryz.func75 rfl 11 rfl (fun c' hnt => ?_)
 have hS := S.start hw hh
 obtain ⟨m1, nb2, hbx1, hS1⟩ := hS.boxs 53 cv hc.plain
 obtain ⟨m2, nb3, hbx2, hS2⟩ := hS1.boxs 3 (.int .i64 gn) (by simp)
 have hmm : min (max (gn : Int) 1) (c.length : Int) = ((min gn c.length : Nat) : Int) := by omega
 obtain ⟨m3, e3, hS3⟩ := hS2.set1 (i := 0) rfl (o := 0) (v := .int .i64 (min gn c.length : Nat)) (by simp) (by simp)
 generalize hmn : min gn c.length = mn at *
 repeat apply W.seq
 apply W.regN; simp [hnt, hbx1, hbx2]
 repeat apply W.seq
 apply W.regN; simp [hnt, hS2.c0, hS2.c1, hc.len, hmm, e3]
 have hfv : opMakeFunc (.func 88) #[] #[.pointer (some ⟨nb3, 0, none⟩), .pointer (some ⟨nb2, 0, none⟩)] m3 = .value (.func (.func 88) #[] ⟨[.pointer (some ⟨nb3, 0, none⟩), .pointer (some ⟨nb2, 0, none⟩)]⟩) m3 := rfl
 repeat apply W.seq
 apply W.regN; simp [hnt, hfv]
 obtain ⟨σ4, hle4, hS4, hn4⟩ := hS3.freeze (i := 0) rfl
 obtain ⟨σ5, hle5, hS5, hn5⟩ := hS4.freeze (i := 0) rfl
 apply W.ret
 refine ⟨.inr rfl, rfl, rfl, _, by simp [unwind.results, Tryz.f75]; rfl, _, hS5.learn, ?_⟩
 exact ⟨nb3, nb2, rfl, hle5 _ _ _ ((hn4 0).trans rfl), (hn5 0).trans rfl⟩
theorem f88_ok {σ : Kn} {m : Mem} {cv : Value} {c : List Int} {n l bn bl : Nat} {J : Nat → Mem → Prop} {Z : Mem → Prop} {PZ : List PanicEntry → Mem → Prop} (hn0 : 0 < n) (hnc : n ≤ c.length) (hlen : c.length ≤ 2000) (hcK : IntsK σ cv c)
 (hJ : ∀ k m, J k m → m.load (cfg gl ng).toEnv bn 0 = some (.int .i64 n) ∧ m.load (cfg gl ng).toEnv bl 0 = some cv ∧ ∃ m0 O, OL m0 m O ∧ Cut O cv)
 (hstep : ∀ k m xv, k < n → J k m → IntsK σ xv (chunk c n k) → CR (cfg gl ng) l [xv] m (fun out m' => match out with
  | .returned v => (v = .bool true ∧ J (k + 1) m') ∨ (v = .bool false ∧ Z m')
  | .panicked ch => PZ ch m')) (h0 : J 0 m) :
 C (cfg gl ng) 88 [.func (.yield l) #[] #[], .pointer (some ⟨bn, 0, none⟩), .pointer (some ⟨bl, 0, none⟩)] m (fun out m' => match out with
  | .returned _ => J n m' ∨ Z m'
  | .panicked ch => PZ ch m') := by
 generalize hQ : (fun (out : Out) (m' : Mem) => match out with
  | .returned _ => J n m' ∨ Z m'
  | .panicked ch => PZ ch m') = Q
 refine ofU (c := _) Tryz.func88 rfl 28 rfl (fun c' hnt _ _ => ?_)
 repeat apply W.seq
 apply W.regN; simp [hnt, (hJ 0 m h0).1]
 apply W.block
 obtain ⟨I, hI⟩ : ∃ I : Nat → Tr Value → Mem → Prop, I = fun (i : Nat) (t : Tr Value) (m' : Mem) => t.get 6 = some (.int .i64 i) ∧ J i m' := ⟨_, rfl⟩
 refine W.upto (ws := [7, 8, 4, 9, 10, 11, 12, 13, 14, 15, 16, 17, 18, 19, 20, 21, 22, 23, 24, 25, 26, 27, 6]) (by kernel_rfl) (n) I 0 (by omega) (by rw [hI]; exact ⟨by simp, h0⟩) ?_
 intro i t m2 hi hfr hIi
 rw [hI] at hIi
 obtain ⟨q6, hJi⟩ := hIi
 repeat apply W.seq
 apply W.regN; simp [hnt, q6, hfr]
 repeat apply W.seq
 refine W.choose (by simp; rfl) (fun hc => ?_) fun hc => ?_
 ·
  have hil : i < n := by simpa using hc
  apply W.skip; try simp only [Then, InBlk]
  obtain ⟨j1, j2, m0, O, jO, jcut⟩ := hJ i m2 hJi
  have hcl := chunk_le (c := c) hn0 hil
  obtain ⟨xv, ex, hxv⟩ := slc (gl := gl) (ng := ng) jO hcK jcut (by omega) hcl.1 hcl.2
  have hxc : IntsK σ xv (chunk c n i) := hxv
  obtain ⟨lo, hlo⟩ : ∃ lo, lo = i * c.length / n := ⟨_, rfl⟩
  obtain ⟨hi', hhi⟩ : ∃ hi', hi' = (i + 1) * c.length / n := ⟨_, rfl⟩
  rw [← hlo, ← hhi] at ex
  have hb1 : i * c.length ≤ 4000000 := Nat.le_trans (Nat.mul_le_mul (show i ≤ 2000 by omega) hlen) (by decide)
  have hb2 : (i + 1) * c.length ≤ 4000000 := Nat.le_trans (Nat.mul_le_mul (show i + 1 ≤ 2000 by omega) hlen) (by decide)
  have hlo2 : lo ≤ 4000000 := by rw [hlo]; exact Nat.le_trans (Nat.div_le_self _ _) hb1
  have hhi2 : hi' ≤ 4000000 := by rw [hhi]; exact Nat.le_trans (Nat.div_le_self _ _) hb2
  have hm1 : IntKind.i64.wrap ((i : Int) * c.length) = (i : Int) * c.length := by
   have : (i : Int) * c.length = ((i * c.length : Nat) : Int) := by simp
   rw [this]; exact wrap_i64 (by omega) (by omega)
  have hm2 : IntKind.i64.wrap (((i : Int) + 1) * c.length) = ((i : Int) + 1) * c.length := by
   have : ((i : Int) + 1) * c.length = (((i + 1) * c.length : Nat) : Int) := by simp
   rw [this]; exact wrap_i64 (by omega) (by omega)
  have hnz : (n : Int) ≠ 0 := by omega
  have hq1 : ∀ xo yo, opBin (cfg gl ng).toEnv .quo 3 xo yo (.int .i64 ((i : Int) * c.length)) (.int .i64 n) m2 = .value (.int .i64 lo) m2 := by
   intro xo yo
   rw [opBin_quo hnz]
   have e : ((i : Int) * c.length).tdiv n = (lo : Int) := by
    rw [hlo, Int.tdiv_eq_ediv_of_nonneg (by exact_mod_cast Nat.zero_le (i * c.length))]
    simp
   rw [e, wrap_i64 (by omega) (by omega)]
  have hq2 : ∀ xo yo, opBin (cfg gl ng).toEnv .quo 3 xo yo (.int .i64 (((i : Int) + 1) * c.length)) (.int .i64 n) m2 = .value (.int .i64 hi') m2 := by
   intro xo yo
   rw [opBin_quo hnz]
   have e : (((i : Int) + 1) * c.length).tdiv n = (hi' : Int) := by
    rw [hhi, Int.tdiv_eq_ediv_of_nonneg (by exact_mod_cast Nat.zero_le ((i + 1) * c.length))]
    simp
   rw [e, wrap_i64 (by omega) (by omega)]
  repeat apply W.seq
  apply W.block
  repeat apply W.seq
  apply W.regN; simp [hnt, q6]
  repeat apply W.seq
  refine W.regP [] [] (by as_aux_lemma => kernel_rfl) ?_
  simp [hnt, q6, hfr, j1, j2, hcK.len, hm1, hm2, hq1, hq2, ex, wr1 (show i < _ by omega)]
  refine CR.mono (hstep i m2 xv hil hJi hxc) (fun out m3 ho => ?_)
  cases out with
  | returned v =>
   rcases ho with ⟨rfl, hJ3⟩ | ⟨rfl, hZ⟩
   · simp [hnt, looseOk]
     refine W.choose (by simp; rfl) (fun hc => ?_) fun hc => ?_
     · cases hc
     apply W.skip; try simp only [Then, InBlk]
     apply W.regN; simp [hnt, q6, wr1 (show i < _ by omega)]
     exact ⟨i + 1, by omega, by omega, by rw [hI]; exact ⟨by simp, hJ3⟩⟩
   simp [hnt, looseOk]
   refine W.choose (by simp; rfl) (fun hc => ?_) fun hc => ?_
   · try apply W.ret; try simp only [Then, InBlk]
     refine U.ret (by simp [unwind.results, Tryz.f88] <;> rfl) rfl ?_
     rw [← hQ]
     exact .inr hZ
   cases hc
  | panicked ch =>
   simp [hnt]
   refine ⟨by kernel_rfl, by simp [forgetOk, hnt], by simp [belowU, looseOk], fun t5 => ?_⟩
   refine U.panic rfl ?_
   rw [← hQ]
   exact ho
 have hil : i = n := by
  have : n ≤ i := by simpa using hc
  omega
 apply W.exit; try simp [Then, InBlk]
 try apply W.ret
 refine U.ret (by simp [unwind.results, Tryz.f88] <;> rfl) rfl ?_
 rw [← hQ]
 subst hil
 exact .inl hJi
end Go.Proofs.Lw
namespace Go.Proofs.Lw
open Go Go.Am
set_option maxRecDepth 8000
variable {gl : Nat → Nat → Option Value} {ng : Nat}
structure Lv (σ : Kn) (g : List RuleD) (ns : List Int) (t : T) (c : List Int) (rv : Value) (bg bw bc : Nat) : Prop where
 gr : RulesV σ rv g
 ru : RulesOk g
 min : MinL g ns
 ok : OkN g t
 small : Lw.wt t < 1048575
 few : nodes t ≤ 1024
 pos : (0 : Int) ∉ c
 len : c.length < 1048576
 kg : σ bg 0 = some rv
 kw : ∃ x y z, σ bw 0 = some x ∧ σ bw 1 = some y ∧ σ bw 2 = some z ∧ TreeK σ (.agg #[x, y, z]) t
 kc : ∃ cv, σ bc 0 = some cv ∧ IntsK σ cv c
theorem Lv.mono {σ σ' : Kn} (hle : σ.le σ') {g : List RuleD} {ns : List Int} {t : T} {c : List Int} {rv : Value} {bg bw bc : Nat} (h : Lv σ g ns t c rv bg bw bc) : Lv σ' g ns t c rv bg bw bc := by
 obtain ⟨h1, h2, h3, h4, h5, h6, h7, h8, h9, ⟨x, y, z, k1, k2, k3, k4⟩, ⟨cv, k5, k6⟩⟩ := h
 exact ⟨h1.mono hle, h2, h3, h4, h5, h6, h7, h8, hle _ _ _ h9, ⟨x, y, z, hle _ _ _ k1, hle _ _ _ k2, hle _ _ _ k3, k4.mono hle⟩, ⟨cv, hle _ _ _ k5, k6.mono hle⟩⟩
def standsT (g : List RuleD) (ns : List Int) (t : T) (c set : List Int) : T := prunT g (leastD ns g) (minusD c set) t 0
variable {g : List RuleD} {ns : List Int} {t : T} {c : List Int} {rv : Value} {bg bw bc : Nat}
theorem f60_ok {σ : Kn} {m : Mem} {xv : Value} {set : List Int} (hw : WF m) (hh : Holds (cfg gl ng).toEnv σ m) (h : Lv σ g ns t c rv bg bw bc) (hx : IntsK σ xv set) (hxl : set.length < 1048576) :
 Ct gl ng 60 [xv, .pointer (some ⟨bg, 0, none⟩), .pointer (some ⟨bw, 0, none⟩), .pointer (some ⟨bc, 0, none⟩)] σ m (fun σ' v => TreeK σ' v (standsT g ns t c set)) := by
 refine Ct.of (c := _) Tryz.func60 rfl 12 rfl (fun c' hnt => ?_)
 obtain ⟨x, y, z, w1, w2, w3, ht⟩ := h.kw
 obtain ⟨cv, k1, k2⟩ := h.kc
 have hS := S.start hw hh
 have hS1 := hS.new (vs := [.int .i64 0, .string .empty, .slice none 0 0]) 27 (by simp)
 repeat apply W.seq
 apply W.regN; simp [hnt]
 generalize m.new (.cells (cellsOf [.int .i64 0, .string .empty, .slice none 0 0] 27)) = m1 at *
 generalize m.nb = nb5 at *
 obtain ⟨ex1, ey1, ez1⟩ := ht.beq 8
 have hb1 : beqV 8 rv rv = true := by obtain ⟨_, _, h1, _⟩ := h.gr; exact beq_slice h1 8
 have kg := h.kg
 repeat apply W.seq
 refine W.regU [(4, 0), (4, 1)] [4, 5, 0, 1] (by as_aux_lemma => kernel_rfl) ?_
 simp [hnt, hS1.kn, kg, w1, w2, w3, k1]
 refine Ct.use (f61_ok hS1.wf hS1.holds k2 hx h.len hxl) (fun σ3 v3 m3 hl3 hv3 => ?_)
 have hS3 := hS1.learn' hl3
 have hle3 := hl3.le
 have hml : (minusD c set).length ≤ c.length := List.length_filter_le _ _
 have hlen := h.len
 simp [hnt]
 refine Ct.use (f48_ok hS3.wf hS3.holds (h.gr.mono hle3) h.ru (ht.mono hle3) h.small h.few h.ok h.min hv3.1 (fun h0 => h.pos (List.mem_filter.1 h0).1) (by omega)) (fun σ4 v4 m4 hl4 hv4 => ?_)
 obtain ⟨x1, y1, z1, rfl, px1, py1, pz1⟩ := hv4.agg
 have hS4 := hS3.learn' hl4
 obtain ⟨m5, e5, hS5⟩ := hS4.setAll (i := 0) rfl (vs := [x1, y1, z1]) rfl (by simp [px1, py1, pz1])
 simp [hnt, e5]
 refine ⟨?_, ?_⟩
 ·
  have kg' := hle3 _ _ _ kg
  have w1' := hle3 _ _ _ w1
  have w2' := hle3 _ _ _ w2
  have w3' := hle3 _ _ _ w3
  simp [looseOk, getS, againOk, quiet, still, beqV, hS1.kn, hS3.kn, kg, w1, w2, w3, kg', w1', w2', w3', hb1, ex1, ey1, ez1]
 apply W.ret
 refine ⟨.inr rfl, rfl, rfl, _, by simp [unwind.results, Tryz.f60, addrOf, loadV, K.is27, K.zs27, Mem.loadN, hS5.c0]; rfl, _, hS5.learn, ?_⟩
 exact hv4
theorem is105' : Am.isAgg (cfg gl ng).toEnv 105 = some false := by kernel_rfl
theorem f63_ok {σ0 σ : Kn} {m0 m : Mem} {L : List (Nat × Cl)} {O : List (Nat × OE)} {sb mb bs bf : Nat} {av xv : Value} {A : List Int} {Kw : Known} {set : List Int} (hs : Srch gl ng σ0 m0 σ m L O sb av A mb Kw) (h : Lv σ g ns t c rv bg bw bc)
 (ks : σ bs 0 = some (.pointer (some ⟨sb, 0, none⟩))) (kf : σ bf 0 = some (.func (.func 60) #[] #[.pointer (some ⟨bg, 0, none⟩), .pointer (some ⟨bw, 0, none⟩), .pointer (some ⟨bc, 0, none⟩)]))
 (hx : IntsK σ xv set) (hxl : set.length < 1048576) (hok : OkN g (standsT g ns t c set)) (hwt : Lw.wt (standsT g ns t c set) < 1048575) (hno : nodes (standsT g ns t c set) ≤ 1024) :
 C (cfg gl ng) 63 [xv, .pointer (some ⟨bs, 0, none⟩), .pointer (some ⟨bg, 0, none⟩), .pointer (some ⟨bf, 0, none⟩)] m (ROk gl ng σ0 m0 σ L O sb av A mb (fun b _ r => r = .bool b) (runQ (textG g) A (.ask (standsT g ns t c set) .ret) Kw)) := by
 generalize hQ : ROk gl ng σ0 m0 σ L O sb av A mb (fun b _ r => r = .bool b) (runQ (textG g) A (.ask (standsT g ns t c set) .ret) Kw) = Q
 refine ofU (c := _) Tryz.func63 rfl 12 rfl (fun c' hnt _ _ => ?_)
 have hS := hs.s
 have kg := h.kg
 have hb1 : beqV 8 rv rv = true := by obtain ⟨_, _, h1, _⟩ := h.gr; exact beq_slice h1 8
 repeat apply W.seq
 apply W.regN; simp [hnt]
 have hcall : ∀ args m', callV (cfg gl ng) 60 args m' = .enter 60 args m' := fun args m' => callV_of (fn := Tryz.f60) Tryz.func60 rfl rfl
 repeat apply W.seq
 refine W.regP [(4, 0), (4, 1)] [4, 5, 0, 1] (by as_aux_lemma => kernel_rfl) ?_
 simp [hnt, hS.kn, ks, kg, kf, hcall]
 refine Ct.use (f60_ok hS.wf hS.holds h hx hxl) (fun σ3 v3 m3 hl3 hv3 => ?_)
 have hS3 := hS.learn' hl3
 have hO3 := hs.o.grow hS.wf hl3.grow
 have hle3 := hl3.le
 have h3 : Srch gl ng σ0 m0 σ3 m3 L O sb av A mb Kw := ⟨hS3, hO3, hs.odd, hs.av.mono hle3, hs.le, hs.lim⟩
 have ks' := hle3 _ _ _ ks
 have kg' := hle3 _ _ _ kg
 simp [hnt]
 refine C.mono (f29_ok h3 (h.gr.mono hle3) h.ru hv3 hwt hno hok) (fun out m4 ho => ?_)
 obtain ⟨σ4, hle4, hr⟩ := ho
 cases hon : runQ (textG g) A (.ask (standsT g ns t c set) .ret) Kw with
 | done b K' =>
  rw [hon] at hr
  obtain ⟨_, rfl, rfl, h4⟩ := hr
  simp [hnt]
  refine ⟨?_, ?_⟩
  · simp [looseOk, getS, againOk, quiet, still, beqV, hS.kn, hS3.kn, ks, kg, ks', kg', hb1]
  try apply W.ret
  refine U.ret (by simp [unwind.results, Tryz.f63] <;> rfl) rfl ?_
  rw [← hQ]
  refine ⟨σ4, Kn.le_trans hle3 hle4, ?_⟩
  rw [hon]
  exact ⟨_, rfl, by simp [retV], h4⟩
 | stop t' K' =>
  rw [hon] at hr
  obtain ⟨v, rfl, hv, h4⟩ := hr
  simp [hnt]
  refine ⟨by kernel_rfl, by simp [forgetOk, hnt], ?_, fun t5 => ?_⟩
  · simp only [belowU]
    simp [looseOk, getS, againOk, quiet, still, beqV, hS.kn, hS3.kn, ks, kg, ks', kg', hb1]
  refine U.panic rfl ?_
  rw [← hQ]
  refine ⟨σ4, Kn.le_trans hle3 hle4, ?_⟩
  rw [hon]
  exact ⟨v, rfl, hv, h4⟩
end Go.Proofs.Lw
namespace Go.Proofs.Lw
open Go Go.Am
variable {gl : Nat → Nat → Option Value} {ng : Nat}
def mkE (b : Nat) : Nat × OE := (b / 2, .blk (.deferred (some [])))
theorem Srch.toO {σ0 σ : Kn} {m0 m : Mem} {L : List (Nat × Cl)} {O O' : List (Nat × OE)} {sb mb : Nat} {av : Value} {A : List Int} {Kw : Known} (h : Srch gl ng σ0 m0 σ m L O sb av A mb Kw) (hp : O'.Sublist O) : Srch gl ng σ0 m0 σ m L O' sb av A mb Kw :=
 ⟨h.s, h.o.sub (hp.cons_cons _), h.odd, h.av, h.le, h.lim⟩
theorem Srch.permO {σ0 σ : Kn} {m0 m : Mem} {L : List (Nat × Cl)} {O O' : List (Nat × OE)} {sb mb : Nat} {av : Value} {A : List Int} {Kw : Known} (h : Srch gl ng σ0 m0 σ m L O sb av A mb Kw) (hp : O.Perm O') : Srch gl ng σ0 m0 σ m L O' sb av A mb Kw :=
 ⟨h.s, h.o.perm (hp.cons _), h.odd, h.av, h.le, h.lim⟩
theorem Srch.setO {σ0 σ : Kn} {m0 m : Mem} {L : List (Nat × Cl)} {O : List (Nat × OE)} {sb mb k : Nat} {b0 bl : Blk} {av : Value} {A : List Int} {Kw : Known} (h : Srch gl ng σ0 m0 σ m L ((k, .blk b0) :: O) sb av A mb Kw) (hb : ∀ c, bl ≠ .cells c) :
 Srch gl ng σ0 m0 σ (m.setB k bl) L ((k, .blk bl) :: O) sb av A mb Kw := by
 refine ⟨h.s.setO h.o (List.mem_cons_of_mem _ List.mem_cons_self) bl, ?_, h.odd, h.av, h.le, h.lim⟩
 exact ((h.o.perm (List.Perm.swap _ _ _)).set hb).perm (List.Perm.swap _ _ _)
theorem Srch.pushO {σ0 σ : Kn} {m0 m : Mem} {L : List (Nat × Cl)} {O : List (Nat × OE)} {sb mb : Nat} {bl : Blk} {av : Value} {A : List Int} {Kw : Known} (h : Srch gl ng σ0 m0 σ m L O sb av A mb Kw) (hb : ∀ c, bl ≠ .cells c) :
 Srch gl ng σ0 m0 σ (m.new bl) L ((m.nxt, .blk bl) :: O) sb av A mb Kw :=
 ⟨h.s.grow (Grow.new h.s.wf bl), (h.o.push h.s.wf h.s.le0 hb).perm (List.Perm.swap _ _ _), h.odd, h.av, h.le, h.lim⟩
theorem Srch.getO {σ0 σ : Kn} {m0 m : Mem} {L : List (Nat × Cl)} {O : List (Nat × OE)} {sb mb k : Nat} {bl : Blk} {av : Value} {A : List Int} {Kw : Known} (h : Srch gl ng σ0 m0 σ m L O sb av A mb Kw) (hk : (k, OE.blk bl) ∈ O) : m.blks.get k = some bl :=
 (h.o.at' k _ (List.mem_cons_of_mem _ hk)).1.1
theorem getLoop_of {m : Mem} {l : Nat} {r : ALoop} (hl : l % 2 = 1) (h : m.blks.get (l / 2) = some (.loop r)) : getLoop m l = some r := by
 unfold getLoop
 rw [if_pos hl, h]
def RoundQ (gl : Nat → Nat → Option Value) (ng : Nat) (σ0 : Kn) (m0 : Mem) (L : List (Nat × Cl)) (O : List (Nat × OE)) (sb : Nat) (av : Value) (A : List Int) (mb id0 : Nat) (J : Nat → Kn → Known → Prop) (Z : Kn → Known → List (Nat × Cl) → Prop) (PZ : Kn → Known → List PanicEntry → Prop) (k : Nat) (σ' : Kn) : Ex → St → Prop := fun e s2 => match e with
 | .normal => ∃ σ2 K2, σ'.le σ2 ∧ J (k + 1) σ2 K2 ∧ Srch gl ng σ0 m0 σ2 s2.m L O sb av A mb K2
 | .exit id => id = id0 ∧ ∃ σ2 K2 L2, σ'.le σ2 ∧ Z σ2 K2 L2 ∧ Srch gl ng σ0 m0 σ2 s2.m L2 O sb av A mb K2
 | .panic ch => s2.defers = [] ∧ ∃ σ2 K2, σ'.le σ2 ∧ PZ σ2 K2 ch ∧ Srch gl ng σ0 m0 σ2 s2.m L O sb av A mb K2
 | .ret => False
section
variable {σ0 : Kn} {m0 : Mem} {L L2 : List (Nat × Cl)} {O : List (Nat × OE)} {sb mb id0 k : Nat} {av : Value} {A : List Int} {J : Nat → Kn → Known → Prop} {Z : Kn → Known → List (Nat × Cl) → Prop} {PZ : Kn → Known → List PanicEntry → Prop} {σ' σ2 : Kn} {K2 : Known} {s2 : St} {ch : List PanicEntry}
theorem RoundQ.next (h1 : σ'.le σ2) (h2 : J (k + 1) σ2 K2) (h3 : Srch gl ng σ0 m0 σ2 s2.m L O sb av A mb K2) : RoundQ gl ng σ0 m0 L O sb av A mb id0 J Z PZ k σ' .normal s2 := ⟨_, _, h1, h2, h3⟩
theorem RoundQ.out (h1 : σ'.le σ2) (h2 : Z σ2 K2 L2) (h3 : Srch gl ng σ0 m0 σ2 s2.m L2 O sb av A mb K2) : RoundQ gl ng σ0 m0 L O sb av A mb id0 J Z PZ k σ' (.exit id0) s2 := ⟨rfl, _, _, _, h1, h2, h3⟩
theorem RoundQ.pan (h0 : s2.defers = []) (h1 : σ'.le σ2) (h2 : PZ σ2 K2 ch) (h3 : Srch gl ng σ0 m0 σ2 s2.m L O sb av A mb K2) : RoundQ gl ng σ0 m0 L O sb av A mb id0 J Z PZ k σ' (.panic ch) s2 := ⟨h0, _, _, h1, h2, h3⟩
end
theorem W.cuts {x : Ctx} {s : St} {f : Operand} {p : Tmp} {assign body : Code} {Q : Ex → St → Prop} {fn : Func} {σ0 σ : Kn} {m0 : Mem} {L : List (Nat × Cl)} {O : List (Nat × OE)} {sb mb n bn bl id0 : Nat} {av cv : Value} {A : List Int} {Kw : Known} {c : List Int}
 (hx : x.round = none) (hfn : (cfg gl ng).P.funcs[x.fn]? = some fn) (hp : p < x.nt) (hf : evalT ng s.tmps f = .func (.func 88) #[] ⟨[.pointer (some ⟨bn, 0, none⟩), .pointer (some ⟨bl, 0, none⟩)]⟩)
 (hs : Srch gl ng σ0 m0 σ s.m L O sb av A mb Kw) (kn : σ bn 0 = some (.int .i64 n)) (kl : σ bl 0 = some cv) (hc : IntsK σ cv c) (hcut : Cut O cv) (hn0 : 0 < n) (hnc : n ≤ c.length) (hlen : c.length ≤ 2000)
 (J : Nat → Kn → Known → Prop) (Z : Kn → Known → List (Nat × Cl) → Prop) (PZ : Kn → Known → List PanicEntry → Prop) (h0 : J 0 σ Kw)
 (hbody : ∀ (k : Nat) (σ' : Kn) (m' : Mem) (K' : Known) (O' : List (Nat × OE)) (xv : Value) (xr : Ctx), k < n → σ.le σ' → J k σ' K' → xr.nt = x.nt → IntsK σ' xv (chunk c n k) →
  W (cfg gl ng) xr assign ⟨s.tmps.set p xv, [], none, m'⟩ (fun e s1 => e = .normal ∧ s1.m = m' ∧ s1.defers = [] ∧ s1.cm = none ∧
   ∀ m2, Srch gl ng σ0 m0 σ' m2 L O' sb av A mb K' → W (cfg gl ng) xr body ⟨s1.tmps, [], none, m2⟩ (RoundQ gl ng σ0 m0 L O' sb av A mb id0 J Z PZ k σ')))
 (hQn : ∀ (mk : Nat) (σ' : Kn) (K' : Known) (m' : Mem), mk % 2 = 1 → σ.le σ' → J n σ' K' → Srch gl ng σ0 m0 σ' m' L (mkE mk :: O) sb av A mb K' → Q .normal ⟨s.tmps, markOf mk :: s.defers, s.cm, m'⟩)
 (hQx : ∀ (mk : Nat) (σ' : Kn) (K' : Known) (L' : List (Nat × Cl)) (m' : Mem), mk % 2 = 1 → σ.le σ' → Z σ' K' L' → Srch gl ng σ0 m0 σ' m' L' (mkE mk :: O) sb av A mb K' → Q (.exit id0) ⟨s.tmps, markOf mk :: s.defers, s.cm, m'⟩)
 (hQp : ∀ (mk : Nat) (σ' : Kn) (K' : Known) (ch : List PanicEntry) (m' : Mem), mk % 2 = 1 → σ.le σ' → PZ σ' K' ch → Srch gl ng σ0 m0 σ' m' L (mkE mk :: O) sb av A mb K' → Q (.panic ch) ⟨s.tmps, markOf mk :: s.defers, s.cm, m'⟩) :
 W (cfg gl ng) x (.rangeFunc f #[p] assign body) s Q := by
 have hodd1 := Mem.nb_odd s.m
 have hhalf1 := Mem.nb_half s.m
 have hodd2 := Mem.nb_odd (s.m.new (.deferred (some [])))
 have hhalf2 := Mem.nb_half (s.m.new (.deferred (some [])))
 obtain ⟨lp, hlp⟩ : ∃ lp : ALoop, lp = { state := .ready, pending := none, fn := x.fn, tmps := s.tmps, params := [p], assign, body, defers := s.m.nb, nt := x.nt } := ⟨_, rfl⟩
 have hm : rfM x s #[p] assign body = (s.m.new (.deferred (some []))).new (.loop lp) := by rw [hlp]; rfl
 have hs2 := (hs.pushO (bl := .deferred (some [])) (fun c e => by cases e)).pushO (bl := .loop lp) (fun c e => by cases e)
 rw [← hhalf1, ← hhalf2] at hs2
 rw [← hm] at hs2
 have hl : rfL s = (s.m.new (.deferred (some []))).nb := rfl
 refine W.rangeFunc hx hf (fun args m => callV_of (fn := Tryz.f88) Tryz.func88 rfl rfl) ?_
 rw [hl]
 have hargs : (#[] : Array Value).toList ++ [Value.func (.yield (s.m.new (.deferred (some []))).nb) #[] #[]] ++ (⟨[.pointer (some ⟨bn, 0, none⟩), .pointer (some ⟨bl, 0, none⟩)]⟩ : Array Value).toList = [.func (.yield (s.m.new (.deferred (some []))).nb) #[] #[], .pointer (some ⟨bn, 0, none⟩), .pointer (some ⟨bl, 0, none⟩)] := rfl
 rw [hargs]
 clear hargs hl hm
 generalize rfM x s #[p] assign body = m2 at *
 generalize (s.m.new (.deferred (some []))).nb = lb at *
 generalize hmk : s.m.nb = mk at *
 clear hhalf1 hhalf2
 have hloop : ∀ {σ' m' K' L' lp'}, Srch gl ng σ0 m0 σ' m' L' ((lb / 2, .blk (.loop lp')) :: (mk / 2, .blk (.deferred (some []))) :: O) sb av A mb K' → getLoop m' lb = some lp' := fun h => getLoop_of hodd2 (h.getO List.mem_cons_self)
 refine C.mono (f88_ok (σ := σ) (n := n) (c := c) (cv := cv)
  (J := fun k m' => ∃ σ' K', σ.le σ' ∧ J k σ' K' ∧ Srch gl ng σ0 m0 σ' m' L ((lb / 2, .blk (.loop lp)) :: (mk / 2, .blk (.deferred (some []))) :: O) sb av A mb K')
  (Z := fun m' => ∃ σ' K' L', σ.le σ' ∧ Z σ' K' L' ∧ Srch gl ng σ0 m0 σ' m' L' ((lb / 2, .blk (.loop { lp with state := .done, pending := some (.exit id0) })) :: (mk / 2, .blk (.deferred (some []))) :: O) sb av A mb K')
  (PZ := fun ch m' => ∃ σ' K', σ.le σ' ∧ PZ σ' K' ch ∧ Srch gl ng σ0 m0 σ' m' L ((mk / 2, .blk (.deferred (some []))) :: O) sb av A mb K')
  hn0 hnc hlen hc (fun k m' hk => ?_) (fun k m' xv hk hJ hxv => ?_) ⟨σ, Kw, Kn.le_refl _, h0, hs2⟩) (fun out m4 ho => ?_)
 ·
  obtain ⟨σ', K', h1, _, h3⟩ := hk
  refine ⟨h3.s.holds _ _ _ (h1 _ _ _ kn), h3.s.holds _ _ _ (h1 _ _ _ kl), m0, _, h3.o, fun a n' c' e => ?_⟩
  obtain ⟨q1, q2⟩ := hcut a n' c' e
  refine ⟨q1, q2.imp id (fun q => ⟨q.1, ?_⟩)⟩
  simp [q.2]
 ·
  obtain ⟨σ', K', h1, h2, h3⟩ := hJ
  have hgl := hloop h3
  refine CR.of (r := lp) (fn := fn) (t := s.tmps.set p xv) hgl (by rw [hlp]; exact hfn) (by rw [hlp]; simp [zipSet, hp]) ?_
  have hxr : ({ fn := lp.fn, deferred := false, round := some lb, nt := lp.nt } : Ctx).nt = x.nt := by rw [hlp]
  have ha : lp.assign = assign := by rw [hlp]
  have hb : lp.body = body := by rw [hlp]
  rw [ha, hb]
  refine W.mono (hbody k σ' m' K' ((lb / 2, .blk (.loop { lp with state := .busy })) :: (mk / 2, .blk (.deferred (some []))) :: O) xv _ hk h1 h2 hxr (hxv.mono h1)) (fun e s1 hh => ?_)
  obtain ⟨he, hm1, hd1, hc1, hrest⟩ := hh
  obtain ⟨t1, d1, c1, mm1⟩ := s1
  simp only at hm1 hd1 hc1
  subst hm1 hd1 hc1
  refine ⟨he, lp, hgl, by rw [hlp], ?_⟩
  refine W.mono (hrest _ (h3.setO (bl := .loop { lp with state := .busy }) (fun c e => by cases e))) (fun e2 s2 hh2 => ?_)
  cases e2 with
  | normal =>
   obtain ⟨σ2, K2, g1, g2, g3⟩ := hh2
   refine ⟨_, hloop g3, .inl ⟨rfl, σ2, K2, Kn.le_trans h1 g1, g2, ?_⟩⟩
   subst hlp
   exact g3.setO (bl := .loop _) (fun c e => by cases e)
  | exit id =>
   obtain ⟨rfl, σ2, K2, L2, g1, g2, g3⟩ := hh2
   refine ⟨_, hloop g3, .inr ⟨rfl, σ2, K2, L2, Kn.le_trans h1 g1, g2, ?_⟩⟩
   subst hlp
   exact g3.setO (bl := .loop _) (fun c e => by cases e)
  | ret => exact hh2.elim
  | panic ch =>
   obtain ⟨g0, σ2, K2, g1, g2, g3⟩ := hh2
   exact ⟨g0, σ2, K2, Kn.le_trans h1 g1, g2, g3.toO (List.sublist_cons_self _ _)⟩
 cases out with
 | returned v =>
  rcases ho with ⟨σ', K', g1, g2, g3⟩ | ⟨σ', K', L', g1, g2, g3⟩
  · refine ⟨lp, hloop g3, by rw [hlp]; rfl, ?_⟩
    have e : lp.pending = none := by rw [hlp]
    rw [e]
    exact hQn mk σ' K' _ hodd1 g1 g2 ((g3.setO (bl := .loop _) (fun c e => by cases e)).toO (List.sublist_cons_self _ _))
  refine ⟨_, hloop g3, rfl, ?_⟩
  exact hQx mk σ' K' L' _ hodd1 g1 g2 ((g3.setO (bl := .loop _) (fun c e => by cases e)).toO (List.sublist_cons_self _ _))
 | panicked ch =>
  obtain ⟨σ', K', g1, g2, g3⟩ := ho
  exact hQp mk σ' K' ch _ hodd1 g1 g2 g3
end Go.Proofs.Lw
