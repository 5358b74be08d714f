/-
  PROVED here: steps on the way to the card of 'sleuthlaw06.ReduceTreeMinimal' (an abstract machine, its soundness, what each function computes). No conditions beyond those that each theorem states.
-/
import Derived.Test.YtfgpboldklboaaaGreatDoorAm31
namespace Go.Proofs.Lw
open Go Go.Am
set_option maxRecDepth 8000
variable {gl : Nat → Nat → Option Value} {ng : Nat}
theorem Cut.mono {O O' : List (Nat × OE)} {v : Value} (h : Cut O v) (hs : ∀ p ∈ O, p ∈ O') : Cut O' v := by
 intro a n c e
 obtain ⟨h1, h2⟩ := h a n c e
 exact ⟨h1, h2.imp id (fun q => ⟨q.1, hs _ q.2⟩)⟩
theorem U.marks {fn : Func} {mode : Option (List PanicEntry)} {Q : Out → Mem → Prop} {σ0 σ : Kn} {m0 : Mem} {L : List (Nat × Cl)} {O : List (Nat × OE)} {sb mb : Nat} {av : Value} {A : List Int} {Kw : Known} {t : Tr Value} {cm : Option (List PanicEntry)} {ds : List Deferred} :
 ∀ (bs : List Nat) (m : Mem), (∀ b ∈ bs, b % 2 = 1) → Srch gl ng σ0 m0 σ m L (bs.map mkE ++ O) sb av A mb Kw → (∀ m', Srch gl ng σ0 m0 σ m' L O sb av A mb Kw → U (cfg gl ng) fn mode [] ⟨t, ds, cm, m'⟩ Q) → U (cfg gl ng) fn mode (bs.map markOf) ⟨t, ds, cm, m⟩ Q
 | [], m, _, hs, h => h m hs
 | b :: bs, m, hb, hs, h => by
  simp only [List.map_cons]
  have hg := hs.getO (k := b / 2) (bl := .deferred (some [])) List.mem_cons_self
  refine U.mark (hb b (by simp)) hg ?_
  have h2 := (hs.setO (bl := .deferred none) (fun c e => by cases e)).toO (List.sublist_cons_self _ _)
  exact U.marks bs _ (fun b hb' => hb b (by simp [hb'])) h2 h
theorem Qs.bind_assoc {α β γ : Type} : ∀ {q : Qs α} {f : α → Qs β} {h : β → Qs γ}, (q.bind f).bind h = q.bind fun a => (f a).bind h
 | .ret a, f, h => rfl
 | .ask t k, f, h => by
  simp only [Qs.bind]
  congr 1
  funext b
  exact Qs.bind_assoc
def rest2 (ask : List Int → Qs Bool) (i : Nat) (c : List Int) (g : Nat) : Option (List Int) → Qs (List Int)
 | some r => (loopQ ask i r (max (g - 1) 2)).bind (lastQ ask)
 | none => if c.length ≤ g then lastQ ask c else (loopQ ask i c (min (2 * g) c.length)).bind (lastQ ask)
def rest1 (ask : List Int → Qs Bool) (i : Nat) (c : List Int) (g : Nat) : Option (List Int) → Qs (List Int)
 | some x => (loopQ ask i x 2).bind (lastQ ask)
 | none => (firstQ ask ((cutsL c g).map (minusD c))).bind (rest2 ask i c g)
theorem loopQ_rest {ask : List Int → Qs Bool} {i g : Nat} {c : List Int} (h : ¬ c.length < 2) : (loopQ ask (i + 1) c g).bind (lastQ ask) = (firstQ ask (cutsL c g)).bind (rest1 ask i c g) := by
 simp only [loopQ, if_neg h]
 rw [Qs.bind_assoc]
 congr 1
 funext o
 cases o with
 | some x => rfl
 | none =>
  simp only [rest1]
  rw [Qs.bind_assoc]
  congr 1
  funext o
  cases o with
  | some x => rfl
  | none =>
   simp only [rest2]
   split <;> rfl
theorem cutsL_drop {c : List Int} {g k : Nat} (hk : k < min g c.length) : (cutsL c g).drop k = chunk c (min g c.length) k :: (cutsL c g).drop (k + 1) := by
 have hl : k < (cutsL c g).length := by simpa [cutsL] using hk
 rw [List.drop_eq_getElem_cons hl]
 congr 1
 simp [cutsL]
theorem cutsL_end {c : List Int} {g : Nat} : (cutsL c g).drop (min g c.length) = [] := by
 apply List.drop_eq_nil_of_le
 simp [cutsL]
theorem first_step {tx : T → ByteArray} {A : List Int} {ask : List Int → Qs Bool} {x : List Int} {r : List (List Int)} {F : Option (List Int) → Qs (List Int)} {K' : Known} {R : Res (List Int)} (h : runQ tx A ((firstQ ask (x :: r)).bind F) K' = R) :
 match runQ tx A (ask x) K' with
 | .done true K2 => runQ tx A (F (some x)) K2 = R
 | .done false K2 => runQ tx A ((firstQ ask r).bind F) K2 = R
 | .stop t K2 => R = .stop t K2 := by
 simp only [firstQ] at h
 rw [Qs.bind_assoc, runQ_bind] at h
 cases hr : runQ tx A (ask x) K' with
 | done b K2 =>
  rw [hr] at h
  cases b
  · simpa using h
  simpa [Qs.bind] using h
 | stop t K2 => rw [hr] at h; exact h.symm
theorem Srch.learn {σ0 σ σ' : Kn} {m0 m m' : Mem} {L : List (Nat × Cl)} {O : List (Nat × OE)} {sb mb : Nat} {av : Value} {A : List Int} {Kw : Known} (h : Srch gl ng σ0 m0 σ m L O sb av A mb Kw) (l : Learn (cfg gl ng).toEnv σ m σ' m') : Srch gl ng σ0 m0 σ' m' L O sb av A mb Kw :=
 ⟨h.s.learn' l, h.o.grow h.s.wf l.grow, h.odd, h.av.mono l.le, h.le, h.lim⟩
theorem f62_ok {σ0 σ σb : Kn} {m0 m : Mem} {L : List (Nat × Cl)} {O : List (Nat × OE)} {sb mb : Nat} {av cv : Value} {A : List Int} {Kw : Known} {c : List Int} {fid : FuncId} {caps : List Value} {tx : T → ByteArray} {ask : List Int → Qs Bool}
 (hs : Srch gl ng σ0 m0 σ m L O sb av A mb Kw) (hcv : IntsK σ cv c) (hcut : Cut O cv) (hlen : c.length ≤ 1000) (hcall : ∀ args m, callV (cfg gl ng) fid args m = .enter fid args m) (hleb : σb.le σ)
 (hF : ∀ (set : List Int) (xv : Value) (σ' : Kn) (m' : Mem) (L' : List (Nat × Cl)) (O' : List (Nat × OE)) (K' : Known), Srch gl ng σ0 m0 σ' m' L' O' sb av A mb K' → σb.le σ' → IntsK σ' xv set → set.length < 1048576 →
  C (cfg gl ng) fid (xv :: caps) m' (ROk gl ng σ0 m0 σ' L' O' sb av A mb (fun b _ r => r = .bool b) (runQ tx A (ask set) K'))) :
 C (cfg gl ng) 62 [cv, .func (.func fid) #[] ⟨caps⟩] m (ROk gl ng σ0 m0 σ L O sb av A mb (fun c' σ' v => IntsK σ' v c' ∧ c'.length ≤ 1000) (runQ tx A (minQ ask c) Kw)) := by
 obtain ⟨fv, hfv⟩ : ∃ fv : Value, fv = .func (.func fid) #[] ⟨caps⟩ := ⟨_, rfl⟩
 generalize hR : runQ tx A (minQ ask c) Kw = R
 generalize hQ : ROk gl ng σ0 m0 σ L O sb av A mb (fun c' σ' v => IntsK σ' v c' ∧ c'.length ≤ 1000) R = Q
 have pfv : plainV fv = true := by rw [hfv]; simp
 rw [← hfv]
 refine ofU (c := _) Tryz.func62 rfl 52 rfl (fun x hnt hxr hxf => ?_)
 have hS := hs.s
 obtain ⟨m1, nb2, hbx1, hS1⟩ := hS.boxs 53 cv hcv.plain
 have hO1 := hs.o.box hS.wf hbx1
 obtain ⟨m2, nb3, hbx2, hS2⟩ := hS1.boxs 107 fv pfv
 have hO2 := hO1.box hS1.wf hbx2
 repeat apply W.seq
 apply W.regN; simp [hnt, hbx1, hbx2]
 apply W.scope
 obtain ⟨m3, e3, hS3⟩ := hS2.var 3 [.int .i64 0] [.int .i64 2] (by simp) (by simp) rfl
 have hO3 := (hO2.new hS2.wf _).write e3
 repeat apply W.seq
 apply W.regN; simp [hnt, e3]
 generalize m2.nb = nb5 at *
 repeat apply W.seq
 apply W.label
 simp only [Then]
 obtain ⟨P, hP⟩ : ∃ P : Nat → Value → List (Nat × Cl), P = fun (g : Nat) v => (nb5, ⟨[.int .i64 g], none⟩) :: (nb3, ⟨[fv], none⟩) :: (nb2, ⟨[v], none⟩) :: L := ⟨_, rfl⟩
 have h3 : Srch gl ng σ0 m0 σ m3 (P 2 cv) O sb av A mb Kw := ⟨by rw [hP]; exact hS3.perm (List.perm_middle (l₁ := [_, _, _])), hO3, hs.odd, hs.av, hs.le, hs.lim⟩
 clear hS3 hO3 hS2 hO2 hS1 hO1
 have hc5 : ∀ {σ' m' g v K'} , S (cfg gl ng).toEnv σ0 m0 σ' m' (sCl sb av K' mb :: P g v) → ∀ o, m'.load (cfg gl ng).toEnv nb5 o = [Value.int .i64 g][o]? := fun h o => by rw [hP] at h; exact h.c1 o
 have hc3 : ∀ {σ' m' g v K'} , S (cfg gl ng).toEnv σ0 m0 σ' m' (sCl sb av K' mb :: P g v) → ∀ o, m'.load (cfg gl ng).toEnv nb3 o = [fv][o]? := fun h o => by rw [hP] at h; exact h.c2 o
 have hc2 : ∀ {σ' m' g v K'} , S (cfg gl ng).toEnv σ0 m0 σ' m' (sCl sb av K' mb :: P g v) → ∀ o, m'.load (cfg gl ng).toEnv nb2 o = [v][o]? := fun h o => by rw [hP] at h; exact h.c3 o
 have hset : ∀ {σ' m' g v K' O'} (v' : Value), plainV v' = true → Srch gl ng σ0 m0 σ' m' (P g v) O' sb av A mb K' → ∃ m2, m'.write nb2 0 [v'] = some m2 ∧ Srch gl ng σ0 m0 σ' m2 (P g v') O' sb av A mb K' := by
  intro σ' m' g v K' O' v' hp h
  have h1 := h.s
  rw [hP] at h1
  obtain ⟨m2, e2, h2⟩ := h1.set1 (i := 3) rfl (o := 0) (v := v') (by simp) hp
  exact ⟨m2, e2, ⟨by rw [hP]; exact h2, h.o.write e2, h.odd, h.av, h.le, h.lim⟩⟩
 have hsetg : ∀ {σ' m' g v K' O'} (g' : Nat), Srch gl ng σ0 m0 σ' m' (P g v) O' sb av A mb K' → ∃ m2, m'.write nb5 0 [.int .i64 g'] = some m2 ∧ Srch gl ng σ0 m0 σ' m2 (P g' v) O' sb av A mb K' := by
  intro σ' m' g v K' O' g' h
  have h1 := h.s
  rw [hP] at h1
  obtain ⟨m2, e2, h2⟩ := h1.set1 (i := 1) rfl (o := 0) (v := .int .i64 g') (by simp) (by simp)
  exact ⟨m2, e2, ⟨by rw [hP]; exact h2, h.o.write e2, h.odd, h.av, h.le, h.lim⟩⟩
 have hdropP : ∀ {σ' m' g v K' O'}, Srch gl ng σ0 m0 σ' m' (P g v) O' sb av A mb K' → Srch gl ng σ0 m0 σ' m' L O' sb av A mb K' := by
  intro σ' m' g v K' O' h
  have h1 := h.s
  rw [hP] at h1
  exact ⟨h1.drop (List.Sublist.cons_cons _ (List.sublist_append_right [_, _, _] L)), h.o, h.odd, h.av, h.le, h.lim⟩
 repeat apply W.seq
 obtain ⟨JJ, hJJ⟩ : ∃ JJ : Tr Value → Mem → List Deferred → Prop, JJ = fun t m' ds => ∃ (σ' : Kn) (K' : Known) (c' : List Int) (cv' : Value) (g' : Nat) (bs : List Nat), σ.le σ' ∧ Srch gl ng σ0 m0 σ' m' (P g' cv') (bs.map mkE ++ O) sb av A mb K' ∧ (∀ b ∈ bs, b % 2 = 1) ∧ ds = bs.map markOf ∧ (IntsK σ' cv' c' ∧ c'.length ≤ 1000) ∧ runQ tx A (lastQ ask c') K' = R := ⟨_, rfl⟩
 refine W.cutD (ws := [9, 10, 11, 12, 13, 14, 21, 22, 23, 35, 36, 37, 38, 39, 40, 41, 42, 43]) (by kernel_rfl) JJ ?_ (fun t m4 ds hfr hJ => ?_)
 ·
  apply W.block
  obtain ⟨II, hII⟩ : ∃ II : Nat → Tr Value → Mem → List Deferred → Prop, II = fun i t m' ds => ∃ (σ' : Kn) (K' : Known) (c' : List Int) (cv' : Value) (g' : Nat) (bs : List Nat), fuelQ c' g' ≤ i ∧ σ.le σ' ∧ Srch gl ng σ0 m0 σ' m' (P g' cv') (bs.map mkE ++ O) sb av A mb K' ∧ (∀ b ∈ bs, b % 2 = 1) ∧ ds = bs.map markOf ∧ IntsK σ' cv' c' ∧ Cut (bs.map mkE ++ O) cv' ∧ c'.length ≤ 1000 ∧ 2 ≤ g' ∧ g' ≤ 1000 ∧
   runQ tx A ((loopQ ask (i + 1) c' g').bind (lastQ ask)) K' = R := ⟨_, rfl⟩
  refine W.downD (ws := [9, 10, 11, 12, 13, 14, 21, 22, 23, 35, 36, 37, 38, 39, 40, 41, 42, 43]) (by kernel_rfl) II (fuelQ c 2) (by rw [hII]; exact ⟨σ, Kw, c, cv, 2, [], Nat.le_refl _, Kn.le_refl _, h3, by simp, rfl, hcv, hcut, hlen, by omega, by omega, hR⟩) (fun i t m4 ds hfr hI => ?_)
  obtain ⟨σ4, K4, c4, cv4, g4, bs, hfu, hle4, h4, hbs, rfl, hcv4, hcut4, hl4, hg2, hg4, hR4⟩ := (by rw [hII] at hI; exact hI)
  have hend : ∀ (σ5 : Kn) (K5 : Known) (c5 : List Int) (cv5 : Value) (g5 : Nat) (bs5 : List Nat) (m5 : Mem), fuelQ c5 g5 < i → σ.le σ5 → Srch gl ng σ0 m0 σ5 m5 (P g5 cv5) (bs5.map mkE ++ O) sb av A mb K5 → (∀ b ∈ bs5, b % 2 = 1) → IntsK σ5 cv5 c5 → Cut (bs5.map mkE ++ O) cv5 → c5.length ≤ 1000 → 2 ≤ g5 → g5 ≤ 1000 → runQ tx A ((loopQ ask i c5 g5).bind (lastQ ask)) K5 = R →
   ∀ t5, ∃ j, j < i ∧ II j t5 m5 (bs5.map markOf) := by
   intro σ5 K5 c5 cv5 g5 bs5 m5 a1 a2 a3 a4 a5 a6 a7 a8 a9 a10 t5
   refine ⟨i - 1, by omega, ?_⟩
   rw [hII]
   refine ⟨σ5, K5, c5, cv5, g5, bs5, by omega, a2, a3, a4, rfl, a5, a6, a7, a8, a9, ?_⟩
   rw [show i - 1 + 1 = i by omega]
   exact a10
  repeat apply W.seq
  apply W.regN; simp [hnt, hfr, hc2 h4.s, hcv4.len]
  refine W.choose (by simp; rfl) (fun hc => ?_) fun hc => ?_
  ·
   have hge : 2 ≤ c4.length := by
    have : (2 : Int) ≤ c4.length := by simpa using hc
    omega
   apply W.skip; try simp only [Then, InBlk]
   rw [loopQ_rest (by omega)] at hR4
   apply W.block
   repeat apply W.seq
   apply W.regN; simp [hnt, hfr, hc2 h4.s, hc5 h4.s]
   refine Ct.use (f75_ok h4.s.wf h4.s.holds hcv4 (by omega)) (fun σ5 v5 m5 hl5 hv5 => ?_)
   obtain ⟨bn, bl, rfl, kn, kl⟩ := hv5
   have h5 := h4.learn hl5
   have hcv5 := hcv4.mono hl5.le
   simp [hnt]
   apply W.block
   have hmin0 : 0 < min g4 c4.length := by omega
   refine W.cuts (fn := Tryz.f62) (id0 := 1) hxr (by rw [hxf]; exact Tryz.func62) (by rw [hnt]; decide) (by simp [evalT]) h5 kn kl hcv5 hcut4 hmin0 (by omega) (by omega)
    (J := fun k _ K' => runQ tx A ((firstQ ask ((cutsL c4 g4).drop k)).bind (rest1 ask i c4 g4)) K' = R)
    (Z := fun σ' K' L' => ∃ (c' : List Int) (cv' : Value), L' = P 2 cv' ∧ IntsK σ' cv' c' ∧ Room cv' ∧ c'.length < c4.length ∧ runQ tx A ((loopQ ask i c' 2).bind (lastQ ask)) K' = R)
    (PZ := fun σ' K' ch => ∃ t v, ch = qPanic v ∧ TreeK σ' v t ∧ R = .stop t K') (by simpa using hR4) ?_ ?_ ?_ ?_
   ·
    intro k σ6 m6 K6 O6 xv xr hk hle6 hJ6 hxn hxv
    have hnt := hxn.trans hnt
    rw [cutsL_drop hk] at hJ6
    have hst := first_step hJ6
    have hcl := chunk_lt (c := c4) (show 2 ≤ min g4 c4.length by omega) hk hge
    apply W.regN; simp [hnt]
    intro m7 h7
    apply W.block
    repeat apply W.seq
    apply W.regN; simp [hnt, hfr, hc3 h7.s, hfv, hcall]
    refine C.mono (hF _ xv σ6 m7 _ _ _ h7 (Kn.le_trans hleb (Kn.le_trans hle4 (Kn.le_trans hl5.le hle6))) hxv (by omega)) (fun out m8 ho => ?_)
    obtain ⟨σ8, hle8, hr⟩ := ho
    cases hon : runQ tx A (ask (chunk c4 (min g4 c4.length) k)) K6 with
    | done b K8 =>
     rw [hon] at hr hst
     obtain ⟨_, rfl, rfl, h8⟩ := hr
     simp [hnt]
     cases b with
     | true =>
      refine W.choose (by simp; rfl) (fun hc => ?_) fun hc => ?_
      ·
       repeat apply W.seq
       apply W.regN; simp [hnt]
       refine Ct.use (f76_ok h8.s.wf h8.s.holds (hxv.mono hle8) (by omega)) (fun σ9 v9 m9 hl9 hv9 => ?_)
       have h9 := h8.learn hl9
       obtain ⟨m10, e10, h10⟩ := hset v9 hv9.1.plain h9
       obtain ⟨m11, e11, h11⟩ := hsetg 2 h10
       have e11' : m10.write nb5 0 [.int .i64 2] = some m11 := e11
       simp [hnt, hfr, hv9.1.plain, e10]
       repeat apply W.seq
       apply W.regN; simp [hnt, hfr, e11']
       apply W.exit; try simp [Then, InBlk]
       exact RoundQ.out (Kn.le_trans hle8 hl9.le) ⟨_, v9, rfl, hv9.1, hv9.2, hcl, hst⟩ h11
      cases hc
     | false =>
      refine W.choose (by simp; rfl) (fun hc => ?_) fun hc => ?_
      · cases hc
      apply W.skip; try simp only [Then, InBlk]
      exact RoundQ.next hle8 hst h8
    | stop t' K8 =>
     rw [hon] at hr hst
     obtain ⟨v, rfl, hv, h8⟩ := hr
     simp [hnt]
     exact RoundQ.pan rfl hle8 ⟨t', v, rfl, hv, hst⟩ h8
   ·
    intro mk σ6 K6 m6 hmk hle6 hJ6 h6
    have hR6 : runQ tx A ((firstQ ask ((cutsL c4 g4).map (minusD c4))).bind (rest2 ask i c4 g4)) K6 = R := by simpa [cutsL_end, firstQ, Qs.bind, rest1] using hJ6
    have hbs6 : ∀ b ∈ mk :: bs, b % 2 = 1 := fun b hb => by rcases List.mem_cons.1 hb with rfl | hb; exact hmk; exact hbs b hb
    have h6 : Srch gl ng σ0 m0 σ6 m6 (P g4 cv4) ((mk :: bs).map mkE ++ O) sb av A mb K6 := h6
    have hcut6 : Cut ((mk :: bs).map mkE ++ O) cv4 := hcut4.mono (fun p hp => List.mem_cons_of_mem _ hp)
    have hcv6 := hcv5.mono hle6
    have hle6' := Kn.le_trans hle4 (Kn.le_trans hl5.le hle6)
    simp only [InBlk, Then]
    repeat apply W.seq
    apply W.regN; simp [hnt, hfr, hc2 h6.s, hc5 h6.s]
    refine Ct.use (f75_ok h6.s.wf h6.s.holds hcv6 (by omega)) (fun σ7 v7 m7 hl7 hv7 => ?_)
    obtain ⟨bn7, bl7, rfl, kn7, kl7⟩ := hv7
    have h7 := h6.learn hl7
    have hcv7 := hcv6.mono hl7.le
    have hle7' := Kn.le_trans hle6' hl7.le
    obtain ⟨g7, hg7⟩ : ∃ g7, g7 = max (g4 - 1) 2 := ⟨_, rfl⟩
    simp [hnt]
    apply W.block
    refine W.cuts (fn := Tryz.f62) (id0 := 1) hxr (by rw [hxf]; exact Tryz.func62) (by rw [hnt]; decide) (by simp [evalT]) h7 kn7 kl7 hcv7 hcut6 hmin0 (by omega) (by omega)
     (J := fun k _ K' => runQ tx A ((firstQ ask (((cutsL c4 g4).map (minusD c4)).drop k)).bind (rest2 ask i c4 g4)) K' = R)
     (Z := fun σ' K' L' => ∃ (c' : List Int) (cv' : Value), L' = P g7 cv' ∧ IntsK σ' cv' c' ∧ Room cv' ∧ c'.length < c4.length ∧ runQ tx A ((loopQ ask i c' g7).bind (lastQ ask)) K' = R)
     (PZ := fun σ' K' ch => ∃ t v, ch = qPanic v ∧ TreeK σ' v t ∧ R = .stop t K') (by simpa using hR6) ?_ ?_ ?_ ?_
    ·
     intro k σ8 m8 K8 O8 xv xr hk hle8 hJ8 hxn hxv
     have hnt := hxn.trans hnt
     rw [← List.map_drop, cutsL_drop hk, List.map_cons, List.map_drop] at hJ8
     have hst := first_step hJ8
     have hcl := chunk_lt (c := c4) (show 2 ≤ min g4 c4.length by omega) hk hge
     have hcp := chunk_pos (c := c4) (show 0 < min g4 c4.length by omega) hk (by omega)
     have hml := minus_lt (chunk_sub (c := c4) (n := min g4 c4.length) (k := k)) hcp
     apply W.regN; simp [hnt]
     intro m9 h9
     apply W.block
     repeat apply W.seq
     apply W.regN; simp [hnt, hfr, hc2 h9.s]
     refine Ct.use (f61_ok h9.s.wf h9.s.holds (hcv7.mono hle8) hxv (by omega) (by omega)) (fun σ10 v10 m10 hl10 hv10 => ?_)
     have h10 := h9.learn hl10
     simp [hnt]
     repeat apply W.seq
     apply W.regN; simp [hnt, hfr, hc3 h10.s, hfv, hcall]
     refine C.mono (hF _ v10 σ10 m10 _ _ _ h10 (Kn.le_trans hleb (Kn.le_trans hle7' (Kn.le_trans hle8 hl10.le))) hv10.1 (by omega)) (fun out m11 ho => ?_)
     obtain ⟨σ11, hle11, hr⟩ := ho
     cases hon : runQ tx A (ask (minusD c4 (chunk c4 (min g4 c4.length) k))) K8 with
     | done b K11 =>
      rw [hon] at hr hst
      obtain ⟨_, rfl, rfl, h11⟩ := hr
      simp [hnt]
      cases b with
      | true =>
       refine W.choose (by simp; rfl) (fun hc => ?_) fun hc => ?_
       · obtain ⟨m12, e12, h12⟩ := hset v10 hv10.1.plain h11
         obtain ⟨m13, e13, h13⟩ := hsetg g7 h12
         have hwr : IntKind.i64.wrap ((g4 : Int) - 1) = (g4 : Int) - 1 := wrap_i64 (by omega) (by omega)
         have hmx : max ((g4 : Int) - 1) 2 = (g7 : Int) := by omega
         repeat apply W.seq
         apply W.regN; simp [hnt, hfr, hv10.1.plain, e12]
         repeat apply W.seq
         apply W.regN; simp [hnt, hfr, hc5 h12.s, hwr, hmx, e13]
         apply W.exit; try simp [Then, InBlk]
         exact RoundQ.out (Kn.le_trans hl10.le hle11) ⟨_, v10, rfl, hv10.1.mono hle11, hv10.2, hml, by rw [hg7]; exact hst⟩ h13
       cases hc
      | false =>
       refine W.choose (by simp; rfl) (fun hc => ?_) fun hc => ?_
       · cases hc
       apply W.skip; try simp only [Then, InBlk]
       exact RoundQ.next (Kn.le_trans hl10.le hle11) hst h11
     | stop t' K11 =>
      rw [hon] at hr hst
      obtain ⟨v, rfl, hv, h11⟩ := hr
      simp [hnt]
      exact RoundQ.pan rfl (Kn.le_trans hl10.le hle11) ⟨t', v, rfl, hv, hst⟩ h11
    ·
     intro mk2 σ8 K8 m8 hmk2 hle8 hJ8 h8
     have hR8 : runQ tx A (rest2 ask i c4 g4 none) K8 = R := by rw [← List.map_drop, cutsL_end] at hJ8; simpa [firstQ, Qs.bind] using hJ8
     have hbs8 : ∀ b ∈ mk2 :: mk :: bs, b % 2 = 1 := fun b hb => by rcases List.mem_cons.1 hb with rfl | hb; exact hmk2; exact hbs6 b hb
     have h8 : Srch gl ng σ0 m0 σ8 m8 (P g4 cv4) ((mk2 :: mk :: bs).map mkE ++ O) sb av A mb K8 := h8
     have hcv8 := hcv7.mono hle8
     simp only [InBlk, Then]
     by_cases hgl : c4.length ≤ g4
     ·
      have hgl' : (c4.length : Int) ≤ g4 := by omega
      repeat apply W.seq
      apply W.regN; simp [hnt, hfr, hc2 h8.s, hc5 h8.s, hcv8.len, hgl, hgl']
      refine W.choose (by simp; rfl) (fun hc => ?_) fun hc => ?_
      · apply W.exit
        refine ⟨rfl, ?_⟩
        rw [hJJ]
        exact ⟨σ8, K8, c4, cv4, g4, mk2 :: mk :: bs, Kn.le_trans hle7' hle8, h8, hbs8, rfl, ⟨hcv8, hl4⟩, by simpa [rest2, hgl] using hR8⟩
      cases hc
     have hgl' : ¬ (c4.length : Int) ≤ g4 := by omega
     obtain ⟨g9, hg9⟩ : ∃ g9, g9 = min (2 * g4) c4.length := ⟨_, rfl⟩
     have hR9 : runQ tx A ((loopQ ask i c4 g9).bind (lastQ ask)) K8 = R := by rw [hg9]; simpa [rest2, hgl] using hR8
     repeat apply W.seq
     apply W.regN; simp [hnt, hfr, hc2 h8.s, hc5 h8.s, hcv8.len, hgl, hgl']
     refine W.choose (by simp; rfl) (fun hc => ?_) fun hc => ?_
     · cases hc
     apply W.skip; try simp only [Then, InBlk]
     obtain ⟨m9, e9, h9⟩ := hsetg g9 h8
     have hwr : IntKind.i64.wrap (2 * (g4 : Int)) = 2 * (g4 : Int) := wrap_i64 (by omega) (by omega)
     have hmn : min (2 * (g4 : Int)) (c4.length : Int) = (g9 : Int) := by omega
     apply W.regN; simp [hnt, hfr, hc2 h8.s, hc5 h8.s, hcv8.len, hwr, hmn, e9]
     exact hend σ8 K8 c4 cv4 g9 (mk2 :: mk :: bs) m9 (by unfold fuelQ at *; omega) (Kn.le_trans hle7' hle8) h9 hbs8 hcv8 (hcut6.mono (fun p hp => List.mem_cons_of_mem _ hp)) hl4 (by omega) (by omega) hR9 _
    · intro mk2 σ8 K8 L8 m8 hmk2 hle8 hZ8 h8
      obtain ⟨c8, cv8, rfl, hcv8, hro8, hcl8, hR8⟩ := hZ8
      have hbs8 : ∀ b ∈ mk2 :: mk :: bs, b % 2 = 1 := fun b hb => by rcases List.mem_cons.1 hb with rfl | hb; exact hmk2; exact hbs6 b hb
      exact ⟨rfl, hend σ8 K8 c8 cv8 g7 (mk2 :: mk :: bs) m8 (by unfold fuelQ at *; omega) (Kn.le_trans hle7' hle8) h8 hbs8 hcv8 hro8.cut (by omega) (by omega) (by omega) hR8 _⟩
    intro mk2 σ8 K8 ch m8 hmk2 hle8 hP8 h8
    obtain ⟨t', v, rfl, hv, hR8⟩ := hP8
    have hbs8 : ∀ b ∈ mk2 :: mk :: bs, b % 2 = 1 := fun b hb => by rcases List.mem_cons.1 hb with rfl | hb; exact hmk2; exact hbs6 b hb
    refine U.marks (mk2 :: mk :: bs) m8 hbs8 h8 (fun m9 h9 => ?_)
    refine U.panic rfl ?_
    rw [← hQ]
    refine ⟨σ8, Kn.le_trans hle7' hle8, ?_⟩
    rw [hR8]
    exact ⟨v, rfl, hv, hdropP h9⟩
   · intro mk σ6 K6 L6 m6 hmk hle6 hZ6 h6
     obtain ⟨c6, cv6, rfl, hcv6, hro6, hcl6, hR6⟩ := hZ6
     exact ⟨rfl, hend σ6 K6 c6 cv6 2 (mk :: bs) m6 (by unfold fuelQ at *; omega) (Kn.le_trans hle4 (Kn.le_trans hl5.le hle6)) h6 (fun b hb => by rcases List.mem_cons.1 hb with rfl | hb; exact hmk; exact hbs b hb) hcv6 hro6.cut (by omega) (by omega) (by omega) hR6 _⟩
   intro mk σ6 K6 ch m6 hmk hle6 hP6 h6
   obtain ⟨t', v, rfl, hv, hR6⟩ := hP6
   have hbs' : ∀ b ∈ mk :: bs, b % 2 = 1 := fun b hb => by rcases List.mem_cons.1 hb with rfl | hb; exact hmk; exact hbs b hb
   refine U.marks (mk :: bs) m6 hbs' h6 (fun m7 h7 => ?_)
   refine U.panic rfl ?_
   rw [← hQ]
   refine ⟨σ6, Kn.le_trans hle4 (Kn.le_trans hl5.le hle6), ?_⟩
   rw [hR6]
   exact ⟨v, rfl, hv, hdropP h7⟩
  have hlt : c4.length < 2 := by
   have : ¬ (2 : Int) ≤ c4.length := by simpa using hc
   omega
  apply W.exit
  refine ⟨rfl, ?_⟩
  rw [hJJ]
  exact ⟨σ4, K4, c4, cv4, g4, bs, hle4, h4, hbs, rfl, ⟨hcv4, hl4⟩, by simpa [loopQ, hlt, Qs.bind] using hR4⟩
 obtain ⟨σ4, K4, c4, cv4, g4, bs, hle4, h4, hbs, rfl, ⟨hcv4, hl4⟩, hR4⟩ := (by rw [hJJ] at hJ; exact hJ)
 have hS4 := h4.s
 have hfin : ∀ (fn : Func) (c5 : List Int) (cv5 : Value) (σ5 : Kn) (m5 : Mem) (K5 : Known) (t5 : Tr Value), unwind.results (cfg gl ng) Tryz.f62.results.toList ⟨t5, bs.map markOf, none, m5⟩ = some [cv5] → σ4.le σ5 → Srch gl ng σ0 m0 σ5 m5 (P g4 cv5) (bs.map mkE ++ O) sb av A mb K5 → IntsK σ5 cv5 c5 ∧ c5.length ≤ 1000 → R = .done c5 K5 → U (cfg gl ng) Tryz.f62 none (bs.map markOf) ⟨t5, bs.map markOf, none, m5⟩ Q := by
  intro fn c5 cv5 σ5 m5 K5 t5 hres hle5 h5 hc5' hR5
  refine U.marks bs m5 hbs h5 (fun m6 h6 => ?_)
  have hres2 : unwind.results (cfg gl ng) Tryz.f62.results.toList ⟨t5, bs.map markOf, none, m6⟩ = some [cv5] := by rw [← hres]; rfl
  refine U.ret hres2 rfl ?_
  rw [← hQ, hR5]
  exact ⟨σ5, Kn.le_trans hle4 hle5, _, rfl, hc5', hdropP h6⟩
 by_cases h1 : c4.length = 1
 ·
  have h1' : (c4.length : Int) = 1 := by omega
  have hR5 : runQ tx A ((ask []).bind fun b => .ret (if b then [] else c4)) K4 = R := by simpa [lastQ, h1] using hR4
  rw [runQ_bind] at hR5
  repeat apply W.seq
  apply W.regN; simp [hnt, hfr, hc2 hS4, hc3 hS4, hcv4.len, h1, h1', hfv, hcall]
  refine C.mono (hF [] (.slice none 0 0) σ4 m4 _ _ _ h4 (Kn.le_trans hleb hle4) ⟨0, 0, .inl ⟨rfl, rfl⟩, fun i n h => by simp at h⟩ (by simp)) (fun out m5 ho => ?_)
  obtain ⟨σ5, hle5, hr⟩ := ho
  cases hon : runQ tx A (ask []) K4 with
  | done b K5 =>
   rw [hon] at hr hR5
   obtain ⟨_, rfl, rfl, h5⟩ := hr
   simp [hnt]
   cases b with
   | true =>
    refine W.choose (by simp; rfl) (fun hc => ?_) fun hc => ?_
    · obtain ⟨m6, e6, h6⟩ := hset (.slice none 0 0) (by simp) h5
      apply W.regN; simp [hnt, hfr, e6]
      repeat apply W.seq
      apply W.regN; simp [hnt, hfr, hc2 h6.s]
      apply W.ret
      exact hfin Tryz.f62 [] _ σ5 m6 K5 _ (by simp [unwind.results, Tryz.f62]) hle5 h6 ⟨⟨0, 0, .inl ⟨rfl, rfl⟩, fun i n h => by simp at h⟩, by simp⟩ (by simpa [runQ] using hR5.symm)
    cases hc
   | false =>
    refine W.choose (by simp; rfl) (fun hc => ?_) fun hc => ?_
    · cases hc
    apply W.skip; try simp only [Then, InBlk]
    repeat apply W.seq
    apply W.regN; simp [hnt, hfr, hc2 h5.s]
    apply W.ret
    exact hfin Tryz.f62 c4 _ σ5 m5 K5 _ (by simp [unwind.results, Tryz.f62]) hle5 h5 ⟨hcv4.mono hle5, hl4⟩ (by simpa [runQ] using hR5.symm)
  | stop t' K5 =>
   rw [hon] at hr hR5
   obtain ⟨v, rfl, hv, h5⟩ := hr
   simp [hnt]
   refine U.marks bs m5 hbs h5 (fun m7 h7 => ?_)
   refine U.panic rfl ?_
   rw [← hQ]
   refine ⟨σ5, Kn.le_trans hle4 hle5, ?_⟩
   rw [← hR5]
   exact ⟨v, rfl, hv, hdropP h7⟩
 have h1' : ¬ (c4.length : Int) = 1 := by omega
 have hR5 : R = .done c4 K4 := by rw [← hR4]; simp [lastQ, h1, runQ]
 repeat apply W.seq
 apply W.regN; simp [hnt, hfr, hc2 hS4, hc3 hS4, hcv4.len, h1, h1']
 refine W.choose (by simp; rfl) (fun hc => ?_) fun hc => ?_
 · cases hc
 apply W.skip; try simp only [Then, InBlk]
 repeat apply W.seq
 apply W.regN; simp [hnt, hfr, hc2 hS4]
 apply W.ret
 exact hfin Tryz.f62 c4 _ σ4 m4 K4 _ (by simp [unwind.results, Tryz.f62]) (Kn.le_refl _) h4 ⟨hcv4, hl4⟩ hR5
end Go.Proofs.Lw
namespace Go.Proofs.Lw
open Go Go.Am
variable {g : List RuleD} {ns : List Int}
mutual
theorem depth_le_nodes : ∀ (t : T), depth t ≤ nodes t
 | .mk _ _ ss => by have := dSS_le_nodes ss; simp only [depth, nodes]; omega
theorem dSS_le_nodes : ∀ (ss : List (List T)), dSS ss ≤ nodesSS ss
 | [] => by simp [dSS, nodesSS]
 | l :: r => by have := dSS_le_nodes r; have := dL_le_nodes l; simp only [dSS, nodesSS]; omega
theorem dL_le_nodes : ∀ (l : List T), dL l ≤ nodesL l
 | [] => by simp [dL, nodesL]
 | t :: r => by have := dL_le_nodes r; have := depth_le_nodes t; simp only [dL, nodesL]; omega
end
mutual
theorem wt_le (hr : RulesOk g) : ∀ {t : T}, OkN g t → wt t ≤ 9 * nodes t
 | .mk k tx ss, h => by
  simp only [OkN] at h
  obtain ⟨⟨r, hn⟩, h2⟩ := h
  have h3 := wtSS_le hr h2
  have h4 := (hr.rules r (List.mem_of_getElem? hn.rule)).few
  have h5 := hn.len
  simp only [wt, nodes]; omega
theorem wtSS_le (hr : RulesOk g) : ∀ {ss : List (List T)}, OkSS g ss → wtSS ss ≤ ss.length + 9 * nodesSS ss
 | [], _ => by simp [wtSS]
 | l :: r, h => by
  simp only [OkSS] at h
  have := wtL_le hr h.1
  have := wtSS_le hr h.2
  simp only [wtSS, nodesSS, List.length_cons]; omega
theorem wtL_le (hr : RulesOk g) : ∀ {l : List T}, OkL g l → wtL l ≤ 9 * nodesL l
 | [], _ => by simp [wtL]
 | t :: r, h => by
  simp only [OkL] at h
  have := wt_le hr h.1
  have := wtL_le hr h.2
  simp only [wtL, nodesL]; omega
end
mutual
theorem below_depth : ∀ {t : T} {d : Nat}, ∀ e ∈ below g t d, e.2.2 < d + depth t
 | .mk k tx ss, d => by
  intro e he
  simp only [below] at he
  have := belowSS_depth e he
  simp only [depth]; omega
theorem belowSS_depth : ∀ {ss : List (List T)} {sl : List SlotD} {d : Nat}, ∀ e ∈ belowSS g ss sl d, e.2.2 < d + dSS ss
 | [], _, d => by intro e he; simp [belowSS] at he
 | _ :: _, [], d => by intro e he; simp [belowSS] at he
 | l :: r, s :: sl, d => by
  intro e he
  simp only [belowSS, List.mem_append] at he
  simp only [dSS]
  rcases he with he | he
  · have := belowL_depth e he; omega
  have := belowSS_depth e he; omega
theorem belowL_depth : ∀ {l : List T} {s : SlotD} {d : Nat}, ∀ e ∈ belowL g l s d, e.2.2 < d + dL l
 | [], _, d => by intro e he; simp [belowL] at he
 | t :: r, s, d => by
  intro e he
  simp only [belowL, List.mem_cons, List.mem_append] at he
  simp only [dL]
  rcases he with rfl | he | he
  · have : 1 ≤ depth t := by obtain ⟨k, tx, ss⟩ := t; simp only [depth]; omega
    simp only; omega
  · have := below_depth e he; omega
  have := belowL_depth e he; omega
end
theorem kind_least (N k : Nat) : kindT (leastT g (pickR ns) N k) = k := by
 cases N with
 | zero => rfl
 | succ N =>
  simp only [leastT]
  split <;> rfl
theorem least_ok (h : MinL g ns) (hr : RulesOk g) : ∀ (N k : Nat), k < g.length → at' ns k ≤ N → OkN g (leastT g (pickR ns) N k) := by
 intro N
 induction N with
 | zero => intro k hk h1; have := h.rng k hk; omega
 | succ N ih =>
  intro k hk h1
  have hrk : g[k]? = some g[k] := by simp [hk]
  obtain ⟨p1, p2⟩ := (h.fixed hr).sum hrk (by have := h.rng k hk; omega)
  simp only [leastT, hrk]
  generalize g[k] = r at *
  simp only [OkN]
  refine ⟨⟨r, ⟨by omega, by simpa using hrk, by simp, fun hn => absurd rfl hn, by simp, fun i s l hs hl => ?_⟩⟩, ?_⟩
  ·
   rw [List.getElem?_map, hs] at hl
   simp only [Option.map_some, Option.some.injEq] at hl
   subst hl
   have hsm := List.mem_of_getElem? hs
   by_cases hm : s.many = 0
   · obtain ⟨q1, q2, q3, q4⟩ := p1 s hsm hm
     rw [if_pos hm]
     refine ⟨fun _ => rfl, fun _ => by simp, fun x hx => ?_⟩
     simp only [List.mem_singleton] at hx
     subst hx
     rw [kind_least, Int.toNat_of_nonneg q1]; exact q4
   rw [if_neg hm]
   exact ⟨fun h => absurd h hm, fun _ => by simp, fun x hx => by simp at hx⟩
  rw [OkSS_iff]
  intro l hl x hx
  obtain ⟨s, hsm, rfl⟩ := List.mem_map.1 hl
  by_cases hm : s.many = 0
  ·
   obtain ⟨q1, q2, q3, q4⟩ := p1 s hsm hm
   rw [if_pos hm] at hx
   simp only [List.mem_singleton] at hx
   subst hx
   have := sumR_mem h.good hsm hm
   exact ih _ (by omega) (by rw [Int.toNat_of_nonneg q1]; omega)
  rw [if_neg hm] at hx; simp at hx
structure LeastOk (g : List RuleD) (ns : List Int) (s : SlotD) : Prop where
 ok : OkN g (leastD ns g s)
 kind : kindT (leastD ns g s) ∈ s.kinds
 nodes : (nodes (leastD ns g s) : Int) = at' ns (pickR ns s)
theorem leastD_ok (h : MinL g ns) (hr : RulesOk g) {s : SlotD} (hs : SlotOk g.length s) : LeastOk g ns s := by
 have hp := h.pick hs
 have hmem := low_mem (sizes := ns) hs.some
 rw [← hp] at hmem
 have hk := hs.rise.kinds _ hmem
 obtain ⟨kn, hkn⟩ : ∃ kn : Nat, pickR ns s = kn := ⟨(pickR ns s).toNat, by omega⟩
 have hkl : kn < g.length := by omega
 have hrg := h.rng kn hkl
 refine ⟨?_, ?_, ?_⟩
 · unfold leastD; rw [hkn, Int.toNat_natCast]; exact least_ok h hr 1024 kn hkl (by omega)
 · unfold leastD; rw [kind_least, hkn, Int.toNat_natCast, ← hkn]; exact hmem
 unfold leastD; rw [hkn, Int.toNat_natCast]; exact ((h.fixed hr).size 1024 kn (by omega) (by omega)).2
variable {out : List Int}
theorem kind_prun (least : SlotD → T) (t : T) (n : Nat) : kindT (prunT g least out t n) = kindT t := by
 obtain ⟨k, tx, ss⟩ := t; rfl
mutual
theorem prun_ok (h : MinL g ns) (hr : RulesOk g) : ∀ {t : T} {n : Nat}, OkN g t → OkN g (prunT g (leastD ns g) out t n)
 | .mk k tx ss, n, ht => by
  simp only [OkN] at ht
  obtain ⟨⟨r, hn⟩, h2⟩ := ht
  have e : slotsOf g k = r.slots := by simp only [slotsOf, hn.rule]
  have hru := hr.rules r (List.mem_of_getElem? hn.rule)
  simp only [prunT, OkN, e]
  obtain ⟨q1, q2⟩ := prunSS_ok h hr (n := n + 1) h2 hru.slots hn.len hn.fit
  exact ⟨⟨r, ⟨hn.pos, hn.rule, hn.text, hn.leaf, by rw [prunSS_len hn.len]; exact hn.len, q2⟩⟩, q1⟩
theorem prunSS_ok (h : MinL g ns) (hr : RulesOk g) : ∀ {ss : List (List T)} {sl : List SlotD} {n : Nat}, OkSS g ss → (∀ s ∈ sl, SlotOk g.length s) → ss.length = sl.length →
 (∀ (i : Nat) (s : SlotD) (l : List T), sl[i]? = some s → ss[i]? = some l → SlotFit s l) → OkSS g (prunSS g (leastD ns g) out ss sl n) ∧ (∀ (i : Nat) (s : SlotD) (l : List T), sl[i]? = some s → (prunSS g (leastD ns g) out ss sl n)[i]? = some l → SlotFit s l)
 | [], _, n, _, _, _, _ => by simp [prunSS, OkSS]
 | _ :: _, [], n, _, _, hl, _ => by simp at hl
 | l :: r, s :: sl, n, h1, h2, hl, hf => by
  simp only [OkSS] at h1
  obtain ⟨i1, i2⟩ := prunSS_ok h hr (n := n + nodesL l) h1.2 (fun x hx => h2 x (List.mem_cons_of_mem _ hx)) (by simpa using hl) (fun i s' l' a b => hf (i + 1) s' l' (by simpa using a) (by simpa using b))
  obtain ⟨j1, j2⟩ := prunL_ok h hr (n := n) h1.1 (h2 s (by simp))
  simp only [prunSS, OkSS]
  refine ⟨⟨j1, i1⟩, fun i s' l' a b => ?_⟩
  cases i with
  | zero =>
   simp at a b
   subst a; subst b
   have h0 := hf 0 s l (by simp) (by simp)
   refine ⟨fun hm => ?_, fun hm => ?_, fun x hx => j2 x hx h0.kinds⟩
   · have h1' := h0.one hm
     match l, h1' with
     | [t], _ =>
      simp only [prunL, List.append_nil, hm, if_true]
      split <;> simp
   have := h0.maybe hm
   have := prunL_len (g := g) (least := leastD ns g) (out := out) (l := l) (s := s) (n := n)
   omega
  | succ i => exact i2 i s' l' (by simpa using a) (by simpa using b)
theorem prunL_ok (h : MinL g ns) (hr : RulesOk g) : ∀ {l : List T} {s : SlotD} {n : Nat}, OkL g l → SlotOk g.length s → OkL g (prunL g (leastD ns g) out l s n) ∧ (∀ x ∈ prunL g (leastD ns g) out l s n, (∀ y ∈ l, kindT y ∈ s.kinds) → kindT x ∈ s.kinds)
 | [], s, n, _, _ => by simp [prunL, OkL]
 | t :: r, s, n, h1, hs => by
  simp only [OkL] at h1
  obtain ⟨i1, i2⟩ := prunL_ok h hr (n := n + nodes t) h1.2 hs
  have hlo := leastD_ok h hr hs
  have ht := prun_ok h hr (n := n) h1.1
  simp only [prunL]
  rw [OkL_iff] at i1 ⊢
  refine ⟨fun x hx => ?_, fun x hx hk => ?_⟩
  ·
   rcases List.mem_append.1 hx with hx | hx
   · split at hx
     · split at hx
       · simp only [List.mem_singleton] at hx; subst hx; exact hlo.ok
       simp at hx
     simp only [List.mem_singleton] at hx; subst hx; exact ht
   exact i1 x hx
  rcases List.mem_append.1 hx with hx | hx
  · split at hx
    · split at hx
      · simp only [List.mem_singleton] at hx; subst hx; exact hlo.kind
      simp at hx
    simp only [List.mem_singleton] at hx; subst hx; rw [kind_prun]; exact hk t (by simp)
  exact i2 x hx (fun y hy => hk y (by simp [hy]))
end
theorem nodesL_app : ∀ (a b : List T), nodesL (a ++ b) = nodesL a + nodesL b
 | [], b => by simp [nodesL]
 | t :: a, b => by simp only [List.cons_append, nodesL]; rw [nodesL_app a b]; omega
def CanAll (ns out : List Int) (l : List SpotD) (n : Nat) : Prop := ∀ (j : Nat) (e : SpotD), l[j]? = some e → ((n + j : Nat) : Int) ∈ out → canD ns e = true
def Hits (out : List Int) (n len : Nat) : Prop := ∃ x : Nat, (x : Int) ∈ out ∧ n ≤ x ∧ x < n + len
theorem CanAll.left {l r : List SpotD} {n : Nat} (h : CanAll ns out (l ++ r) n) : CanAll ns out l n := fun j e he => h j e (by rw [List.getElem?_append_left (lt_of_get he)]; exact he)
theorem CanAll.right {l r : List SpotD} {n m : Nat} (h : CanAll ns out (l ++ r) n) (hm : m = n + l.length) : CanAll ns out r m := fun j e he ho => h (l.length + j) e (by rw [List.getElem?_append_right (by omega)]; simpa using he) (by rw [← Nat.add_assoc, ← hm]; exact ho)
theorem CanAll.tail {x : SpotD} {l : List SpotD} {n : Nat} (h : CanAll ns out (x :: l) n) : CanAll ns out l (n + 1) := fun j e he ho => h (j + 1) e (by simpa using he) (by rw [show n + (j + 1) = n + 1 + j by omega]; exact ho)
mutual
theorem prun_nodes (h : MinL g ns) (hr : RulesOk g) : ∀ {t : T} {n d : Nat}, OkN g t → CanAll ns out (below g t d) (n + 1) →
 nodes (prunT g (leastD ns g) out t n) ≤ nodes t ∧ (Hits out (n + 1) (nodes t - 1) → nodes (prunT g (leastD ns g) out t n) < nodes t)
 | .mk k tx ss, n, d, ht, hc => by
  simp only [OkN] at ht
  obtain ⟨⟨r, hn⟩, h2⟩ := ht
  have e : slotsOf g k = r.slots := by simp only [slotsOf, hn.rule]
  have hru := hr.rules r (List.mem_of_getElem? hn.rule)
  simp only [below, e] at hc
  simp only [prunT, nodes, e]
  obtain ⟨q1, q2⟩ := prunSS_nodes h hr (n := n + 1) (d := d + 1) h2 hru.slots hn.len hc
  refine ⟨by omega, fun hh => ?_⟩
  have := q2 (by rw [show 1 + nodesSS ss - 1 = nodesSS ss by omega] at hh; exact hh)
  omega
theorem prunSS_nodes (h : MinL g ns) (hr : RulesOk g) : ∀ {ss : List (List T)} {sl : List SlotD} {n d : Nat}, OkSS g ss → (∀ s ∈ sl, SlotOk g.length s) → ss.length = sl.length → CanAll ns out (belowSS g ss sl d) n →
 nodesSS (prunSS g (leastD ns g) out ss sl n) ≤ nodesSS ss ∧ (Hits out n (nodesSS ss) → nodesSS (prunSS g (leastD ns g) out ss sl n) < nodesSS ss)
 | [], _, n, d, _, _, _, _ => by
  simp only [prunSS, nodesSS]
  exact ⟨Nat.le_refl _, fun ⟨x, _, h1, h2⟩ => by omega⟩
 | _ :: _, [], n, d, _, _, hl, _ => by simp at hl
 | l :: r, s :: sl, n, d, h1, h2, hl, hc => by
  simp only [OkSS] at h1
  simp only [belowSS] at hc
  have hll := belowL_len (s := s) (d := d) h1.1
  obtain ⟨i1, i2⟩ := prunSS_nodes h hr (n := n + nodesL l) (d := d) h1.2 (fun x hx => h2 x (List.mem_cons_of_mem _ hx)) (by simpa using hl) (hc.right (by rw [hll]))
  obtain ⟨j1, j2⟩ := prunL_nodes h hr (n := n) (d := d) h1.1 (h2 s (by simp)) hc.left
  simp only [prunSS, nodesSS]
  refine ⟨by omega, fun ⟨x, hx, hx1, hx2⟩ => ?_⟩
  by_cases hxl : x < n + nodesL l
  · have := j2 ⟨x, hx, hx1, hxl⟩; omega
  have := i2 ⟨x, hx, by omega, by omega⟩; omega
theorem prunL_nodes (h : MinL g ns) (hr : RulesOk g) : ∀ {l : List T} {s : SlotD} {n d : Nat}, OkL g l → SlotOk g.length s → CanAll ns out (belowL g l s d) n →
 nodesL (prunL g (leastD ns g) out l s n) ≤ nodesL l ∧ (Hits out n (nodesL l) → nodesL (prunL g (leastD ns g) out l s n) < nodesL l)
 | [], s, n, d, _, _, _ => by
  simp only [prunL, nodesL]
  exact ⟨Nat.le_refl _, fun ⟨x, _, h1, h2⟩ => by omega⟩
 | t :: r, s, n, d, h1, hs, hc => by
  simp only [OkL] at h1
  simp only [belowL] at hc
  have hbl := below_len (d := d) h1.1
  have hc2 : CanAll ns out (below g t d) (n + 1) := hc.tail.left
  have hc3 : CanAll ns out (belowL g r s d) (n + nodes t) := hc.tail.right (by omega)
  obtain ⟨i1, i2⟩ := prunL_nodes h hr (n := n + nodes t) (d := d) h1.2 hs hc3
  obtain ⟨j1, j2⟩ := prun_nodes h hr (n := n) (d := d) h1.1 hc2
  have hnp := nodes_pos t
  simp only [prunL, nodesL]
  rw [nodesL_app]
  by_cases ho : isOut out n = true
  ·
   rw [if_pos ho]
   have hcan := hc 0 (t, s, d) rfl (by simpa [isOut] using ho)
   have hlt : nodesL (if s.many = 0 then [leastD ns g s] else []) < nodes t := by
    by_cases hm : s.many = 0
    · rw [if_pos hm]
      have hlo := (leastD_ok h hr hs).nodes
      simp only [canD, hm, ne_eq, not_true_eq_false, decide_false, Bool.false_or, decide_eq_true_eq] at hcan
      simp only [nodesL]; omega
    rw [if_neg hm]; simp only [nodesL]; omega
   exact ⟨by omega, fun _ => by omega⟩
  rw [if_neg ho]
  simp only [nodesL, Nat.add_zero]
  refine ⟨by omega, fun ⟨x, hx, hx1, hx2⟩ => ?_⟩
  have hne : x ≠ n := fun e => ho (by subst e; simpa [isOut] using hx)
  by_cases hxl : x < n + nodes t
  · have := j2 ⟨x, hx, by omega, by omega⟩; omega
  have := i2 ⟨x, hx, by omega, by omega⟩; omega
end
end Go.Proofs.Lw
