/-
  PROVED here: steps on the way to the card of 'sleuthlaw06.ReduceTreeMinimal' (an abstract machine, its soundness, what each function computes). No conditions beyond those that each theorem states.
-/
import Derived.Test.YtfgpboldklboaaaGreatDoorAm35
namespace Go.Proofs.Lw
open Go Go.Am
set_option maxRecDepth 8000
variable {gl : Nat → Nat → Option Value} {ng : Nat} {g : List RuleD} {ns : List Int}
theorem is41 : Am.isAgg (cfg gl ng).toEnv 41 = some true := by kernel_rfl
def TreeR9 (A : List Int) (r : Res (Option T)) (σ' : Kn) (v : Value) : Prop := match r with
 | .done none _ => v = .tuple #[.agg #[.bool false, .int .i64 0, .string .empty, .slice none 0 0], .int .i64 7]
 | .done (some t) K' => if K'.length < A.length then v = .tuple #[.agg #[.bool false, .int .i64 0, .string .empty, .slice none 0 0], .int .i64 8]
  else ∃ x y z, v = .tuple #[.agg #[.bool true, x, y, z], .int .i64 0] ∧ TreeK σ' (.agg #[x, y, z]) t
 | .stop t _ => ∃ x y z, v = .tuple #[.agg #[.bool false, x, y, z], .int .i64 0] ∧ TreeK σ' (.agg #[x, y, z]) t
theorem f9_ok {σ : Kn} {m : Mem} {rv tv av : Value} {A : List Int} {t : T} (hw : WF m) (hh : Holds (cfg gl ng).toEnv σ m) (hg : RulesV σ rv g) (hmin : MinL g ns) (hgr : OkG g) (ht : TreeK σ tv t) (hok : GoodT g t) (hav : VersK σ av A) (hA : A.length ≤ 4096) :
 Ct gl ng 9 [.agg #[rv], tv, av] σ m (TreeR9 A (runQ (textG g) A (treeQ g ns t) [])) := by
 refine Ct.of (c := _) Tryz.func9 rfl 43 rfl (fun c' hnt => ?_)
 generalize hR : runQ (textG g) A (treeQ g ns t) [] = R
 obtain ⟨bg, og, hg1, _⟩ := id hg
 have hru := hgr.rules
 have hS := S.start hw hh
 have ht0 := ht
 obtain ⟨x, y, z, rfl, px, py, pz⟩ := ht.agg
 obtain ⟨m1, nb3, hbx1, hS1⟩ := hS.box 24 #[rv] (by simp [hg1.plain])
 obtain ⟨m2, nb4, hbx2, hS2⟩ := hS1.box 27 #[x, y, z] (by simp [px, py, pz])
 have hS3 := hS2.new (vs := [.bool false, .int .i64 0, .string .empty, .slice none 0 0]) 41 (by simp)
 repeat apply W.seq
 apply W.regN; simp [hnt, hbx1, hbx2]
 generalize m2.new (.cells (cellsOf [.bool false, .int .i64 0, .string .empty, .slice none 0 0] 41)) = m3 at *
 generalize m2.nb = nb6 at *
 have hwt := hok.wt hru
 have hokt : OkTree g t := ⟨hgr, by have := hok.few; omega, by have := hok.deep; omega, hok.ok⟩
 repeat apply W.seq
 apply W.regN; simp [hnt, hS3.c1, hS3.c2]
 refine Ct.use (f25_ok hS3.wf hS3.holds hg ht0 hwt hokt) (fun σ4 v4 m4 hl4 hv4 => ?_)
 subst hv4
 have hS4 := hS3.grow hl4.grow
 simp [hnt]
 repeat apply W.seq
 apply W.regN; simp [hnt]
 refine W.choose (by simp; rfl) (fun hc => ?_) fun hc => ?_
 · cases hc
 apply W.skip; try simp only [Then, InBlk]
 repeat apply W.seq
 apply W.regN; simp [hnt, hS4.c1]
 refine Ct.use (f26_ok (wt t) t σ m4 _ (Nat.le_refl _) (by omega) hS4.wf hS4.holds ht0) (fun σ5 v5 m5 hl5 hv5 => ?_)
 obtain ⟨x5, y5, z5, rfl, px5, py5, pz5⟩ := hv5.agg
 have hS5 := hS4.learn' hl5
 obtain ⟨m6, e6, hS6⟩ := hS5.var 27 [.int .i64 0, .string .empty, .slice none 0 0] [x5, y5, z5] (by simp) (by simp [px5, py5, pz5]) rfl
 simp [hnt, e6]
 generalize m5.nb = nb9 at *
 obtain ⟨σ7, hle7, hS7, hn7⟩ := hS6.freeze (i := 3) rfl
 simp only [List.eraseIdx_cons_succ, List.eraseIdx_cons_zero] at hS7
 have hle : σ.le σ7 := Kn.le_trans hl5.le hle7
 have kg : σ7 nb3 0 = some rv := (hn7 0).trans rfl
 have hmk28 : opMakeFunc (.func 28) #[] #[.pointer (some ⟨nb3, 0, none⟩), .pointer (some ⟨nb9, 0, none⟩)] m6 = .value (.func (.func 28) #[] #[.pointer (some ⟨nb3, 0, none⟩), .pointer (some ⟨nb9, 0, none⟩)]) m6 := rfl
 repeat apply W.seq
 apply W.regN; simp [hnt, hmk28]
 refine C.mono (f27_ok (ns := ns) hS7 (hav.mono hle) hA (hg.mono hle) kg hru hmin (hv5.mono hle7) hok) (fun out m8 ho => ?_)
 rw [hR] at ho
 obtain ⟨σ8, x8, y8, z8, hle8, hS8, hr⟩ := ho
 cases hRc : R with
 | stop t' K' =>
  rw [hRc] at hr
  obtain ⟨v, rfl, hv⟩ := hr
  obtain ⟨x9, y9, z9, rfl, px9, py9, pz9⟩ := hv.agg
  have hall := (treeQ_all hmin hru hok).run (tx := textG g) (V := A) (K := [])
  rw [hR, hRc] at hall
  have hgt : GoodT g t' := hall
  have hwt' := hgt.wt hru
  obtain ⟨m9, e9, hS9⟩ := hS8.var 27 [.int .i64 0, .string .empty, .slice none 0 0] [x9, y9, z9] (by simp) (by simp [px9, py9, pz9]) rfl
  simp [hnt, e9]
  generalize m8.nb = nb10 at *
  repeat apply W.seq
  apply W.block
  repeat apply W.seq
  apply W.regN; simp [hnt]
  refine W.choose (by simp; rfl) (fun hc => ?_) fun hc => ?_
  · cases hc
  repeat apply W.seq
  apply W.regN; simp [hnt]
  refine W.choose (by simp; rfl) (fun hc => ?_) fun hc => ?_
  ·
   repeat apply W.seq
   apply W.regN; simp [hnt, hS9.c0]
   refine Ct.use (f26_ok (wt t') t' σ8 m9 _ (Nat.le_refl _) (by omega) hS9.wf hS9.holds hv) (fun σ10 v10 m10 hl10 hv10 => ?_)
   obtain ⟨xa, ya, za, rfl, pxa, pya, pza⟩ := hv10.agg
   have hS10 := hS9.learn' hl10
   obtain ⟨m11, e11, hS11⟩ := hS10.setAll (i := 2) rfl (vs := [.bool false, xa, ya, za]) rfl (by simp [pxa, pya, pza])
   have hbu1 := K.bu41_1 (gl := gl) (ng := ng) (m := m10) (x1_0 := xa) (x1_1 := ya) (x1_2 := za)
   simp [hnt, hbu1, e11]
   apply W.ret; try simp only [Then, InBlk]
   refine ⟨.inr rfl, rfl, rfl, _, by simp [unwind.results, Tryz.f9, addrOf, loadV, is41, K.sz41, Mem.loadN, hS11.c2]; rfl, _, hS11.learn, ?_⟩
   exact ⟨xa, ya, za, rfl, hv10⟩
  cases hc
 | done o K' =>
  rw [hRc] at hr
  cases o with
  | none =>
   subst hr
   obtain ⟨m9, e9, hS9⟩ := hS8.var 27 [.int .i64 0, .string .empty, .slice none 0 0] [.int .i64 0, .string .empty, .slice none 0 0] (by simp) (by simp) rfl
   simp [hnt, e9]
   generalize m8.nb = nb10 at *
   repeat apply W.seq
   apply W.block
   repeat apply W.seq
   apply W.regN; simp [hnt]
   refine W.choose (by simp; rfl) (fun hc => ?_) fun hc => ?_
   · obtain ⟨m11, e11, hS11⟩ := hS9.setAll (i := 2) rfl (vs := [.bool false, .int .i64 0, .string .empty, .slice none 0 0]) rfl (by simp)
     repeat apply W.seq
     apply W.regN; simp [hnt, e11]
     apply W.ret; try simp only [Then, InBlk]
     refine ⟨.inr rfl, rfl, rfl, _, by simp [unwind.results, Tryz.f9, addrOf, loadV, is41, K.sz41, Mem.loadN, hS11.c2]; rfl, _, hS11.learn, ?_⟩
     rfl
   cases hc
  | some t' =>
   by_cases hlt : K'.length < A.length
   ·
    simp only [if_pos hlt] at hr
    subst hr
    obtain ⟨m9, e9, hS9⟩ := hS8.var 27 [.int .i64 0, .string .empty, .slice none 0 0] [.int .i64 0, .string .empty, .slice none 0 0] (by simp) (by simp) rfl
    simp [hnt, e9]
    generalize m8.nb = nb10 at *
    repeat apply W.seq
    apply W.block
    repeat apply W.seq
    apply W.regN; simp [hnt]
    refine W.choose (by simp; rfl) (fun hc => ?_) fun hc => ?_
    · obtain ⟨m11, e11, hS11⟩ := hS9.setAll (i := 2) rfl (vs := [.bool false, .int .i64 0, .string .empty, .slice none 0 0]) rfl (by simp)
      repeat apply W.seq
      apply W.regN; simp [hnt, e11]
      apply W.ret; try simp only [Then, InBlk]
      refine ⟨.inr rfl, rfl, rfl, _, by simp [unwind.results, Tryz.f9, addrOf, loadV, is41, K.sz41, Mem.loadN, hS11.c2]; rfl, _, hS11.learn, ?_⟩
      simp only [TreeR9, if_pos hlt]
      rfl
    cases hc
   simp only [if_neg hlt] at hr
   obtain ⟨rfl, ht'⟩ := hr
   have hall := (treeQ_all hmin hru hok).run (tx := textG g) (V := A) (K := [])
   rw [hR, hRc] at hall
   have hgt : GoodT g t' := (hall t' rfl).1
   have hwt' := hgt.wt hru
   obtain ⟨m9, e9, hS9⟩ := hS8.var 27 [.int .i64 0, .string .empty, .slice none 0 0] [.int .i64 0, .string .empty, .slice none 0 0] (by simp) (by simp) rfl
   simp [hnt, e9]
   generalize m8.nb = nb10 at *
   repeat apply W.seq
   apply W.block
   repeat apply W.seq
   apply W.regN; simp [hnt]
   refine W.choose (by simp; rfl) (fun hc => ?_) fun hc => ?_
   · cases hc
   repeat apply W.seq
   apply W.regN; simp [hnt]
   refine W.choose (by simp; rfl) (fun hc => ?_) fun hc => ?_
   · cases hc
   apply W.skip; try simp only [Then, InBlk]
   repeat apply W.seq
   apply W.regN; simp [hnt, hS9.c1]
   refine Ct.use (f26_ok (wt t') t' σ8 m9 _ (Nat.le_refl _) (by omega) hS9.wf hS9.holds ht') (fun σ10 v10 m10 hl10 hv10 => ?_)
   obtain ⟨xa, ya, za, rfl, pxa, pya, pza⟩ := hv10.agg
   have hS10 := hS9.learn' hl10
   obtain ⟨m11, e11, hS11⟩ := hS10.setAll (i := 2) rfl (vs := [.bool true, xa, ya, za]) rfl (by simp [pxa, pya, pza])
   have hbu1 := K.bu41_0_1 (gl := gl) (ng := ng) (m := m10) (x0 := .bool true) (x1_0 := xa) (x1_1 := ya) (x1_2 := za) (by simp)
   simp [hnt, hbu1, e11]
   apply W.ret
   refine ⟨.inr rfl, rfl, rfl, _, by simp [unwind.results, Tryz.f9, addrOf, loadV, is41, K.sz41, Mem.loadN, hS11.c2]; rfl, _, hS11.learn, ?_⟩
   simp only [TreeR9, if_neg hlt]
   exact ⟨xa, ya, za, rfl, hv10⟩
end Go.Proofs.Lw
namespace Go.Proofs.Lw
open Go Go.Am
variable {gl : Nat → Nat → Option Value} {ng : Nat}
theorem f8_C (m : Mem) : C (cfg gl ng) 8 [] m (fun out m' => out = .returned (.bool true) ∧ m' = m) := by
 refine ⟨1, _, _, fun n hn => ?_, rfl, rfl⟩
 obtain ⟨k, rfl⟩ : ∃ k, n = k + 1 := ⟨n - 1, by omega⟩
 unfold call
 rfl
end Go.Proofs.Lw
namespace Go.Proofs.Lw
open Go Go.Am
set_option maxRecDepth 8000
variable {gl : Nat → Nat → Option Value} {ng : Nat} {g : List RuleD} {ns : List Int}
theorem bs39 {m : Mem} {v : Value} (hv : plainV v = true) : opBuildSlice (cfg gl ng).toEnv 39 1 [(0, v)] m = .value (.slice (some ⟨m.nb, 0, none⟩) 1 (mkCap 1 true)) (m.new (.cells (cellsOf [v] 9))) :=
 bs_one (z := .string .empty) (by kernel_rfl) (by kernel_rfl) (by kernel_rfl) (by kernel_rfl) rfl hv
theorem bs38 {m : Mem} {v : Value} (hv : plainV v = true) : opBuildSlice (cfg gl ng).toEnv 38 1 [(0, v)] m = .value (.slice (some ⟨m.nb, 0, none⟩) 1 (mkCap 1 true)) (m.new (.cells (cellsOf [v] 46))) :=
 bs_one (z := .int .u8 0) (by kernel_rfl) (by kernel_rfl) (by kernel_rfl) (by kernel_rfl) rfl hv
theorem S.app1 {t e : TypeId} (hu : und (cfg gl ng).toEnv t = some (.slice e)) (hi : (((cfg gl ng).toEnv.P.info? e).map fun i => elemOk (cfg gl ng).toEnv e i && decide (i.size = 1)) = some true) (hx : srcOk (cfg gl ng).toEnv (some t) = true)
 {σ0 σ : Kn} {m0 m : Mem} {L1 B L2 : List (Nat × Cl)} (h : S (cfg gl ng).toEnv σ0 m0 σ m (L1 ++ (B ++ L2))) {s v : Value} {len : Nat} {vs : List Value} (hB : BldV e 1 s len vs B) (hv : plainV v = true) (hl : len < 1048576) :
 ∃ s' m' B', opAppend (cfg gl ng).toEnv t (some t) s (.slice (some ⟨m.nb, 0, none⟩) 1 (mkCap 1 true)) (m.new (.cells (cellsOf [v] e))) = .value s' m' ∧ S (cfg gl ng).toEnv σ0 m0 σ m' (L1 ++ (B' ++ L2)) ∧ BldV e 1 s' (len + 1) (vs ++ [v]) B' := by
 have h1 := h.new (vs := [v]) e (by simp [hv])
 obtain ⟨s', m', B', e', h2, h3⟩ := app_ok hu hi hx (L1 := (m.nb, ⟨[v], none⟩) :: L1) h1 hB (x := .slice (some ⟨m.nb, 0, none⟩) 1 (mkCap 1 true)) (n := 1) (new := [v]) (.inr ⟨_, 0, _, rfl, fun j x hj => by rw [Nat.zero_add, h1.c0]; exact hj⟩) rfl (by simp [hv]) (by omega)
 exact ⟨s', m', B', e', h2.drop (List.sublist_cons_self _ _), h3⟩
theorem BldV.at {e : TypeId} {σ0 σ : Kn} {m0 m : Mem} {L1 B L2 : List (Nat × Cl)} (h : S (cfg gl ng).toEnv σ0 m0 σ m (L1 ++ (B ++ L2))) {s : Value} {len : Nat} {vs : List Value} (hB : BldV e 1 s len vs B) :
 ∃ b, SliceAt s len b 0 ∧ ∀ i v, vs[i]? = some v → m.load (cfg gl ng).toEnv b i = some v := by
 obtain ⟨hl, ⟨rfl, rfl, rfl⟩ | ⟨b, rfl, rfl⟩ | ⟨b, rfl, rfl⟩⟩ := hB
 · have : vs = [] := List.eq_nil_of_length_eq_zero (by simpa using hl)
   subst this
   exact ⟨0, .inl ⟨rfl, rfl⟩, fun i v hi => by simp at hi⟩
 · exact ⟨b, .inr ⟨_, rfl⟩, fun i v hi => by rw [S.mem h (b := b) (k := ⟨vs, some e⟩) (by simp)]; exact hi⟩
 exact ⟨b, .inr ⟨_, rfl⟩, fun i v hi => by rw [S.mem h (b := b) (k := ⟨vs, none⟩) (by simp)]; exact hi⟩
mutual
theorem deepT_wt : ∀ (t : T) (l : Int), 0 ≤ deepT t l → (wt t : Int) + 13 * deepT t l ≤ 13 * l
 | .mk _ tx ss, l, h => by
  simp only [deepT] at h ⊢
  split at h
  · omega
  rename_i hc
  rw [if_neg hc]
  have := deepSS_wt ss (l - 1) h
  simp only [wt]
  have : (ss.length : Int) ≤ 12 := by omega
  omega
theorem deepSS_wt : ∀ (ss : List (List T)) (l : Int), 0 ≤ deepSS ss l → (wtSS ss : Int) + 13 * deepSS ss l ≤ ss.length + 13 * l
 | [], l, h => by simp [deepSS, wtSS]
 | x :: r, l, h => by
  simp only [deepSS] at h ⊢
  have h1 : 0 ≤ deepL x l := by
   rcases Int.lt_or_le (deepL x l) 0 with h2 | h2
   · rw [deepSS_neg h2] at h; omega
   exact h2
  have := deepL_wt x l h1
  have := deepSS_wt r _ h
  simp only [wtSS, List.length_cons]
  omega
theorem deepL_wt : ∀ (x : List T) (l : Int), 0 ≤ deepL x l → (wtL x : Int) + 13 * deepL x l ≤ 13 * l
 | [], l, h => by simp [deepL, wtL]
 | t :: r, l, h => by
  simp only [deepL] at h ⊢
  split at h
  · omega
  rename_i hc
  rw [if_neg hc]
  have h1 : 0 ≤ deepT t l := by
   rcases Int.lt_or_le (deepT t l) 0 with h2 | h2
   · rw [deepL_neg h2] at h; omega
   exact h2
  have := deepT_wt t l h1
  have := deepL_wt r _ h
  simp only [wtL]
  omega
end
theorem NotHuge.wt {t : T} (h : NotHuge g t) : Lw.wt t < 1048575 := by
 have := deepT_wt t 30 h.t1
 have := h.t1
 omega
theorem Holds.le {E : Env} {σ : Kn} {m : Mem} (h : Holds E σ m) : σ.le (m.load E) := h
theorem OrK.mono {σ σ' : Kn} (h : σ.le σ') {v : Value} {o : OracleD} (ho : OrK σ v o) : OrK σ' v o := by
 obtain ⟨nv, bv, rfl, h1, h2⟩ := ho
 exact ⟨nv, bv, rfl, h1.mono h, h2.mono h⟩
def allK (o : OracleD) (g : List RuleD) (ns : List Int) (t : T) : Known := goQ (textG g) (sayD o) (treeQ g ns t) []
def ansA (o : OracleD) (K : Known) : List Int := K.map fun p => sayD o p.1
theorem tree_run {o : OracleD} {t : T} {n : Nat} (hn : n ≤ (allK o g ns t).length) :
 (n < (allK o g ns t).length → ∃ u p, runQ (textG g) (ansA o ((allK o g ns t).take n)) (treeQ g ns t) [] = .stop u ((allK o g ns t).take n) ∧ (allK o g ns t)[n]? = some p ∧ textG g u = p.1) ∧
 (n = (allK o g ns t).length → runQ (textG g) (ansA o ((allK o g ns t).take n)) (treeQ g ns t) [] = .done (evalQ (failT (textG g) (sayD o)) (treeQ g ns t)) (allK o g ns t)) := by
 refine runQ_go (say := sayD o) (q := treeQ g ns t) (V := ansA o ((allK o g ns t).take n)) (n := n) (K := []) (fun p hp => by simp at hp) (Nat.zero_le _) hn (by simp [ansA]; omega) (fun i p hi hp => ?_)
 have hp' : (allK o g ns t)[i]? = some p := hp
 simp [ansA, List.getElem?_take, hi, hp']
theorem allK_len (hm : MinL g ns) (hr : RulesOk g) {o : OracleD} {t : T} (h : GoodT g t) : (allK o g ns t).length ≤ 4096 := by
 have h1 := goQ_len (tx := textG g) (say := sayD o) (q := treeQ g ns t) (K := []) (fun p hp => by simp at hp)
 have h2 := (tree_eval (φ := failT (textG g) (sayD o)) hm hr h).2.2
 simp only [List.length_nil, Nat.zero_add] at h1
 exact Nat.le_trans h1 h2
theorem allK_nodup {o : OracleD} {t : T} : ((allK o g ns t).map (·.1)).Nodup := goQ_nodup (by simp)
theorem allK_one {o : OracleD} {t : T} (h : sayD o (textG g t) ≠ 2) : (allK o g ns t).length = 1 ∧ evalQ (failT (textG g) (sayD o)) (treeQ g ns t) = none := by
 have e : decide (sayD o (textG g t) = 2) = false := by simpa using h
 simp [allK, treeQ, goQ, lookK, e, evalQ, failT]
theorem bare_of (hm : MinL g ns) (hgr : OkG g) {o : OracleD} {u : T} (hu : GoodT g u) (h1 : NoPrune g ns (failT (textG g) (sayD o)) u 2) (h2 : NoHoist g (failT (textG g) (sayD o)) u 0 1) : BareP o g u ns := by
 have hru := hgr.rules
 have hq : ∀ u', GoodT g u' → failT (textG g) (sayD o) u' = false → Quiet o g u' := by
  intro u' hu' hf
  refine ⟨⟨hgr, by have := hu'.few; omega, by have := hu'.deep; omega, hu'.ok⟩, hu'.wt hru, ?_, ?_⟩
  · have := textG_size hru hu'.ok
    have := hu'.few
    omega
  unfold failT at hf
  simpa using hf
 refine ⟨fun c hc => ?_, fun a b ea eb hab hea heb hcan => ?_⟩
 ·
  have hmem := hc
  simp only [prunableD, prunTo, List.mem_map, List.mem_filter, List.mem_range] at hmem
  obtain ⟨c', ⟨h3, h4⟩, h5⟩ := hmem
  have hcc : c' = c := by omega
  subst hcc
  simp only [Bool.and_eq_true, decide_eq_true_eq] at h4
  obtain ⟨h41, h42⟩ := h4
  cases he : (spotsOf g u)[c']? with
  | none => rw [he] at h42; cases h42
  | some e =>
   rw [he] at h42
   have hbel : (below g u 1)[c' - 1]? = some e := by
    rw [show c' = (c' - 1) + 1 by omega, spots_succ] at he
    exact he
   have hd := below_ge e (List.mem_of_getElem? hbel)
   have hcan : CanAll ns [(c' : Int)] (below g u 1) 1 := by
    intro j e' hj hm
    simp only [List.mem_singleton] at hm
    have : j = c' - 1 := by omega
    subst this
    rw [hbel] at hj
    cases hj
    exact h42
   have hno := prun_nodes (out := [(c' : Int)]) hm hru (n := 0) (d := 1) hu.ok hcan
   exact hq _ ⟨prun_ok hm hru hu.ok, Nat.le_trans hno.1 hu.few⟩ (h1 c' e he (by omega) h42)
 exact hq _ (hoist_good hu hea heb hab hcan).1 (h2 a b ea eb (by omega) hab hea heb hcan)
theorem f3_ok {σ : Kn} {m : Mem} {rv tv ov : Value} {t : T} {o : OracleD} (hw : WF m) (hh : Holds (cfg gl ng).toEnv σ m) (hg : RulesV σ rv g) (hl : GramLen g) (ht : TreeK σ tv t) (ho : OrK σ ov o) :
 Ct gl ng 3 [.agg #[rv], tv, ov] σ m (fun _ v => v = .bool true) := by
 refine Ct.of (c := _) Tryz.func3 rfl 124 rfl (fun c' hnt => ?_)
 obtain ⟨bg, og, hg1, _⟩ := id hg
 have ho0 := ho
 obtain ⟨nv, bv, rfl, hn, hbo⟩ := ho
 have pnv : plainV nv = true := by obtain ⟨_, _, h, _⟩ := hn; exact h.plain
 have pbv : plainV bv = true := by obtain ⟨_, _, h, _⟩ := hbo; exact h.plain
 have hS := S.start hw hh
 have ht0 := ht
 obtain ⟨x, y, z, rfl, px, py, pz⟩ := ht.agg
 obtain ⟨m1, nb3, hbx1, hS1⟩ := hS.box 24 #[rv] (by simp [hg1.plain])
 obtain ⟨m2, nb4, hbx2, hS2⟩ := hS1.box 27 #[x, y, z] (by simp [px, py, pz])
 obtain ⟨m3, nb5, hbx3, hS3⟩ := hS2.box 31 #[nv, bv, .int .u64 o.salt, .int .u8 o.loose] (by simp [pnv, pbv])
 repeat apply W.seq
 apply W.regN; simp [hnt, hbx1, hbx2, hbx3]
 obtain ⟨L0, hL0⟩ : ∃ L0 : List (Nat × Cl), L0 = [(nb5, ⟨[nv, bv, .int .u64 o.salt, .int .u8 o.loose], none⟩), (nb4, ⟨[x, y, z], none⟩), (nb3, ⟨[rv], none⟩)] := ⟨_, rfl⟩
 obtain ⟨J, hJ⟩ : ∃ J : Tr Value → Mem → Prop, J = fun t' m' => ∃ b, t'.get 33 = some (.bool b) ∧ S (cfg gl ng).toEnv σ m σ m' L0 ∧ (b = false → OrSmall o ∧ OkTree g t ∧ nodes t ≤ 14 ∧ wt t < 1048575) := ⟨_, rfl⟩
 repeat apply W.seq
 refine W.cut' (ws := [16, 17, 18, 19, 20, 21, 22, 23, 24, 25, 26, 27, 28, 29, 30, 31, 32, 33]) (by kernel_rfl) J ?_ (fun t2 m7 hfr2 hJ2 => ?_)
 ·
  apply W.regN; simp [hnt, hS3.c1, hS3.c2]
  refine Ct.use (f4_ok hS3.wf hS3.holds hg ht0) (fun σ4 v4 m4 hl4 hv4 => ?_)
  obtain ⟨b4, rfl, h4⟩ := hv4
  have hS4 := hS3.grow hl4.grow
  cases b4 with
  | true =>
   simp [hnt]
   rw [hJ]
   exact ⟨true, by simp, by rw [hL0]; exact hS4, fun h => by cases h⟩
  | false =>
   have hwt := (h4 rfl).wt
   simp [hnt, hS4.c0]
   refine Ct.use (f5_ok hS4.wf hS4.holds ho0) (fun σ5 v5 m5 hl5 hv5 => ?_)
   obtain ⟨b5, rfl, h5⟩ := hv5
   have hS5 := hS4.grow hl5.grow
   cases b5 with
   | true =>
    simp [hnt]
    rw [hJ]
    exact ⟨true, by simp, by rw [hL0]; exact hS5, fun h => by cases h⟩
   | false =>
    simp [hnt, hS5.c1, hS5.c2]
    refine Ct.use (f6_ok hS5.wf hS5.holds hg hl ht0 hwt) (fun σ6 v6 m6 hl6 hv6 => ?_)
    obtain ⟨e6, rfl, h6⟩ := hv6
    have hS6 := hS5.grow hl6.grow
    by_cases he : e6 = 0
    ·
     have hok := h6.1 he
     simp [hnt, he, hS6.c1]
     refine Ct.use (f7_ct hS6.wf hS6.holds ht0 (by omega)) (fun σ7 v7 m7 hl7 hv7 => ?_)
     subst hv7
     have hS7 := hS6.grow hl7.grow
     simp [hnt]
     rw [hJ]
     refine ⟨decide ((14 : Int) < nodes t), by simp, by rw [hL0]; exact hS7, fun h => ⟨h5 rfl, hok, ?_, hwt⟩⟩
     have : ¬ (14 : Int) < nodes t := by simpa using h
     omega
    simp [hnt, he]
    rw [hJ]
    exact ⟨true, by simp, by rw [hL0]; exact hS6, fun h => by cases h⟩
 rw [hJ] at hJ2
 obtain ⟨b, q33, hS7, hok⟩ := hJ2
 clear hS1 hS2 hS3
 cases b with
 | true =>
  refine W.choose (by simp[q33]; rfl) (fun hc => ?_) fun hc => ?_
  ·
   repeat apply W.seq
   apply W.regN; simp [hnt]
   refine C.mono (f8_C m7) (fun out m8 ho => ?_)
   obtain ⟨rfl, rfl⟩ := ho
   simp [hnt]
   apply W.ret; try simp only [Then, InBlk]
   refine ⟨.inr rfl, rfl, rfl, _, by simp [unwind.results, Tryz.f3]; rfl, _, hS7.learn, ?_⟩
   rfl
  cases hc
 | false =>
  refine W.choose (by simp[q33]; rfl) (fun hc => ?_) fun hc => ?_
  · cases hc
  apply W.skip; try simp only [Then, InBlk]
  obtain ⟨hsm, hokt, hn14, hwt⟩ := hok rfl
  have hgr := hokt.gram
  have hru := hgr.rules
  obtain ⟨ns, hmin, _⟩ := hgr.least
  have hgood : GoodT g t := ⟨hokt.fit, hn14⟩
  have hKlen := allK_len (o := o) hmin hru hgood
  repeat apply W.seq
  apply W.regN; simp [hnt]
  repeat apply W.seq
  apply W.regN; simp [hnt]
  repeat apply W.seq
  apply W.block
  obtain ⟨F, hF⟩ : ∃ F, F = allK o g ns t := ⟨_, rfl⟩
  rw [← hF] at hKlen
  obtain ⟨II, hII⟩ : ∃ II : Nat → Tr Value → Mem → Prop, II = fun i t1 m' => ∃ (n : Nat) (av sv : Value) (B1 B2 : List (Nat × Cl)), n + i = 4097 ∧ n ≤ F.length ∧ t1.get 7 = some av ∧ t1.get 8 = some sv ∧ S (cfg gl ng).toEnv σ m σ m' (L0 ++ (B1 ++ (B2 ++ []))) ∧ BldV 46 1 av n ((ansA o (F.take n)).map fun k => .int .u8 k) B1 ∧ BldV 9 1 sv n ((F.take n).map fun p => .string p.1) B2 := ⟨_, rfl⟩
  refine W.down (ws := [35, 36, 37, 39, 40, 41, 42, 38, 43, 44, 9, 10, 45, 46, 48, 49, 50, 47, 51, 52, 11, 12, 53, 54, 55, 56, 57, 58, 59, 60, 61, 62, 63, 64, 65, 66, 67, 68, 6, 70, 71, 72, 73, 69, 74, 75, 13, 14, 76, 77, 78, 79, 80, 81, 82, 83, 84, 85, 86, 87, 88, 89, 90, 91, 92, 93, 94, 95, 96, 97, 98, 99, 100, 101, 15, 102, 103, 104, 105, 108, 109, 110, 111, 112, 113, 106, 107, 114, 115, 116, 117, 8, 118, 119, 120, 121, 122, 123, 7]) (by kernel_rfl) II 4097 (by rw [hII]; exact ⟨0, .slice none 0 0, .slice none 0 0, [], [], rfl, Nat.zero_le _, by simp, by simp, by simpa using hS7, by simpa [ansA] using BldV.nil, by simpa using BldV.nil⟩) (fun i t1 m8 hfr hI => ?_)
  rw [hII] at hI
  obtain ⟨n, av, sv, B1, B2, hni, hnF, q7, q8, hS8, hB1, hB2⟩ := hI
  have hS8' : S (cfg gl ng).toEnv σ m σ m8 ((L0 ++ B1) ++ (B2 ++ [])) := by rw [List.append_assoc]; exact hS8
  obtain ⟨b1, hsa1, hld1⟩ := BldV.at hS8 hB1
  obtain ⟨b2, hsa2, hld2⟩ := BldV.at hS8' hB2
  have hAl : (ansA o (F.take n)).length = n := by simp [ansA]; omega
  have hle8 : (n : Int) ≤ 4096 := by omega
  have hc3 : ∀ {σ' m' L'}, S (cfg gl ng).toEnv σ m σ' m' (L0 ++ L') → ∀ o', m'.load (cfg gl ng).toEnv nb3 o' = [rv][o']? := fun h o' => S.mem h (b := nb3) (k := ⟨[rv], none⟩) (by rw [hL0]; simp) o'
  have hc4 : ∀ {σ' m' L'}, S (cfg gl ng).toEnv σ m σ' m' (L0 ++ L') → ∀ o', m'.load (cfg gl ng).toEnv nb4 o' = [x, y, z][o']? := fun h o' => S.mem h (b := nb4) (k := ⟨[x, y, z], none⟩) (by rw [hL0]; simp) o'
  have hc5 : ∀ {σ' m' L'}, S (cfg gl ng).toEnv σ m σ' m' (L0 ++ L') → ∀ o', m'.load (cfg gl ng).toEnv nb5 o' = [nv, bv, Value.int .u64 o.salt, .int .u8 o.loose][o']? := fun h o' => S.mem h (b := nb5) (k := ⟨[nv, bv, .int .u64 o.salt, .int .u8 o.loose], none⟩) (by rw [hL0]; simp) o'
  repeat apply W.seq
  apply W.regN; simp [hnt, q7, K.ly38 hsa1, hle8]
  refine W.choose (by simp; rfl) (fun hc => ?_) fun hc => ?_
  ·
   apply W.skip; try simp only [Then, InBlk]
   apply W.block
   have hav : VersK (m8.load (cfg gl ng).toEnv) av (ansA o (F.take n)) := ⟨b1, 0, by rw [hAl]; exact hsa1, fun i k hi => by rw [Nat.zero_add]; exact hld1 i _ (by simp [hi])⟩
   repeat apply W.seq
   apply W.regN; simp [hnt, q7, hfr2, hfr, hc3 hS8, hc4 hS8]
   refine Ct.use (f9_ok (ns := ns) hS8.wf Holds.self (hg.mono hS8.holds.le) hmin hgr (ht0.mono hS8.holds.le) hgood hav (by omega)) (fun σ9 v9 m9 hl9 hv9 => ?_)
   have hS9 := hS8.grow hl9.grow
   have hrun := tree_run (o := o) (g := g) (ns := ns) (t := t) (n := n) (by rw [← hF]; exact hnF)
   rw [← hF] at hrun
   have hT9 := S.start hS9.wf (Holds.self (E := (cfg gl ng).toEnv))
   generalize hτ : m9.load (cfg gl ng).toEnv = τ at *
   have hστ : σ.le τ := by rw [← hτ]; exact hS9.holds.le
   have h9τ : σ9.le τ := by rw [← hτ]; exact hl9.holds.le
   by_cases hlt : n < F.length
   ·
    obtain ⟨u, p, hr, hp, htx⟩ := hrun.1 hlt
    have hall := (treeQ_all hmin hru hgood).run (tx := textG g) (V := ansA o (F.take n)) (K := [])
    rw [hr] at hv9 hall
    have hgu : GoodT g u := hall
    obtain ⟨x9, y9, z9, rfl, hu⟩ := hv9
    have hu := hu.mono h9τ
    obtain ⟨px9, py9, pz9⟩ : plainV x9 = true ∧ plainV y9 = true ∧ plainV z9 = true := by
     obtain ⟨a1, a2, a3, _⟩ := hu.inv
     exact ⟨by rw [a1]; simp, by rw [a2]; simp, a3⟩
    obtain ⟨m10, e10, hS10⟩ := hS9.var 41 [.bool false, .int .i64 0, .string .empty, .slice none 0 0] [.bool false, x9, y9, z9] (by simp) (by simp [px9, py9, pz9]) rfl
    obtain ⟨m10', e10', hT10⟩ := hT9.var 41 [.bool false, .int .i64 0, .string .empty, .slice none 0 0] [.bool false, x9, y9, z9] (by simp) (by simp [px9, py9, pz9]) rfl
    have em : m10' = m10 := by rw [e10] at e10'; exact (Option.some.inj e10').symm
    subst em
    clear e10'
    simp [hnt, e10]
    generalize m9.nb = nb9 at *
    repeat apply W.seq
    apply W.regN; simp [hnt]
    refine W.choose (by simp; rfl) (fun hc => ?_) fun hc => ?_
    · cases hc
    apply W.skip; try simp only [Then, InBlk]
    have hoku : OkTree g u := ⟨hgr, by have := hgu.few; omega, by have := hgu.deep; omega, hgu.ok⟩
    have hwu := hgu.wt hru
    have hS10d := hS10.drop (List.sublist_cons_self _ _)
    repeat apply W.seq
    apply W.regN; simp [hnt, hfr2, hfr, hc3 hS10d, hS10.c0]
    refine Ct.use (f10_ok hT10.wf hT10.holds (hg.mono hστ) hl hu hwu hoku) (fun σ11 v11 m11 hl11 hv11 => ?_)
    subst hv11
    have hS11 := hS10.grow hl11.grow
    have hS11d := hS11.drop (List.sublist_cons_self _ _)
    have hS11' : S (cfg gl ng).toEnv σ m σ m11 ((L0 ++ B1) ++ (B2 ++ [])) := by rw [List.append_assoc]; exact hS11d
    obtain ⟨b2', hsa2', hld2'⟩ := BldV.at hS11' hB2
    simp [hnt]
    repeat apply W.seq
    apply W.regN; simp [hnt]
    refine W.choose (by simp; rfl) (fun hc => ?_) fun hc => ?_
    · cases hc
    apply W.skip; try simp only [Then, InBlk]
    repeat apply W.seq
    apply W.regN; simp [hnt, hS11.c0]
    refine W.choose (by simp; rfl) (fun hc => ?_) fun hc => ?_
    · cases hc
    apply W.skip; try simp only [Then, InBlk]
    repeat apply W.seq
    apply W.regN; simp [hnt]
    apply W.block
    obtain ⟨I2, hI2⟩ : ∃ I2 : Nat → Tr Value → Mem → Prop, I2 = fun (j : Nat) (t' : Tr Value) (m' : Mem) => t'.get 15 = some (.int .i64 j) ∧ m' = m11 := ⟨_, rfl⟩
    refine W.upto (ws := [102, 103, 104, 105, 108, 109, 110, 111, 112, 113, 6, 106, 107, 15]) (by kernel_rfl) (n) I2 0 (by omega) (by rw [hI2]; exact ⟨by simp, rfl⟩) ?_
    intro j t3 m12 hj hfr3 hIi
    rw [hI2] at hIi
    obtain ⟨q15, rfl⟩ := hIi
    repeat apply W.seq
    apply W.regN; simp [hnt, q15, hfr3, q8, K.ly39 hsa2']
    refine W.choose (by simp; rfl) (fun hc => ?_) fun hc => ?_
    ·
     have hjn : j < n := by simpa using hc
     apply W.skip; try simp only [Then, InBlk]
     obtain ⟨pj, hpj⟩ : ∃ pj, F[j]? = some pj := ⟨_, List.getElem?_eq_getElem (by omega)⟩
     have hlj := hld2' j (.string pj.1) (by simp [List.getElem?_take, hjn, hpj])
     have hne : ¬ pj.1 = textG g u := by
      intro e
      have hnd := allK_nodup (o := o) (g := g) (ns := ns) (t := t)
      rw [← hF] at hnd
      have h1 : (F.map (·.1))[j]? = some p.1 := by rw [List.getElem?_map, hpj]; simp [e, htx]
      have h2 : (F.map (·.1))[n]? = some p.1 := by rw [List.getElem?_map, hp]; rfl
      have := (List.getElem?_inj (by simp; omega) hnd).1 (h1.trans h2.symm)
      omega
     repeat apply W.seq
     apply W.block
     repeat apply W.seq
     apply W.regN; simp [hnt, q15, hfr3, q8, K.iy39 hsa2' hjn, hlj, hne]
     refine W.choose (by simp; rfl) (fun hc => ?_) fun hc => ?_
     · cases hc
     apply W.skip; try simp only [Then, InBlk]
     apply W.regN; simp [hnt, q15, hfr3, wr1 (show j < _ by omega)]
     exact ⟨j + 1, by omega, by omega, by rw [hI2]; exact ⟨by simp, rfl⟩⟩
    apply W.exit; try simp [Then, InBlk]
    have hsz : (textG g u).size < 1048576 := by
     have := textG_size hru hgu.ok
     have := hgu.few
     omega
    have hS11c : S (cfg gl ng).toEnv σ m σ m12 (((nb9, ⟨[.bool false, x9, y9, z9], none⟩) :: (L0 ++ B1)) ++ (B2 ++ [])) := by simpa using hS11
    obtain ⟨sv', m13, B2', e13, hS13, hB2'⟩ := S.app1 (t := 39) (e := 9) (by kernel_rfl) (by kernel_rfl) (by kernel_rfl) hS11c hB2 (v := .string (textG g u)) (by simp) (by omega)
    repeat apply W.seq
    apply W.regN; simp [hnt, q8, hfr3, bs39, e13]
    have hS13d : S (cfg gl ng).toEnv σ m σ m13 (L0 ++ (B1 ++ (B2' ++ []))) := by
     have := hS13.drop (List.sublist_cons_self _ _)
     simpa using this
    apply W.regN; simp [hnt, q7, hfr3, hfr2, hfr, hc5 hS13d]
    refine Ct.use (f11_ok hS13d.wf hS13d.holds ho0 hsm hsz) (fun σ14 v14 m14 hl14 hv14 => ?_)
    subst hv14
    have hS14 := hS13d.grow hl14.grow
    obtain ⟨av', m15, B1', e15, hS15, hB1'⟩ := S.app1 (t := 38) (e := 46) (by kernel_rfl) (by kernel_rfl) (by kernel_rfl) hS14 hB1 (v := .int .u8 (sayD o (textG g u))) (by simp) (by omega)
    simp [hnt, bs38, e15]
    have htk := take_snoc hp
    refine ⟨i - 1, by omega, ?_⟩
    rw [hII]
    refine ⟨n + 1, av', sv', B1', B2', by omega, by omega, by simp, by simp, hS15, ?_, ?_⟩
    · rw [htk]; simpa [ansA, htx] using hB1'
    rw [htk]; simpa [htx] using hB2'
   have hnE : n = F.length := by omega
   have hr := hrun.2 hnE
   rw [hr] at hv9
   by_cases hf : sayD o (textG g t) = 2
   ·
    obtain ⟨u, hev, hfu, hnu, hgu, hnp, hnh⟩ := (tree_eval (φ := failT (textG g) (sayD o)) hmin hru hgood).2.1 (by simp [failT, hf])
    rw [hev] at hv9
    have hnlt : ¬ F.length < (ansA o (F.take n)).length := by omega
    simp only [TreeR9, if_neg hnlt] at hv9
    obtain ⟨x9, y9, z9, rfl, hu⟩ := hv9
    have hu := hu.mono h9τ
    obtain ⟨px9, py9, pz9⟩ : plainV x9 = true ∧ plainV y9 = true ∧ plainV z9 = true := by
     obtain ⟨a1, a2, a3, _⟩ := hu.inv
     exact ⟨by rw [a1]; simp, by rw [a2]; simp, a3⟩
    obtain ⟨m10, e10, hS10⟩ := hS9.var 41 [.bool false, .int .i64 0, .string .empty, .slice none 0 0] [.bool true, x9, y9, z9] (by simp) (by simp [px9, py9, pz9]) rfl
    obtain ⟨m10', e10', hT10⟩ := hT9.var 41 [.bool false, .int .i64 0, .string .empty, .slice none 0 0] [.bool true, x9, y9, z9] (by simp) (by simp [px9, py9, pz9]) rfl
    have em : m10' = m10 := by rw [e10] at e10'; exact (Option.some.inj e10').symm
    subst em
    clear e10'
    simp [hnt, e10]
    generalize m9.nb = nb9 at *
    repeat apply W.seq
    apply W.regN; simp [hnt]
    refine W.choose (by simp; rfl) (fun hc => ?_) fun hc => ?_
    · cases hc
    apply W.skip; try simp only [Then, InBlk]
    have hoku : OkTree g u := ⟨hgr, by have := hgu.few; omega, by have := hgu.deep; omega, hgu.ok⟩
    have hwu := hgu.wt hru
    have hS10d := hS10.drop (List.sublist_cons_self _ _)
    repeat apply W.seq
    apply W.regN; simp [hnt, hfr2, hfr, hc3 hS10d, hS10.c0]
    refine Ct.use (f10_ok hT10.wf hT10.holds (hg.mono hστ) hl hu hwu hoku) (fun σ11 v11 m11 hl11 hv11 => ?_)
    subst hv11
    have hS11 := hS10.grow hl11.grow
    have hT11 := hT10.learn' hl11
    have hlτ := hl11.le
    have hS11d := hS11.drop (List.sublist_cons_self _ _)
    simp [hnt]
    repeat apply W.seq
    apply W.regN; simp [hnt]
    refine W.choose (by simp; rfl) (fun hc => ?_) fun hc => ?_
    · cases hc
    apply W.skip; try simp only [Then, InBlk]
    repeat apply W.seq
    apply W.regN; simp [hnt, hS11.c0]
    refine W.choose (by simp; rfl) (fun hc => ?_) fun hc => ?_
    ·
     have hsz : (textG g u).size < 1048576 := by
      have := textG_size hru hgu.ok
      have := hgu.few
      omega
     have hfu2 : sayD o (textG g u) = 2 := by simpa [failT] using hfu
     have hnu' : (nodes u : Int) ≤ nodes t := by omega
     have hbare := bare_of (o := o) hmin hgr hgu hnp hnh
     obtain ⟨ex1, ey1, ez1⟩ := ht0.beq 8
     repeat apply W.seq
     refine W.regU [(2, 3)] [2, 3] (by as_aux_lemma => kernel_rfl) ?_
     simp [hnt, hS11.c0]
     refine Ct.use (f7_ct hT11.wf hT11.holds (hu.mono hlτ) (by omega)) (fun σ12 v12 m12 hl12 hv12 => ?_)
     subst hv12
     have hS12 := hS11.grow hl12.grow
     have hT12 := hT11.learn' hl12
     have hlτ2 := Kn.le_trans hlτ hl12.le
     have hS12d := hS12.drop (List.sublist_cons_self _ _)
     simp [hnt, hfr2, hfr, hc4 hS12d]
     refine Ct.use (f7_ct hT12.wf hT12.holds ((ht0.mono hστ).mono hlτ2) (by omega)) (fun σ13 v13 m13 hl13 hv13 => ?_)
     subst hv13
     have hS13 := hS12.grow hl13.grow
     have hT13 := hT12.learn' hl13
     have hlτ3 := Kn.le_trans hlτ2 hl13.le
     have hS13d := hS13.drop (List.sublist_cons_self _ _)
     simp [hnt, hnu, hnu', hfr2, hfr, hc5 hS13d]
     refine Ct.use (f11_ok hT13.wf hT13.holds ((ho0.mono hστ).mono hlτ3) hsm hsz) (fun σ14 v14 m14 hl14 hv14 => ?_)
     subst hv14
     have hS14 := hS13.grow hl14.grow
     have hT14 := hT13.learn' hl14
     have hlτ4 := Kn.le_trans hlτ3 hl14.le
     have hS14d := hS14.drop (List.sublist_cons_self _ _)
     simp [hnt, hfu2, hfr2, hfr, hc3 hS14d, hc5 hS14d, hS14.c0]
     refine Ct.use (f12_ok (ns := ns) hT14.wf hT14.holds ((hg.mono hστ).mono hlτ4) hl (hu.mono hlτ4) hwu hoku hmin ((ho0.mono hστ).mono hlτ4) hsm hbare) (fun σ15 v15 m15 hl15 hv15 => ?_)
     subst hv15
     have hS15 := hS14.grow hl15.grow
     simp [hnt]
     refine C.mono (f8_C m15) (fun out m16 ho => ?_)
     obtain ⟨rfl, rfl⟩ := ho
     simp [hnt]
     refine ⟨?_, ?_⟩
     · simp [looseOk, getS, againOk, quiet, still, beqV, hfr2, hfr, hc4 hS11d, hc4 hS12d, ex1, ey1, ez1]
     apply W.ret; try simp only [Then, InBlk]
     refine ⟨.inr rfl, rfl, rfl, _, by simp [unwind.results, Tryz.f3]; rfl, _, hS15.learn, ?_⟩
     rfl
    cases hc
   obtain ⟨hF1, hev⟩ := allK_one (g := g) (ns := ns) hf
   rw [← hF] at hF1
   rw [hev] at hv9
   have e9 : v9 = .tuple #[.agg #[.bool false, .int .i64 0, .string .empty, .slice none 0 0], .int .i64 7] := hv9
   subst e9
   obtain ⟨m10, e10, hS10⟩ := hS9.var 41 [.bool false, .int .i64 0, .string .empty, .slice none 0 0] [.bool false, .int .i64 0, .string .empty, .slice none 0 0] (by simp) (by simp) rfl
   simp [hnt, e10]
   have hS10d := hS10.drop (List.sublist_cons_self _ _)
   repeat apply W.seq
   apply W.regN; simp [hnt]
   refine W.choose (by simp; rfl) (fun hc => ?_) fun hc => ?_
   ·
    repeat apply W.seq
    apply W.regN; simp [hnt, hfr2, hfr, hc3 hS10d, hc4 hS10d]
    refine Ct.use (f10_ok hS10d.wf hS10d.holds hg hl ht0 hwt hokt) (fun σ11 v11 m11 hl11 hv11 => ?_)
    subst hv11
    have hS11 := hS10d.grow hl11.grow
    have hsz : (textG g t).size < 1048576 := by
     have := textG_size hru hgood.ok
     have := hgood.few
     omega
    have hn1 : n = 1 := by omega
    have hB2l : ∀ m', opLen (cfg gl ng) 39 sv m' = .value (.int .i64 1) m' := fun m' => by have := K.ly39 (gl := gl) (ng := ng) (m := m') hsa2; rw [hn1] at this; exact this
    simp [hnt]
    repeat apply W.seq
    apply W.regN; simp [hnt, hfr2, hfr, hc5 hS11]
    refine Ct.use (f11_ok hS11.wf hS11.holds ho0 hsm hsz) (fun σ12 v12 m12 hl12 hv12 => ?_)
    subst hv12
    have hS12 := hS11.grow hl12.grow
    simp [hnt, hf, q8, hB2l]
    refine C.mono (f8_C m12) (fun out m13 ho => ?_)
    obtain ⟨rfl, rfl⟩ := ho
    simp [hnt]
    apply W.ret; try simp only [Then, InBlk]
    refine ⟨.inr rfl, rfl, rfl, _, by simp [unwind.results, Tryz.f3]; rfl, _, hS12.learn, ?_⟩
    rfl
   cases hc
  cases hc
end Go.Proofs.Lw
