/-
  PROVED here: steps on the way to the card of 'sleuthlaw06.ReduceTreeMinimal' (an abstract machine, its soundness, what each function computes). No conditions beyond those that each theorem states.
-/
import Derived.Test.YtfgpboldklboaaaGreatDoorAm33
import Derived.KernelRfl
namespace Go.Proofs.Lw
open Go Go.Am
set_option maxRecDepth 8000
variable {gl : Nat → Nat → Option Value} {ng : Nat} {g : List RuleD} {ns : List Int}
theorem spots_end {t : T} (ht : OkN g t) {a : Nat} {ea : SpotD} (hea : (spotsOf g t)[a]? = some ea) : OkN g ea.1 ∧ a + nodes ea.1 ≤ nodes t := by
 have hal := lt_of_get hea
 rw [spots_len ht] at hal
 have hs := belowL_sub (g := g) (s := zeroSlot) (d := 1) (l := [t]) (by simp [OkL, ht])
 rw [spots_L] at hea
 obtain ⟨h1, h2⟩ := hs a ea hea
 refine ⟨h1, ?_⟩
 rcases Nat.lt_or_ge 1 (nodes ea.1) with h | h
 ·
  have h4 := h2 (nodes ea.1 - 2) (by omega)
  have hb := below_len (d := ea.2.2) h1
  have h5 : (below g ea.1 ea.2.2)[nodes ea.1 - 2]? = some ((below g ea.1 ea.2.2)[nodes ea.1 - 2]'(by omega)) := by simp
  rw [h5, ← spots_L] at h4
  have := lt_of_get h4
  rw [spots_len ht] at this
  omega
 omega
theorem runQ_ask {α : Type} {tx : T → ByteArray} {A : List Int} {t : T} {k : Bool → Qs α} {Kw : Known} : runQ tx A (.ask t k) Kw = match runQ tx A (.ask t .ret) Kw with
 | .done b K' => runQ tx A (k b) K'
 | .stop t' K' => .stop t' K' := by
 simp only [runQ]
 cases lookK Kw (tx t) with
 | some v => rfl
 | none => simp only; split <;> rfl
theorem f30_ok {σ0 σ : Kn} {m0 m : Mem} {L : List (Nat × Cl)} {sb mb : Nat} {av rv tv : Value} {A : List Int} {Kw : Known} {t : T} (hs : Srch gl ng σ0 m0 σ m L [] sb av A mb Kw) (hg : RulesV σ rv g) (hru : RulesOk g) (ht : TreeK σ tv t) (hok : GoodT g t) :
 C (cfg gl ng) 30 [.pointer (some ⟨sb, 0, none⟩), .agg #[rv], tv] m (ROk gl ng σ0 m0 σ L [] sb av A mb (fun t' σ' v => TreeK σ' v t') (runQ (textG g) A (hoistsQ g (fuelH t 0 1 + 1) 0 1 t) Kw)) := by
 generalize hR : runQ (textG g) A (hoistsQ g (fuelH t 0 1 + 1) 0 1 t) Kw = R
 generalize hQ : ROk gl ng σ0 m0 σ L [] sb av A mb (fun t' σ' v => TreeK σ' v t') R = Q
 refine ofU (c := _) Tryz.func30 rfl 62 rfl (fun c' hnt _ _ => ?_)
 obtain ⟨bg, og, hg1, _⟩ := id hg
 have hS := hs.s
 have ht0 := ht
 obtain ⟨x, y, z, rfl, px, py, pz⟩ := ht.agg
 obtain ⟨m1, nb4, hbx1, hS1⟩ := hS.box 24 #[rv] (by simp [hg1.plain])
 have hO1 := hs.o.box hS.wf hbx1
 obtain ⟨m2, nb5, hbx2, hS2⟩ := hS1.box 27 #[x, y, z] (by simp [px, py, pz])
 have hO2 := hO1.box hS1.wf hbx2
 have hS3 := hS2.new (vs := [.int .i64 0, .string .empty, .slice none 0 0]) 27 (by simp)
 have hO3 := hO2.new hS2.wf (.cells (cellsOf [.int .i64 0, .string .empty, .slice none 0 0] 27))
 repeat apply W.seq
 apply W.regN; simp [hnt, hbx1, hbx2]
 generalize m2.new (.cells (cellsOf [.int .i64 0, .string .empty, .slice none 0 0] 27)) = m3 at *
 generalize m2.nb = nb6 at *
 obtain ⟨σ6, hle, hS6, hn6⟩ := hS3.freeze (i := 2) rfl
 simp only [List.eraseIdx_cons_succ, List.eraseIdx_cons_zero] at hS6
 obtain ⟨P, hP⟩ : ∃ P : List Value → List (Nat × Cl), P = fun vs => (nb6, ⟨[.int .i64 0, .string .empty, .slice none 0 0], none⟩) :: (nb5, ⟨vs, none⟩) :: L := ⟨_, rfl⟩
 have h6 : Srch gl ng σ0 m0 σ6 m3 (P [x, y, z]) [] sb av A mb Kw := ⟨by rw [hP]; exact hS6.perm (List.perm_middle (l₁ := [_, _])), hO3, hs.odd, hs.av.mono hle, hs.le, hs.lim⟩
 have kg : σ6 nb4 0 = some rv := (hn6 0).trans rfl
 have hc5 : ∀ {σ' m' vs K'} , S (cfg gl ng).toEnv σ0 m0 σ' m' (sCl sb av K' mb :: P vs) → ∀ o, m'.load (cfg gl ng).toEnv nb5 o = vs[o]? := fun {_ _ vs _} h o => S.mem h (b := nb5) (k := ⟨vs, none⟩) (by rw [hP]; simp) o
 clear hS1 hS2 hS3 hS6 hO1 hO2 hO3
 have hdeep := hok.deep
 have hwt := hok.wt hru
 have hdp : ¬ ((24 : Int) < (depth t : Nat)) := by omega
 repeat apply W.seq
 apply W.regN; simp [hnt, hc5 h6.s]
 refine Ct.use (f58_ct h6.s.wf h6.s.holds (ht0.mono hle) (by omega)) (fun σ7 v7 m7 hl7 hv7 => ?_)
 subst hv7
 have h7 := h6.learn hl7
 have kg7 := hl7.le _ _ _ kg
 have hg7 := hg.mono (Kn.le_trans hle hl7.le)
 simp [hnt, hdp]
 refine W.choose (by simp; rfl) (fun hc => ?_) fun hc => ?_
 · cases hc
 apply W.skip; try simp only [Then, InBlk]
 have hno := hok.few
 have hbu := K.bu55_ (gl := gl) (ng := ng) (m := m7)
 repeat apply W.seq
 apply W.regN; simp [hnt, h7.s.kn, kg7, hc5 h7.s, hbu]
 refine Ct.use (f44_ok (wt t) t zeroSlot 1 g σ7 m7 rv _ (.slice none 0 0) (Nat.le_refl _) (by omega) (by omega) (by omega) h7.s.wf h7.s.holds hg7 hru hok.ok (ht0.mono (Kn.le_trans hle hl7.le)) ⟨0, 0, .inl ⟨rfl, rfl⟩, fun i n h => by simp [zeroSlot] at h⟩) (fun σ8 v8 m8 hl8 hv8 => ?_)
 have hv8 : SpotsW σ8 v8 (spotsOf g t) := hv8
 have h8 := h7.learn hl8
 have hle8 : σ.le σ8 := Kn.le_trans hle (Kn.le_trans hl7.le hl8.le)
 have kg8 := hl8.le _ _ _ kg7
 have hg8 := hg.mono hle8
 simp [hnt]
 repeat apply W.seq
 apply W.regN; simp [hnt]
 have hdropP : ∀ {σ' : Kn} {m' : Mem} {vs : List Value} {K' : Known}, Srch gl ng σ0 m0 σ' m' (P vs) [] sb av A mb K' → Srch gl ng σ0 m0 σ' m' L [] sb av A mb K' := by
  intro σ' m' vs K' h
  have h1 := h.s
  rw [hP] at h1
  exact ⟨h1.drop (List.Sublist.cons_cons _ (List.sublist_append_right [_, _] L)), h.o, h.odd, h.av, h.le, h.lim⟩
 apply W.block
 obtain ⟨II, hII⟩ : ∃ II : Nat → Tr Value → Mem → Prop, II = fun i t1 m' => ∃ (σ' : Kn) (K' : Known) (u : T) (x y z lv : Value) (a : Nat), t1.get 8 = some (.int .i64 a) ∧ t1.get 7 = some lv ∧ SpotsW σ' lv (spotsOf g u) ∧ a ≤ nodes u ∧ σ8.le σ' ∧ Srch gl ng σ0 m0 σ' m' (P [x, y, z]) [] sb av A mb K' ∧ TreeK σ' (.agg #[x, y, z]) u ∧ GoodT g u ∧ fuelH u a (a + 1) ≤ i ∧
  runQ (textG g) A (hoistsQ g (i + 1) a (a + 1) u) K' = R := ⟨_, rfl⟩
 refine W.down (ws := [20, 21, 22, 23, 26, 27, 9, 28, 29, 30, 31, 32, 33, 34, 35, 36, 40, 41, 42, 43, 44, 45, 39, 46, 47, 10, 11, 48, 49, 50, 51, 52, 53, 54, 55, 56, 57, 58, 59, 7, 60, 37, 38, 24, 25, 8]) (by kernel_rfl) II (fuelH t 0 1) (by rw [hII]; exact ⟨σ8, Kw, t, x, y, z, v8, 0, by simp, by simp, hv8, by omega, Kn.le_refl _, h8, ht0.mono hle8, hok, Nat.le_refl _, hR⟩) (fun i t1 m9 hfr hI => ?_)
 rw [hII] at hI
 obtain ⟨σ9, K9, u, x9, y9, z9, lv, a, q8, q7, hlv, hau, hle9, h9, hu, hgu, hfu, hR9⟩ := hI
 have hsl := spots_len hgu.ok
 have hnu := hgu.few
 repeat apply W.seq
 apply W.regN; simp [hnt, q8, q7, hlv.len]
 refine W.choose (by simp; rfl) (fun hc => ?_) fun hc => ?_
 ·
  have hal : a < nodes u := by rw [← hsl]; simpa using hc
  apply W.skip; try simp only [Then, InBlk]
  repeat apply W.seq
  apply W.block
  repeat apply W.seq
  apply W.regN; simp [hnt, q8, wr1 (show a < _ by omega)]
  apply W.block
  obtain ⟨I2, hI2⟩ : ∃ I2 : Nat → Tr Value → Mem → Prop, I2 = fun i2 t2 m' => ∃ (σ' : Kn) (K' : Known) (u : T) (x y z lv : Value) (b : Nat), t2.get 9 = some (.int .i64 b) ∧ t2.get 7 = some lv ∧ SpotsW σ' lv (spotsOf g u) ∧ a < nodes u ∧ a < b ∧ b ≤ 15 ∧ σ8.le σ' ∧ Srch gl ng σ0 m0 σ' m' (P [x, y, z]) [] sb av A mb K' ∧ TreeK σ' (.agg #[x, y, z]) u ∧ GoodT g u ∧ fuelH u a b ≤ i2 ∧ i2 ≤ i ∧
   runQ (textG g) A (hoistsQ g (i2 + 1) a b u) K' = R := ⟨_, rfl⟩
  refine W.down (ws := [28, 29, 30, 31, 32, 33, 34, 35, 36, 40, 41, 42, 43, 44, 45, 39, 46, 47, 10, 11, 48, 49, 50, 51, 52, 53, 54, 55, 56, 57, 58, 59, 7, 60, 9, 37, 38]) (by kernel_rfl) I2 i (by rw [hI2]; exact ⟨σ9, K9, u, x9, y9, z9, lv, a + 1, by simp, by simp [q7], hlv, hal, by omega, by omega, hle9, h9, hu, hgu, hfu, Nat.le_refl _, hR9⟩) (fun i2 t2 m10 hfr2 hI => ?_)
  clear h9 hu hlv hgu hsl hnu hal hau hfu hR9 hle9
  rw [hI2] at hI
  obtain ⟨σ10, K10, u, x10, y10, z10, lv, b, q9, q7, hlv, hal, hab, hb15, hle10, h10, hu, hgu, hfu, hi2, hR10⟩ := hI
  have hsl := spots_len hgu.ok
  have hnu := hgu.few
  obtain ⟨ea, hea⟩ : ∃ ea, (spotsOf g u)[a]? = some ea := ⟨_, List.getElem?_eq_getElem (by omega)⟩
  obtain ⟨hoa, hend⟩ := spots_end hgu.ok hea
  obtain ⟨ba, xa, ya, za, kva, ixa, a0, a1, a2, a3, a4, a5, a6, a7, wa1, wa2⟩ := hlv.at (gl := gl) (ng := ng) hea
  have hwr : IntKind.i64.wrap ((a : Int) + nodes ea.1) = (a : Int) + nodes ea.1 := wrap_i64 (by omega) (by omega)
  have hnext : ∀ (σ9 : Kn) (K9 : Known) (u9 : T) (x9 y9 z9 lv9 : Value) (m9 : Mem) (tt : Tr Value) (b9 : Nat), tt.get 9 = some (.int .i64 b9) → tt.get 7 = some lv9 → SpotsW σ9 lv9 (spotsOf g u9) → a < nodes u9 → a < b9 → b9 ≤ 15 → σ8.le σ9 → Srch gl ng σ0 m0 σ9 m9 (P [x9, y9, z9]) [] sb av A mb K9 → TreeK σ9 (.agg #[x9, y9, z9]) u9 → GoodT g u9 → fuelH u9 a b9 < fuelH u a b → runQ (textG g) A (hoistsQ g i2 a b9 u9) K9 = R → ∃ j, j < i2 ∧ I2 j tt m9 := by
   intro σ9 K9 u9 x9 y9 z9 lv9 m9 tt b9 e1 e2 e3 e4 e5 e6 e7 e8 e9 e10 e11 e12
   refine ⟨i2 - 1, by omega, ?_⟩
   rw [hI2]
   refine ⟨σ9, K9, u9, x9, y9, z9, lv9, b9, e1, e2, e3, e4, e5, e6, e7, e8, e9, e10, by omega, by omega, ?_⟩
   rw [show i2 - 1 + 1 = i2 by omega]
   exact e12
  simp only [hoistsQ, hea] at hR10
  by_cases hlt : b < a + nodes ea.1
  ·
   have hlt' : (b : Int) < (a : Int) + nodes ea.1 := by omega
   rw [if_pos hlt] at hR10
   obtain ⟨eb, heb⟩ : ∃ eb, (spotsOf g u)[b]? = some eb := ⟨_, List.getElem?_eq_getElem (by omega)⟩
   rw [heb] at hR10
   simp only at hR10
   have kg10 := hle10 _ _ _ kg8
   have hg10 := hg8.mono hle10
   repeat apply W.seq
   apply W.regN; simp [hnt, q9, q8, q7, hfr2, ixa, h10.s.kn, a7, hwr, hlt, hlt']
   refine W.choose (by simp; rfl) (fun hc => ?_) fun hc => ?_
   ·
    apply W.skip; try simp only [Then, InBlk]
    repeat apply W.seq
    apply W.block
    repeat apply W.seq
    apply W.regN; simp [hnt, q9, q8, q7, hfr2, hfr, h10.s.kn, kg10, hc5 h10.s]
    refine Ct.use (f59_ok h10.s.wf h10.s.holds hg10 hru hu (hgu.wt hru) hgu.ok (by omega) hlv hab hlt hea heb) (fun σ11 v11 m11 hl11 hv11 => ?_)
    have h11 := h10.learn hl11
    have hS11 := h11.s
    have hwb : IntKind.i64.wrap ((b : Int) + 1) = ((b + 1 : Nat) : Int) := by rw [wrap_i64 (by omega) (by omega)]; omega
    have hwa : IntKind.i64.wrap ((a : Int) + 1) = ((a + 1 : Nat) : Int) := by rw [wrap_i64 (by omega) (by omega)]; omega
    have hfb : fuelH u a (b + 1) < fuelH u a b := by unfold fuelH; omega
    cases hcan : canH (spotsOf g u) ea eb a b with
    | false =>
     have e11 := hv11.2 hcan
     subst e11
     rw [hcan] at hR10
     simp only [Bool.false_eq_true, if_false] at hR10
     obtain ⟨m12, e12, hS12⟩ := hS11.var 27 [.int .i64 0, .string .empty, .slice none 0 0] [.int .i64 0, .string .empty, .slice none 0 0] (by simp) (by simp) rfl
     have hO12 := (h11.o.new hS11.wf _).write e12
     simp [hnt, e12]
     repeat apply W.seq
     apply W.regN; simp [hnt]
     refine W.choose (by simp; rfl) (fun hc => ?_) fun hc => ?_
     · cases hc
     apply W.skip; try simp only [Then, InBlk]
     apply W.regN; simp [hnt, hfr2, q9, hwb]
     exact hnext σ11 K10 u x10 y10 z10 lv m12 _ (b + 1) (by simp) (by simp [q7]) (hlv.mono hl11.le) hal (by omega) (by omega) (Kn.le_trans hle10 hl11.le) ⟨hS12.drop (List.sublist_cons_self _ _), hO12, h11.odd, h11.av, h11.le, h11.lim⟩ (hu.mono hl11.le) hgu hfb hR10
    | true =>
     obtain ⟨v12, rfl, hv12⟩ := hv11.1 hcan
     obtain ⟨x12, y12, z12, rfl, px12, py12, pz12⟩ := hv12.agg
     obtain ⟨g1, g2, g3⟩ := hoist_ok hgu.ok hea heb hab hcan
     rw [hcan] at hR10
     simp only [if_true] at hR10
     obtain ⟨u', hu'⟩ : ∃ u', u' = replT eb.1 a u 0 := ⟨_, rfl⟩
     rw [← hu'] at hv12 g1 g2 g3 hR10
     have hgu' : GoodT g u' := ⟨g1, by omega⟩
     have hnu' := hgu'.few
     obtain ⟨m12, e12, hS12⟩ := hS11.var 27 [.int .i64 0, .string .empty, .slice none 0 0] [x12, y12, z12] (by simp) (by simp [px12, py12, pz12]) rfl
     have hO12 := (h11.o.new hS11.wf _).write e12
     simp [hnt, e12]
     generalize m11.nb = nb10 at *
     have h12 : Srch gl ng σ0 m0 σ11 m12 ((nb10, ⟨[x12, y12, z12], none⟩) :: P [x10, y10, z10]) [] sb av A mb K10 := ⟨hS12.swap, hO12, h11.odd, h11.av, h11.le, h11.lim⟩
     have kg11 := hl11.le _ _ _ kg10
     have hg11 := hg10.mono hl11.le
     repeat apply W.seq
     apply W.regN; simp [hnt, hfr2, hfr, hS12.kn, kg11, hS12.c0]
     refine C.mono (f29_ok h12 hg11 hru hv12 (hgu'.wt hru) (by omega) hgu'.ok) (fun out m13 ho => ?_)
     obtain ⟨σ13, hle13, hr⟩ := ho
     rw [runQ_ask] at hR10
     cases hon : runQ (textG g) A (.ask u' .ret) K10 with
     | done bb K13 =>
      rw [hon] at hr hR10
      obtain ⟨_, rfl, rfl, h13⟩ := hr
      have hS13 := h13.s
      have hle13' : σ8.le σ13 := Kn.le_trans hle10 (Kn.le_trans hl11.le hle13)
      simp [hnt]
      cases bb with
      | true =>
       refine W.choose (by simp; rfl) (fun hc => ?_) fun hc => ?_
       ·
        have hS13' := hS13
        rw [hP] at hS13'
        obtain ⟨m14, e14, hS14⟩ := hS13'.setAll (i := 3) rfl (vs := [x12, y12, z12]) rfl (by simp [px12, py12, pz12])
        have hO14 := h13.o.write e14
        have h14 : Srch gl ng σ0 m0 σ13 m14 (P [x12, y12, z12]) [] sb av A mb K13 := ⟨by rw [hP]; exact hS14.drop (List.Sublist.cons_cons _ (List.sublist_cons_self _ _)), hO14, h13.odd, h13.av, h13.le, h13.lim⟩
        repeat apply W.seq
        apply W.regN; simp [hnt, hfr2, hfr, hS13.c1, e14]
        have kg13 := hle13 _ _ _ kg11
        have hbu2 := K.bu55_ (gl := gl) (ng := ng) (m := m14)
        have hwu' := hgu'.wt hru
        have hdu' := hgu'.deep
        repeat apply W.seq
        apply W.regN; simp [hnt, hfr2, hfr, h14.s.kn, kg13, hc5 h14.s, hbu2]
        refine Ct.use (f44_ok (wt u') u' zeroSlot 1 g σ13 m14 rv _ (.slice none 0 0) (Nat.le_refl _) (by omega) (by omega) (by omega) h14.s.wf h14.s.holds (hg11.mono hle13) hru hgu'.ok (hv12.mono hle13) ⟨0, 0, .inl ⟨rfl, rfl⟩, fun i n h => by simp [zeroSlot] at h⟩) (fun σ15 v15 m15 hl15 hv15 => ?_)
        have hv15 : SpotsW σ15 v15 (spotsOf g u') := hv15
        have h15 := h14.learn hl15
        simp [hnt]
        apply W.regN; simp [hnt, hfr2, q8]
        apply W.regN; simp [hnt, hwa]
        exact hnext σ15 K13 u' x12 y12 z12 v15 m15 _ (a + 1) (by simp) (by simp) hv15 g3 (by omega) (by omega) (Kn.le_trans hle13' hl15.le) h15 (hv12.mono (Kn.le_trans hle13 hl15.le)) hgu' (by unfold fuelH; omega) hR10
       cases hc
      | false =>
       refine W.choose (by simp; rfl) (fun hc => ?_) fun hc => ?_
       · cases hc
       apply W.skip; try simp only [Then, InBlk]
       apply W.regN; simp [hnt, hfr2, q9, hwb]
       exact hnext σ13 K13 u x10 y10 z10 lv m13 _ (b + 1) (by simp) (by simp [q7]) (hlv.mono (Kn.le_trans hl11.le hle13)) hal (by omega) (by omega) hle13' ⟨hS13.drop (List.Sublist.cons_cons _ (List.sublist_cons_self _ _)), h13.o, h13.odd, h13.av, h13.le, h13.lim⟩ (hu.mono (Kn.le_trans hl11.le hle13)) hgu hfb hR10
     | stop t' K13 =>
      rw [hon] at hr hR10
      obtain ⟨v, rfl, hv, h13⟩ := hr
      simp [hnt]
      refine U.panic rfl ?_
      rw [← hQ]
      refine ⟨σ13, Kn.le_trans hle8 (Kn.le_trans hle10 (Kn.le_trans hl11.le hle13)), ?_⟩
      rw [← hR10]
      have hS13 := h13.s
      exact ⟨v, rfl, hv, hdropP (vs := [x10, y10, z10]) ⟨hS13.drop (List.Sublist.cons_cons _ (List.sublist_cons_self _ _)), h13.o, h13.odd, h13.av, h13.le, h13.lim⟩⟩
   cases hc
  have hlt' : ¬ (b : Int) < (a : Int) + nodes ea.1 := by omega
  rw [if_neg hlt] at hR10
  repeat apply W.seq
  apply W.regN; simp [hnt, q9, q8, q7, hfr2, ixa, h10.s.kn, a7, hwr, hlt, hlt']
  refine W.choose (by simp; rfl) (fun hc => ?_) fun hc => ?_
  · cases hc
  apply W.exit; try simp [Then, InBlk]
  have hwa : IntKind.i64.wrap ((a : Int) + 1) = ((a + 1 : Nat) : Int) := by rw [wrap_i64 (by omega) (by omega)]; omega
  apply W.regN; simp [hnt, q8, hfr2, hwa]
  have hfn : fuelH u (a + 1) (a + 1 + 1) < fuelH u a b := by unfold fuelH; omega
  refine ⟨i2 - 1, by omega, ?_⟩
  rw [hII]
  refine ⟨σ10, K10, u, x10, y10, z10, lv, a + 1, by simp, by simp [q7], hlv, by omega, hle10, h10, hu, hgu, by omega, ?_⟩
  rw [show i2 - 1 + 1 = i2 by omega]
  exact hR10
 have hal : a = nodes u := by
  have : (spotsOf g u).length ≤ a := by simpa using hc
  omega
 have hno : (spotsOf g u)[a]? = none := by rw [List.getElem?_eq_none (by omega)]
 simp only [hoistsQ, hno] at hR9
 apply W.exit; try simp [Then, InBlk]
 have hS9 := h9.s
 rw [hP] at hS9
 obtain ⟨m10, e10, hS10⟩ := hS9.setAll (i := 1) rfl (vs := [x9, y9, z9]) rfl (by obtain ⟨a1, a2, a3, _⟩ := hu.inv; simp [a1, a2, a3])
 have hO10 := h9.o.write e10
 repeat apply W.seq
 apply W.regN; simp [hnt, hfr, hS9.c2, e10]
 apply W.ret
 refine U.ret (vs := [.agg #[x9, y9, z9]]) (by simp [unwind.results, Tryz.f30, addrOf, loadV, K.is27, K.zs27, Mem.loadN, hfr, hS10.c1]) rfl ?_
 rw [← hQ, ← hR9]
 exact ⟨σ9, Kn.le_trans hle8 hle9, _, rfl, hu, ⟨hS10.drop (List.Sublist.cons_cons _ (List.sublist_append_right [_, _] L)), hO10, h9.odd, h9.av, h9.le, h9.lim⟩⟩
end Go.Proofs.Lw
namespace Go.Proofs.Lw
open Go Go.Am
def AllQ {α : Type} (A : T → Prop) (P : α → Prop) : Qs α → Prop
 | .ret a => P a
 | .ask t k => A t ∧ ∀ b, AllQ A P (k b)
theorem AllQ.bind {α β : Type} {A : T → Prop} {P : α → Prop} {P' : β → Prop} {f : α → Qs β} : ∀ {q : Qs α}, AllQ A P q → (∀ a, P a → AllQ A P' (f a)) → AllQ A P' (q.bind f)
 | .ret a, h, hf => hf a h
 | .ask t k, h, hf => ⟨h.1, fun b => (h.2 b).bind hf⟩
theorem AllQ.mono {α : Type} {A : T → Prop} {P P' : α → Prop} (hp : ∀ a, P a → P' a) : ∀ {q : Qs α}, AllQ A P q → AllQ A P' q
 | .ret a, h => hp a h
 | .ask t k, h => ⟨h.1, fun b => (h.2 b).mono hp⟩
def ResAll {α : Type} (A : T → Prop) (P : α → Prop) : Res α → Prop
 | .done a _ => P a
 | .stop t _ => A t
theorem AllQ.run {α : Type} {A : T → Prop} {P : α → Prop} {tx : T → ByteArray} {V : List Int} : ∀ {q : Qs α} {K : Known}, AllQ A P q → ResAll A P (runQ tx V q K)
 | .ret a, K, h => h
 | .ask t k, K, h => by
  simp only [runQ]
  cases lookK K (tx t) with
  | some v => exact (h.2 _).run
  | none =>
   simp only
   split
   · exact (h.2 _).run
   exact h.1
theorem firstQ_all {A : T → Prop} {ask : List Int → Qs Bool} (h : ∀ s, AllQ A (fun _ => True) (ask s)) : ∀ l, AllQ A (fun _ => True) (firstQ ask l)
 | [] => trivial
 | x :: r => by
  simp only [firstQ]
  refine (h x).bind (fun b _ => ?_)
  split
  · trivial
  exact firstQ_all h r
theorem loopQ_all {A : T → Prop} {ask : List Int → Qs Bool} (h : ∀ s, AllQ A (fun _ => True) (ask s)) : ∀ f c g, AllQ A (fun _ => True) (loopQ ask f c g)
 | 0, c, g => trivial
 | f + 1, c, g => by
  simp only [loopQ]
  split
  · trivial
  refine (firstQ_all h _).bind (fun o _ => ?_)
  cases o with
  | some x => exact loopQ_all h f x 2
  | none =>
   refine (firstQ_all h _).bind (fun o _ => ?_)
   cases o with
   | some x => exact loopQ_all h f x _
   | none =>
    simp only
    split
    · trivial
    exact loopQ_all h f c _
theorem minQ_all {A : T → Prop} {ask : List Int → Qs Bool} (h : ∀ s, AllQ A (fun _ => True) (ask s)) (c : List Int) : AllQ A (fun _ => True) (minQ ask c) := by
 refine (loopQ_all h _ _ _).bind (fun c' _ => ?_)
 unfold lastQ
 split
 · exact (h []).bind (fun b _ => trivial)
 trivial
variable {g : List RuleD} {ns : List Int}
theorem stands_nodes (hm : MinL g ns) (hr : RulesOk g) {t : T} (h : GoodT g t) {d : Nat} (hd : 2 ≤ d) (set : List Int) : nodes (standsT g ns t (levelC g ns t d) set) ≤ nodes t :=
 (prun_nodes (out := minusD (levelC g ns t d) set) hm hr (n := 0) (d := 1) h.ok (levelC_can hd (fun x hx => (List.mem_filter.1 hx).1))).1
theorem levelsQ_all (hm : MinL g ns) (hr : RulesOk g) : ∀ (f d : Nat) (t : T), 2 ≤ d → GoodT g t → AllQ (GoodT g) (fun u => GoodT g u ∧ nodes u ≤ nodes t) (levelsQ g ns f d t)
 | 0, d, t, _, h => ⟨h, Nat.le_refl _⟩
 | f + 1, d, t, hd, h => by
  simp only [levelsQ]
  split
  · exact ⟨h, Nat.le_refl _⟩
  split
  ·
   split
   · exact levelsQ_all hm hr f (d + 1) t (by omega) h
   have hq : ∀ s, AllQ (GoodT g) (fun _ => True) (Qs.ask (standsT g ns t (levelC g ns t d) s) Qs.ret) := fun s => ⟨stands_good hm hr h hd s, fun _ => trivial⟩
   refine (minQ_all hq _).bind (fun s _ => ?_)
   refine (levelsQ_all hm hr f (d + 1) _ (by omega) (stands_good hm hr h hd s)).mono (fun u hu => ⟨hu.1, ?_⟩)
   have := stands_nodes hm hr h hd s
   omega
  exact ⟨h, Nat.le_refl _⟩
theorem hoist_good {t : T} (h : GoodT g t) {a b : Nat} {ea eb : SpotD} (hea : (spotsOf g t)[a]? = some ea) (heb : (spotsOf g t)[b]? = some eb) (hab : a < b) (hc : canH (spotsOf g t) ea eb a b = true) : GoodT g (replT eb.1 a t 0) ∧ nodes (replT eb.1 a t 0) < nodes t := by
 obtain ⟨h1, h2, _⟩ := hoist_ok h.ok hea heb hab hc
 have := h.few
 exact ⟨⟨h1, by omega⟩, h2⟩
theorem hoistsQ_all : ∀ (f a b : Nat) (t : T), a < b → GoodT g t → AllQ (GoodT g) (fun u => GoodT g u ∧ nodes u ≤ nodes t) (hoistsQ g f a b t)
 | 0, a, b, t, _, h => ⟨h, Nat.le_refl _⟩
 | f + 1, a, b, t, hab, h => by
  simp only [hoistsQ]
  cases hea : (spotsOf g t)[a]? with
  | none => exact ⟨h, Nat.le_refl _⟩
  | some ea =>
   simp only
   split
   ·
    cases heb : (spotsOf g t)[b]? with
    | none => exact ⟨h, Nat.le_refl _⟩
    | some eb =>
     simp only
     by_cases hc : canH (spotsOf g t) ea eb a b = true
     · rw [if_pos hc]
       obtain ⟨h1, h2⟩ := hoist_good h hea heb hab hc
       refine ⟨h1, fun x => ?_⟩
       cases x
       · exact hoistsQ_all f a (b + 1) t (by omega) h
       exact (hoistsQ_all f a (a + 1) _ (by omega) h1).mono (fun u hu => ⟨hu.1, by omega⟩)
     rw [if_neg hc]
     exact hoistsQ_all f a (b + 1) t (by omega) h
   exact hoistsQ_all f (a + 1) (a + 2) t (by omega) h
theorem roundsQ_all (hm : MinL g ns) (hr : RulesOk g) : ∀ (f : Nat) (t : T), GoodT g t → AllQ (GoodT g) (fun u => GoodT g u ∧ nodes u ≤ nodes t) (roundsQ g ns f t)
 | 0, t, h => ⟨h, Nat.le_refl _⟩
 | f + 1, t, h => by
  simp only [roundsQ]
  refine (levelsQ_all hm hr 31 2 t (by omega) h).bind (fun t1 h1 => ?_)
  refine (hoistsQ_all _ 0 1 t1 (by omega) h1.1).bind (fun t2 h2 => ?_)
  split
  · exact ⟨h2.1, by omega⟩
  exact (roundsQ_all hm hr f t2 h2.1).mono (fun u hu => ⟨hu.1, by omega⟩)
theorem treeQ_all (hm : MinL g ns) (hr : RulesOk g) {t : T} (h : GoodT g t) : AllQ (GoodT g) (fun o => ∀ u, o = some u → GoodT g u ∧ nodes u ≤ nodes t) (treeQ g ns t) := by
 refine ⟨h, fun b => ?_⟩
 cases b
 · exact fun u e => by cases e
 exact (roundsQ_all hm hr _ t h).bind (fun u hu => fun u' e => by cases e; exact hu)
end Go.Proofs.Lw
namespace Go.Proofs.Lw
open Go Go.Am
variable {α β : Type} {tx : T → ByteArray} {say : ByteArray → Int}
def failT (tx : T → ByteArray) (say : ByteArray → Int) (t : T) : Bool := decide (say (tx t) = 2)
def evalQ (φ : T → Bool) : Qs α → α
 | .ret a => a
 | .ask t k => evalQ φ (k (φ t))
def costQ (φ : T → Bool) : Qs α → Nat
 | .ret _ => 0
 | .ask t k => 1 + costQ φ (k (φ t))
theorem evalQ_bind {φ : T → Bool} {f : α → Qs β} : ∀ {q : Qs α}, evalQ φ (q.bind f) = evalQ φ (f (evalQ φ q))
 | .ret a => rfl
 | .ask t k => evalQ_bind (q := k (φ t))
theorem costQ_bind {φ : T → Bool} {f : α → Qs β} : ∀ {q : Qs α}, costQ φ (q.bind f) = costQ φ q + costQ φ (f (evalQ φ q))
 | .ret a => by simp [Qs.bind, costQ, evalQ]
 | .ask t k => by
  simp only [Qs.bind, costQ, evalQ]
  rw [costQ_bind (q := k (φ t))]; omega
def goQ (tx : T → ByteArray) (say : ByteArray → Int) : Qs α → Known → Known
 | .ret _, K => K
 | .ask t k, K => match lookK K (tx t) with
  | some v => goQ tx say (k (decide (v = 2))) K
  | none => goQ tx say (k (decide (say (tx t) = 2))) (K ++ [(tx t, plainV' (say (tx t)))])
theorem plain_2 (v : Int) : (plainV' v = 2) ↔ (v = 2) := by
 unfold plainV'
 constructor
 · intro h
   split at h
   · exact h
   omega
 intro h
 rw [if_pos (.inr h)]; exact h
def Faith (say : ByteArray → Int) (K : Known) : Prop := ∀ p ∈ K, p.2 = plainV' (say p.1)
theorem lookK_mem : ∀ {K : Known} {s : ByteArray} {v : Int}, lookK K s = some v → (s, v) ∈ K
 | [], s, v, h => by cases h
 | (x, w) :: r, s, v, h => by
  simp only [lookK] at h
  split at h
  · rename_i e
    subst e
    cases h
    exact List.mem_cons_self
  exact List.mem_cons_of_mem _ (lookK_mem h)
theorem lookK_not : ∀ {K : Known} {s : ByteArray}, lookK K s = none → s ∉ K.map (·.1)
 | [], s, h => by simp
 | (x, w) :: r, s, h => by
  simp only [lookK] at h
  split at h
  · cases h
  rename_i e
  simp only [List.map_cons, List.mem_cons, not_or]
  exact ⟨fun e2 => e e2.symm, lookK_not h⟩
theorem Faith.look {K : Known} (h : Faith say K) {s : ByteArray} {v : Int} (hl : lookK K s = some v) : (v = 2) ↔ (say s = 2) := by
 have := h _ (lookK_mem hl)
 simp only at this
 rw [this]; exact plain_2 _
theorem Faith.snoc {K : Known} (h : Faith say K) (s : ByteArray) : Faith say (K ++ [(s, plainV' (say s))]) := by
 intro p hp
 rcases List.mem_append.1 hp with hp | hp
 · exact h p hp
 simp only [List.mem_singleton] at hp; subst hp; rfl
theorem goQ_pre : ∀ {q : Qs α} {K : Known}, ∃ R, goQ tx say q K = K ++ R
 | .ret a, K => ⟨[], by simp [goQ]⟩
 | .ask t k, K => by
  simp only [goQ]
  cases lookK K (tx t) with
  | some v => exact goQ_pre
  | none =>
   simp only
   obtain ⟨R, h⟩ := goQ_pre (q := k (decide (say (tx t) = 2))) (K := K ++ [(tx t, plainV' (say (tx t)))])
   exact ⟨(tx t, plainV' (say (tx t))) :: R, by rw [h]; simp⟩
theorem goQ_len {q : Qs α} : ∀ {K : Known}, Faith say K → (goQ tx say q K).length ≤ K.length + costQ (failT tx say) q := by
 induction q with
 | ret a => intro K _; simp [goQ, costQ]
 | ask t k ih =>
  intro K hf
  simp only [goQ, costQ]
  cases hl : lookK K (tx t) with
  | some v =>
   have e : decide (v = 2) = failT tx say t := by unfold failT; simp only [hf.look hl]
   simp only [e]
   have := ih (failT tx say t) hf
   omega
  | none =>
   have := ih (failT tx say t) (hf.snoc (tx t))
   have e : decide (say (tx t) = 2) = failT tx say t := rfl
   simp only [e]
   rw [List.length_append, List.length_singleton] at this
   omega
theorem goQ_faith {q : Qs α} : ∀ {K : Known}, Faith say K → Faith say (goQ tx say q K) := by
 induction q with
 | ret a => intro K hf; exact hf
 | ask t k ih =>
  intro K hf
  simp only [goQ]
  cases lookK K (tx t) with
  | some v => exact ih _ hf
  | none => exact ih _ (hf.snoc _)
theorem goQ_nodup {q : Qs α} : ∀ {K : Known}, (K.map (·.1)).Nodup → ((goQ tx say q K).map (·.1)).Nodup := by
 induction q with
 | ret a => intro K hf; exact hf
 | ask t k ih =>
  intro K hf
  simp only [goQ]
  cases hl : lookK K (tx t) with
  | some v => exact ih _ hf
  | none =>
   refine ih _ ?_
   rw [List.map_append, List.map_singleton]
   rw [List.nodup_append]
   refine ⟨hf, by simp, fun a ha b hb => ?_⟩
   simp only [List.mem_singleton] at hb
   subst hb
   intro e
   subst e
   exact lookK_not hl ha
theorem runQ_go {q : Qs α} {V : List Int} {n : Nat} : ∀ {K : Known}, Faith say K → K.length ≤ n → n ≤ (goQ tx say q K).length → V.length = n → (∀ (i : Nat) (p : ByteArray × Int), i < n → (goQ tx say q K)[i]? = some p → V[i]? = some (say p.1)) →
 (n < (goQ tx say q K).length → ∃ t p, runQ tx V q K = .stop t ((goQ tx say q K).take n) ∧ (goQ tx say q K)[n]? = some p ∧ tx t = p.1) ∧ (n = (goQ tx say q K).length → runQ tx V q K = .done (evalQ (failT tx say) q) (goQ tx say q K)) := by
 induction q with
 | ret a =>
  intro K hf h1 h2 h3 h4
  simp only [goQ] at h2 ⊢
  exact ⟨fun h => by omega, fun _ => rfl⟩
 | ask t k ih =>
  intro K hf h1 h2 h3 h4
  simp only [goQ, runQ, evalQ] at h2 h4 ⊢
  cases hl : lookK K (tx t) with
  | some v =>
   rw [hl] at h2 h4
   have e : decide (v = 2) = failT tx say t := by unfold failT; simp only [hf.look hl]
   simp only [e] at h2 h4 ⊢
   exact ih (failT tx say t) hf h1 h2 h3 h4
  | none =>
   rw [hl] at h2 h4
   simp only at h2 h4 ⊢
   have e : decide (say (tx t) = 2) = failT tx say t := rfl
   rw [e] at h2 h4 ⊢
   obtain ⟨R, hR⟩ := goQ_pre (tx := tx) (say := say) (q := k (failT tx say t)) (K := K ++ [(tx t, plainV' (say (tx t)))])
   have hK : (goQ tx say (k (failT tx say t)) (K ++ [(tx t, plainV' (say (tx t)))]))[K.length]? = some (tx t, plainV' (say (tx t))) := by rw [hR]; simp
   by_cases hlt : K.length < V.length
   ·
    rw [if_pos hlt]
    have hv := h4 K.length _ (by omega) hK
    have hg : V.getD K.length 0 = say (tx t) := by simp [List.getD_eq_getElem?_getD, hv]
    rw [hg]
    have e2 : decide (plainV' (say (tx t)) = 2) = failT tx say t := by unfold failT; simp only [plain_2]
    rw [e2]
    exact ih (failT tx say t) (hf.snoc _) (by simp; omega) h2 h3 h4
   rw [if_neg hlt]
   have hn : n = K.length := by omega
   have hlen : K.length < (goQ tx say (k (failT tx say t)) (K ++ [(tx t, plainV' (say (tx t)))])).length := by rw [hR]; simp
   refine ⟨fun _ => ⟨t, _, ?_, by rw [hn]; exact hK, rfl⟩, fun h => by omega⟩
   rw [hn, hR]
   simp
theorem evalQ_all {A : T → Prop} {P : α → Prop} {φ : T → Bool} : ∀ {q : Qs α}, AllQ A P q → P (evalQ φ q)
 | .ret a, h => h
 | .ask t k, h => evalQ_all (q := k (φ t)) (h.2 (φ t))
end Go.Proofs.Lw
namespace Go.Proofs.Lw
open Go Go.Am
def tblC : List (List Nat) := [[0, 0, 0, 0, 0, 0, 0, 0, 0, 0, 0, 0, 0, 0], [0, 0, 0, 0, 0, 0, 0, 0, 0, 0, 0, 0, 0, 0], [0, 0, 4, 4, 4, 4, 4, 4, 4, 4, 4, 4, 4, 4], [0, 0, 14, 10, 10, 10, 10, 10, 10, 10, 10, 10, 10, 10], [0, 0, 22, 24, 18, 18, 18, 18, 18, 18, 18, 18, 18, 18], [0, 0, 40, 34, 36, 28, 28, 28, 28, 28, 28, 28, 28, 28], [0, 0, 58, 52, 54, 56, 46, 46, 46, 46, 46, 46, 46, 46], [0, 0, 77, 83, 73, 75, 77, 65, 65, 65, 65, 65, 65, 65], [0, 0, 97, 103, 93, 95, 97, 99, 85, 85, 85, 85, 85, 85], [0, 0, 134, 124, 130, 116, 118, 120, 122, 106, 106, 106, 106, 106], [0, 0, 172, 162, 168, 154, 156, 158, 160, 162, 144, 144, 144, 144], [0, 0, 211, 201, 207, 213, 195, 197, 199, 201, 203, 183, 183, 183], [0, 0, 251, 241, 247, 253, 235, 237, 239, 241, 243, 245, 223, 223], [0, 0, 292, 306, 288, 294, 300, 278, 280, 282, 284, 286, 288, 264]]
def tblN : List (List Nat) := [[0, 0, 0, 0, 0, 0, 0, 0, 0, 0, 0, 0, 0, 0], [0, 0, 0, 0, 0, 0, 0, 0, 0, 0, 0, 0, 0, 0], [0, 0, 4, 4, 4, 4, 4, 4, 4, 4, 4, 4, 4, 4], [0, 0, 10, 6, 6, 6, 6, 6, 6, 6, 6, 6, 6, 6], [0, 0, 12, 14, 8, 8, 8, 8, 8, 8, 8, 8, 8, 8], [0, 0, 22, 16, 18, 10, 10, 10, 10, 10, 10, 10, 10, 10], [0, 0, 24, 18, 20, 22, 12, 12, 12, 12, 12, 12, 12, 12], [0, 0, 26, 32, 22, 24, 26, 14, 14, 14, 14, 14, 14, 14], [0, 0, 28, 34, 24, 26, 28, 30, 16, 16, 16, 16, 16, 16], [0, 0, 46, 36, 42, 28, 30, 32, 34, 18, 18, 18, 18, 18], [0, 0, 48, 38, 44, 30, 32, 34, 36, 38, 20, 20, 20, 20], [0, 0, 50, 40, 46, 52, 34, 36, 38, 40, 42, 22, 22, 22], [0, 0, 52, 42, 48, 54, 36, 38, 40, 42, 44, 46, 24, 24], [0, 0, 54, 68, 50, 56, 62, 40, 42, 44, 46, 48, 50, 26]]
def tabC (m g : Nat) : Nat := (tblC.getD m []).getD g 0
def tabN (m g : Nat) : Nat := (tblN.getD m []).getD g 0
def chkC : Bool := (List.range 14).all fun m => (List.range 14).all fun g => decide (m < 2) || decide (g < 2) ||
 (((List.range m).all fun k => decide (tabC k 2 + min g m ≤ tabC m g) && decide (tabC k (max (g - 1) 2) + 2 * min g m ≤ tabC m g)) && decide (2 * min g m + (if m ≤ g then 0 else tabC m (min (2 * g) m)) ≤ tabC m g) &&
 decide (2 * min g m + (if m ≤ g then 0 else tabN m (min (2 * g) m)) ≤ tabN m g))
theorem chkC_ok : chkC = true := by kernel_rfl
def chkL : Bool := (List.range 14).all fun m => (decide (m < 1) || decide (tabN m 2 + 1 ≤ 6 * m)) && (List.range (m + 1)).all fun k => decide (tabC k 2 ≤ tabC m 2)
theorem chkL_ok : chkL = true := by kernel_rfl
theorem tab_step {m g : Nat} (hm : 2 ≤ m) (hm' : m ≤ 13) (hg : 2 ≤ g) (hg' : g ≤ 13) : (∀ k, k < m → tabC k 2 + min g m ≤ tabC m g ∧ tabC k (max (g - 1) 2) + 2 * min g m ≤ tabC m g) ∧ 2 * min g m + (if m ≤ g then 0 else tabC m (min (2 * g) m)) ≤ tabC m g ∧ 2 * min g m + (if m ≤ g then 0 else tabN m (min (2 * g) m)) ≤ tabN m g := by
 have h := chkC_ok
 unfold chkC at h
 rw [List.all_eq_true] at h
 have h1 := h m (List.mem_range.2 (by omega))
 rw [List.all_eq_true] at h1
 have h2 := h1 g (List.mem_range.2 (by omega))
 have e1 : decide (m < 2) = false := by simp; omega
 have e2 : decide (g < 2) = false := by simp; omega
 rw [e1, e2] at h2
 simp only [Bool.or_self, Bool.false_or, Bool.and_eq_true, decide_eq_true_eq] at h2
 obtain ⟨⟨h3, h4⟩, h5⟩ := h2
 refine ⟨fun k hk => ?_, h4, h5⟩
 rw [List.all_eq_true] at h3
 have := h3 k (List.mem_range.2 hk)
 simpa using this
theorem tab_lin {m : Nat} (hm : m ≤ 13) : (1 ≤ m → tabN m 2 + 1 ≤ 6 * m) ∧ ∀ k, k ≤ m → tabC k 2 ≤ tabC m 2 := by
 have h := chkL_ok
 unfold chkL at h
 rw [List.all_eq_true] at h
 have h1 := h m (List.mem_range.2 (by omega))
 simp only [Bool.and_eq_true, Bool.or_eq_true, decide_eq_true_eq] at h1
 refine ⟨fun hm1 => by omega, fun k hk => ?_⟩
 have h2 := h1.2
 rw [List.all_eq_true] at h2
 have := h2 k (List.mem_range.2 (by omega))
 simpa using this
variable {φ : T → Bool} {ask : List Int → Qs Bool} {P : List Int → Bool}
theorem first_eval (he : ∀ s, evalQ φ (ask s) = P s) : ∀ l, evalQ φ (firstQ ask l) = l.find? P
 | [] => rfl
 | x :: r => by
  simp only [firstQ, evalQ_bind, he, List.find?_cons]
  cases P x with
  | true => rfl
  | false => simp only [Bool.false_eq_true, if_false]; exact first_eval he r
theorem first_cost (he : ∀ s, evalQ φ (ask s) = P s) (hc : ∀ s, costQ φ (ask s) = 1) : ∀ l, costQ φ (firstQ ask l) ≤ l.length
 | [] => by simp [firstQ, costQ]
 | x :: r => by
  simp only [firstQ, costQ_bind, he, hc, List.length_cons]
  have := first_cost he hc r
  cases P x with
  | true => simp [costQ]
  | false => simp only [Bool.false_eq_true, if_false]; omega
theorem cutsL_mem {c x : List Int} {g : Nat} (hg : 2 ≤ g) (hc : 2 ≤ c.length) (hx : x ∈ cutsL c g) : x.Sublist c ∧ x.length < c.length ∧ 0 < x.length := by
 simp only [cutsL, List.mem_map, List.mem_range] at hx
 obtain ⟨k, hk, rfl⟩ := hx
 exact ⟨chunk_sub, chunk_lt (by omega) hk hc, chunk_pos (by omega) hk (by omega)⟩
theorem minus_mem {c r : List Int} {g : Nat} (hg : 2 ≤ g) (hc : 2 ≤ c.length) (hr : r ∈ (cutsL c g).map (minusD c)) : r.Sublist c ∧ r.length < c.length := by
 simp only [List.mem_map] at hr
 obtain ⟨x, hx, rfl⟩ := hr
 obtain ⟨h1, _, h3⟩ := cutsL_mem hg hc hx
 exact ⟨List.filter_sublist, minus_lt h1 h3⟩
theorem cutsL_len {c : List Int} {g : Nat} : (cutsL c g).length = min g c.length := by simp [cutsL]
theorem pass_cases (he : ∀ s, evalQ φ (ask s) = P s) {f g : Nat} {c : List Int} (hg : 2 ≤ g) (hc : 2 ≤ c.length) :
 (∃ x, x.Sublist c ∧ x.length < c.length ∧ P x = true ∧ evalQ φ (loopQ ask (f + 1) c g) = evalQ φ (loopQ ask f x 2)) ∨
 (∃ x, x.Sublist c ∧ x.length < c.length ∧ P x = true ∧ evalQ φ (loopQ ask (f + 1) c g) = evalQ φ (loopQ ask f x (max (g - 1) 2))) ∨
 ((∀ r ∈ (cutsL c g).map (minusD c), P r = false) ∧ evalQ φ (loopQ ask (f + 1) c g) = if c.length ≤ g then c else evalQ φ (loopQ ask f c (min (2 * g) c.length))) := by
 simp only [loopQ, if_neg (show ¬ c.length < 2 by omega), evalQ_bind, first_eval he]
 cases h1 : (cutsL c g).find? P with
 | some x =>
  obtain ⟨a1, a2, _⟩ := cutsL_mem hg hc (List.mem_of_find?_eq_some h1)
  exact .inl ⟨x, a1, a2, List.find?_some h1, rfl⟩
 | none =>
  simp only [evalQ_bind, first_eval he]
  cases h2 : ((cutsL c g).map (minusD c)).find? P with
  | some x =>
   obtain ⟨a1, a2⟩ := minus_mem hg hc (List.mem_of_find?_eq_some h2)
   exact .inr (.inl ⟨x, a1, a2, List.find?_some h2, rfl⟩)
  | none =>
   refine .inr (.inr ⟨fun r hr => ?_, ?_⟩)
   · have := List.find?_eq_none.1 h2 r hr
     simpa using this
   simp only
   split <;> simp [evalQ]
theorem loop_sub (he : ∀ s, evalQ φ (ask s) = P s) : ∀ (f : Nat) (c : List Int) (g : Nat), 2 ≤ g → (evalQ φ (loopQ ask f c g)).Sublist c ∧ (evalQ φ (loopQ ask f c g) = c ∨ (P (evalQ φ (loopQ ask f c g)) = true ∧ (evalQ φ (loopQ ask f c g)).length < c.length))
 | 0, c, g, _ => ⟨List.Sublist.refl _, .inl rfl⟩
 | f + 1, c, g, hg => by
  by_cases hc : c.length < 2
  · simp only [loopQ, if_pos hc, evalQ]
    exact ⟨List.Sublist.refl _, .inl trivial⟩
  have key : ∀ x g', x.Sublist c → x.length < c.length → P x = true → 2 ≤ g' → evalQ φ (loopQ ask (f + 1) c g) = evalQ φ (loopQ ask f x g') → (evalQ φ (loopQ ask (f + 1) c g)).Sublist c ∧ (evalQ φ (loopQ ask (f + 1) c g) = c ∨ (P (evalQ φ (loopQ ask (f + 1) c g)) = true ∧ (evalQ φ (loopQ ask (f + 1) c g)).length < c.length)) := by
   intro x g' h1 h2 h3 h4 h5
   obtain ⟨i1, i2⟩ := loop_sub he f x g' h4
   rw [h5]
   refine ⟨i1.trans h1, .inr ?_⟩
   rcases i2 with i2 | ⟨i2, i3⟩
   · rw [i2]; exact ⟨h3, h2⟩
   exact ⟨i2, by omega⟩
  rcases pass_cases he (f := f) hg (show 2 ≤ c.length by omega) with ⟨x, h1, h2, h3, h4⟩ | ⟨x, h1, h2, h3, h4⟩ | ⟨h1, h2⟩
  · exact key x 2 h1 h2 h3 (by omega) h4
  · exact key x _ h1 h2 h3 (by omega) h4
  rw [h2]
  split
  · exact ⟨List.Sublist.refl _, .inl rfl⟩
  exact loop_sub he f c _ (by omega)
theorem chunk_one {c : List Int} {k : Nat} (hk : k < c.length) : chunk c c.length k = [c[k]] := by
 unfold chunk
 have h0 : 0 < c.length := by omega
 rw [Nat.mul_div_cancel _ h0, Nat.mul_div_cancel _ h0]
 rw [show k + 1 - k = 1 by omega]
 rw [List.drop_eq_getElem_cons hk]
 rfl
theorem loop_min (he : ∀ s, evalQ φ (ask s) = P s) : ∀ (f : Nat) (c : List Int) (g : Nat), fuelQ c g < f → 2 ≤ g → g ≤ 1000 → c.length ≤ 1000 → 2 ≤ c.length → evalQ φ (loopQ ask f c g) = c → ∀ x ∈ c, P (minusD c [x]) = false := by
 intro f
 induction f with
 | zero => intro c g hf; exact absurd hf (Nat.not_lt_zero _)
 | succ f ih =>
  intro c g hf hg hg' hl hc heq
  rcases pass_cases he (f := f) hg hc with ⟨x, h1, h2, h3, h4⟩ | ⟨x, h1, h2, h3, h4⟩ | ⟨h1, h2⟩
  · have := (loop_sub he f x 2 (by omega)).1.length_le
    rw [← h4, heq] at this; omega
  · have := (loop_sub he f x (max (g - 1) 2) (by omega)).1.length_le
    rw [← h4, heq] at this; omega
  by_cases hgl : c.length ≤ g
  ·
   intro x hx
   obtain ⟨k, hk, e⟩ := List.getElem_of_mem hx
   refine h1 _ (List.mem_map.2 ⟨[x], ?_, rfl⟩)
   simp only [cutsL, List.mem_map, List.mem_range]
   have hm : min g c.length = c.length := by omega
   refine ⟨k, by omega, ?_⟩
   rw [hm, chunk_one hk, e]
  rw [if_neg hgl] at h2
  refine ih c (min (2 * g) c.length) ?_ (by omega) (by omega) hl hc (by rw [← h2]; exact heq)
  unfold fuelQ at *; omega
theorem loop_cost (he : ∀ s, evalQ φ (ask s) = P s) (hco : ∀ s, costQ φ (ask s) = 1) : ∀ (f : Nat) (c : List Int) (g : Nat), 2 ≤ g → g ≤ 13 → c.length ≤ 13 →
 costQ φ (loopQ ask f c g) ≤ tabC c.length g ∧ (evalQ φ (loopQ ask f c g) = c → costQ φ (loopQ ask f c g) ≤ tabN c.length g)
 | 0, c, g, _, _, _ => by simp [loopQ, costQ]
 | f + 1, c, g, hg, hg', hl => by
  by_cases hc : c.length < 2
  · simp [loopQ, if_pos hc, costQ]
  have hc2 : 2 ≤ c.length := by omega
  obtain ⟨t1, t2, t3⟩ := tab_step hc2 hl hg hg'
  have f1 := first_cost he hco (cutsL c g)
  have f2 := first_cost he hco ((cutsL c g).map (minusD c))
  rw [List.length_map] at f2
  rw [cutsL_len] at f1 f2
  simp only [loopQ, if_neg hc, evalQ_bind, costQ_bind, first_eval he]
  cases h1 : (cutsL c g).find? P with
  | some x =>
   obtain ⟨a1, a2, _⟩ := cutsL_mem hg hc2 (List.mem_of_find?_eq_some h1)
   have hi := (loop_cost he hco f x 2 (by omega) (by omega) (by omega)).1
   have ht := (t1 x.length a2).1
   have hs := (loop_sub he f x 2 (by omega)).1.length_le
   simp only
   refine ⟨by omega, fun e => ?_⟩
   rw [e] at hs; omega
  | none =>
   simp only [evalQ_bind, costQ_bind, first_eval he]
   cases h2 : ((cutsL c g).map (minusD c)).find? P with
   | some x =>
    obtain ⟨a1, a2⟩ := minus_mem hg hc2 (List.mem_of_find?_eq_some h2)
    have hi := (loop_cost he hco f x (max (g - 1) 2) (by omega) (by omega) (by omega)).1
    have ht := (t1 x.length a2).2
    have hs := (loop_sub he f x (max (g - 1) 2) (by omega)).1.length_le
    simp only
    refine ⟨by omega, fun e => ?_⟩
    rw [e] at hs; omega
   | none =>
    simp only
    by_cases hgl : c.length ≤ g
    · rw [if_pos hgl] at t2 t3 ⊢
      simp only [costQ]
      exact ⟨by omega, fun _ => by omega⟩
    rw [if_neg hgl] at t2 t3 ⊢
    obtain ⟨i1, i2⟩ := loop_cost he hco f c (min (2 * g) c.length) (by omega) (by omega) hl
    exact ⟨by omega, fun e => by have := i2 e; omega⟩
theorem min_eval (he : ∀ s, evalQ φ (ask s) = P s) {c : List Int} (hl : c.length ≤ 1000) : (evalQ φ (minQ ask c)).Sublist c ∧
 (evalQ φ (minQ ask c) = c ∨ (P (evalQ φ (minQ ask c)) = true ∧ (evalQ φ (minQ ask c)).length < c.length)) ∧
 (evalQ φ (minQ ask c) = c → ∀ x ∈ c, P (minusD c [x]) = false) := by
 have h1 := loop_sub he (fuelQ c 2 + 1) c 2 (by omega)
 have h2 := loop_min he (fuelQ c 2 + 1) c 2 (by omega) (by omega) (by omega) hl
 unfold minQ
 rw [evalQ_bind]
 generalize hc1 : evalQ φ (loopQ ask (fuelQ c 2 + 1) c 2) = c1 at *
 have hshort : c.length < 2 → c1 = c := by
  intro h
  rw [← hc1]
  simp [loopQ, h, evalQ]
 unfold lastQ
 by_cases h0 : c1.length = 1
 ·
  rw [if_pos h0, evalQ_bind, he]
  cases hp : P [] with
  | true =>
   simp only [if_true, evalQ]
   have hle := h1.1.length_le
   refine ⟨List.nil_sublist _, .inr ⟨hp, by simp; omega⟩, fun e => ?_⟩
   have h00 : c.length = 0 := by rw [← e]; rfl
   omega
  | false =>
   simp only [Bool.false_eq_true, if_false, evalQ]
   refine ⟨h1.1, h1.2, fun e x hx => ?_⟩
   by_cases hc : 2 ≤ c.length
   · exact h2 hc e x hx
   rw [e] at h0
   obtain ⟨y, hy⟩ := List.length_eq_one_iff.1 h0
   rw [hy] at hx ⊢
   simp only [List.mem_singleton] at hx
   subst hx
   have : minusD [x] [x] = [] := by simp [minusD]
   rw [this]; exact hp
 rw [if_neg h0]
 simp only [evalQ]
 refine ⟨h1.1, h1.2, fun e x hx => ?_⟩
 by_cases hc : 2 ≤ c.length
 · exact h2 hc e x hx
 rw [e] at h0
 have h00 : c = [] := List.eq_nil_of_length_eq_zero (by omega)
 rw [h00] at hx
 simp at hx
theorem min_cost (he : ∀ s, evalQ φ (ask s) = P s) (hco : ∀ s, costQ φ (ask s) = 1) {c : List Int} (hl : c.length ≤ 13) (h1 : 1 ≤ c.length) : costQ φ (minQ ask c) ≤ tabC c.length 2 + 1 ∧ (evalQ φ (minQ ask c) = c → costQ φ (minQ ask c) ≤ 6 * c.length) := by
 obtain ⟨i1, i2⟩ := loop_cost he hco (fuelQ c 2 + 1) c 2 (by omega) (by omega) hl
 have hs := (loop_sub he (fuelQ c 2 + 1) c 2 (by omega)).1
 have hlin := (tab_lin hl).1 h1
 unfold minQ
 rw [costQ_bind, evalQ_bind]
 generalize evalQ φ (loopQ ask (fuelQ c 2 + 1) c 2) = c1 at *
 have hlast : costQ φ (lastQ ask c1) ≤ 1 := by
  unfold lastQ
  split
  · rw [costQ_bind, hco]; simp [costQ]
  simp [costQ]
 refine ⟨by omega, fun e => ?_⟩
 have : c1 = c := by
  unfold lastQ at e
  by_cases h0 : c1.length = 1
  ·
   rw [if_pos h0, evalQ_bind, he] at e
   cases hp : P [] with
   | true =>
    rw [hp] at e
    simp only [if_true, evalQ] at e
    rw [← e] at h1
    simp at h1
   | false =>
    rw [hp] at e
    simpa [evalQ] using e
  rw [if_neg h0] at e
  simpa [evalQ] using e
 have := i2 this
 omega
end Go.Proofs.Lw
