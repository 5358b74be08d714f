/-
  PROVED here: steps on the way to the card of 'sleuthlaw06.ReduceTreeMinimal' (an abstract machine, its soundness, what each function computes). No conditions beyond those that each theorem states.
-/
import Derived.Test.YtfgpboldklboaaaGreatDoorAm05
import Derived.Test.YtfgpboldklboaaaGreatDoorAm02
namespace Go.Am
variable {E : Env} {w0 w : World} {ρ : Emb} {m : Mem}
theorem firstCells_old (h : MR E w0 ρ m w) {b o b' s o' len c cap size : Nat} {vs : List Value} (hr : m.loadN E b o (len * size) = some vs) (ha : ρ.at w0.heap.size b = some (b', s))
 (ho : cap ≠ 0 ∨ exact c = true → o' = s + o) (hl : len ≤ cap) :
 ∃ vs', (∀ w1 : World, w1.heap = w.heap → (Builtin.firstCells size len (.slice (some ⟨b', o', none⟩) len cap)).run E.P w1 = .ok ⟨vs'⟩ w1) ∧ VL ρ w0.heap.size vs vs' ∧ vs.all plainV = true ∧ vs'.length = len * size ∧ (∀ (j : Nat) (v : Value), vs'[j]? = some v → w.cell? ⟨b', s + o + j, none⟩ = some v) := by
 by_cases hz : cap ≠ 0
 · rw [ho (.inl hz)]
   obtain ⟨vs', h1, h2, h3, h4, h5⟩ := run_loadCells_vl h hr ha
   exact ⟨vs', fun w1 hw => by simp [Builtin.firstCells, h1 w1 hw], h2, h4, h3, h5⟩
 have h0 : len = 0 := by omega
 subst h0
 rw [Nat.zero_mul] at hr
 simp only [Mem.loadN, Option.some.injEq] at hr
 subst hr
 exact ⟨[], fun w1 _ => by simp [Builtin.firstCells, loadCells, loadCellsFrom], VL.nil, rfl, by simp, fun j v e => by simp at e⟩
theorem all_append {a b : List Value} (ha : a.all plainV = true) (hb : b.all plainV = true) : (a ++ b).all plainV = true := by
 simp only [List.all_append, ha, hb, Bool.and_self]
theorem MR.drew (h : MR E w0 ρ m w) : MR E w0 ρ m { w with drawn := w.drawn + 1 } := (h.like (w' := { w with drawn := w.drawn + 1 }) ⟨rfl, rfl, rfl⟩ rfl).1
theorem ValOk.from {m1 : Mem} {s : Sem Value} {r : ORes} (hE : Ext w0 ρ ρ m m1 w w) (h : ValOk E w0 ρ m1 w s r) : ValOk E w0 ρ m w s r := by
 cases r with
 | value v m' => obtain ⟨ρ', w', v', a, b, c, d⟩ := h; exact ⟨ρ', w', v', a, b, c, hE.trans d⟩
 | fail => exact trivial
 | _ => exact h
theorem opAppend_ok (h : MR E w0 ρ m w) {t : TypeId} {xt : Option TypeId} {argTypes : Array TypeId} {ty : TypeId} (ht : argTypes[0]? = some t) (ht1 : argTypes[1]? = xt) {s s' x x' : Value}
 (hs : VR ρ w0.heap.size s s') (hx : VR ρ w0.heap.size x x') : ValOk E w0 ρ m w (Builtin.append_ argTypes ty #[s', x']) (opAppend E t xt s x m) := by
 cases hu : und E t with
 | none => unfold opAppend; rw [hu]; exact trivial
 | some d =>
  cases d with
  | slice e =>
   cases hn : lenSrc x with
   | none => unfold opAppend; rw [hu, hn]; cases s <;> exact trivial
   | some n =>
    have main : ∀ (base : Option Addr) (len c : Nat), s = .slice base len c → ValOk E w0 ρ m w (Builtin.append_ argTypes ty #[s', x']) (opAppend E t xt s x m) := by
     intro base len c hsl
     subst hsl
     unfold opAppend
     rw [hu, hn]
     simp only
     cases hi : E.P.info? e with
     | none => exact trivial
     | some i =>
      simp only
      split
      ·
       rename_i hc
       simp only [Bool.and_eq_true, decide_eq_true_eq] at hc
       obtain ⟨⟨hel, hsrc⟩, hsmall⟩ := hc
       obtain ⟨z, hz, hzs, h0, hby⟩ := elemOk_spec hel
       cases hr : readSrc E m i.size n x with
       | none => exact trivial
       | some new =>
        simp only
        obtain ⟨new', hn1, hn2, hn3, hn4⟩ := readSrc_ok h hr hn hx
        split
        ·
         rename_i hnl
         have hnl' : new'.length = n * i.size := by rw [← hn2.1]; exact hnl
         cases hs with
         | snil =>
          simp only
          split
          · rename_i hfit
            split
            · rename_i hcnd
              simp only [Bool.and_eq_true] at hcnd
              have hcz : capOf 0 = 0 := rfl
              have hn0 : n = 0 := by omega
              subst hn0
              exact ValOk.same h (run_append_fit (w2 := w) hu hi ht ht1 hsrc hn4 (by omega) (hn1 w rfl) rfl) .snil
            exact trivial
          rename_i hgr
          have hcz : capOf 0 = 0 := rfl
          simp only [beq_self_eq_true, Bool.and_self, if_true]
          exact grow_ok (need := 0 + n) h hi hzs h0 hn3 hn2 (by rw [Nat.zero_add]; exact hnl) 0 { cellsOf new e with slk := true } rfl rfl rfl rfl (by simp [cellsOf]) (fun _ => by simp [cellsOf]) _
           (fun newCap hnc w1 hw1 hq => by
            have := run_append_grow (ty := ty) (base := none) (len := 0) (cap := 0) (vo := []) (vn := new') hu hi hz hby ht ht1 hsrc hn4 (by omega) (by omega)
             (fun w1 _ => by simp [Builtin.firstCells]) hn1 newCap hq w1 hw1
            simpa using this)
         | slice0 a =>
          have hcz : capOf 1 = 0 := rfl
          have hez : exact 1 = true := rfl
          simp only [hcz, hez]
          split
          · rename_i hfit
            have hn0 : n = 0 := by omega
            subst hn0
            have hnil : new = [] := by
             rw [Nat.zero_mul] at hnl
             exact List.eq_nil_of_length_eq_zero hnl
            subst hnil
            have hnil' : new' = [] := List.eq_nil_of_length_eq_zero (by rw [hnl', Nat.zero_mul])
            subst hnil'
            simp only [Mem.write, List.isEmpty_nil, if_true]
            exact ValOk.same h (run_append_fit (w2 := w) hu hi ht ht1 hsrc hn4 (by omega) (hn1 w rfl) (by simp [storeCells])) (.slice0 a)
          rename_i hgr
          simp only [Nat.zero_mul, Mem.loadN, if_true, List.nil_append]
          exact grow_ok (need := 0 + n) h hi hzs h0 hn3 hn2 (by rw [Nat.zero_add]; exact hnl) 0 { cellsOf new e with slk := true } rfl rfl rfl rfl (by simp [cellsOf]) (fun _ => by simp [cellsOf]) _
           (fun newCap hnc w1 hw1 hq => by
            have := run_append_grow (ty := ty) (base := some a) (len := 0) (cap := 0) (vo := []) (vn := new') hu hi hz hby ht ht1 hsrc hn4 (by omega) (by omega)
             (fun w1 _ => by simp [Builtin.firstCells, loadCells, loadCellsFrom]) hn1 newCap hq w1 hw1
            simpa using this)
         | slice ha hcap ho hl =>
          rename_i b o b' s o' cap
          simp only
          have hcl := capR_len hcap
          split
          ·
           rename_i hfit
           cases hw : m.write b (o + len * i.size) new with
           | none => exact trivial
           | some m' =>
            simp only
            by_cases hz0 : cap ≠ 0
            · obtain ⟨w', r1, r2, r3⟩ := write_ok h hw ha hn2
              refine ⟨ρ, w', _, run_append_fit (w2 := w') hu hi ht ht1 hsrc hn4 (by omega) (hn1 w rfl) ?_, .slice ha hcap ho (by omega), r2, r3⟩
              simp only
              rw [ho (.inl hz0), addr_add, Nat.add_assoc]; exact r1
            have hn0 : n = 0 := by omega
            subst hn0
            have hnil : new = [] := by
             rw [Nat.zero_mul] at hnl
             exact List.eq_nil_of_length_eq_zero hnl
            subst hnil
            have hnil' : new' = [] := List.eq_nil_of_length_eq_zero (by rw [hnl', Nat.zero_mul])
            subst hnil'
            simp only [Mem.write, List.isEmpty_nil, if_true, Option.some.injEq] at hw
            subst hw
            exact ValOk.same h (run_append_fit (w2 := w) hu hi ht ht1 hsrc hn4 (by omega) (hn1 w rfl) (by simp [storeCells])) (.slice ha hcap ho (by omega))
          rename_i hgr
          cases hold : m.loadN E b o (len * i.size) with
          | none => exact trivial
          | some old =>
           simp only
           obtain ⟨old', ho1, ho2, ho3, ho4, ho5⟩ := firstCells_old h hold ha ho hl
           have hvl := ho2.append hn2
           have hal := all_append ho3 hn3
           have hlen : (old ++ new).length = (len + n) * i.size := by
            rw [List.length_append, ho2.1, ho4, hnl, Nat.add_mul]
           have hg : ∀ {ρ1 : Emb} {m1 : Mem}, MR E w0 ρ1 m1 w → VL ρ1 w0.heap.size (old ++ new) (old' ++ new') → ∀ (k : Cells), k.c = (cellsOf (old ++ new) e).c → k.n = (old ++ new).length → k.elem = e → k.slk = true → k.hi ≤ k.n →
            (k.str = false → k.hi ≤ k.lo) → ¬ len + n ≤ cap →
            ValOk E w0 ρ1 m1 w (Builtin.append_ argTypes ty #[.slice (some ⟨b', o', none⟩) len cap, x']) (.value (.slice (some ⟨m1.nb, 0, none⟩) (len + n) (mkCap (len + n) false)) (m1.new (.cells k))) := by
            intro ρ1 m1 hM hv k k1 k2 k3 k4 k5 k6 hnf
            exact grow_ok (need := len + n) hM hi hzs h0 hal hv hlen cap k k1 k2 k3 k4 k5 k6 _
             (fun newCap hnc w1 hw1 hq => run_append_grow (ty := ty) (base := some ⟨b', o', none⟩) (len := len) (cap := cap) (vo := old') (vn := new') hu hi hz hby ht ht1 hsrc hn4 (by omega) hnf ho1 hn1 newCap hq w1 hw1)
           split
           · rename_i hex
             have hcc : cap = capOf c := by
              rcases hcap with ⟨_, x⟩ | ⟨x, _⟩
              · exact x
              rw [hex] at x; cases x
             exact hg h hvl _ rfl rfl rfl rfl (by simp [cellsOf]) (fun _ => by simp [cellsOf]) (by omega)
           rename_i hex
           have hex : exact c = false := by simpa using hex
           cases hlv : m.live b with
           | none => exact trivial
           | some pc =>
            simp only
            split
            ·
             rename_i hpc
             simp only [Bool.and_eq_true, beq_iff_eq, decide_eq_true_eq] at hpc
             obtain ⟨⟨hps, hpe⟩, hph⟩ := hpc
             obtain ⟨hodd, L, hL, hLb, hLs, hgk, hdead, hcR⟩ := h.live hlv ha
             obtain ⟨hcn, hslk0, hes, C, flo, fhi, hh, hC, hcell, hhull⟩ := hcR
             obtain ⟨L', hL', hcc, hend⟩ : ∃ L', ρ (b / 2) = some L' ∧ cap = capOf c + L'.d ∧ o + capOf c * L'.es = L'.n := by
              rcases hcap with ⟨x, _⟩ | ⟨_, _, L', a1, a2, a3⟩
              · rw [hex] at x; cases x
              exact ⟨L', a1, a2, a3⟩
             rw [hL] at hL'; cases hL'
             have hLes : L.es = i.size := by rw [(hes hps).1, hpe]; exact szOf_info hi
             have hkill := h.turn (w' := w) (bl' := .cells { pc with dead := true }) hL hgk (by simp [Blk.alive, hdead]) (Like.refl w) rfl (fun _ _ => rfl) (.inl rfl)
             have hm1 := hkill.1
             have hklen : pc.hi - o ≤ (old ++ new).length := by
              have : len * i.size ≤ (len + n) * i.size := Nat.mul_le_mul_right _ (by omega)
              omega
             have hkstr : (pc.str || decide (pc.lo < pc.hi)) = false → pc.hi - o ≤ pc.lo - o := by
              intro hx
              simp only [Bool.or_eq_false_iff, decide_eq_false_iff_not] at hx
              omega
             refine ValOk.from hkill.2 ?_
             by_cases hnf : len + n ≤ cap
             ·
              -- in place, in the slack
              have hcap0 : cap ≠ 0 := by omega
              have hoo := ho (.inl hcap0)
              have e1 : capOf c * L.es = capOf c * i.size := by rw [hLes]
              have e2 : cap * i.size = capOf c * i.size + L.d * i.size := by rw [hcc, Nat.add_mul]
              have e3 : (len + n) * i.size ≤ cap * i.size := Nat.mul_le_mul_right _ hnf
              have e4 : (len + n) * i.size = len * i.size + n * i.size := Nat.add_mul _ _ _
              have e5 : L.d * L.es = L.d * i.size := by rw [hLes]
              have e6 : (cap - (len + n)) * i.size = cap * i.size - (len + n) * i.size := Nat.mul_sub_right_distrib _ _ _
              obtain ⟨C', w', r1, r2, r3, r4, r5, r6, r7⟩ := run_storeRow E.P L.b (L.s + o + len * i.size) pc.elem flo fhi new' 0 C w hh
               (fun j hj hx => by
                have := hhull.2.1 (o + len * i.size + j) (by omega) (by omega) (by omega)
                omega)
               (by omega)
               (fun v hv2 => by
                obtain ⟨q, hq, rfl⟩ := List.getElem_of_mem hv2
                have hq' : q < new.length := by rw [hn2.1]; exact hq
                have := hn2.2 q
                rw [List.getD, List.getD, List.getElem?_eq_getElem hq, List.getElem?_eq_getElem hq'] at this
                rw [List.all_eq_true] at hn3
                exact (plain_cell (hn3 _ (List.getElem_mem hq')) this).1)
              simp only [Nat.add_zero] at r7
              let L2 : Loc := ⟨L.b, L.s + o, cap - (len + n), (len + n) * i.size, i.size⟩
              have hloc := h.loc _ _ hL
              have hle2 := Emb.put_le (ρ := ρ) (k := m.nxt) (L := L2) h.none_nxt
              have hat := hm1.newAt (w' := w') (.cells { cellsOf (old ++ new) e with slk := true, str := pc.str || decide (pc.lo < pc.hi), lo := pc.lo - o, hi := pc.hi - o }) L2 r5 hloc.1 hloc.2.1 r4 r6
               (fun k L3 b2 hk3 hg3 ha3 hb3 => by
                simp only [Mem.setB] at hg3
                rw [Tr.get_set] at hg3
                by_cases hkk : k = b / 2
                · rw [if_pos hkk] at hg3; cases hg3; simp [Blk.alive] at ha3
                rw [if_neg hkk] at hg3
                exact hkk (h.inj _ _ _ _ _ _ hk3 hL hg3 hgk ha3 (by simp [Blk.alive, hdead]) hb3))
               ⟨_, _, hL, rfl⟩
               (.inr ⟨hlen, (fun x => by cases x), (fun _ => ⟨(szOf_info hi).symm, h0⟩), C', flo, fhi, by rw [← hpe]; exact r2, by rw [r3, hC]; simp only [L2]; omega, fun j hj => ?_, ?_⟩)
              · refine ⟨_, w', _, run_append_fit (w2 := w') hu hi ht ht1 hsrc hn4 hnf (hn1 w rfl) (by simp only; rw [hoo, addr_add, ← hLs, ← hLb]; exact r1), .slice (by rw [← hLb]; exact Emb.at_nb (m := m.setB (b / 2) (.cells { pc with dead := true })) (L := L2)) (.inr ⟨(mk_open _).1, Mem.nb_odd m, L2, ?_, ?_, ?_⟩) (fun _ => by rw [hoo, ← hLs]; simp only [L2]; omega) hnf, hat.1, hat.2⟩
                · exact (by rw [Mem.nb_half]; exact Emb.put_same _ _ _)
                · rw [(mk_open _).2]; simp only [L2]; omega
                rw [(mk_open _).2]; simp only [L2]; omega
              · simp only [cellsOf] at hj
                obtain ⟨v', q1, q2⟩ := hvl.get (List.getElem?_eq_getElem hj)
                refine ⟨(old ++ new)[j], v', ?_, ?_, ?_, q2.mono hle2⟩
                · simp only [cellsOf]; rw [Tr.get_putAll, if_pos (by omega)]; simp only [Nat.sub_zero]; exact List.getElem?_eq_getElem hj
                · rw [List.all_eq_true] at hal; exact hal _ (List.getElem_mem hj)
                simp only [L2]
                rw [r7]
                by_cases hjl : j < len * i.size
                · rw [if_neg (by omega)]
                  rw [List.getElem?_append_left (by omega)] at q1
                  have := ho5 j v' q1
                  rw [← hLb, ← hLs, world_cell hh] at this
                  exact this
                rw [if_pos (by rw [hlen] at hj; omega)]
                rw [List.getElem?_append_right (by omega), ho4] at q1
                rw [show L.s + o + j - (L.s + o + len * i.size) = j - len * i.size by omega]
                exact q1
              refine ⟨hklen, fun j hj h1 h2 => ?_, fun hx => ?_⟩
              · simp only [L2] at hj h1 h2
                have := hhull.2.1 (o + j) (by omega) (by omega) (by omega)
                simp only; omega
              left
              refine ⟨hkstr hx, ?_⟩
              simp only [Bool.or_eq_false_iff, decide_eq_false_iff_not] at hx
              rcases hhull.2.2 hx.1 with hy | hy
              · exact hy.2
              exact absurd hy.1 hx.2
             exact hg hm1 hvl _ rfl rfl rfl rfl hklen hkstr hnf
            exact trivial
        exact trivial
      exact trivial
    cases s with
    | slice base len c => exact main base len c rfl
    | _ => unfold opAppend; rw [hu, hn]; exact trivial
  | _ => unfold opAppend; rw [hu]; exact trivial
end Go.Am
namespace Go.Am
variable {G : Cfg} {w0 w : World} {ρ : Emb} {m : Mem}
structure CfgOk (G : Cfg) : Prop where
 idf : ∀ f, G.idf f = true → ∀ (x : Value) (w : World), (callFunc f #[x]).run G.P w = .ok (.value x) w
 mixed : G.P.follows .mixedOrders = true
def OpOk (G : Cfg) (w0 : World) (ρ : Emb) (m : Mem) (w : World) (s : Sem Next) : ORes → Prop
 | .value v m' => ∃ ρ' w' v', s.run G.P w = .ok (.value v') w' ∧ VR ρ' w0.heap.size v v' ∧ MR G.toEnv w0 ρ' m' w' ∧ Ext w0 ρ ρ' m m' w w'
 | .skip m' => ∃ ρ' w', s.run G.P w = .ok .skip w' ∧ MR G.toEnv w0 ρ' m' w' ∧ Ext w0 ρ ρ' m m' w w'
 | .enter f args m' => m' = m ∧ ∃ args' : Array Value, s.run G.P w = .ok (.enter f args') w ∧ VL ρ w0.heap.size args args'.toList
 | .round l args m' => m' = m ∧ ∃ (l' : Nat) (args' : Array Value), ρ.at w0.heap.size l = some (l', 0) ∧ l % 2 = 1 ∧ VL ρ w0.heap.size args args'.toList ∧ s.run G.P w = (Instr.yield l' args').run G.P w
 | .defer d m' => m' = m ∧ ∃ d', s.run G.P w = .ok (.defer d') w ∧ DefR ρ w0.heap.size d d'
 | .recover m' => m' = m ∧ s.run G.P w = .ok .recover w
 | .panic v m' => m' = m ∧ ∃ v', s.run G.P w = .halt (.panic v') w ∧ VR ρ w0.heap.size v v'
 | .fail => True
theorem OpOk.of_val {s : Sem Value} {r : ORes} (h : ValOk G.toEnv w0 ρ m w s r) : OpOk G w0 ρ m w (do pure (.value (← s))) r := by
 cases r with
 | value v m' => obtain ⟨ρ', w', v', h1, h2⟩ := h; exact ⟨ρ', w', v', by simp [h1], h2⟩
 | fail => exact trivial
 | _ => exact h.elim
theorem OpOk.of_skip {s : Sem Unit} {r : ORes} (h : SkipOk G.toEnv w0 ρ m w s r) : OpOk G w0 ρ m w (do s; pure .skip) r := by
 cases r with
 | skip m' => obtain ⟨ρ', w', h1, h2⟩ := h; exact ⟨ρ', w', by simp [h1], h2⟩
 | fail => exact trivial
 | _ => exact h.elim
theorem opLen_ok (h : MR G.toEnv w0 ρ m w) {t : TypeId} {argTypes : Array TypeId} {ty : TypeId} (ht : argTypes[0]? = some t) {x x' : Value} (hx : VR ρ w0.heap.size x x') :
 ValOk G.toEnv w0 ρ m w (Builtin.len_ argTypes ty #[x']) (opLen G t x m) := by
 unfold opLen
 cases hl : lenV G.toEnv m t x with
 | none => exact trivial
 | some n =>
  simp only
  unfold lenV at hl
  cases hu : und G.toEnv t with
  | none => rw [hu] at hl; simp at hl
  | some d =>
   rw [hu] at hl
   have hur := run_underlying (P := G.P) (t := t) (d := d) hu w
   cases d with
   | string =>
    cases hx with
    | string s => simp only [Option.some.injEq] at hl; subst hl; exact ValOk.same h (by simp [Builtin.len_, ht, hur, goInt]) (.int _ _)
    | undef => simp [undef] at hl
    | _ => simp at hl
   | array n2 e => simp only [Option.some.injEq] at hl; subst hl; exact ValOk.same h (by simp [Builtin.len_, ht, hur, goInt]) (.int _ _)
   | slice e =>
    cases hx with
    | snil => simp only [Option.some.injEq] at hl; subst hl; exact ValOk.same h (by simp [Builtin.len_, ht, hur, goInt]) (.int _ _)
    | slice => simp only [Option.some.injEq] at hl; subst hl; exact ValOk.same h (by simp [Builtin.len_, ht, hur, goInt]) (.int _ _)
    | slice0 => simp only [Option.some.injEq] at hl; subst hl; exact ValOk.same h (by simp [Builtin.len_, ht, hur, goInt]) (.int _ _)
    | undef => simp [undef] at hl
    | _ => simp at hl
   | map k e =>
    cases hx with
    | mnil => simp only [Option.some.injEq] at hl; subst hl; exact ValOk.same h (v' := goInt 0) (by simp [Builtin.len_, ht, hur, goInt]) (.int _ _)
    | map ha hodd =>
     rename_i r r'
     simp only at hl
     cases hm : m.map? r with
     | none => rw [hm] at hl; cases hl
     | some p =>
      obtain ⟨es, c⟩ := p
      rw [hm] at hl
      simp only [Option.some.injEq] at hl
      subst hl
      obtain ⟨L, es', _, _, _, _, hh, hes⟩ := h.map hm ha
      have hsz : es'.size = es.length := by have := hes.1; simp at this; omega
      exact ValOk.same h (v' := goInt es.length) (by simp [Builtin.len_, ht, hur, run_getObj_map hh, hsz, goInt]) (.int _ _)
    | undef => simp [undef] at hl
    | _ => simp at hl
   | _ => simp at hl
theorem sliceData_nil {at' : Array TypeId} {ty : TypeId} {l c : Nat} : Builtin.unsafeSliceData_ at' ty #[.slice none l c] = pure (.pointer none) := rfl
theorem sliceData_some {at' : Array TypeId} {ty : TypeId} {a : Addr} {l c : Nat} (h : c ≠ 0) : Builtin.unsafeSliceData_ at' ty #[.slice (some a) l c] = pure (.pointer (some a)) := by
 show (if c ≠ 0 then _ else _) = _
 rw [if_pos h]
theorem opSliceData_ok (h : MR G.toEnv w0 ρ m w) {argTypes : Array TypeId} {ty : TypeId} {x x' : Value} (hx : VR ρ w0.heap.size x x') :
 ValOk G.toEnv w0 ρ m w (Builtin.unsafeSliceData_ argTypes ty #[x']) (opSliceData x m) := by
 unfold opSliceData
 cases hx with
 | snil => exact ValOk.same h (by rw [sliceData_nil]; simp) .pnil
 | slice0 a =>
  simp only
  split
  · exact trivial
  rename_i hc
  exact absurd rfl hc
 | slice ha hcap ho hl =>
  simp only
  split
  · exact trivial
  rename_i hc
  have := capR_len hcap
  rename_i b o b' s o' len c cap
  have hcap0 : cap ≠ 0 := by omega
  rw [ho (.inl hcap0)]
  exact ValOk.same h (by rw [sliceData_some hcap0]; simp) (.ptr ha)
 | undef => simp only [undef]; exact trivial
 | _ => exact trivial
theorem run_loadBytes (P : Program) (w : World) (b : Nat) : ∀ (vs : List Value) (o : Nat) (acc : ByteArray) {bs : List UInt8}, cutB vs = some bs →
 (∀ (j : Nat) (v : Value), vs[j]? = some v → w.cell? ⟨b, o + j, none⟩ = some v) → (loadBytes ⟨b, o, none⟩ acc vs.length).run P w = .ok ⟨⟨acc.data.toList ++ bs⟩⟩ w := by
 intro vs
 induction vs with
 | nil => intro o acc bs h _; simp only [cutB, Option.some.injEq] at h; subst h; simp [loadBytes]
 | cons x xs ih =>
  intro o acc bs h hc
  cases x with
  | int k n =>
   cases k with
   | u8 =>
    simp only [cutB] at h
    cases hr : cutB xs with
    | none => rw [hr] at h; cases h
    | some l =>
     rw [hr] at h; cases h
     have h0 := hc 0 _ rfl
     rw [Nat.add_zero] at h0
     have := ih (o + 1) (acc.push (n.toNat.toUInt8)) hr (fun j v hj => by
      have := hc (j + 1) v (by simpa using hj)
      rwa [show o + 1 + j = o + (j + 1) by omega])
     simp only [List.length_cons, loadBytes, Sem.run_bind, run_load, h0, Result.andThen_ok, addr_add]
     rw [this, push_bytes]
     simp
   | _ => simp [cutB] at h
  | _ => simp [cutB] at h
theorem liesAt_row {P : Program} {e u : TypeId} {cnt off n : Nat} (h1 : P.cellsOf e = 1) (hs : sameLayout P P.depth e u = true) (ho : off + n ≤ cnt) : liesAt P P.depth e (cnt / P.cellsOf e) off u n = true := by
 have hd : P.depth = (P.depth - 1) + 1 := by unfold Program.depth; omega
 rw [h1, Nat.div_one]
 unfold liesAt
 rw [hd]
 simp only
 rw [← hd]
 have : rowAt P (fun x => sameLayout P P.depth x u) P.depth e cnt off n = true := by
  rw [hd]
  unfold rowAt
  simp only
  rw [← hd]
  simp [h1, hs, ho, Nat.mod_one]
 rw [this]
 rfl
theorem opUnsafeString_ok (h : MR G.toEnv w0 ρ m w) {argTypes : Array TypeId} {pt ty : TypeId} (ht : argTypes[0]? = some pt) {p p' n n' : Value} (hp : VR ρ w0.heap.size p p') (hn : VR ρ w0.heap.size n n') :
 ValOk G.toEnv w0 ρ m w (Builtin.unsafeString_ argTypes ty #[p', n']) (opUnsafeString G pt p n m) := by
 unfold opUnsafeString
 cases hp with
 | pnil =>
  cases hn with
  | int k n =>
   simp only
   split
   · rename_i h0; subst h0; exact ValOk.same h (v' := .string .empty) (by show (asInt (.int _ _) >>= _ : Sem Value).run _ _ = _; simp [asInt, asIntOf, ht]) (.string _)
   exact trivial
  | undef => simp only [undef]; exact trivial
  | _ => exact trivial
 | ptr ha =>
  rename_i b o b' s
  cases hn with
  | int k n =>
   simp only
   split
   · rename_i h0; subst h0; exact ValOk.same h (v' := .string .empty) (by show (asInt (.int _ _) >>= _ : Sem Value).run _ _ = _; simp [asInt, asIntOf, ht]) (.string _)
   rename_i hn0
   split
   · exact trivial
   rename_i hrange
   simp only [Bool.or_eq_true, decide_eq_true_eq, not_or] at hrange
   cases hu : und G.toEnv pt with
   | none => exact trivial
   | some d =>
    cases d with
    | pointer u =>
     cases hl : m.live b with
     | none => exact trivial
     | some c =>
      simp only
      split
      · exact trivial
      rename_i hc
      simp only [Bool.or_eq_true, Bool.not_eq_eq_eq_not, Bool.not_true, decide_eq_true_eq, not_or, Bool.not_eq_true, Option.isSome_none, Bool.not_eq_false, beq_eq_false_iff_ne, ne_eq, Decidable.not_not] at hc
      obtain ⟨⟨⟨⟨hstr, hc1⟩, hsl⟩, _⟩, hroom⟩ := hc
      cases hld : m.loadN G.toEnv b o n.toNat with
      | none => exact trivial
      | some vs =>
       simp only
       cases hcb : cutB vs with
       | none => exact trivial
       | some bs =>
        simp only
        obtain ⟨hodd, L, hL, rfl, rfl, hg, hdead, hcn, hslk, hes, C, flo, fhi, hh, hC, hcell, hhull⟩ := h.live hl ha
        obtain ⟨vs', _, hv, hlen, _, hcells⟩ := run_loadCells_vl h hld ha
        have hvv := cutB_eq hcb hv
        subst hvv
        have hlb := run_loadBytes G.P w L.b vs' (L.s + o) ByteArray.empty hcb hcells
        rw [hlen] at hlb
        have hnn : n.toNat ≠ 0 := by omega
        have hsh : w.shape? L.b = some (c.elem, C.size) := by simp [World.shape?, hh]
        have hlies := liesAt_row (P := G.P) (e := c.elem) (u := u) (cnt := C.size) (off := L.s + o) (n := n.toNat) hc1 (by simpa using hsl) (by rw [hC]; omega)
        have hva : (variablesAt ⟨L.b, L.s + o, none⟩ u n.toNat).run G.P w = .ok true w := by simp [variablesAt, hsh, hlies]
        have hel : (elemOf pt).run G.P w = .ok u w := by simp [elemOf, run_underlying (P := G.P) (t := pt) (d := .pointer u) hu w]
        have hlo2 : ¬ n < 0 := hrange.1
        have hmx : ¬ (9223372036854775807 < n) := by omega
        let w' := w.freeze ⟨L.b, L.s + o, none⟩ n.toNat
        have hlt : L.b < w.heap.size := (h.loc _ _ hL).2.1
        have hw' : w'.heap[L.b]? = some (.cells C c.elem (if flo == fhi then (L.s + o, L.s + o + n.toNat) else (min flo (L.s + o), max fhi (L.s + o + n.toNat)))) := by
         simp [w', World.freeze, hnn, Array.getElem?_modify, hh]
        have hx : ∃ f1 f2, w'.heap[L.b]? = some (.cells C c.elem (f1, f2)) ∧ HullR { c with
         lo := if c.lo < c.hi then min c.lo o else o
         hi := if c.lo < c.hi then max c.hi (o + n.toNat) else o + n.toNat } L f1 f2 := by
         have hh2 := hhull.2.2 (by simpa using hstr)
         have hhi := hhull.1
         rcases hh2 with ⟨a1, a2⟩ | ⟨a1, a2, a3⟩
         · have e1 : (flo == fhi) = true := by simpa using a2
           have e2 : ¬ c.lo < c.hi := by omega
           rw [e1, if_pos rfl] at hw'
           refine ⟨_, _, hw', ?_⟩
           simp only [e2, if_false]
           unfold HullR
           simp only
           refine ⟨by omega, fun i hi h1 h2 => by omega, fun _ => .inr ⟨by omega, by simp, by omega⟩⟩
         have e1 : (flo == fhi) = false := by simp; omega
         rw [e1] at hw'
         simp only [Bool.false_eq_true, if_false] at hw'
         refine ⟨_, _, hw', ?_⟩
         simp only [a1, if_true]
         unfold HullR
         simp only
         refine ⟨by omega, fun i hi h1 h2 => by omega, fun _ => .inr ⟨by omega, by omega, by omega⟩⟩
        obtain ⟨f1, f2, hf1, hf2⟩ := hx
        have hT := h.turn (w' := w') (bl' := .cells { c with
         lo := if c.lo < c.hi then min c.lo o else o
         hi := if c.lo < c.hi then max c.hi (o + n.toNat) else o + n.toNat }) hL hg (by simp [Blk.alive, hdead]) ⟨by simp [w', World.freeze, hnn], by simp [w', World.freeze, hnn], by simp [w', World.freeze, hnn]⟩ (by simp [w', World.freeze, hnn])
         (fun x hx => by simp [w', World.freeze, hnn, Array.getElem?_modify, Ne.symm hx])
         (.inr ⟨hcn, hslk, hes, C, f1, f2, hf1, hC, hcell, hf2⟩)
        refine ⟨ρ, w', .string ⟨⟨bs⟩⟩, ?_, .string _, hT.1, hT.2⟩
        show (asInt (.int _ _) >>= _ : Sem Value).run _ _ = _
        simp [asInt, asIntOf, ht, hlo2, hmx, hel, hva, hlb, w']
        exact fun e => absurd e hn0
    | _ => exact trivial
  | undef => simp only [undef]; exact trivial
  | _ => exact trivial
 | undef => simp only [undef]; cases hn <;> exact trivial
 | _ => cases hn <;> exact trivial
theorem opNilCheck_ok (h : MR G.toEnv w0 ρ m w) {ev' : Operand → Value} {x : Operand} {o : Oper} (ho : o.op = .nilCheck x) {v : Value} (hx : VR ρ w0.heap.size v (ev' x)) :
 OpOk G w0 ρ m w (execOp ev' o) (opNilCheck v m) := by
 unfold opNilCheck
 unfold execOp
 rw [ho]
 simp only
 generalize ev' x = v' at hx
 cases hx with
 | ptr ha => exact ⟨ρ, w, _, by simp, .ptr ha, h, Ext.refl ..⟩
 | func hf hs hh hs2 hh2 =>
  cases hf with
  | func f => exact ⟨ρ, w, _, by simp, .func (.func f) hs hh hs2 hh2, h, Ext.refl ..⟩
  | _ => exact trivial
 | iface t hv => exact ⟨ρ, w, _, by simp, .iface t hv, h, Ext.refl ..⟩
 | undef => simp only [undef]; exact trivial
 | _ => exact trivial
theorem callV_ok (hG : CfgOk G) (h : MR G.toEnv w0 ρ m w) (f : FuncId) {args : List Value} {args' : Array Value} (ha : VL ρ w0.heap.size args args'.toList) :
 OpOk G w0 ρ m w (callFunc f args') (callV G f args m) := by
 unfold callV
 cases hf : G.P.funcs[f]? with
 | none => exact trivial
 | some fn =>
  simp only
  split
  · exact trivial
  rename_i hn
  cases hb : fn.body with
  | some c =>
   refine ⟨rfl, args', ?_, ha⟩
   simp [callFunc, hf, hb]
   simpa using hn
  | none =>
   simp only
   split
   ·
    rename_i hid
    split
    ·
     rename_i x
     obtain ⟨x', hx', hxx⟩ := ha.get (i := 0) rfl
     have hl := ha.1
     have e : args' = #[x'] := by
      apply Array.ext'
      rcases args' with ⟨_ | ⟨y, _ | ⟨z, l⟩⟩⟩ <;> simp at hl hx' ⊢
      exact hx'
     subst e
     exact ⟨ρ, w, x', hG.idf f hid x' w, hxx, h, Ext.refl ..⟩
    exact trivial
   exact trivial
theorem VL.map (ρ : Emb) (B : Nat) (l : List Operand) {f f' : Operand → Value} (h : ∀ x, VR ρ B (f x) (f' x)) : VL ρ B (l.map f) (l.map f') := by
 induction l with
 | nil => exact VL.nil
 | cons x l ih => exact VL.cons (h x) ih
theorem resolveV_ok {ev ev' : Operand → Value} (hev : ∀ x, VR ρ w0.heap.size (ev x) (ev' x)) (c : Call) (type : TypeId) {d : Deferred} (hd : resolveV ev c type = some d) :
 ∃ d', (resolve ev' c type).run G.P w = .ok d' w ∧ DefR ρ w0.heap.size d d' := by
 unfold resolveV at hd
 cases hc : c.callee with
 | builtin b =>
  rw [hc] at hd
  simp only [Option.some.injEq] at hd
  subst hd
  refine ⟨_, by simp [resolve, hc]; rfl, .builtin .., ?_⟩
  simpa using VL.map ρ _ c.args.toList hev
 | invoke r n => rw [hc] at hd; cases hd
 | value f =>
  rw [hc] at hd
  simp only at hd
  have hf := hev f
  generalize ev f = v at hf hd
  cases v with
  | func fn first captured =>
   simp only [Option.some.injEq] at hd
   subst hd
   generalize hv' : ev' f = v' at hf
   cases hf with
   | func hfn hs hh hs2 hh2 =>
    refine ⟨_, by simp [resolve, hc, hv', Deferred.ofValue]; rfl, .fn hfn (VL.of_arr hs2 hh2), ?_⟩
    simpa using VL.append (VL.of_arr hs hh) (VL.map ρ _ c.args.toList hev)
  | _ => simp at hd
theorem getD_get {l l' : Array Value} (h : VL ρ w0.heap.size l.toList l'.toList) (i : Nat) : VR ρ w0.heap.size (l.getD i opBuiltin.undef') (l'.getD i opBuiltin.undef') := by
 have := h.to_arr.2 i
 exact this
theorem args1 {l : Array Value} (h : l.size = 1) : l = #[l.getD 0 opBuiltin.undef'] := by
 rcases l with ⟨_ | ⟨y, _ | ⟨z, l⟩⟩⟩ <;> simp at h ⊢
theorem args2 {l : Array Value} (h : l.size = 2) : l = #[l.getD 0 opBuiltin.undef', l.getD 1 opBuiltin.undef'] := by
 rcases l with ⟨_ | ⟨y, _ | ⟨z, _ | ⟨u, l⟩⟩⟩⟩ <;> simp at h ⊢
theorem VL.flat {l l' : Array Value} (hf : l.toList.all (flat 9) = true) (h : VL ρ w0.heap.size l.toList l'.toList) : l' = l := by
 refine arr_ext_getD (by have := h.to_arr.1; omega) (fun i hi => ?_)
 exact flat_eq 9 (flat_mem hf (by have := h.to_arr.1; omega)) (h.to_arr.2 i)
theorem opBuiltin_ok (h : MR G.toEnv w0 ρ m w) (b : Builtin) (argTypes : Array TypeId) (type : TypeId) (consts : Array Bool) {args args' : Array Value} (ha : VL ρ w0.heap.size args.toList args'.toList) :
 OpOk G w0 ρ m w (builtin b argTypes type consts args') (opBuiltin G b argTypes type args m) := by
 have hsz := ha.to_arr.1
 unfold opBuiltin
 cases b with
 | append =>
  cases ht : argTypes[0]? with
  | none => exact trivial
  | some t =>
   simp only
   split
   · rename_i h2
     have e := args2 (l := args') (by omega)
     show OpOk G w0 ρ m w (do pure (.value (← Builtin.append_ argTypes type args'))) _
     apply OpOk.of_val
     rw [e]
     exact opAppend_ok h ht rfl (getD_get ha 0) (getD_get ha 1)
   exact trivial
 | len =>
  cases ht : argTypes[0]? with
  | none => exact trivial
  | some t =>
   simp only
   split
   · rename_i h2
     have e := args1 (l := args') (by omega)
     show OpOk G w0 ρ m w (do pure (.value (← Builtin.len_ argTypes type args'))) _
     apply OpOk.of_val
     rw [e]
     exact opLen_ok h ht (getD_get ha 0)
   exact trivial
 | min =>
  simp only
  split
  · rename_i hf
    rw [VL.flat hf ha]
    exact OpOk.of_val (ValOk.pureRun h)
  exact trivial
 | max =>
  simp only
  split
  · rename_i hf
    rw [VL.flat hf ha]
    exact OpOk.of_val (ValOk.pureRun h)
  exact trivial
 | recover => exact ⟨rfl, rfl⟩
 | panic =>
  simp only
  have hx := getD_get ha 0
  generalize hv : args.getD 0 opBuiltin.undef' = v at hx
  cases v with
  | iface t v =>
   simp only
   generalize hv' : args'.getD 0 opBuiltin.undef' = v' at hx
   cases hx with
   | iface _ hh =>
    rename_i v'
    have hsome : args'.getD 0 .nilIface = .iface t v' := by
     rw [Array.getD_eq_getD_getElem?] at hv' ⊢
     cases h0 : args'[0]? with
     | none => rw [h0] at hv'; cases hv'
     | some y => rw [h0] at hv'; simpa using hv'
    refine ⟨rfl, _, ?_, .iface t hh⟩
    simp [builtin, hsome, Instr.panic]
  | _ => exact trivial
 | unsafeSliceData =>
  simp only
  split
  ·
   rename_i h2
   have e := args1 (l := args') (by omega)
   show OpOk G w0 ρ m w (do pure (.value (← Builtin.unsafeSliceData_ argTypes type args'))) _
   apply OpOk.of_val
   rw [e]
   exact opSliceData_ok h (getD_get ha 0)
  exact trivial
 | unsafeString =>
  cases ht : argTypes[0]? with
  | none => exact trivial
  | some t =>
   simp only
   split
   · rename_i h2
     have e := args2 (l := args') (by omega)
     show OpOk G w0 ρ m w (do pure (.value (← Builtin.unsafeString_ argTypes type args'))) _
     apply OpOk.of_val
     rw [e]
     exact opUnsafeString_ok h ht (getD_get ha 0) (getD_get ha 1)
   exact trivial
 | _ => exact trivial
theorem invokeV_ok (hG : CfgOk G) (h : MR G.toEnv w0 ρ m w) {d d' : Deferred} (hd : DefR ρ w0.heap.size d d') : OpOk G w0 ρ m w (invoke d'.target d'.args) (invokeV G d.target d.args m) := by
 obtain ⟨t, args⟩ := d
 obtain ⟨t', args'⟩ := d'
 obtain ⟨ht, ha⟩ := hd
 simp only at ht ha ⊢
 unfold invokeV
 cases ht with
 | builtin b a t c => exact opBuiltin_ok h b a t c ha
 | fn hf hc =>
  cases hf with
  | func f =>
   simp only
   exact callV_ok hG h f (args' := args' ++ _) (by simpa using VL.append ha hc)
  | yield hl ho => exact ⟨rfl, _, args', hl, ho, ha, rfl⟩
  | _ => exact trivial
 | _ => exact trivial
theorem OpOk.congr {s s' : Sem Next} {r : ORes} (e : s.run G.P w = s'.run G.P w) (h : OpOk G w0 ρ m w s' r) : OpOk G w0 ρ m w s r := by
 cases r with
 | fail => exact trivial
 | _ => simp only [OpOk] at h ⊢; rw [e]; exact h
theorem opV_ok (hG : CfgOk G) (h : MR G.toEnv w0 ρ m w) {ev ev' : Operand → Value} (hev : ∀ x, VR ρ w0.heap.size (ev x) (ev' x)) (o : Oper) :
 OpOk G w0 ρ m w (execOp ev' o) (opV G ev o m) := by
 unfold opV execOp
 cases ho : o.op with
 | move x => exact ⟨ρ, w, _, rfl, hev x, h, Ext.refl ..⟩
 | assign x => exact ⟨ρ, w, _, rfl, hev x, h, Ext.refl ..⟩
 | pick c a b =>
  simp only
  unfold opPick
  have hc := hev c
  generalize ev c = v at hc
  generalize ev' c = v' at hc
  cases hc with
  | bool t => cases t <;> exact ⟨ρ, w, _, rfl, hev _, h, Ext.refl ..⟩
  | undef => simp only [undef]; exact trivial
  | _ => exact trivial
 | alloc t => exact OpOk.of_val (opAlloc_ok h t _)
 | box t x => exact OpOk.of_val (opBox_ok h t (hev x))
 | build t parts => exact OpOk.of_val (opBuild_ok h t parts ev ev' hev)
 | buildSlice t len parts => exact OpOk.of_val (opBuildSlice_ok h t len parts ev ev' hev)
 | load t a => exact OpOk.of_val (opLoad_ok h t (hev a))
 | store t a x => exact OpOk.of_skip (opStore_ok h t (hev a) (hev x))
 | nilCheck x =>
  have := opNilCheck_ok h ho (hev x)
  unfold execOp at this
  rw [ho] at this
  exact this
 | binOp op t x y _ => exact OpOk.of_val (opBin_ok h op t x y (hev x) (hev y))
 | unOp op t x => exact OpOk.of_val (opUn_ok h op (hev x))
 | convert s d x => exact OpOk.of_val (opConvert_ok h s d (hev x))
 | makeInterface t x => exact OpOk.of_val (opMakeInterface_ok h t (hev x))
 | makeFunc fn a c => exact OpOk.of_val (opMakeFunc_ok h fn (by simpa using VL.map ρ _ a.toList hev) (by simpa using VL.map ρ _ c.toList hev))
 | makeMap t r => exact OpOk.of_val (opMakeMap_ok h t _ _ (by cases r with | none => exact trivial | some x => exact hev x))
 | makeSlice t l c => exact OpOk.of_val (opMakeSlice_ok h t (hev l) (hev c))
 | slice t x lo hi mx =>
  simp only
  split
  · exact trivial
  rename_i hm
  refine OpOk.of_val (opSlice_ok h t (hev x) ?_ ?_ ?_ ?_)
  · cases lo with | none => exact trivial | some x => exact hev x
  · cases hi with | none => exact trivial | some x => exact hev x
  · cases mx with | none => exact trivial | some x => exact hev x
  cases hi <;> cases mx <;> simp at hm ⊢
 | fieldAddr s x f => exact OpOk.of_val (opFieldAddr_ok h s f (hev x))
 | field t x f => exact OpOk.of_val (opField_ok h t f (hev x))
 | indexAddr t x i => exact OpOk.of_val (opIndexAddr_ok h t (hev x) (hev i))
 | index t x i => exact OpOk.of_val (opIndex_ok h t (hev x) (hev i))
 | lookup t x k ok => exact OpOk.of_val (opLookup_ok h t ok (hev x) (hev k))
 | mapUpdate t mp k x => exact OpOk.of_skip (opUpdate_ok h t (hev mp) (hev k) (hev x))
 | insert t mp k x => exact OpOk.of_skip (opUpdate_ok h t (hev mp) (hev k) (hev x))
 | typeAssert x xt a ok => exact OpOk.of_val (opAssert_ok h xt a ok (hev x))
 | extract t i => exact OpOk.of_val (opExtract_ok h i (hev t))
 | call c =>
  simp only
  cases hr : resolveV ev c o.type with
  | none => exact trivial
  | some d =>
   obtain ⟨d', h1, h2⟩ := resolveV_ok (G := G) (w := w) hev c o.type hr
   exact OpOk.congr (by simp [h1]) (invokeV_ok hG h h2)
 | defer c =>
  simp only
  cases hr : resolveV ev c o.type with
  | none => exact trivial
  | some d =>
   obtain ⟨d', h1, h2⟩ := resolveV_ok (G := G) (w := w) hev c o.type hr
   exact ⟨rfl, d', by simp [h1], h2⟩
 | panic x =>
  simp only
  have hc := hev x
  generalize ev x = v at hc
  generalize ev' x = v' at hc
  cases hc with
  | iface t hv => exact ⟨rfl, _, by simp [Instr.panic], .iface t hv⟩
  | undef => simp only [undef]; exact trivial
  | _ => exact trivial
 | _ => exact trivial
end Go.Am
