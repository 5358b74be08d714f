/-
  PROVED: 'sleuthlaw06.ReduceTreeMinimal' returns true at every grammar, tree and oracle, and each argument reads behind the call as it read before. Conditions: those of the given card alone (the three tables start as the program's text lays them).
-/
import Derived.Test.YtfgpboldklboaaaGreatDoorAm36
import Derived.Test.YtfgpboldklboaaaGreatDoorAm37
import Derived.Test.YtfgpboldklboaaaGreatDoorAm38
import Derived.Test.YtfgpboldklboaaaGreatDoorTie
import Derived.Test.YtfgpboldklboaaaGreatDoorCards
import Derived.ProofKit
import Derived.LaidMore
import Derived.Stop.Joined
import Derived.SevenTiedAt
namespace Go.Proofs.YtfgpboldklboaaaGreatDoor
open Go Go.ChangeShapes Go.WideShapes Go.ChangeAt Go.RowKit Go.WideElems
theorem baseW (w : World) : Am.Base (Lw.cfg (Lw.glW w) 0) w := by
 refine ⟨⟨fun f hf x w => ?_, mixed⟩, Nat.zero_le _, fun f b h => ?_⟩
 · have : f = 93 := by simpa [Lw.cfg] using hf
   subst this
   exact same_of ne_name x w
 have h' : (if f = 8 then some true else none) = some b := h
 split at h'
 · rename_i e; subst e; cases h'; exact grows_known
 cases h'
theorem walk {W : World} {c0 v1 v2 v3 v4 u0 u1 u2 u3 u4 x y : Value} {i j : Int} {g : List Lw.RuleD} {t : Lw.T} {o : Lw.OracleD} (e0 : Lw.encV W c0 = some u0) (e1 : Lw.encV W v1 = some u1) (e2 : Lw.encV W v2 = some u2)
 (e3 : Lw.encV W v3 = some u3) (e4 : Lw.encV W v4 = some u4) (ex : Lw.encV W x = some x) (ey : Lw.encV W y = some y) (hg : Lw.RulesV (Lw.knW W) u0 g) (hl : Lw.GramLen g) (ht : Lw.TreeK (Lw.knW W) (.agg #[x, y, u1]) t)
 (ho : Lw.OrK (Lw.knW W) (.agg #[u3, u4, .int .u64 i, .int .u8 j]) o) :
 Calls Tryz.prog 3 #[.agg #[c0], .agg #[x, y, v1], .agg #[v3, v4, .int .u64 i, .int .u8 j]] W fun e W' => e = .returned (.bool true) ∧ Below W.heap.size W W' := by
 obtain ⟨n, out, m', h1, σ', v, rfl, _, rfl⟩ := Lw.f3_ok (gl := Lw.glW W) (ng := 0) Lw.wf_empty (Lw.holdsW W 0) hg hl ht ho
 have r0 := (Lw.encV_ok e0).2 (fun _ => none)
 have r1 := (Lw.encV_ok e1).2 (fun _ => none)
 have r3 := (Lw.encV_ok e3).2 (fun _ => none)
 have r4 := (Lw.encV_ok e4).2 (fun _ => none)
 have rx := (Lw.encV_ok ex).2 (fun _ => none)
 have ry := (Lw.encV_ok ey).2 (fun _ => none)
 have ha : Am.VL (fun _ => none) W.heap.size [.agg #[u0], .agg #[x, y, u1], .agg #[u3, u4, .int .u64 i, .int .u8 j]] [.agg #[c0], .agg #[x, y, v1], .agg #[v3, v4, .int .u64 i, .int .u8 j]] :=
  .cons (Am.VR.agg_of (.cons r0 .nil)) (.cons (Am.VR.agg_of (.cons rx (.cons ry (.cons r1 .nil)))) (.cons (Am.VR.agg_of (.cons r3 (.cons r4 (.cons (.int _ _) (.cons (.int _ _) .nil))))) .nil))
 refine (Am.calls_of (h1 n (Nat.le_refl _)) (baseW W) (Lw.startW W 0) ha).mono fun e W' h => ?_
 obtain ⟨ρ', hM, _, he⟩ := h
 refine ⟨?_, ⟨hM.os, hM.tape, hM.output, hM.le, fun k hk => hM.base k hk⟩⟩
 cases e with
 | returned v' =>
  simp only at he
  cases he
  rfl
 | _ => exact he.elim
theorem own : ownKnob Tryz.prog.godebug = none := by kernel_rfl
theorem laidOut : laidOutB Tryz.prog = true := by kernel_rfl
theorem read24 : Tryz.prog.readableRec 24 = true := by kernel_rfl
theorem read27 : Tryz.prog.readableRec 27 = true := by kernel_rfl
theorem read31 : Tryz.prog.readableRec 31 = true := by kernel_rfl
theorem row24 : (24 : TypeId) < Tryz.prog.types.size := of_decide_eq_true (by kernel_rfl)
theorem row27 : (27 : TypeId) < Tryz.prog.types.size := of_decide_eq_true (by kernel_rfl)
theorem row31 : (31 : TypeId) < Tryz.prog.types.size := of_decide_eq_true (by kernel_rfl)
def nilArgs : Array Value := #[.agg #[.slice none 0 0], .agg #[.int .i64 0, .string .empty, .slice none 0 0], .agg #[.slice none 0 0, .slice none 0 0, .int .u64 0, .int .u8 0]]
theorem door_met (os : Os) (args : Array Value) : laidMetH Tryz.prog Rows.reduceTreeMinimalRow.laid ((World.doorLaid Tryz.prog 400 os).forCall (fun _ _ => 0) ⟨#[], args, []⟩).memory :=
 laidMetH_of_parts3 (fuel := 8) (laidMet_of_run' 8 (by kernel_rfl) (by kernel_rfl)) (by kernel_rfl) (by kernel_rfl)
set_option maxRecDepth 100000 in
theorem lifted (os : Os) (started : os.Started) (H : Type) (enc : TypeId × Value → H) :
 ReturnsInHanded {} Tryz.checked os 3 .any (fun w args => (Rows.reduceTreeMinimalSpec.pre enc Tryz.prog Tryz.f3 [] false w args ∧ laidMetH Tryz.prog Rows.reduceTreeMinimalRow.laid w) ∧ sizedMet enc Tryz.prog Tryz.f3 (OpenSpec.ofChange Rows.reduceTreeMinimalSpec) false w args)
  (Rows.reduceTreeMinimalSpec.post enc Tryz.prog Tryz.f3 false true false false) := by
 refine returnsInHanded_of_change_and (C := Tryz.checked) (X := fun w _ => laidMetH Tryz.prog Rows.reduceTreeMinimalRow.laid w) (fun _ _ _ hh h => h.of_heap hh) own started (by kernel_rfl) Tryz.func3
  (ChangeSpec.witness_shaped (enc := enc) (C := Tryz.checked) (os := os) (X := fun w _ => laidMetH Tryz.prog Rows.reduceTreeMinimalRow.laid w) false (World.doorLaid Tryz.prog 400 os) nilArgs 8 rfl (World.shaped_of_RefB (by kernel_rfl) (by kernel_rfl)) (by kernel_rfl) (by kernel_rfl) (by kernel_rfl) (door_met os _)) ?_
 intro W base args ds gs before hval0 hW _ hsz _ _
 have hval : ∀ (j : Nat) t v, Tryz.f3.params[j]? = some t → args[j]? = some v → Value.okWide Tryz.prog W .any base t v := hval0
 have hW' := hW
 have hlt := hW.lt
 obtain ⟨p, q, hA0, hV, rfl, hfz, hnd⟩ := hW
 have hA : DataW.TrodAll enc Tryz.prog W 0 (fun _ => true) true Tryz.f3.params.toList args.toList ds p := hA0
 rw [Tryz.params3] at hA hval
 obtain ⟨v0, v1, v2, d0, d1, d2, p0, p1, p2, rfl, rfl, rfl, h0, h1, h2⟩ := trodAll_three hA
 obtain ⟨rfl, rfl⟩ := trodVars_none hV
 have hsz' : (DataW.weightsEach Tryz.prog [24, 27, 31] [d0, d1, d2]).all (· ≤ reachBytes) = true := by
  have : (DataW.weightsEach Tryz.prog (Tryz.f3.params.toList ++ Rows.reduceTreeMinimalSpec.plain.varTypes Tryz.prog) ([d0, d1, d2] ++ [])).all (· ≤ reachBytes) = true := hsz
  rw [Tryz.params3] at this
  exact this
 have w0 : Lw.Ws 24 d0 := fun n hn => by simpa using List.all_eq_true.1 hsz' n (DataW.weights_mem_each (j := 0) rfl rfl n hn)
 have w1 : Lw.Ws 27 d1 := fun n hn => by simpa using List.all_eq_true.1 hsz' n (DataW.weights_mem_each (j := 1) rfl rfl n hn)
 have w2 : Lw.Ws 31 d2 := fun n hn => by simpa using List.all_eq_true.1 hsz' n (DataW.weights_mem_each (j := 2) rfl rfl n hn)
 obtain ⟨a0, rfl, _⟩ := okWide_struct Tryz.underlying24 (hval 0 24 v0 rfl rfl)
 obtain ⟨a1, rfl, _⟩ := okWide_struct Tryz.underlying27 (hval 1 27 v1 rfl rfl)
 obtain ⟨a2, rfl, _⟩ := okWide_struct Tryz.underlying31 (hval 2 31 v2 rfl rfl)
 have k0 := h0
 have k1 := h1
 have k2 := h2
 obtain ⟨n0, t0⟩ := h0
 obtain ⟨n1, t1⟩ := h1
 obtain ⟨n2, t2⟩ := h2
 obtain ⟨g, c0, u0, q0, e0, hg, hl⟩ := Lw.open_gram t0 w0
 obtain ⟨t, x, y, z, u1, q1, ex, ey, ez, ht⟩ := Lw.open_tree _ _ _ t1 w1
 obtain ⟨o, v3, v4, u3, u4, q2, e3, e4, ho⟩ := Lw.open_or t2 w2
 obtain rfl : a0 = #[c0] := Array.ext' q0
 obtain rfl : a1 = #[x, y, z] := Array.ext' q1
 obtain rfl : a2 = #[v3, v4, .int .u64 o.salt, .int .u8 o.loose] := Array.ext' q2
 refine (walk e0 ez ex e3 e4 ex ey hg hl ht ho).mono fun e W' h => ?_
 obtain ⟨rfl, hb⟩ := h
 refine ⟨_, rfl, [d0, d1, d2], [], (p0 ++ p1 ++ p2) ++ [], [], p0 ++ (p1 ++ p2), [], hW', ?_, ?_, ?_, hb.frame _, fun h => by cases h⟩
 · exact trodAll_mk1 (shut_bool Tryz.underlying4 true)
 ·
  have st : ∀ (ps : List MemPlace), (∀ x ∈ ps, x ∈ (p0 ++ p1 ++ p2) ++ []) → (∀ x ∈ ps, W.sameAt W' x) ∧ ∀ x ∈ ps, (fun b => decide (b < W.heap.size)) x.block = true :=
   fun ps hp => ⟨fun x hx => hb.same (hlt x (hp x hx)), fun x hx => by simpa using hlt x (hp x hx)⟩
  have s0 := st p0 (fun x hx => by simp [hx])
  have s1 := st p1 (fun x hx => by simp [hx])
  have s2 := st p2 (fun x hx => by simp [hx])
  rw [Tryz.params3]
  exact trodAll_mk3 (Trod_stays laidOut read24 row24 k0 s0.1 s0.2) (Trod_stays laidOut read27 row27 k1 s1.1 s1.2) (Trod_stays laidOut read31 row31 k2 s2.1 s2.2)
 exact rfl
theorem reduceTreeMinimal_holds : Rows.ReduceTreeMinimalSaid :=
 OpenClaim.holds_of_wide 3 Tryz.f3 rfl rfl rfl rfl rfl rfl rfl ⟨rfl, rfl, rfl, rfl, rfl⟩ rfl rfl rfl rfl rfl (by kernel_rfl) Tryz.func3 (by kernel_rfl)
  (of_decide_eq_true (by kernel_rfl)) (by unfold Func.isWrapper; rw [if_neg (by decide +kernel)]; exact ⟨rfl, rfl⟩)
  (fun os started H enc _ => lifted os started H enc)
theorem reduceTreeMinimal_card : Rows.ReduceTreeMinimalCardSaid :=
 Claim7.holds_tied_plain_at .later [] [.data, .data, .data] true (true, "1df5eabd4be9a0853ebcfed404ff213b41f367a937b7a698d4b2fbff8584c325") true
  reduceTreeMinimal_holds (fun _ h => by cases h) (by kernel_rfl) (fun _ h => by cases h) reduceTreeMinimal_row_tie rfl ⟨rfl, rfl⟩ (by kernel_rfl) rfl
  (fun f fn hf hfn => by
   obtain rfl : f = 3 := Option.some.inj ((show Tryz.prog.funcNamed "sleuth/sleuthlaw06.ReduceTreeMinimal" = some 3 by kernel_rfl).symm.trans hf) |>.symm
   obtain rfl : fn = Tryz.f3 := (Option.some.inj (Tryz.func3.symm.trans hfn)).symm
   exact ⟨by kernel_rfl, fun j t ht => by
    rw [Tryz.params3] at ht
    have hm : t ∈ [24, 27, 31] := by simpa using Array.mem_of_getElem? ht
    have hall : ([24, 27, 31].all fun u => !Tryz.prog.wantsStandIn u) = true := by kernel_rfl
    exact (show Tryz.prog.wantsStandIn t = false by simpa using List.all_eq_true.1 hall t hm)⟩)
  (by kernel_rfl)
#print axioms reduceTreeMinimal_card
end Go.Proofs.YtfgpboldklboaaaGreatDoor
