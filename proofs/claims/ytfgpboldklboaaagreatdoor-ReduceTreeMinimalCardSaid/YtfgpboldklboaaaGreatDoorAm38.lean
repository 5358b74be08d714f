/-
  PROVED here: steps on the way to the card of 'sleuthlaw06.ReduceTreeMinimal' (an abstract machine, its soundness, what each function computes). No conditions beyond those that each theorem states.
-/
import Derived.Test.YtfgpboldklboaaaGreatDoorAm10
import Derived.KernelRfl
import Derived.Test.YtfgpboldklboaaaGreatDoorProg
namespace Go.Proofs
open Go
theorem ext_next : Extern.allNextRows.lookup "internal/abi.NoEscape" = none := by kernel_rfl
theorem ext_nexte : Extern.allNextRows.lookup "" = none := by kernel_rfl
theorem ext_gen : Extern.allGenericRows.lookup "internal/abi.NoEscape" = none := by kernel_rfl
theorem ext_typ : Extern.allTypedRows.lookup "internal/abi.NoEscape" = none := by kernel_rfl
theorem ext_all : Extern.allRows.lookup "internal/abi.NoEscape" = some Extern.AbiNoEscape.same := by kernel_rfl
theorem ne_name : (Tryz.prog.funcs[93]?).map (fun fn => (fn.name, fn.origin, fn.body.isNone)) = some ("internal/abi.NoEscape", "", true) := by kernel_rfl
theorem mixed : Tryz.prog.follows .mixedOrders = true := by kernel_rfl
theorem same_of {P : Program} {f : FuncId} (h : (P.funcs[f]?).map (fun fn => (fn.name, fn.origin, fn.body.isNone)) = some ("internal/abi.NoEscape", "", true)) (x : Value) (w : World) :
 (callFunc f #[x]).run P w = .ok (.value x) w := by
 cases hf : P.funcs[f]? with
 | none => rw [hf] at h; simp at h
 | some fn =>
  rw [hf] at h
  simp only [Option.map_some, Option.some.injEq, Prod.mk.injEq] at h
  obtain ⟨h1, h2, h3⟩ := h
  have hn : Extern.findNext fn = none := by
   unfold Extern.findNext
   simp only [h1, h2, ext_next, ext_nexte]
   rfl
  have he : Extern.find fn = some Extern.AbiNoEscape.same := by
   unfold Extern.find
   simp only [h1, ext_gen, ext_typ, ext_all]
   rfl
  have hname : fn.name ≠ "runtime.NumGoroutine" := by rw [h1]; decide
  have hb : fn.body = none := by simpa using h3
  have hs : Extern.AbiNoEscape.same #[x] = pure x := rfl
  simp [callFunc, hf, hname, hb, hn, he, hs]
noncomputable def amG : Am.Cfg := { P := Tryz.prog, glob := fun _ _ => none, ng := 0, idf := fun f => f == 93 }
theorem base (w : World) : Am.Base amG w := by
 refine ⟨⟨fun f hf x w => ?_, mixed⟩, Nat.zero_le _, fun f b h => by cases h⟩
 have : f = 93 := by simpa [amG] using hf
 subst this
 exact same_of ne_name x w
def isTrue : Option (Am.Out × Option (List PanicEntry) × Am.Mem) → Bool
 | some (.returned (.bool true), _, _) => true
 | _ => false
theorem grows_am : isTrue (Am.call amG 100000 8 [] false none Am.Mem.empty) = true := by kernel_rfl
theorem grows_known : Am.KnownAt Tryz.prog 8 (.bool true) := by
 intro w cs
 have h := grows_am
 generalize hr : Am.call amG 100000 8 [] false none Am.Mem.empty = r at h
 match r, h with
 | some (.returned (.bool true), cm, m), _ =>
  obtain ⟨ρ', md', w', fr', h1, h2, h3, h4, h5, h6, h7, h8, h9, fn, h10, h11, v', h12, h13⟩ := (Am.all_ok 100000 100000 (Nat.le_refl _)).2.2.1 8 [] false none Am.Mem.empty _ cm m hr w (base w) _ cs .run w #[] (Am.MR.start amG.toEnv rfl w) Am.VL.nil (fun h => by cases h)
  cases h12
  exact ⟨w', fr', h1.base, h1.le, h1.os, h1.tape, h1.output, h5, h6, h7, h8, h9, fn, h10, h11, h13⟩
end Go.Proofs
