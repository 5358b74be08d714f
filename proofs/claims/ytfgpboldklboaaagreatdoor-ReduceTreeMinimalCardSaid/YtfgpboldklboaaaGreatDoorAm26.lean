/-
  PROVED here: steps on the way to the card of 'sleuthlaw06.ReduceTreeMinimal' (an abstract machine, its soundness, what each function computes). No conditions beyond those that each theorem states.
-/
import Derived.Test.YtfgpboldklboaaaGreatDoorAm25
namespace Go.Proofs.Lw
open Go Go.Am
set_option maxRecDepth 8000
variable {gl : Nat → Nat → Option Value} {ng : Nat} {m : Mem} {b o : Nat}
@[simp] theorem nilCk {a : Addr} : opNilCheck (.pointer (some a)) m = .value (.pointer (some a)) m := rfl
theorem is116 : Am.isAgg (cfg gl ng).toEnv 116 = some false := by kernel_rfl
@[simp] theorem ld116 : opLoad (cfg gl ng).toEnv 116 (.pointer (some ⟨b, o, none⟩)) m = rv (m.load (cfg gl ng).toEnv b o) m := ld_s is116
theorem if116 : ((cfg gl ng).toEnv.P.info? 116).isSome = true := by kernel_rfl
theorem sz116 : szOf (cfg gl ng).toEnv 116 = 1 := by kernel_rfl
@[simp] theorem st116 {v : Value} (h : plainV v = true) : opStore (cfg gl ng).toEnv 116 (.pointer (some ⟨b, o, none⟩)) v m = ru (m.write b o [v]) := st_s if116 sz116 h
theorem up116 : und (cfg gl ng).toEnv 116 = some (.pointer 119) := by kernel_rfl
theorem up153 : und (cfg gl ng).toEnv 153 = some .unsafePointer := by kernel_rfl
@[simp] theorem eq116n {xo yo : Operand} : opBin (cfg gl ng).toEnv .eql 116 xo yo (.pointer none) (.pointer none) m = .value (.bool true) m := by
 unfold opBin
 rw [if_pos (by simp [flat])]
 kernel_rfl
@[simp] theorem eq116s {xo yo : Operand} {a : Addr} : opBin (cfg gl ng).toEnv .eql 116 xo yo (.pointer (some a)) (.pointer none) m = .value (.bool false) m := by
 unfold opBin
 rw [if_neg (by simp [flat]), if_pos (by simp [eqOk])]
 simp only [eqV, up116]
theorem info119 : ∃ i, (cfg gl ng).toEnv.P.info? 119 = some i ∧ i.size ≠ 0 := by
 have h : (((cfg gl ng).toEnv.P.info? 119).map fun i => decide (i.size ≠ 0)) = some true := by kernel_rfl
 cases e : (cfg gl ng).toEnv.P.info? 119 with
 | none => rw [e] at h; cases h
 | some i => rw [e] at h; simp at h; exact ⟨i, rfl, h⟩
@[simp] theorem ne116s {xo yo : Operand} {b : Nat} : opBin (cfg gl ng).toEnv .neq 116 xo yo (.pointer (some ⟨b, 0, none⟩)) (.pointer (some ⟨b, 0, none⟩)) m = .value (.bool false) m := by
 unfold opBin
 rw [if_neg (by simp [flat]), if_pos (by simp [eqOk])]
 obtain ⟨i, h1, h2⟩ := info119 (gl := gl) (ng := ng)
 simp only [eqV, up116, h1, if_neg h2, if_true, beq_self_eq_true, Bool.not_true]
theorem sz119 : szOf (cfg gl ng).toEnv 119 = 2 := by kernel_rfl
theorem if119 : ((cfg gl ng).toEnv.P.info? 119).isSome = true := by kernel_rfl
theorem cvOut {c : Cells} (h : m.live b = some c) (hn : c.n = 2) : opConvert (cfg gl ng).toEnv 116 153 (.pointer (some ⟨b, 0, none⟩)) m = .value (.pointer (some ⟨b, 0, none⟩)) m := by
 simp [opConvert, up116, up153, h, sz119, hn, if119]
theorem lies119 : liesAt (cfg gl ng).toEnv.P (cfg gl ng).toEnv.P.depth 119 (2 / (cfg gl ng).toEnv.P.cellsOf 119) 0 119 1 = true := by kernel_rfl
theorem cvIn {vs : List Value} (hv : vs.length = 2) (h : m.live b = some (cellsOf vs 119)) : opConvert (cfg gl ng).toEnv 153 116 (.pointer (some ⟨b, 0, none⟩)) m = .value (.pointer (some ⟨b, 0, none⟩)) m := by
 simp only [opConvert, up116, up153, h]
 rw [if_pos]
 simp only [cellsOf, hv, lies119, if119]
 rfl
theorem cv93 {v : Value} : callV (cfg gl ng) 93 [v] m = .value v m := by
 have h : ((cfg gl ng).P.funcs[93]?.map fun fn => (fn.name == "runtime.NumGoroutine", fn.body.isSome)) = some (false, false) := by kernel_rfl
 unfold callV
 cases e : (cfg gl ng).P.funcs[93]? with
 | none => rw [e] at h; cases h
 | some fn =>
  rw [e] at h
  simp at h
  simp [h.1, h.2, cfg]
theorem f87_first {σ0 σ : Kn} {m0 : Mem} {L : List (Nat × Cl)} (hS : S (cfg gl ng).toEnv σ0 m0 σ m L) :
 C (cfg gl ng) 87 [.pointer (some ⟨m.nb, 0, none⟩)] (m.new (.cells (cellsOf [.pointer none, .slice none 0 0] 119))) (fun out m' => out = .returned (retV []) ∧ S (cfg gl ng).toEnv σ0 m0 σ m' ((m.nb, ⟨[.pointer (some ⟨m.nb, 0, none⟩), .slice none 0 0], none⟩) :: L)) := by
 refine ofQ (c := _) Tryz.func87 rfl 20 rfl (fun c hnt => ?_)
 have hS1 := hS.new (vs := [.pointer none, .slice none 0 0]) 119 (by simp)
 have hlive : (m.new (.cells (cellsOf [.pointer none, .slice none 0 0] 119))).live m.nb = some (cellsOf [.pointer none, .slice none 0 0] 119) := by
  simp [Mem.live, Mem.nb_odd, Mem.new, Mem.nb_half, Tr.get_set, cellsOf]
 generalize hm1 : m.new (.cells (cellsOf [.pointer none, .slice none 0 0] 119)) = m1 at *
 obtain ⟨m2, e2, hS2⟩ := hS1.set1 (i := 0) rfl (o := 0) (v := .pointer (some ⟨m.nb, 0, none⟩)) (by simp) (by simp)
 repeat apply W.seq
 apply W.regN; simp [hnt, hS1.c0]
 refine W.choose (by simp; rfl) (fun hc => ?_) fun hc => ?_
 · apply W.regN; simp [hnt, cvOut hlive rfl, cvIn rfl hlive, cv93, e2]
   exact ⟨.inl rfl, rfl, rfl, [], by simp [unwind.results, Tryz.f87], rfl, hS2⟩
 cases hc
theorem f87_next {σ0 σ : Kn} {m0 : Mem} {L : List (Nat × Cl)} {s : Value} (hS : S (cfg gl ng).toEnv σ0 m0 σ m ((b, ⟨[.pointer (some ⟨b, 0, none⟩), s], none⟩) :: L)) :
 C (cfg gl ng) 87 [.pointer (some ⟨b, 0, none⟩)] m (fun out m' => out = .returned (retV []) ∧ S (cfg gl ng).toEnv σ0 m0 σ m' ((b, ⟨[.pointer (some ⟨b, 0, none⟩), s], none⟩) :: L)) := by
 refine ofQ (c := _) Tryz.func87 rfl 20 rfl (fun c hnt => ?_)
 repeat apply W.seq
 apply W.regN; simp [hnt, hS.c0]
 refine W.choose (by simp; rfl) (fun hc => ?_) fun hc => ?_
 · cases hc
 repeat apply W.seq
 apply W.regN; simp [hnt, hS.c0]
 refine W.choose (by simp; rfl) (fun hc => ?_) fun hc => ?_
 · cases hc
 apply W.skip
 exact ⟨.inl rfl, rfl, rfl, [], by simp [unwind.results, Tryz.f87], rfl, hS⟩
theorem bytesV_len (s : ByteArray) : (bytesV s).length = s.size := by simp [bytesV]
theorem bytesV_plain (s : ByteArray) : (bytesV s).all plainV = true := by
 rw [List.all_eq_true]
 intro v hv
 obtain ⟨b, _, rfl⟩ := List.mem_map.1 hv
 rfl
theorem bytesV_app (s u : ByteArray) : bytesV (s ++ u) = bytesV s ++ bytesV u := by simp [bytesV]
def BytB (s : Value) (x : ByteArray) (B : List (Nat × Cl)) : Prop := (s = .slice none 0 0 ∧ x = .empty ∧ B = []) ∨ (0 < x.size ∧ ∃ b, s = .slice (some ⟨b, 0, none⟩) x.size (mkCap x.size false) ∧ B = [(b, ⟨bytesV x, some 5⟩)])
theorem BytB.nil : BytB (.slice none 0 0) .empty [] := .inl ⟨rfl, rfl, rfl⟩
theorem BytB.plain {s : Value} {x : ByteArray} {B : List (Nat × Cl)} (h : BytB s x B) : plainV s = true := by
 rcases h with ⟨rfl, _⟩ | ⟨_, b, rfl, _⟩ <;> simp
theorem ba_empty {x : ByteArray} (h : x.size = 0) : x = .empty := by
 have := ByteArray.extract_zero_size (b := x)
 rw [h] at this
 rw [← this]; simp
theorem app117 {xt : Option TypeId} (hx : srcOk (cfg gl ng).toEnv xt = true) {σ0 σ : Kn} {m0 : Mem} {L1 B L2 : List (Nat × Cl)} (h : S (cfg gl ng).toEnv σ0 m0 σ m (L1 ++ (B ++ L2))) {s : Value} {a x : ByteArray} (hB : BytB s a B) (hl : a.size + x.size ≤ 1048576) :
 ∃ s' m' B', opAppend (cfg gl ng).toEnv 117 xt s (.string x) m = .value s' m' ∧ S (cfg gl ng).toEnv σ0 m0 σ m' (L1 ++ (B' ++ L2)) ∧ BytB s' (a ++ x) B' := by
 have hi : (((cfg gl ng).toEnv.P.info? 5).map fun i => elemOk (cfg gl ng).toEnv 5 i && decide (i.size = 1)) = some true := by kernel_rfl
 by_cases hz : a.size + x.size = 0
 ·
  have ha : a = .empty := ba_empty (by omega)
  have hx0 : x = .empty := ba_empty (by omega)
  subst ha; subst hx0
  rcases hB with ⟨rfl, _, rfl⟩ | ⟨h0, _⟩
  ·
   refine ⟨.slice none 0 0, m, [], ?_, h, by simpa using BytB.nil⟩
   cases hinfo : (cfg gl ng).toEnv.P.info? 5 with
   | none => rw [hinfo] at hi; cases hi
   | some i =>
    rw [hinfo] at hi
    simp at hi
    unfold opAppend
    simp only [K.ul117, lenSrc, hinfo, hi.1, hx]
    simp [readSrc, bytesV, capOf]
  simp at h0
 have hBl : BldV 5 1 s a.size (bytesV a) B := by
  rcases hB with ⟨rfl, rfl, rfl⟩ | ⟨_, b, rfl, rfl⟩
  · exact ⟨rfl, .inl ⟨rfl, rfl, rfl⟩⟩
  exact ⟨by rw [bytesV_len]; omega, .inr (.inl ⟨b, rfl, rfl⟩)⟩
 obtain ⟨s', m', B', e, h1, h2, h3⟩ := app_raw (E := (cfg gl ng).toEnv) (t := 117) (x := .string x) (new := bytesV x) K.ul117 hi hx h hBl rfl (by
  simp only [readSrc]
  rw [ByteArray.extract_zero_size]) (by rw [bytesV_len]; omega) (bytesV_plain x) hl
 refine ⟨s', m', B', e, h1, .inr ⟨by rw [ByteArray.size_append]; omega, ?_⟩⟩
 rw [ByteArray.size_append, bytesV_app]
 obtain ⟨h2l, ⟨_, hc0, _⟩ | ⟨b2, hs2, hB2⟩ | ⟨b2, hs2, hB2⟩⟩ := h2
 · omega
 · exact ⟨b2, hs2, hB2⟩
 exfalso
 rcases h3 with h3 | ⟨b3, h3⟩
 · rcases hB with ⟨_, _, hBn⟩ | ⟨_, b', _, hBn⟩
   · rw [h3, hBn] at hB2; cases hB2
   rw [h3, hBn] at hB2; simp at hB2
 rw [h3] at hB2; simp at hB2
theorem f70_core {σ0 σ : Kn} {m0 : Mem} {L B : List (Nat × Cl)} {s : Value} {a x : ByteArray}
 (h87 : C (cfg gl ng) 87 [.pointer (some ⟨b, 0, none⟩)] m (fun out m' => out = .returned (retV []) ∧ S (cfg gl ng).toEnv σ0 m0 σ m' ((b, ⟨[.pointer (some ⟨b, 0, none⟩), s], none⟩) :: (B ++ L))))
 (hB : BytB s a B) (hl : a.size + x.size ≤ 1048576) :
 C (cfg gl ng) 70 [.pointer (some ⟨b, 0, none⟩), .string x] m (fun out m' => ∃ r s' B', out = .returned r ∧ S (cfg gl ng).toEnv σ0 m0 σ m' ((b, ⟨[.pointer (some ⟨b, 0, none⟩), s'], none⟩) :: (B' ++ L)) ∧ BytB s' (a ++ x) B') := by
 generalize hQ : (fun (out : Out) (m' : Mem) => ∃ r s' B', out = .returned r ∧ S (cfg gl ng).toEnv σ0 m0 σ m' ((b, ⟨[.pointer (some ⟨b, 0, none⟩), s'], none⟩) :: (B' ++ L)) ∧ BytB s' (a ++ x) B') = Q
 refine ofQ (c := _) Tryz.func70 rfl 19 rfl (fun c hnt => ?_)
 repeat apply W.seq
 apply W.regN; simp [hnt]
 repeat apply W.seq
 apply W.regN; simp [hnt]
 refine C.mono h87 (fun out m1 ho => ?_)
 obtain ⟨rfl, hS1⟩ := ho
 obtain ⟨s', m2, B', e2, hS2, hB2⟩ := app117 (xt := some 9) (by kernel_rfl) (L1 := [(b, ⟨[.pointer (some ⟨b, 0, none⟩), s], none⟩)]) hS1 hB hl
 obtain ⟨m3, e3, hS3⟩ := hS2.set1 (i := 0) rfl (o := 1) (v := s') (by simp) hB2.plain
 simp [hnt]
 repeat apply W.seq
 apply W.regN; simp [hnt, hS1.c0, e2, hS2.c0, hB2.plain, e3]
 repeat apply W.seq
 apply W.regN; simp [hnt]
 try apply W.ret
 refine ⟨by first | exact .inr rfl | exact .inl rfl, rfl, rfl, _, by simp [unwind.results, Tryz.f70] <;> rfl, ?_⟩
 rw [← hQ]
 exact ⟨_, s', B', rfl, hS3, hB2⟩
theorem f70_first {σ0 σ : Kn} {m0 : Mem} {L : List (Nat × Cl)} {x : ByteArray} (hS : S (cfg gl ng).toEnv σ0 m0 σ m L) (hl : x.size ≤ 1048576) :
 C (cfg gl ng) 70 [.pointer (some ⟨m.nb, 0, none⟩), .string x] (m.new (.cells (cellsOf [.pointer none, .slice none 0 0] 119))) (fun out m' => ∃ r s' B', out = .returned r ∧ S (cfg gl ng).toEnv σ0 m0 σ m' ((m.nb, ⟨[.pointer (some ⟨m.nb, 0, none⟩), s'], none⟩) :: (B' ++ L)) ∧ BytB s' x B') := by
 have := f70_core (gl := gl) (ng := ng) (B := []) (L := L) (x := x) (f87_first hS) BytB.nil (by simpa using hl)
 simpa using this
theorem f70_next {σ0 σ : Kn} {m0 : Mem} {L B : List (Nat × Cl)} {s : Value} {a x : ByteArray} (hS : S (cfg gl ng).toEnv σ0 m0 σ m ((b, ⟨[.pointer (some ⟨b, 0, none⟩), s], none⟩) :: (B ++ L)))
 (hB : BytB s a B) (hl : a.size + x.size ≤ 1048576) :
 C (cfg gl ng) 70 [.pointer (some ⟨b, 0, none⟩), .string x] m (fun out m' => ∃ r s' B', out = .returned r ∧ S (cfg gl ng).toEnv σ0 m0 σ m' ((b, ⟨[.pointer (some ⟨b, 0, none⟩), s'], none⟩) :: (B' ++ L)) ∧ BytB s' (a ++ x) B') :=
 f70_core (f87_next hS) hB hl
theorem cutB_bytes : ∀ (l : List UInt8), cutB (l.map fun b => Value.int .u8 b.toNat) = some l
 | [] => rfl
 | b :: r => by
  simp only [List.map_cons, cutB, cutB_bytes r]
  simp
theorem f71_ok {σ0 σ : Kn} {m0 : Mem} {L B : List (Nat × Cl)} {s : Value} {x : ByteArray} (hS : S (cfg gl ng).toEnv σ0 m0 σ m ((b, ⟨[.pointer (some ⟨b, 0, none⟩), s], none⟩) :: (B ++ L)))
 (hB : BytB s x B) (hx : x.size ≤ 1048576) :
 C (cfg gl ng) 71 [.pointer (some ⟨b, 0, none⟩)] m (fun out m' => out = .returned (.string x) ∧ S (cfg gl ng).toEnv σ0 m0 σ m' L) := by
 generalize hQ : (fun (out : Out) (m' : Mem) => out = .returned (.string x) ∧ S (cfg gl ng).toEnv σ0 m0 σ m' L) = Q
 refine ofQ (c := _) Tryz.func71 rfl 14 rfl (fun c hnt => ?_)
 repeat apply W.seq
 apply W.regN; simp [hnt]
 rcases hB with ⟨rfl, rfl, rfl⟩ | ⟨h0, b2, rfl, rfl⟩
 ·
  have e1 : opSliceData (.slice none 0 0) m = .value (.pointer none) m := rfl
  have e2 : opUnsafeString (cfg gl ng) 145 (.pointer none) (.int .i64 0) m = .value (.string .empty) m := rfl
  repeat apply W.seq
  refine W.regU [] [] (by as_aux_lemma => kernel_rfl) ?_
  simp [hnt, hS.c0, e1, e2, looseOk]
  try apply W.ret
  refine ⟨by first | exact .inr rfl | exact .inl rfl, rfl, rfl, _, by simp [unwind.results, Tryz.f71] <;> rfl, ?_⟩
  rw [← hQ]
  exact ⟨rfl, hS.drop (by simp)⟩
 have e1 : opSliceData (.slice (some ⟨b2, 0, none⟩) x.size (mkCap x.size false)) m = .value (.pointer (some ⟨b2, 0, none⟩)) m := by
  simp only [opSliceData]
  have hcp : capOf (mkCap x.size false) = x.size := by unfold capOf mkCap; simp
  rw [if_neg (by omega)]
 have hsw := hS.perm (L' := (b2, ⟨bytesV x, some 5⟩) :: (b, ⟨[.pointer (some ⟨b, 0, none⟩), .slice (some ⟨b2, 0, none⟩) x.size (mkCap x.size false)], none⟩) :: L) (List.Perm.swap _ _ _)
 obtain ⟨⟨hb, cc, c1, c2, c3, c4, c5, c6, c7, c8, c9⟩, hge, hno⟩ := hsw.own 0 b2 _ rfl
 have hlive : m.live b2 = some cc := by
  unfold Mem.live
  simp [hb, c1, c2]
 obtain ⟨d1, d2⟩ := c7 5 rfl
 simp only [bytesV_len] at c3
 have hld : m.loadN (cfg gl ng).toEnv b2 0 x.size = some (bytesV x) := by
  rw [← bytesV_len]
  exact loadN_of (b := b2) (o := 0) (fun j v hj => by rw [Nat.zero_add, hsw.c0]; exact hj)
 have e2 : opUnsafeString (cfg gl ng) 145 (.pointer (some ⟨b2, 0, none⟩)) (.int .i64 x.size) m = .value (.string x) (m.setB (b2 / 2) (.cells { cc with
  lo := if cc.lo < cc.hi then min cc.lo 0 else 0
  hi := if cc.lo < cc.hi then max cc.hi (0 + x.size) else 0 + x.size })) := by
  have hu : und (cfg gl ng).toEnv 145 = some (.pointer 5) := by kernel_rfl
  have hz : (cfg gl ng).P.cellsOf 5 = 1 := by kernel_rfl
  have hsl : sameLayout (cfg gl ng).P (cfg gl ng).P.depth 5 5 = true := by kernel_rfl
  have hn0 : ¬ ((x.size : Int) = 0) := by omega
  have hn1 : (decide ((x.size : Int) < 0) || decide ((x.size : Int) > 1048576)) = false := by simp; omega
  unfold opUnsafeString
  simp only [if_neg hn0, hn1, hu, hlive, Bool.false_eq_true, if_false, c6, d2, hz, hsl, Int.toNat_natCast, hld, c3]
  rw [if_neg (by simp)]
  simp only [bytesV, cutB_bytes]
 have hk := hsw.kill (.cells { cc with
  lo := if cc.lo < cc.hi then min cc.lo 0 else 0
  hi := if cc.lo < cc.hi then max cc.hi (0 + x.size) else 0 + x.size })
 generalize m.setB (b2 / 2) (.cells { cc with
  lo := if cc.lo < cc.hi then min cc.lo 0 else 0
  hi := if cc.lo < cc.hi then max cc.hi (0 + x.size) else 0 + x.size }) = m2 at *
 repeat apply W.seq
 refine W.regU [] [] (by as_aux_lemma => kernel_rfl) ?_
 simp [hnt, hS.c0, e1, e2, looseOk]
 try apply W.ret
 refine ⟨by first | exact .inr rfl | exact .inl rfl, rfl, rfl, _, by simp [unwind.results, Tryz.f71] <;> rfl, ?_⟩
 rw [← hQ]
 exact ⟨rfl, hk.drop (by simp)⟩
end Go.Proofs.Lw
namespace Go.Proofs.Lw
open Go Go.Am
set_option maxRecDepth 8000
variable {gl : Nat → Nat → Option Value} {ng : Nat}
theorem S.toEnd {E : Env} {σ0 σ : Kn} {m0 m : Mem} {p : Nat × Cl} {B L : List (Nat × Cl)} (h : S E σ0 m0 σ m (p :: (B ++ L))) : S E σ0 m0 σ m (p :: (L ++ B)) := h.perm (List.Perm.cons _ List.perm_append_comm)
theorem S.swap {E : Env} {σ0 σ : Kn} {m0 m : Mem} {p q : Nat × Cl} {L : List (Nat × Cl)} (h : S E σ0 m0 σ m (p :: q :: L)) : S E σ0 m0 σ m (q :: p :: L) := h.perm (List.Perm.swap _ _ _)
def bCl (b : Nat) (s : Value) : Nat × Cl := (b, ⟨[.pointer (some ⟨b, 0, none⟩), s], none⟩)
theorem f42_ok : ∀ (N : Nat) (t : T) (σ : Kn) (m : Mem) (rv tv : Value) (g : List RuleD), wt t ≤ N → N < 1048576 → nodes t ≤ 1024 → WF m → Holds (cfg gl ng).toEnv σ m → RulesV σ rv g → RulesOk g → TreeK σ tv t → OkN g t →
 Ct gl ng 42 [.agg #[rv], tv] σ m (fun _ v => v = .string (textG g t)) := by
 intro N
 induction N with
 | zero => intro t σ m rv tv g h; obtain ⟨k, tx, ss⟩ := t; simp only [wt] at h; omega
 | succ N ih =>
  intro t σ m rv tv g hN hlim hnod hw hh hg hru ht hok
  obtain ⟨k, tx, ss⟩ := t
  simp only [wt] at hN
  simp only [nodes] at hnod
  simp only [TreeK] at ht
  obtain ⟨sv, b, o, rfl, h2, h3⟩ := ht
  have hokN := hok
  simp only [OkN] at hok
  obtain ⟨⟨r, hnf⟩, hok⟩ := hok
  have hokS := OkSS_iff.1 hok
  obtain ⟨kn, rfl⟩ : ∃ kn : Nat, k = kn := ⟨k.toNat, by have := hnf.pos; omega⟩
  have hgk : g[kn]? = some r := by have := hnf.rule; simpa using this
  have hkl := lt_of_get hgk
  have htx : textG g (.mk kn tx ss) = accSS g ss r.slots (r.before ++ tx) ++ r.after := by simp only [textG, Int.toNat_natCast, hgk]
  refine Ct.of (c := _) Tryz.func42 rfl 57 rfl (fun c hnt => ?_)
  have hgV := hg
  obtain ⟨bg, og, hg1, hg2⟩ := hg
  have hlss := len_wtSS ss
  have hS := S.start hw hh
  obtain ⟨m1, nb2, hbx1, hS1⟩ := hS.box 24 #[rv] (by simp [hg1.plain])
  obtain ⟨m2, nb3, hbx2, hS2⟩ := hS1.box 27 #[.int .i64 kn, .string tx, sv] (by simp [h2.plain])
  have hslen : ∀ m', opLen (cfg gl ng) 25 sv m' = .value (.int .i64 ss.length) m' := fun m' => K.ly25 h2
  obtain ⟨slv, r1, r2, r3, r4, bs, os, hs1, hs2⟩ := hg2 kn r hgk
  have hr := hru.rules r (List.mem_of_getElem? hgk)
  have hd2 := hnf.len
  repeat apply W.seq
  apply W.regN; simp [hnt, hbx1, hbx2]
  obtain ⟨m3, e3, hS3⟩ := hS2.var 51 [.string .empty, .string .empty, .bool false, .slice none 0 0] [.string r.before, .string r.after, .bool r.leaf, slv] (by simp) (by simp [hs1.plain]) rfl
  repeat apply W.seq
  apply W.regN; simp [hnt, hS2.c0, hS2.c1, hS2.kn, K.iy22 hg1 hkl, r1, r2, r3, r4, e3]
  generalize m2.nb = nb5 at *
  have z1 := hr.before
  have z2 := hnf.text
  have z3 := hr.after
  obtain ⟨L0, hL0⟩ : ∃ L0 : List (Nat × Cl), L0 = [(nb5, ⟨[.string r.before, .string r.after, .bool r.leaf, slv], none⟩), (nb3, ⟨[.int .i64 kn, .string tx, sv], none⟩), (nb2, ⟨[rv], none⟩)] := ⟨_, rfl⟩
  have hS4 := hS3.new (vs := [.pointer none, .slice none 0 0]) 119 (by simp)
  repeat apply W.seq
  apply W.regN; simp [hnt]
  repeat apply W.seq
  apply W.regN; simp [hnt, hS4.c1]
  refine C.mono (f70_first hS3 (x := r.before) (by omega)) (fun out m5 ho => ?_)
  obtain ⟨rr, s5, B5, rfl, hS5, hB5⟩ := ho
  generalize m3.nb = nb6 at *
  simp [hnt]
  have hS5' := hS5.toEnd
  repeat apply W.seq
  apply W.regN; simp [hnt, hS5'.c2]
  refine C.mono (f70_next hS5 hB5 (x := tx) (by omega)) (fun out m6 ho => ?_)
  obtain ⟨rr, s6, B6, rfl, hS6, hB6⟩ := ho
  simp [hnt]
  have hS6' := hS6.toEnd
  repeat apply W.seq
  apply W.regN; simp [hnt, hS6'.c2, hslen]
  have hnss := nodesSS_le_wt ss
  rw [← hL0] at hS6
  apply W.block
  obtain ⟨I, hI⟩ : ∃ I : Nat → Tr Value → Mem → Prop, I = fun (i : Nat) (t : Tr Value) (m' : Mem) => t.get 26 = some (.int .i64 i) ∧ ∃ acc s B, S (cfg gl ng).toEnv σ m σ m' (bCl nb6 s :: (B ++ L0)) ∧ BytB s acc B ∧ acc.size ≤ 32 + 64 * nodesSS (ss.take i) ∧ accSS g (ss.drop i) (r.slots.drop i) acc = accSS g ss r.slots (r.before ++ tx) := ⟨_, rfl⟩
  refine W.upto (ws := [27, 28, 29, 30, 7, 8, 31, 32, 33, 34, 35, 36, 37, 10, 9, 38, 39, 40, 41, 42, 43, 44, 45, 46, 47, 48, 49, 50, 51, 52, 26]) (by kernel_rfl) (ss.length) I 0 (by omega) (by rw [hI]; exact ⟨by simp, _, s6, B6, hS6, hB6, by simp [nodesSS, ByteArray.size_append]; omega, rfl⟩) ?_
  intro i t m7 hi hfr hIi
  rw [hI] at hIi
  obtain ⟨q26, acc, s7, B7, hS7, hB7, hsz, hacc⟩ := hIi
  repeat apply W.seq
  apply W.regN; simp [hnt, q26, hfr]
  repeat apply W.seq
  refine W.choose (by simp; rfl) (fun hc => ?_) fun hc => ?_
  ·
   have hil : i < ss.length := by simpa using hc
   apply W.skip; try simp only [Then, InBlk]
   have hil2 : i < r.slots.length := by omega
   have hgi : r.slots[i]? = some r.slots[i] := by simp [hil2]
   have hsm : r.slots[i] ∈ r.slots := by simp
   have hsi : ss[i]? = some ss[i] := by simp [hil]
   have hmi : ss[i] ∈ ss := by simp
   obtain ⟨kv, u1, u2, u3, u4⟩ := hs2 i r.slots[i] hgi
   have hbt := (hr.slots _ hsm).between
   obtain ⟨lv, b1, o1, a1, a2, a3⟩ := h3.get hsi
   have hwl := wtSS_get hsi
   have hll := len_nodesL ss[i]
   have hln := nodesL_le_wt ss[i]
   have htk := nodesSS_take hsi
   have hle1 := nodesSS_le_take (l := ss) (i := i + 1)
   have hdrop : ss.drop i = ss[i] :: ss.drop (i + 1) := List.drop_eq_getElem_cons hil
   have hdrop2 : r.slots.drop i = r.slots[i] :: r.slots.drop (i + 1) := List.drop_eq_getElem_cons hil2
   have hacc2 : accSS g (ss.drop (i + 1)) (r.slots.drop (i + 1)) (accL g ss[i] r.slots[i].between 0 acc) = accSS g ss r.slots (r.before ++ tx) := by rw [← hacc, hdrop, hdrop2]; simp only [accSS]
   generalize r.slots[i] = sl at *
   generalize ss[i] = l at *
   repeat apply W.seq
   apply W.block
   repeat apply W.seq
   apply W.regN; simp [hnt, q26, hfr, hS7.kn, K.iy25 h2 hil, a1]
   repeat apply W.seq
   apply W.regN; simp [hnt, K.ly59 a2]
   apply W.block
   obtain ⟨I2, hI2⟩ : ∃ I2 : Nat → Tr Value → Mem → Prop, I2 = fun (j : Nat) (t : Tr Value) (m' : Mem) => t.get 33 = some (.int .i64 j) ∧ ∃ acc' s B, S (cfg gl ng).toEnv σ m σ m' (bCl nb6 s :: (B ++ L0)) ∧ BytB s acc' B ∧ acc'.size ≤ 32 + 64 * nodesSS (ss.take i) + 64 * nodesL (l.take j) ∧ accL g (l.drop j) sl.between j acc' = accL g l sl.between 0 acc := ⟨_, rfl⟩
   refine W.upto (ws := [34, 35, 36, 37, 10, 9, 38, 39, 40, 41, 42, 43, 44, 45, 46, 47, 48, 49, 50, 51, 33]) (by kernel_rfl) (l.length) I2 0 (by omega) (by rw [hI2]; exact ⟨by simp, acc, s7, B7, hS7, hB7, by simp [nodesL]; omega, rfl⟩) ?_
   intro j t3 m8 hj hfr3 hIi
   rw [hI2] at hIi
   obtain ⟨q33, acc', s8, B8, hS8, hB8, hsz', hacc'⟩ := hIi
   repeat apply W.seq
   apply W.regN; simp [hnt, q33, hfr3]
   repeat apply W.seq
   refine W.choose (by simp; rfl) (fun hc => ?_) fun hc => ?_
   ·
    have hjl : j < l.length := by simpa using hc
    apply W.skip; try simp only [Then, InBlk]
    have hgj : l[j]? = some l[j] := by simp [hjl]
    have hmj : l[j] ∈ l := by simp
    obtain ⟨x1, y1, z1', w1, w2, w3, w4⟩ := a3.get hgj
    have hwj := wtL_get hgj
    have htk2 := nodesL_take hgj
    have hle2 := nodesL_le_take (l := l) (i := j + 1)
    have hokj := hokS l hmi _ hmj
    have htsz := textG_size hru hokj
    have hdrop3 : l.drop j = l[j] :: l.drop (j + 1) := List.drop_eq_getElem_cons hjl
    generalize l[j] = tj at *
    have hacc3 : accL g (l.drop (j + 1)) sl.between (j + 1) ((if 0 < j then acc' ++ sl.between else acc') ++ textG g tj) = accL g l sl.between 0 acc := by rw [← hacc', hdrop3]; simp only [accL]
    obtain ⟨e1, e2, pz, _⟩ := w4.inv
    obtain ⟨m9, e9, hS9⟩ := hS8.var 27 [.int .i64 0, .string .empty, .slice none 0 0] [x1, y1, z1'] (by simp) (by simp [e1, e2, pz]) rfl
    repeat apply W.seq
    apply W.block
    repeat apply W.seq
    apply W.regN; simp [hnt, q33, hfr3, hfr, hS8.kn, K.iy59 a2 hjl, w1, w2, w3, e9]
    generalize m8.nb = nb10 at *
    have hS9' := hS9.swap
    obtain ⟨L1, hL1⟩ : ∃ L1 : List (Nat × Cl), L1 = (nb10, ⟨[x1, y1, z1'], none⟩) :: L0 := ⟨_, rfl⟩
    have hS10 : S (cfg gl ng).toEnv σ m σ m9 (bCl nb6 s8 :: (B8 ++ L1)) := by rw [hL1]; exact hS9'.perm (List.Perm.cons _ List.perm_middle.symm)
    repeat apply W.seq
    apply W.regN; simp [hnt]
    obtain ⟨J, hJ⟩ : ∃ J : Tr Value → Mem → Prop, J = fun t' m' => ∃ s B, S (cfg gl ng).toEnv σ m σ m' (bCl nb6 s :: (B ++ L1)) ∧ BytB s (if 0 < j then acc' ++ sl.between else acc') B := ⟨_, rfl⟩
    have hsz3 : (if 0 < j then acc' ++ sl.between else acc').size ≤ acc'.size + 16 := by
     split
     · rw [ByteArray.size_append]; omega
     omega
    refine W.cut' (ws := [40, 41, 42, 43, 44, 45, 46]) (by kernel_rfl) J ?_ (fun t5 m6 hfr5 hJ5 => ?_)
    ·
     refine W.choose (by simp; rfl) (fun hc => ?_) fun hc => ?_
     ·
      have h0 : 0 < j := by simpa using hc
      have hS11 := hS10.toEnd
      rw [hL1, hL0] at hS11
      apply W.regN; simp [hnt, hfr3, hfr, hS11.c2, hS11.kn, K.iy49 hs1 hil2, u3]
      refine C.mono (f70_next hS10 hB8 (x := sl.between) (by omega)) (fun out m12 ho => ?_)
      obtain ⟨rr, s12, B12, rfl, hS12, hB12⟩ := ho
      simp [hnt]
      rw [hJ, if_pos h0]
      exact ⟨s12, B12, hS12, hB12⟩
     have h0 : ¬ 0 < j := by simpa using hc
     apply W.skip; try simp only [Then, InBlk]
     simp
     rw [hJ, if_neg h0]
     exact ⟨s8, B8, hS10, hB8⟩
    rw [hJ] at hJ5
    obtain ⟨s11, B11, hS11, hB11⟩ := hJ5
    generalize hac : (if 0 < j then acc' ++ sl.between else acc') = ac at *
    have hS12 := hS11.toEnd
    rw [hL1, hL0] at hS12
    apply W.regN; simp [hnt, hfr5, hfr3, hfr, hS12.c1, hS12.c4]
    refine Ct.use (ih tj σ m6 rv _ g (by omega) (by omega) (by omega) hS11.wf hS11.holds hgV hru w4 hokj) (fun σ7 v7 m7 hl7 hv7 => ?_)
    subst hv7
    have hS13 := hS11.grow hl7.grow
    simp [hnt, hfr5, hfr3, hfr]
    refine C.mono (f70_next hS13 hB11 (x := textG g tj) (by omega)) (fun out m14 ho => ?_)
    obtain ⟨rr, s14, B14, rfl, hS14, hB14⟩ := ho
    simp [hnt]
    apply W.regN; simp [hnt, q33, hfr5, hfr3, wr1 (show j < _ by omega)]
    exact ⟨j + 1, by omega, by omega, by rw [hI2]; exact ⟨by simp, _, s14, B14, (by rw [hL1] at hS14; exact hS14.drop (List.Sublist.cons_cons _ (List.Sublist.append (List.Sublist.refl _) (List.sublist_cons_self _ _)))), hB14, by rw [ByteArray.size_append, htk2]; omega, hacc3⟩⟩
   have hje : j = l.length := by
    have : l.length ≤ j := by simpa using hc
    omega
   apply W.exit; try simp [Then, InBlk]
   apply W.regN; simp [hnt, q26, hfr3, hfr, wr1 (show i < _ by omega)]
   exact ⟨i + 1, by omega, by omega, by rw [hI]; exact ⟨by simp, acc', s8, B8, hS8, hB8, by rw [htk]; rw [hje, List.take_length] at hsz'; omega, by rw [← hacc2, ← hacc', hje]; simp [accL]⟩⟩
  have hil : i = ss.length := by
   have : ss.length ≤ i := by simpa using hc
   omega
  apply W.exit; try simp [Then, InBlk]
  have hle1 := nodesSS_le_take (l := ss) (i := i)
  have hS8 := hS7.toEnd
  rw [hL0] at hS8
  repeat apply W.seq
  apply W.regN; simp [hnt, hfr, hS8.c1]
  refine C.mono (f70_next hS7 hB7 (x := r.after) (by omega)) (fun out m9 ho => ?_)
  obtain ⟨rr, s9, B9, rfl, hS9, hB9⟩ := ho
  simp [hnt]
  repeat apply W.seq
  apply W.regN; simp [hnt, hfr]
  refine C.mono (f71_ok hS9 hB9 (by rw [ByteArray.size_append]; omega)) (fun out m10 ho => ?_)
  obtain ⟨rfl, hS10⟩ := ho
  simp [hnt]
  apply W.ret
  refine ⟨.inr rfl, rfl, rfl, _, by simp [unwind.results, Tryz.f42]; rfl, _, hS10.learn, ?_⟩
  have : accSS g ss r.slots (r.before ++ tx) = acc := by rw [← hacc, hil]; simp [accSS]
  simp [retV, htx, this]
end Go.Proofs.Lw
namespace Go.Proofs.Lw
open Go Go.Am
set_option maxRecDepth 8000
variable {gl : Nat → Nat → Option Value} {ng : Nat}
theorem mk53c {m : Mem} {n : Nat} (hn : n ≤ 1048576) : opMakeSlice (cfg gl ng).toEnv 53 (.int .i64 0) (.int .i64 n) m =
 .value (.slice (some ⟨m.nb, 0, none⟩) 0 (mkCap n true)) (m.new (.cells (cellsOf (List.replicate n (iv 0)) 3))) := by
 obtain ⟨i, h1, h2, h3⟩ := info3' (gl := gl) (ng := ng)
 have hu : und (cfg gl ng).toEnv 53 = some (.slice 3) := und53
 have hcond : (decide ((0 : Int) ≤ 0) && decide ((0 : Int) ≤ n) && decide ((n : Int) ≤ 1048576) && decide (i.bytes ≤ 1048576)) = true := by
  simp; omega
 unfold opMakeSlice
 rw [hu]
 simp only [h1]
 rw [hcond]
 simp only [if_true, Int.toNat_natCast, h2, Nat.mul_one]
 by_cases h0 : n = 0
 · subst h0
   simp [Mem.newCells, mkCap]
 rw [if_neg h0, zero3]
 simp only
 have e : ((Array.range n).map fun j => (Value.int .i64 0).cells[j % (Value.int .i64 0).cells.size]!).toList = List.replicate n (iv 0) := by
  rw [Array.toList_map, Array.toList_range]
  apply List.ext_getElem
  · simp
  intro j h1 h2
  simp [iv, Value.cells, Nat.mod_one]
 rw [e]
 unfold Mem.newCells
 rw [if_pos (by simp [iv])]
 rfl
def roomC (l : List Int) (n : Nat) : List Value := l.map iv ++ List.replicate (n - l.length) (iv 0)
theorem roomC_len {l : List Int} {n : Nat} (h : l.length ≤ n) : (roomC l n).length = n := by simp [roomC]; omega
theorem roomC_app {l x : List Int} {n : Nat} (h : l.length + x.length ≤ n) : splice (roomC l n) l.length (x.map iv) = roomC (l ++ x) n := by
 unfold splice roomC
 have e1 : (l.map iv ++ List.replicate (n - l.length) (iv 0)).take l.length = l.map iv := by
  exact List.take_left' (by simp)
 have e2 : (l.map iv ++ List.replicate (n - l.length) (iv 0)).drop (l.length + (x.map iv).length) = List.replicate (n - (l ++ x).length) (iv 0) := by
  rw [List.drop_append, List.drop_eq_nil_of_le (by simp), List.drop_replicate, List.nil_append]
  congr 1
  simp only [List.length_map, List.length_append]
  omega
 rw [e1, e2]
 simp
def Room (v : Value) : Prop := ∃ b n c, v = .slice (some ⟨b, 0, none⟩) n c ∧ exact c = true ∧ n ≤ capOf c
theorem room_of {b n N : Nat} (h : n ≤ N) : Room (.slice (some ⟨b, 0, none⟩) n (mkCap N true)) := ⟨b, n, _, rfl, by simp [exact, mkCap], by simp [capOf, mkCap]; omega⟩
theorem S.room {σ0 σ : Kn} {m0 m : Mem} {L : List (Nat × Cl)} (h : S (cfg gl ng).toEnv σ0 m0 σ m L) {i b n : Nat} {l x : List Int} (hi : L[i]? = some (b, ⟨roomC l n, none⟩)) {xv : Value} (hx : Src (cfg gl ng).toEnv m xv x.length (x.map iv)) (hn : l.length + x.length ≤ n) (hlim : n ≤ 1048576) :
 ∃ m', opAppend (cfg gl ng).toEnv 53 (some 53) (.slice (some ⟨b, 0, none⟩) l.length (mkCap n true)) xv m = .value (.slice (some ⟨b, 0, none⟩) (l ++ x).length (mkCap n true)) m' ∧ S (cfg gl ng).toEnv σ0 m0 σ m' (L.set i (b, ⟨roomC (l ++ x) n, none⟩)) := by
 have hinf : (((cfg gl ng).toEnv.P.info? 3).map fun i => elemOk (cfg gl ng).toEnv 3 i && decide (i.size = 1)) = some true := by kernel_rfl
 have hso : srcOk (cfg gl ng).toEnv (some 53) = true := by kernel_rfl
 obtain ⟨m', e, h'⟩ := h.write hi (o := l.length) (vs := x.map iv) (by simp [roomC_len (show l.length ≤ n by omega)]; omega) (by simp [iv])
 rw [roomC_app hn] at h'
 refine ⟨m', ?_, h'⟩
 have hcap : capOf (mkCap n true) = n := by simp [capOf, mkCap]; omega
 cases hinfo : (cfg gl ng).toEnv.P.info? 3 with
 | none => rw [hinfo] at hinf; cases hinf
 | some q =>
  rw [hinfo] at hinf
  simp at hinf
  obtain ⟨hel, hes⟩ := hinf
  have hs1 : lenSrc xv = some x.length := by rcases hx with ⟨rfl, h0, _⟩ | ⟨b', o', c', rfl, _⟩ <;> simp [lenSrc]; exact h0.symm
  have hs2 : readSrc (cfg gl ng).toEnv m q.size x.length xv = some (x.map iv) := by
   rcases hx with ⟨rfl, _, hv⟩ | ⟨b', o', c', rfl, hld⟩
   · simp only [readSrc]; rw [hv]
   simp only [readSrc, hes, Nat.mul_one]
   have := loadN_of (b := b') (o := o') hld
   simpa using this
  unfold opAppend
  have hcond : (elemOk (cfg gl ng).toEnv 3 q && srcOk (cfg gl ng).toEnv (some 53) && decide (l.length + x.length ≤ 1048576)) = true := by simp [hel, hso]; omega
  simp only [und53, hs1, hinfo, hcond, hs2, if_true]
  rw [if_pos (by simp [hes]), hcap, if_pos hn]
  simp only [Nat.zero_add, hes, Nat.mul_one, e, List.length_append]
theorem S.roomDone {σ0 σ : Kn} {m0 m : Mem} {L : List (Nat × Cl)} (h : S (cfg gl ng).toEnv σ0 m0 σ m L) {i b n : Nat} {l : List Int} (hi : L[i]? = some (b, ⟨roomC l n, none⟩)) (c : Nat) :
 ∃ σ', σ.le σ' ∧ S (cfg gl ng).toEnv σ0 m0 σ' m (L.eraseIdx i) ∧ IntsK σ' (.slice (some ⟨b, 0, none⟩) l.length c) l := by
 obtain ⟨σ', h1, h2, h3⟩ := h.freeze hi
 refine ⟨σ', h1, h2, b, 0, .inr ⟨c, rfl⟩, fun j n hj => ?_⟩
 rw [Nat.zero_add, h3]
 unfold roomC
 rw [List.getElem?_append_left (by simp; exact lt_of_get hj)]
 simp [hj, iv]
theorem Src.ints {E : Env} {σ : Kn} {m : Mem} {v : Value} {l : List Int} (hh : Holds E σ m) (h : IntsK σ v l) : Src E m v l.length (l.map iv) := by
 obtain ⟨b, o, h1, h2⟩ := h
 rcases h1 with ⟨rfl, h0⟩ | ⟨c, rfl⟩
 · exact .inl ⟨rfl, h0, by rw [List.eq_nil_of_length_eq_zero h0]; rfl⟩
 refine .inr ⟨b, o, c, rfl, fun j x hj => ?_⟩
 rw [List.getElem?_map] at hj
 cases hl : l[j]? with
 | none => rw [hl] at hj; cases hj
 | some n => rw [hl] at hj; simp at hj; subst hj; exact hh _ _ _ (h2 j n hl)
theorem f61_ok {σ : Kn} {m : Mem} {v w : Value} {l less : List Int} (hw : WF m) (hh : Holds (cfg gl ng).toEnv σ m) (h1 : IntsK σ v l) (h2 : IntsK σ w less) (hl1 : l.length < 1048576) (hl2 : less.length < 1048576) :
 Ct gl ng 61 [v, w] σ m (fun σ' r => IntsK σ' r (minusD l less) ∧ Room r) := by
 refine Ct.of (c := _) Tryz.func61 rfl 27 rfl (fun c hnt => ?_)
 have hS := S.start hw hh
 have hmk := mk53c (gl := gl) (ng := ng) (m := m) (n := l.length) (by omega)
 have hS1 := hS.new (vs := List.replicate l.length (iv 0)) 3 (by simp [iv])
 repeat apply W.seq
 apply W.regN; simp [hnt]
 repeat apply W.seq
 apply W.regN; simp [hnt, h1.len, hmk]
 generalize m.new (.cells (cellsOf (List.replicate l.length (iv 0)) 3)) = m1 at *
 generalize m.nb = nb5 at *
 repeat apply W.seq
 apply W.regN; simp [hnt, h1.len]
 apply W.block
 obtain ⟨I, hI⟩ : ∃ I : Nat → Tr Value → Mem → Prop, I = fun (i : Nat) (t : Tr Value) (m' : Mem) => t.get 13 = some (.int .i64 i) ∧ t.get 5 = some (.slice (some ⟨nb5, 0, none⟩) (minusD (l.take i) less).length (mkCap l.length true)) ∧ S (cfg gl ng).toEnv σ m σ m' [(nb5, ⟨roomC (minusD (l.take i) less) l.length, none⟩)] := ⟨_, rfl⟩
 refine W.upto (ws := [14, 15, 16, 7, 17, 18, 19, 20, 21, 22, 23, 24, 5, 25, 13]) (by kernel_rfl) (l.length) I 0 (by omega) (by rw [hI]; exact ⟨by simp, by simp [minusD], by simpa [minusD, roomC] using hS1⟩) ?_
 intro i t m1 hi hfr hIi
 rw [hI] at hIi
 obtain ⟨q13, q5, hS1⟩ := hIi
 repeat apply W.seq
 apply W.regN; simp [hnt, q13, hfr]
 repeat apply W.seq
 refine W.choose (by simp; rfl) (fun hc => ?_) fun hc => ?_
 ·
  have hil : i < l.length := by simpa using hc
  apply W.skip; try simp only [Then, InBlk]
  obtain ⟨b1, o1, e1, e2⟩ := h1.at (gl := gl) (ng := ng) hil
  have hat : at' l i = l[i] := by simp [at', hil]
  rw [hat] at e2
  have hgi : l[i]? = some l[i] := by simp [hil]
  have htk : l.take (i + 1) = l.take i ++ [l[i]] := by simp [hil]
  have hlen : (minusD (l.take i) less).length ≤ i := Nat.le_trans (List.length_filter_le _ _) (by simp; omega)
  generalize l[i] = x at *
  repeat apply W.seq
  apply W.block
  repeat apply W.seq
  apply W.regN; simp [hnt, q13, hfr, e1, hS1.kn, e2]
  repeat apply W.seq
  apply W.regN; simp [hnt, hfr]
  refine Ct.use (Ct.any hS1.wf hS1.holds (f47_ct hS1.wf (IntsK.mono hS1.holds h2) hl2)) (fun σ3 v3 m3 hl3 hv3 => ?_)
  subst hv3
  have hS3 := hS1.grow hl3.grow
  by_cases hx : x ∈ less
  ·
   simp [hnt, hx]
   refine W.choose (by simp; rfl) (fun hc => ?_) fun hc => ?_
   · cases hc
   apply W.skip; try simp only [Then, InBlk]
   apply W.regN; simp [hnt, q13, hfr, wr1 (show i < _ by omega)]
   exact ⟨i + 1, by omega, by omega, by rw [hI]; exact ⟨by simp, by rw [htk]; simpa [minusD, List.filter_append, hx] using q5, by rw [htk]; simpa [minusD, List.filter_append, hx] using hS3⟩⟩
  simp [hnt, hx]
  refine W.choose (by simp; rfl) (fun hc => ?_) fun hc => ?_
  ·
   have hS4 := hS3.new (vs := [iv x]) 3 (by simp [iv])
   obtain ⟨m5, e5, hS5⟩ := hS4.room (i := 1) (b := nb5) rfl (x := [x]) (xv := .slice (some ⟨m3.nb, 0, none⟩) 1 (mkCap 1 true)) (.inr ⟨m3.nb, 0, _, rfl, fun j v hj => by rw [Nat.zero_add, hS4.c0]; exact hj⟩) (by simp; omega) (by omega)
   have e5' : opAppend (cfg gl ng).toEnv 53 (some 53) (.slice (some ⟨nb5, 0, none⟩) (minusD (l.take i) less).length (mkCap l.length true)) (.slice (some ⟨m3.nb, 0, none⟩) 1 (mkCap 1 true)) (m3.new (.cells (cellsOf [.int .i64 x] 3))) = .value (.slice (some ⟨nb5, 0, none⟩) (minusD (l.take i) less ++ [x]).length (mkCap l.length true)) m5 := e5
   apply W.regN; simp [hnt, q13, q5, hfr, bs53, e5']
   apply W.regN; simp [hnt, q13, hfr, wr1 (show i < _ by omega)]
   have hnx : minusD (l.take i ++ [x]) less = minusD (l.take i) less ++ [x] := by simp [minusD, List.filter_append, hx]
   have hS6 := hS5.drop (List.sublist_cons_self _ _)
   exact ⟨i + 1, by omega, by omega, by rw [hI]; exact ⟨by simp, by rw [htk, hnx]; simp, by rw [htk, hnx]; exact hS6⟩⟩
  cases hc
 have hil : i = l.length := by
  have : l.length ≤ i := by simpa using hc
  omega
 apply W.exit; try simp [Then, InBlk]
 rw [hil, List.take_length] at hS1
 rw [hil, List.take_length] at q5
 obtain ⟨σ2, hle2, hS2, hv2⟩ := hS1.roomDone (i := 0) rfl (mkCap l.length true)
 repeat apply W.seq
 apply W.regN; simp [hnt, q5]
 apply W.ret
 refine ⟨.inr rfl, rfl, rfl, _, by simp [unwind.results, Tryz.f61]; rfl, _, hS2.learn, ?_⟩
 exact ⟨by simpa [retV] using hv2, room_of (List.length_filter_le _ _)⟩
theorem f76_ok {σ : Kn} {m : Mem} {v : Value} {l : List Int} (hw : WF m) (hh : Holds (cfg gl ng).toEnv σ m) (h1 : IntsK σ v l) (hl1 : l.length < 1048576) :
 Ct gl ng 76 [v] σ m (fun σ' r => IntsK σ' r l ∧ Room r) := by
 refine Ct.of (c := _) Tryz.func76 rfl 8 rfl (fun c hnt => ?_)
 have hS := S.start hw hh
 have hmk := mk53c (gl := gl) (ng := ng) (m := m) (n := l.length) (by omega)
 have hS1 := hS.new (vs := List.replicate l.length (iv 0)) 3 (by simp [iv])
 have hS1' : S (cfg gl ng).toEnv σ m σ (m.new (.cells (cellsOf (List.replicate l.length (iv 0)) 3))) [(m.nb, ⟨roomC [] l.length, none⟩)] := by simpa [roomC] using hS1
 obtain ⟨m2, e2, hS2⟩ := hS1'.room (i := 0) rfl (x := l) (xv := v) (Src.ints hS1.holds h1) (by simp) (by omega)
 simp only [List.length_nil, List.nil_append] at e2
 repeat apply W.seq
 apply W.regN; simp [hnt]
 repeat apply W.seq
 apply W.regN; simp [hnt, h1.len, hmk, e2]
 simp only [List.set_cons_zero, List.nil_append] at hS2
 obtain ⟨σ3, hle3, hS3, hv3⟩ := hS2.roomDone (i := 0) rfl (mkCap l.length true)
 apply W.ret
 refine ⟨.inr rfl, rfl, rfl, _, by simp [unwind.results, Tryz.f76]; rfl, _, hS3.learn, ?_⟩
 exact ⟨by simpa [retV] using hv3, room_of (Nat.le_refl _)⟩
def plainV' (v : Int) : Int := if v = 1 ∨ v = 2 then v else 3
theorem f92_ok {σ : Kn} {m : Mem} {v : Int} (hw : WF m) (hh : Holds (cfg gl ng).toEnv σ m) : Ct gl ng 92 [.int .u8 v] σ m (fun _ r => r = .int .u8 (plainV' v)) := by
 refine Ct.of (c := _) Tryz.func92 rfl 10 rfl (fun c hnt => ?_)
 have hS := S.start hw hh
 repeat apply W.seq
 apply W.regN; simp [hnt]
 by_cases h1 : v = 1
 ·
  repeat apply W.seq
  apply W.regN; simp [hnt, h1]
  refine W.choose (by simp; rfl) (fun hc => ?_) fun hc => ?_
  · repeat apply W.seq
    apply W.regN; simp [hnt, h1]
    apply W.ret; try simp only [Then, InBlk]
    refine ⟨.inr rfl, rfl, rfl, _, by simp [unwind.results, Tryz.f92]; rfl, _, hS.learn, ?_⟩
    simp [retV, plainV', h1]
  cases hc
 by_cases h2 : v = 2
 ·
  repeat apply W.seq
  apply W.regN; simp [hnt, h1, h2]
  refine W.choose (by simp; rfl) (fun hc => ?_) fun hc => ?_
  · repeat apply W.seq
    apply W.regN; simp [hnt, h1, h2]
    apply W.ret; try simp only [Then, InBlk]
    refine ⟨.inr rfl, rfl, rfl, _, by simp [unwind.results, Tryz.f92]; rfl, _, hS.learn, ?_⟩
    simp [retV, plainV', h2]
  cases hc
 repeat apply W.seq
 apply W.regN; simp [hnt, h1, h2]
 refine W.choose (by simp; rfl) (fun hc => ?_) fun hc => ?_
 · cases hc
 apply W.skip; try simp only [Then, InBlk]
 repeat apply W.seq
 apply W.regN; simp [hnt]
 apply W.ret
 refine ⟨.inr rfl, rfl, rfl, _, by simp [unwind.results, Tryz.f92]; rfl, _, hS.learn, ?_⟩
 simp [retV, plainV', h1, h2]
end Go.Proofs.Lw
