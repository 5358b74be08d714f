/-
  PROVED here: steps on the way to the card of 'sleuthlaw06.ReduceTreeMinimal' (an abstract machine, its soundness, what each function computes). No conditions beyond those that each theorem states.
-/
import Derived.Test.YtfgpboldklboaaaGreatDoorAm21
namespace Go.Proofs.Lw
open Go Go.Am
set_option maxRecDepth 8000
variable {gl : Nat → Nat → Option Value} {ng : Nat}
section ops
variable {t : TypeId} {xo yo : Operand} {m : Mem} {a b n : Int} {k : IntKind}
@[simp] theorem cv5_3 : opConvert (cfg gl ng).toEnv 5 3 (.int .u8 n) m = .value (.int .i64 (IntKind.i64.wrap n)) m := by kernel_rfl
@[simp] theorem cv3_29 : opConvert (cfg gl ng).toEnv 3 29 (.int .i64 n) m = .value (.int .u64 (IntKind.u64.wrap n)) m := by kernel_rfl
@[simp] theorem cv5_29 : opConvert (cfg gl ng).toEnv 5 29 (.int .u8 n) m = .value (.int .u64 (IntKind.u64.wrap n)) m := by kernel_rfl
@[simp] theorem cv29_46 : opConvert (cfg gl ng).toEnv 29 46 (.int .u64 n) m = .value (.int .u8 (IntKind.u8.wrap n)) m := by kernel_rfl
def xorD (k : IntKind) (a b : Int) : Int := k.wrap ((BitVec.ofInt k.bits a ^^^ BitVec.ofInt k.bits b).toNat)
@[simp] theorem opBin_xor {E : Env} : opBin E .xor t xo yo (.int k a) (.int k b) m = .value (.int k (xorD k a b)) m := by
 simp [opBin, flat, eqGuard, binOp, Op.intArith, pureRun_pure, rp, Op.intBits, xorD]
def shrD (k : IntKind) (a : Int) (s : Nat) : Int := a.fdiv (2 ^ min s k.bits)
theorem opBin_shr {E : Env} {j : IntKind} {s : Nat} : opBin E .shr t xo yo (.int k a) (.int j s) m = .value (.int k (shrD k a s)) m := by
 have h : ¬ ((s : Int) < 0) := by omega
 simp [opBin, flat, eqGuard, binOp, Op.intArith, pureRun_pure, rp, Op.shift, h, shrD]
@[simp] theorem opBin_shr20 {E : Env} {j : IntKind} : opBin E .shr t xo yo (.int k a) (.int j 20) m = .value (.int k (shrD k a 20)) m := opBin_shr (s := 20)
@[simp] theorem opBin_shr29 {E : Env} {j : IntKind} : opBin E .shr t xo yo (.int k a) (.int j 29) m = .value (.int k (shrD k a 29)) m := opBin_shr (s := 29)
@[simp] theorem opBin_shr32 {E : Env} {j : IntKind} : opBin E .shr t xo yo (.int k a) (.int j 32) m = .value (.int k (shrD k a 32)) m := opBin_shr (s := 32)
theorem opBin_rem {E : Env} (h : b ≠ 0) : opBin E .rem t xo yo (.int k a) (.int k b) m = .value (.int k (a.tmod b)) m := by
 simp [opBin, flat, eqGuard, binOp, Op.intArith, pureRun_pure, rp, Op.intDiv, h]
theorem opBin_quo {E : Env} (h : b ≠ 0) : opBin E .quo t xo yo (.int k a) (.int k b) m = .value (.int k (k.wrap (a.tdiv b))) m := by
 simp [opBin, flat, eqGuard, binOp, Op.intArith, pureRun_pure, rp, Op.intDiv, h]
@[simp] theorem opBin_rem256 {E : Env} : opBin E .rem t xo yo (.int k a) (.int k 256) m = .value (.int k (a.tmod 256)) m := opBin_rem (by decide)
@[simp] theorem opBin_rem3 {E : Env} : opBin E .rem t xo yo (.int k a) (.int k 3) m = .value (.int k (a.tmod 3)) m := opBin_rem (by decide)
@[simp] theorem opBin_quo256 {E : Env} : opBin E .quo t xo yo (.int k a) (.int k 256) m = .value (.int k (k.wrap (a.tdiv 256))) m := opBin_quo (by decide)
theorem ixs9 {s : ByteArray} {i : Nat} (hi : i < s.size) : opIndex (cfg gl ng).toEnv 9 (.string s) (.int .i64 i) m = .value (.int .u8 (s.get i hi).toNat) m := by
 have hu : und (cfg gl ng).toEnv 9 = some .string := by kernel_rfl
 unfold opIndex
 rw [hu]
 simp only
 have : pureRun (cfg gl ng).toEnv.P (Instr.index 9 (.string s) (.int .i64 i)) = some (.int .u8 (s.get i hi).toNat) := by
  have hp : (cfg gl ng).toEnv.P.underlying 9 = some .string := hu
  have h0 : (0 : Int) ≤ i := by omega
  have hs : s[(i : Int).toNat]? = some (s.get i hi) := by
   rw [Int.toNat_natCast, getElem?_pos s i hi]; rfl
  show pureRun _ (.program _) = _
  simp only [pureRun]
  show pureRun _ ((match (cfg gl ng).toEnv.P.underlying 9 with | some d => pure d | none => stuck "no such type") >>= _) = _
  rw [hp]
  show pureRun _ (match (if 0 ≤ (i : Int) then s[(i : Int).toNat]? else none) with
   | some b => (pure (Value.int .u8 b.toNat) : Sem Value)
   | none => boundsPanic .i64 i s.size .index) = _
  rw [if_pos h0, hs]
  rfl
 rw [this]; rfl
end ops
theorem bs53 {m : Mem} {v : Value} (hv : plainV v = true) : opBuildSlice (cfg gl ng).toEnv 53 1 [(0, v)] m = .value (.slice (some ⟨m.nb, 0, none⟩) 1 (mkCap 1 true)) (m.new (.cells (cellsOf [v] 3))) :=
 bs_one (z := .int .i64 0) (by kernel_rfl) (by kernel_rfl) (by kernel_rfl) (by kernel_rfl) rfl hv
theorem ap53 {σ0 σ : Kn} {m0 m : Mem} {L1 B L2 : List (Nat × Cl)} (h : S (cfg gl ng).toEnv σ0 m0 σ m (L1 ++ (B ++ L2))) {s x : Value} {len n : Nat} {vs new : List Value} (hB : BldV 3 1 s len vs B) (hs : Src (cfg gl ng).toEnv m x n new) (hnew : new.length = n * 1) (hp : new.all plainV = true) (hl : len + n ≤ 1048576) :
 ∃ s' m' B', opAppend (cfg gl ng).toEnv 53 (some 53) s x m = .value s' m' ∧ S (cfg gl ng).toEnv σ0 m0 σ m' (L1 ++ (B' ++ L2)) ∧ BldV 3 1 s' (len + n) (vs ++ new) B' :=
 app_ok (by kernel_rfl) (by kernel_rfl) (by kernel_rfl) h hB hs hnew hp hl
theorem S.appi {σ0 σ : Kn} {m0 m : Mem} {L1 B : List (Nat × Cl)} (h : S (cfg gl ng).toEnv σ0 m0 σ m (L1 ++ (B ++ []))) {s : Value} {l : List Int} (hB : BldV 3 1 s l.length (l.map iv) B) (n : Int) (hl : l.length < 1048576) :
 ∃ s' m' B', opAppend (cfg gl ng).toEnv 53 (some 53) s (.slice (some ⟨m.nb, 0, none⟩) 1 (mkCap 1 true)) (m.new (.cells (cellsOf [iv n] 3))) = .value s' m' ∧ S (cfg gl ng).toEnv σ0 m0 σ m' (L1 ++ (B' ++ [])) ∧ BldV 3 1 s' (l ++ [n]).length ((l ++ [n]).map iv) B' := by
 have h1 := h.new (vs := [iv n]) 3 (by simp [iv])
 obtain ⟨s', m', B', e, h2, h3⟩ := ap53 (L1 := (m.nb, ⟨[iv n], none⟩) :: L1) h1 hB (x := .slice (some ⟨m.nb, 0, none⟩) 1 (mkCap 1 true)) (n := 1) (new := [iv n]) (.inr ⟨_, 0, _, rfl, fun j x hj => by rw [Nat.zero_add, h1.c0]; exact hj⟩) rfl (by simp [iv]) (by omega)
 refine ⟨s', m', B', e, h2.drop (List.sublist_cons_self _ _), ?_⟩
 simpa using h3
theorem S.donei {E : Env} {σ0 σ : Kn} {m0 m : Mem} {L1 B : List (Nat × Cl)} (h : S E σ0 m0 σ m (L1 ++ (B ++ []))) {s : Value} {l : List Int} (hB : BldV 3 1 s l.length (l.map iv) B) :
 ∃ σ', σ.le σ' ∧ S E σ0 m0 σ' m L1 ∧ IntsK σ' s l := by
 obtain ⟨σ', b, h1, h2, h3, h4⟩ := h.done hB
 refine ⟨σ', h1, by simpa using h2, b, 0, h3, fun i n hi => ?_⟩
 rw [Nat.zero_add]
 exact h4 i _ (by simp [hi, iv])
def minusD (l less : List Int) : List Int := l.filter fun x => !decide (x ∈ less)
theorem f64_ok {σ : Kn} {m : Mem} {v w : Value} {l less : List Int} (hw : WF m) (hh : Holds (cfg gl ng).toEnv σ m) (h1 : IntsK σ v l) (h2 : IntsK σ w less) (hl1 : l.length < 1048576) (hl2 : less.length < 1048576) :
 Ct gl ng 64 [v, w] σ m (fun σ' r => IntsK σ' r (minusD l less)) := by
 refine Ct.of (c := _) Tryz.func64 rfl 28 rfl (fun c hnt => ?_)
 have hS := S.start hw hh
 repeat apply W.seq
 apply W.regN; simp [hnt]
 repeat apply W.seq
 apply W.regN; simp [hnt]
 repeat apply W.seq
 apply W.regN; simp [hnt]
 apply W.block
 obtain ⟨I, hI⟩ : ∃ I : Nat → Tr Value → Mem → Prop, I = fun (i : Nat) (t : Tr Value) (m' : Mem) => t.get 6 = some (.int .i64 i) ∧ ∃ s B, t.get 5 = some s ∧ S (cfg gl ng).toEnv σ m σ m' ([] ++ (B ++ [])) ∧ BldV 3 1 s (minusD (l.take i) less).length ((minusD (l.take i) less).map iv) B := ⟨_, rfl⟩
 refine W.upto (ws := [7, 8, 9, 10, 13, 14, 15, 16, 17, 18, 19, 20, 21, 22, 23, 24, 25, 26, 5, 11, 12, 6]) (by kernel_rfl) (l.length) I 0 (by omega) (by rw [hI]; exact ⟨by simp, .slice none 0 0, [], by simp, hS, by simpa [minusD] using BldV.nil⟩) ?_
 intro i t m1 hi hfr hIi
 rw [hI] at hIi
 obtain ⟨q6, s, B, q5, hS1, hB⟩ := hIi
 repeat apply W.seq
 apply W.regN; simp [hnt, q6, hfr, h1.len]
 refine W.choose (by simp; rfl) (fun hc => ?_) fun hc => ?_
 ·
  have hil : i < l.length := by simpa using hc
  apply W.skip; try simp only [Then, InBlk]
  obtain ⟨b1, o1, e1, e2⟩ := h1.at (gl := gl) (ng := ng) hil
  have hat : at' l i = l[i] := by simp [at', hil]
  rw [hat] at e2
  have hgi : l[i]? = some l[i] := by simp [hil]
  have htk : l.take (i + 1) = l.take i ++ [l[i]] := by simp [hil]
  have hlen : (minusD (l.take i) less).length ≤ l.length := Nat.le_trans (List.length_filter_le _ _) (by simp; omega)
  generalize l[i] = x at *
  repeat apply W.seq
  apply W.block
  repeat apply W.seq
  apply W.regN; simp [hnt, q6, hfr, e1, hS1.kn, e2]
  refine Ct.use (Ct.any hS1.wf hS1.holds (f41_ct hS1.wf (IntsK.mono hS1.holds h2) hl2)) (fun σ3 v3 m3 hl3 hv3 => ?_)
  subst hv3
  have hS3 := hS1.grow hl3.grow
  by_cases hx : x ∈ less
  ·
   simp [hnt, hx]
   refine W.choose (by simp; rfl) (fun hc => ?_) fun hc => ?_
   · cases hc
   apply W.skip; try simp only [Then, InBlk]
   apply W.regN; simp [hnt, q6, hfr, wr1 (show i < _ by omega)]
   exact ⟨i + 1, by omega, by omega, by rw [hI]; exact ⟨by simp, s, B, by simp [q5], hS3, by rw [htk]; simpa [minusD, List.filter_append, hx] using hB⟩⟩
  simp [hnt, hx]
  refine W.choose (by simp; rfl) (fun hc => ?_) fun hc => ?_
  · obtain ⟨s', m4, B', e4, hS4, hB4⟩ := hS3.appi hB x (by omega)
    have e4' : opAppend (cfg gl ng).toEnv 53 (some 53) s (.slice (some ⟨m3.nb, 0, none⟩) 1 (mkCap 1 true)) (m3.new (.cells (cellsOf [.int .i64 x] 3))) = .value s' m4 := e4
    apply W.regN; simp [hnt, q6, q5, hfr, e1, hS3.kn, e2, bs53, e4']
    apply W.regN; simp [hnt, q6, hfr, wr1 (show i < _ by omega)]
    exact ⟨i + 1, by omega, by omega, by rw [hI]; exact ⟨by simp, s', B', by simp, hS4, by rw [htk]; simpa [minusD, List.filter_append, hx] using hB4⟩⟩
  cases hc
 have hil : i = l.length := by
  have : l.length ≤ i := by simpa using hc
  omega
 apply W.exit; try simp [Then, InBlk]
 repeat apply W.seq
 apply W.regN; simp [hnt, q5]
 rw [hil, List.take_length] at hB
 obtain ⟨σ5, hle5, hS5, hv5⟩ := hS1.donei hB
 apply W.ret
 refine ⟨.inr rfl, rfl, rfl, _, by simp [unwind.results, Tryz.f64]; rfl, _, hS5.learn, ?_⟩
 exact hv5
def ListsK (σ : Kn) (v : Value) (ls : List (List Int)) : Prop := ∃ b o, SliceAt v ls.length b o ∧ ∀ (i : Nat) (l : List Int), ls[i]? = some l → ∃ x, σ b (o + i) = some x ∧ IntsK σ x l
theorem ListsK.mono {σ σ' : Kn} (h : σ.le σ') {v : Value} {ls : List (List Int)} (hv : ListsK σ v ls) : ListsK σ' v ls := by
 obtain ⟨b, o, h1, h2⟩ := hv
 refine ⟨b, o, h1, fun i l hl => ?_⟩
 obtain ⟨x, a1, a2⟩ := h2 i l hl
 exact ⟨x, h _ _ _ a1, a2.mono h⟩
def containsD (set : List Int) (ls : List (List Int)) : Bool := ls.any fun l => decide ((minusD l set).length = 0)
theorem f34_ok {σ : Kn} {m : Mem} {v w : Value} {set : List Int} {ls : List (List Int)} (hw : WF m) (hh : Holds (cfg gl ng).toEnv σ m) (h1 : IntsK σ v set) (h2 : ListsK σ w ls) (hl1 : set.length < 1048576) (hl2 : ls.length < 1048576) (hl3 : ∀ l ∈ ls, l.length < 1048576) :
 Ct gl ng 34 [v, w] σ m (fun _ r => r = .bool (containsD set ls)) := by
 refine Ct.of (c := _) Tryz.func34 rfl 20 rfl (fun c hnt => ?_)
 have hS := S.start hw hh
 obtain ⟨bw, ow, hw1, hw2⟩ := h2
 have hlen : ∀ m', opLen (cfg gl ng) 28 w m' = .value (.int .i64 ls.length) m' := fun m' => K.ly28 hw1
 repeat apply W.seq
 apply W.regN; simp [hnt]
 repeat apply W.seq
 apply W.regN; simp [hnt]
 apply W.block
 obtain ⟨I, hI⟩ : ∃ I : Nat → Tr Value → Mem → Prop, I = fun (i : Nat) (t : Tr Value) (m' : Mem) => t.get 5 = some (.int .i64 i) ∧ (∃ σ', σ.le σ' ∧ S (cfg gl ng).toEnv σ m σ' m' []) ∧ ∀ (j : Nat) (l : List Int), j < i → ls[j]? = some l → (minusD l set).length ≠ 0 := ⟨_, rfl⟩
 refine W.upto (ws := [6, 7, 8, 9, 12, 13, 14, 15, 16, 17, 18, 19, 4, 10, 11, 5]) (by kernel_rfl) (ls.length) I 0 (by omega) (by rw [hI]; exact ⟨by simp, ⟨σ, Kn.le_refl _, hS⟩, fun j l h => absurd h (by omega)⟩) ?_
 intro i t m1 hi hfr hIi
 rw [hI] at hIi
 obtain ⟨q5, ⟨σ1, hle1, hS1⟩, hdone⟩ := hIi
 repeat apply W.seq
 apply W.regN; simp [hnt, q5, hfr, hlen]
 refine W.choose (by simp; rfl) (fun hc => ?_) fun hc => ?_
 ·
  have hil : i < ls.length := by simpa using hc
  apply W.skip; try simp only [Then, InBlk]
  have hgi : ls[i]? = some ls[i] := by simp [hil]
  have hmi : ls[i] ∈ ls := by simp
  obtain ⟨x, a1, a2⟩ := hw2 i ls[i] hgi
  have a1' := hle1 _ _ _ a1
  have hl := hl3 _ hmi
  generalize ls[i] = l at *
  repeat apply W.seq
  apply W.block
  repeat apply W.seq
  apply W.regN; simp [hnt, q5, hfr, K.iy28 hw1 hil, hS1.kn, a1']
  refine Ct.use (f64_ok hS1.wf hS1.holds (a2.mono hle1) (h1.mono hle1) hl hl1) (fun σ3 v3 m3 hl3 hv3 => ?_)
  have hS3 := hS1.learn' hl3
  by_cases hz : minusD l set = []
  ·
   simp [hnt, hv3.len, hz]
   refine W.choose (by simp; rfl) (fun hc => ?_) fun hc => ?_
   ·
    repeat apply W.seq
    apply W.regN; simp [hnt]
    apply W.ret; try simp only [Then, InBlk]
    refine ⟨.inr rfl, rfl, rfl, _, by simp [unwind.results, Tryz.f34]; rfl, _, hS3.learn, ?_⟩
    simp only [retV, Value.bool.injEq, Bool.true_eq]
    unfold containsD
    rw [List.any_eq_true]
    exact ⟨l, hmi, by simp [hz]⟩
   cases hc
  simp [hnt, hv3.len, hz]
  refine W.choose (by simp; rfl) (fun hc => ?_) fun hc => ?_
  · cases hc
  apply W.skip; try simp only [Then, InBlk]
  apply W.regN; simp [hnt, q5, hfr, wr1 (show i < _ by omega)]
  have hz' : (minusD l set).length ≠ 0 := fun h => hz (List.eq_nil_of_length_eq_zero h)
  exact ⟨i + 1, by omega, by omega, by rw [hI]; exact ⟨by simp, ⟨σ3, Kn.le_trans hle1 hl3.le, hS3⟩, fun j y hj hy => by by_cases hji : j = i; exact (by subst hji; rw [hgi] at hy; cases hy; exact hz'); exact hdone j y (by omega) hy⟩⟩
 have hil : i = ls.length := by
  have : ls.length ≤ i := by simpa using hc
  omega
 apply W.exit; try simp [Then, InBlk]
 repeat apply W.seq
 apply W.regN; simp [hnt]
 apply W.ret
 refine ⟨.inr rfl, rfl, rfl, _, by simp [unwind.results, Tryz.f34]; rfl, _, hS1.learn, ?_⟩
 simp only [retV, Value.bool.injEq, Bool.false_eq]
 unfold containsD
 rw [List.any_eq_false]
 intro l hl
 obtain ⟨j, hj⟩ := List.mem_iff_getElem?.1 hl
 have := hdone j l (by have := lt_of_get hj; omega) hj
 simpa using this
def mixGo : List Int → Int → Int
 | [], h => h
 | x :: l, h =>
  let h1 := IntKind.u64.wrap (xorD .u64 h (IntKind.u64.wrap x) * 13787848793156543929)
  mixGo l (xorD .u64 h1 (shrD .u64 h1 29))
def mixedD (salt : Int) (l : List Int) : Int :=
 let h := mixGo l (xorD .u64 salt 11400714819323198485)
 IntKind.u64.wrap (xorD .u64 h (shrD .u64 h 32) * 10723151780598845931)
theorem f33_ok {σ : Kn} {m : Mem} {v : Value} {l : List Int} {salt : Int} (hw : WF m) (hh : Holds (cfg gl ng).toEnv σ m) (h1 : IntsK σ v l) (hl1 : l.length < 1048576) :
 Ct gl ng 33 [.int .u64 salt, v] σ m (fun _ r => r = .int .u64 (mixedD salt l)) := by
 refine Ct.of (c := _) Tryz.func33 rfl 32 rfl (fun c hnt => ?_)
 have hS := S.start hw hh
 repeat apply W.seq
 apply W.regN; simp [hnt]
 repeat apply W.seq
 apply W.regN; simp [hnt]
 repeat apply W.seq
 apply W.regN; simp [hnt]
 apply W.block
 obtain ⟨I, hI⟩ : ∃ I : Nat → Tr Value → Mem → Prop, I = fun (i : Nat) (t : Tr Value) (m' : Mem) => t.get 6 = some (.int .i64 i) ∧ S (cfg gl ng).toEnv σ m σ m' [] ∧ ∃ h : Int, t.get 5 = some (.int .u64 h) ∧ mixGo (l.drop i) h = mixGo l (xorD .u64 salt 11400714819323198485) := ⟨_, rfl⟩
 refine W.upto (ws := [9, 10, 11, 12, 15, 16, 17, 18, 19, 20, 21, 22, 5, 23, 24, 25, 26, 13, 14, 6]) (by kernel_rfl) (l.length) I 0 (by omega) (by rw [hI]; exact ⟨by simp, hS, _, by simp, rfl⟩) ?_
 intro i t m1 hi hfr hIi
 rw [hI] at hIi
 obtain ⟨q6, hS1, h, q5, hmx⟩ := hIi
 repeat apply W.seq
 apply W.regN; simp [hnt, q6, hfr, h1.len]
 refine W.choose (by simp; rfl) (fun hc => ?_) fun hc => ?_
 ·
  have hil : i < l.length := by simpa using hc
  apply W.skip; try simp only [Then, InBlk]
  obtain ⟨b1, o1, e1, e2⟩ := h1.at (gl := gl) (ng := ng) hil
  have hat : at' l i = l[i] := by simp [at', hil]
  rw [hat] at e2
  have hdrop : l.drop i = l[i] :: l.drop (i + 1) := List.drop_eq_getElem_cons hil
  generalize l[i] = x at *
  repeat apply W.seq
  apply W.block
  repeat apply W.seq
  apply W.regN; simp [hnt, q6, q5, hfr, e1, hS1.kn, e2]
  apply W.regN; simp [hnt]
  apply W.regN; simp [hnt, q6, hfr, wr1 (show i < _ by omega)]
  exact ⟨i + 1, by omega, by omega, by rw [hI]; exact ⟨by simp, hS1, _, by simp; rfl, by rw [← hmx, hdrop]; rfl⟩⟩
 have hil : i = l.length := by
  have : l.length ≤ i := by simpa using hc
  omega
 apply W.exit; try simp [Then, InBlk]
 repeat apply W.seq
 apply W.regN; simp [hnt, q5]
 apply W.ret
 refine ⟨.inr rfl, rfl, rfl, _, by simp [unwind.results, Tryz.f33]; rfl, _, hS1.learn, ?_⟩
 rw [hil] at hmx
 simp [mixGo] at hmx
 simp [retV, mixedD, ← hmx]
end Go.Proofs.Lw
namespace Go.Proofs.Lw
open Go Go.Am
set_option maxRecDepth 8000
variable {gl : Nat → Nat → Option Value} {ng : Nat}
structure OracleD where
 need : List (List Int)
 bar : List (List Int)
 salt : Int
 loose : Int
def OrK (σ : Kn) (v : Value) (o : OracleD) : Prop := ∃ nv bv, v = .agg #[nv, bv, .int .u64 o.salt, .int .u8 o.loose] ∧ ListsK σ nv o.need ∧ ListsK σ bv o.bar
structure OrSmall (o : OracleD) : Prop where
 n1 : o.need.length ≤ 8
 b1 : o.bar.length ≤ 8
 n2 : ∀ l ∈ o.need, l.length ≤ 60
 b2 : ∀ l ∈ o.bar, l.length ≤ 60
def hasB (s : ByteArray) (b : Nat) : Bool := decide (∃ (i : Nat) (h : i < s.size), (s.get i h).toNat = b)
def setTo (s : ByteArray) (b : Nat) : List Int := ((List.range b).filter (hasB s)).map fun (n : Nat) => (n : Int)
theorem setTo_len {s : ByteArray} {b : Nat} : (setTo s b).length ≤ b := by
 unfold setTo
 rw [List.length_map]
 exact Nat.le_trans (List.length_filter_le _ _) (by simp)
theorem setTo_succ {s : ByteArray} {b : Nat} : setTo s (b + 1) = if hasB s b then setTo s b ++ [(b : Int)] else setTo s b := by
 unfold setTo
 rw [List.range_succ, List.filter_append, List.map_append]
 by_cases h : hasB s b = true
 · simp [h]
 simp [h]
def sayD (o : OracleD) (s : ByteArray) : Int :=
 let set := setTo s 256
 let h := shrD .u64 (mixedD (IntKind.u64.wrap (o.salt + IntKind.u64.wrap s.size)) set) 20
 if h.tmod 256 < IntKind.u64.wrap o.loose then IntKind.u8.wrap (1 + IntKind.u8.wrap ((IntKind.u64.wrap (h.tdiv 256)).tmod 3))
 else if containsD set o.need && !containsD set o.bar then 2 else 1
theorem f11_ok {σ : Kn} {m : Mem} {v : Value} {o : OracleD} {s : ByteArray} (hw : WF m) (hh : Holds (cfg gl ng).toEnv σ m) (ho : OrK σ v o) (hsm : OrSmall o) (hsz : s.size < 1048576) :
 Ct gl ng 11 [v, .string s] σ m (fun _ r => r = .int .u8 (sayD o s)) := by
 refine Ct.of (c := _) Tryz.func11 rfl 60 rfl (fun c hnt => ?_)
 obtain ⟨nv, bv, rfl, hn, hb⟩ := ho
 have hS := S.start hw hh
 obtain ⟨bn, on, hn1, _⟩ := id hn
 obtain ⟨bb, ob, hb1, _⟩ := id hb
 obtain ⟨m1, nb, hbx, hS1⟩ := hS.box 31 #[nv, bv, .int .u64 o.salt, .int .u8 o.loose] (by simp [hn1.plain, hb1.plain])
 repeat apply W.seq
 apply W.regN; simp [hnt, hbx]
 repeat apply W.seq
 apply W.regN; simp [hnt]
 obtain ⟨L, hL⟩ : ∃ L : List (Nat × Cl), L = [(nb, ⟨[nv, bv, .int .u64 o.salt, .int .u8 o.loose], none⟩)] := ⟨_, rfl⟩
 have hS1' : S (cfg gl ng).toEnv σ m σ m1 (L ++ ([] ++ [])) := by rw [hL]; exact hS1
 have hSc0 : ∀ {σ' m' B}, S (cfg gl ng).toEnv σ m σ' m' (L ++ B) → ∀ o', m'.load (cfg gl ng).toEnv nb o' = [nv, bv, .int .u64 o.salt, .int .u8 o.loose][o']? := fun h o' => h.cell (i := 0) (by rw [hL]; rfl) o'
 obtain ⟨J, hJ⟩ : ∃ J : Tr Value → Mem → Prop, J = fun t m' => ∃ v B, t.get 5 = some v ∧ S (cfg gl ng).toEnv σ m σ m' (L ++ (B ++ [])) ∧ BldV 3 1 v (setTo s 256).length ((setTo s 256).map iv) B := ⟨_, rfl⟩
 refine W.cut (ws := [6, 9, 10, 7, 13, 14, 15, 16, 19, 20, 21, 22, 23, 24, 25, 26, 27, 28, 5, 17, 18, 11, 12, 6]) (by kernel_rfl) J ?_ (fun t1 m2 hfr1 hJ1 => ?_)
 ·
  repeat apply W.seq
  apply W.regN; simp [hnt]
  apply W.block
  obtain ⟨I, hI⟩ : ∃ I : Nat → Tr Value → Mem → Prop, I = fun (b : Nat) (t : Tr Value) (m' : Mem) => t.get 6 = some (.int .i64 b) ∧ ∃ v B, t.get 5 = some v ∧ S (cfg gl ng).toEnv σ m σ m' (L ++ (B ++ [])) ∧ BldV 3 1 v (setTo s b).length ((setTo s b).map iv) B := ⟨_, rfl⟩
  refine W.upto (ws := [9, 10, 7, 13, 14, 15, 16, 19, 20, 21, 22, 23, 24, 25, 26, 27, 28, 5, 17, 18, 11, 12, 6]) (by kernel_rfl) (256) I 0 (by omega) (by rw [hI]; exact ⟨by simp, .slice none 0 0, [], by simp, hS1', by simpa [setTo] using BldV.nil⟩) ?_
  intro b t m3 hb' hfr hIi
  rw [hI] at hIi
  obtain ⟨q6, v, B, q5, hS3, hB⟩ := hIi
  have hle := setTo_len (s := s) (b := b)
  by_cases hbl : b < 256
  ·
   have c1 : (b : Int) < 256 := by omega
   repeat apply W.seq
   apply W.regN; simp [hnt, q6, c1]
   refine W.choose (by simp; rfl) (fun hc => ?_) fun hc => ?_
   ·
    apply W.skip; try simp only [Then, InBlk]
    obtain ⟨J2, hJ2⟩ : ∃ J : Tr Value → Mem → Prop, J = fun t m' => ∃ v B, t.get 5 = some v ∧ S (cfg gl ng).toEnv σ m σ m' (L ++ (B ++ [])) ∧ BldV 3 1 v (setTo s (b + 1)).length ((setTo s (b + 1)).map iv) B := ⟨_, rfl⟩
    refine W.cut (ws := [7, 13, 14, 15, 16, 19, 20, 21, 22, 23, 24, 25, 26, 27, 28, 5, 17, 18, 7]) (by kernel_rfl) J2 ?_ (fun t2 m4 hfr2 hJ2' => ?_)
    ·
     apply W.block
     repeat apply W.seq
     apply W.regN; simp [hnt]
     apply W.block
     obtain ⟨I2, hI2⟩ : ∃ I2 : Nat → Tr Value → Mem → Prop, I2 = fun (i : Nat) (t : Tr Value) (m' : Mem) => t.get 7 = some (.int .i64 i) ∧ S (cfg gl ng).toEnv σ m σ m' (L ++ (B ++ [])) ∧ t.get 5 = some v ∧ ∀ (j : Nat) (h : j < s.size), j < i → (s.get j h).toNat ≠ b := ⟨_, rfl⟩
     refine W.upto (ws := [13, 14, 15, 16, 19, 20, 21, 22, 23, 24, 25, 26, 27, 28, 5, 17, 18, 7]) (by kernel_rfl) (s.size) I2 0 (by omega) (by rw [hI2]; exact ⟨by simp, hS3, by simp [q5], fun j h h' => absurd h' (by omega)⟩) ?_
     intro i t3 m5 hi hfr3 hIi
     rw [hI2] at hIi
     obtain ⟨q7, hS5, q5', hno⟩ := hIi
     repeat apply W.seq
     apply W.regN; simp [hnt, q7, hfr3, hfr]
     refine W.choose (by simp; rfl) (fun hc => ?_) fun hc => ?_
     ·
      have hil : i < s.size := by simpa using hc
      apply W.skip; try simp only [Then, InBlk]
      repeat apply W.seq
      apply W.block
      have hlt := UInt8.toNat_lt (s.get i hil)
      have hwr : IntKind.i64.wrap ((s.get i hil).toNat : Int) = (s.get i hil).toNat := wrap_i64 (by omega) (by omega)
      by_cases hx : (s.get i hil).toNat = b
      ·
       have hx' : ((s.get i hil).toNat : Int) = b := by omega
       have hwr2 : IntKind.i64.wrap ((s.get i hil).toNat : Int) = (b : Int) := hwr.trans hx'
       repeat apply W.seq
       apply W.regN; simp [hnt, q7, hfr3, hfr, q6, ixs9 hil, hwr2]
       refine W.choose (by simp; rfl) (fun hc => ?_) fun hc => ?_
       · obtain ⟨s', m6, B', e6, hS6, hB6⟩ := hS5.appi hB (b : Int) (by omega)
         have e6' : opAppend (cfg gl ng).toEnv 53 (some 53) v (.slice (some ⟨m5.nb, 0, none⟩) 1 (mkCap 1 true)) (m5.new (.cells (cellsOf [.int .i64 b] 3))) = .value s' m6 := e6
         repeat apply W.seq
         apply W.regN; simp [hnt, q5', hfr3, hfr, q6, bs53, e6']
         apply W.exit; try simp [Then, InBlk]
         rw [hJ2]
         have hh : hasB s b = true := by unfold hasB; simp; exact ⟨i, hil, hx⟩
         refine ⟨s', B', by simp, hS6, ?_⟩
         rw [setTo_succ, if_pos hh]; exact hB6
       cases hc
      have hx' : ¬ ((s.get i hil).toNat : Int) = b := by omega
      repeat apply W.seq
      apply W.regN; simp [hnt, q7, hfr3, hfr, q6, ixs9 hil, hwr, hx']
      refine W.choose (by simp; rfl) (fun hc => ?_) fun hc => ?_
      · cases hc
      apply W.skip; try simp only [Then, InBlk]
      apply W.regN; simp [hnt, q7, hfr3, wr1 (show i < _ by omega)]
      exact ⟨i + 1, by omega, by omega, by rw [hI2]; exact ⟨by simp, hS5, by simp [q5'], fun j h hj => by by_cases hji : j = i; exact (by subst hji; exact hx); exact hno j h (by omega)⟩⟩
     have hil : i = s.size := by
      have : s.size ≤ i := by simpa using hc
      omega
     apply W.exit; try simp [Then, InBlk]
     rw [hJ2]
     have hh : ¬ hasB s b = true := by
      unfold hasB; simp
      intro j hj
      exact hno j hj (by omega)
     refine ⟨v, B, by simp [q5'], hS5, ?_⟩
     rw [setTo_succ, if_neg hh]; exact hB
    rw [hJ2] at hJ2'
    obtain ⟨v', B', p5, hS4, hB4⟩ := hJ2'
    apply W.regN; simp [hnt, q6, hfr2, wr1 (show b < _ by omega)]
    exact ⟨b + 1, by omega, by omega, by rw [hI]; exact ⟨by simp, v', B', by simp [p5], hS4, hB4⟩⟩
   cases hc
  have c1 : ¬ (b : Int) < 256 := by omega
  have hbe : b = 256 := by omega
  subst hbe
  repeat apply W.seq
  apply W.regN; simp [hnt, q6]
  refine W.choose (by simp; rfl) (fun hc => ?_) fun hc => ?_
  · cases hc
  apply W.exit; try simp [Then, InBlk]
  rw [hJ]
  exact ⟨v, B, by simp [q5], hS3, hB⟩
 rw [hJ] at hJ1
 obtain ⟨w, B, p5, hS2, hB⟩ := hJ1
 obtain ⟨σ3, hle3, hS3, hv3⟩ := hS2.donei hB
 have hsl := setTo_len (s := s) (b := 256)
 have hS3' : S (cfg gl ng).toEnv σ m σ3 m2 (L ++ []) := by simpa using hS3
 repeat apply W.seq
 apply W.regN; simp [hnt, hSc0 hS3', p5, hfr1]
 refine Ct.use (f33_ok hS3.wf hS3.holds hv3 (by omega)) (fun σ4 v4 m4 hl4 hv4 => ?_)
 subst hv4
 have hS4 := hS3'.learn' hl4
 simp [hnt]
 obtain ⟨h, hh⟩ : ∃ h : Int, h = shrD .u64 (mixedD (IntKind.u64.wrap (o.salt + IntKind.u64.wrap s.size)) (setTo s 256)) 20 := ⟨_, rfl⟩
 rw [← hh]
 by_cases c1 : h.tmod 256 < IntKind.u64.wrap o.loose
 ·
  repeat apply W.seq
  apply W.regN; simp [hnt, hSc0 hS4, hfr1, c1]
  refine W.choose (by simp; rfl) (fun hc => ?_) fun hc => ?_
  · repeat apply W.seq
    apply W.regN; simp [hnt]
    apply W.ret; try simp only [Then, InBlk]
    refine ⟨.inr rfl, rfl, rfl, _, by simp [unwind.results, Tryz.f11]; rfl, _, hS4.learn, ?_⟩
    simp only [retV, sayD, ← hh, if_pos c1]
  cases hc
 repeat apply W.seq
 apply W.regN; simp [hnt, hSc0 hS4, hfr1, c1]
 refine W.choose (by simp; rfl) (fun hc => ?_) fun hc => ?_
 · cases hc
 apply W.skip; try simp only [Then, InBlk]
 repeat apply W.seq
 apply W.regN; simp [hnt, hSc0 hS4, hfr1, p5]
 refine Ct.use (f34_ok hS4.wf hS4.holds (hv3.mono hl4.le) (hn.mono (Kn.le_trans hle3 hl4.le)) (by omega) (by have := hsm.n1; omega) (fun l hl => by have := hsm.n2 l hl; omega)) (fun σ5 v5 m5 hl5 hv5 => ?_)
 subst hv5
 have hS5 := hS4.learn' hl5
 cases hc1 : containsD (setTo s 256) o.need with
 | false =>
  simp [hnt]
  refine W.choose (by simp; rfl) (fun hc => ?_) fun hc => ?_
  · cases hc
  apply W.skip; try simp only [Then, InBlk]
  repeat apply W.seq
  apply W.regN; simp [hnt]
  apply W.ret
  refine ⟨.inr rfl, rfl, rfl, _, by simp [unwind.results, Tryz.f11]; rfl, _, hS5.learn, ?_⟩
  simp [retV, sayD, ← hh, if_neg c1, hc1]
 | true =>
  simp [hnt, hSc0 hS5, hfr1, p5]
  refine Ct.use (f34_ok hS5.wf hS5.holds (hv3.mono (Kn.le_trans hl4.le hl5.le)) (hb.mono (Kn.le_trans (Kn.le_trans hle3 hl4.le) hl5.le)) (by omega) (by have := hsm.b1; omega) (fun l hl => by have := hsm.b2 l hl; omega)) (fun σ6 v6 m6 hl6 hv6 => ?_)
  subst hv6
  have hS6 := hS5.learn' hl6
  cases hc2 : containsD (setTo s 256) o.bar with
  | false =>
   simp [hnt]
   refine W.choose (by simp; rfl) (fun hc => ?_) fun hc => ?_
   · repeat apply W.seq
     apply W.regN; simp [hnt]
     apply W.ret; try simp only [Then, InBlk]
     refine ⟨.inr rfl, rfl, rfl, _, by simp [unwind.results, Tryz.f11]; rfl, _, hS6.learn, ?_⟩
     simp [retV, sayD, ← hh, if_neg c1, hc1, hc2]
   cases hc
  | true =>
   simp [hnt]
   refine W.choose (by simp; rfl) (fun hc => ?_) fun hc => ?_
   · cases hc
   apply W.skip; try simp only [Then, InBlk]
   repeat apply W.seq
   apply W.regN; simp [hnt]
   apply W.ret
   refine ⟨.inr rfl, rfl, rfl, _, by simp [unwind.results, Tryz.f11]; rfl, _, hS6.learn, ?_⟩
   simp [retV, sayD, ← hh, if_neg c1, hc1, hc2]
end Go.Proofs.Lw
namespace Go.Proofs.Lw
open Go Go.Am
set_option maxRecDepth 8000
variable {gl : Nat → Nat → Option Value} {ng : Nat}
theorem bs57 {m : Mem} {v w : Value} (hv : plainV v = true) (hw : plainV w = true) : opBuildSlice (cfg gl ng).toEnv 57 2 [(0, v), (1, w)] m = .value (.slice (some ⟨m.nb, 0, none⟩) 2 (mkCap 2 true)) (m.new (.cells (cellsOf [v, w] 28))) := by
 have hu : und (cfg gl ng).toEnv 57 = some (.slice 28) := by kernel_rfl
 have hi : ((cfg gl ng).toEnv.P.info? 28).isSome = true := by kernel_rfl
 have hs : szOf (cfg gl ng).toEnv 28 = 1 := by kernel_rfl
 have hz : zeroOf (cfg gl ng).toEnv 28 = some (.slice none 0 0) := by kernel_rfl
 unfold opBuildSlice
 simp only [hu, plain_defd hv, plain_defd hw, List.all_cons, List.all_nil, Bool.and_self, hi, hs, Bool.true_and]
 rw [if_pos (by decide), if_neg (by decide)]
 simp only [hz]
 have e : Instr.fill (fun i => some (i * 1, 1)) ((Array.range (2 * 1)).map fun j => (Value.slice none 0 0).cells[j % (Value.slice none 0 0).cells.size]!) [(0, v), (1, w)] = some #[v, w] := by
  rw [fill_eq]
  simp only [List.map_cons, List.map_nil, plain_cells hv, plain_cells hw]
  kernel_rfl
 rw [e]
 simp [Mem.newCells, hv, hw]
def lenSum : List (List Int) → Int
 | [] => 0
 | l :: r => min (l.length : Int) 100 + lenSum r
theorem lenSum_nonneg : ∀ (ls : List (List Int)), 0 ≤ lenSum ls
 | [] => by simp [lenSum]
 | l :: r => by have := lenSum_nonneg r; simp only [lenSum]; omega
theorem lenSum_mem : ∀ {ls : List (List Int)} {l : List Int}, l ∈ ls → min (l.length : Int) 100 ≤ lenSum ls
 | [], l, h => by simp at h
 | x :: r, l, h => by
  have := lenSum_nonneg r
  simp only [lenSum]
  rcases List.mem_cons.1 h with rfl | h
  · omega
  have := lenSum_mem h; omega
theorem lenSum_le : ∀ (ls : List (List Int)), lenSum ls ≤ 100 * ls.length
 | [] => by simp [lenSum]
 | l :: r => by have := lenSum_le r; simp only [lenSum, List.length_cons]; omega
theorem lenSum_snoc : ∀ (ls : List (List Int)) (l : List Int), lenSum (ls ++ [l]) = lenSum ls + min (l.length : Int) 100
 | [], l => by simp [lenSum]
 | x :: r, l => by have := lenSum_snoc r l; simp only [List.cons_append, lenSum]; omega
def FalseSays (P : Prop) (r : Value) : Prop := ∃ b, r = .bool b ∧ (b = false → P)
theorem f5_ok {σ : Kn} {m : Mem} {v : Value} {o : OracleD} (hw : WF m) (hh : Holds (cfg gl ng).toEnv σ m) (ho : OrK σ v o) :
 Ct gl ng 5 [v] σ m (fun _ r => FalseSays (OrSmall o) r) := by
 refine Ct.of (c := _) Tryz.func5 rfl 37 rfl (fun c hnt => ?_)
 obtain ⟨nv, bv, rfl, hn, hb⟩ := ho
 have hS := S.start hw hh
 obtain ⟨bn, on, hn1, _⟩ := id hn
 obtain ⟨bb, ob, hb1, _⟩ := id hb
 obtain ⟨m1, nb, hbx, hS1⟩ := hS.box 31 #[nv, bv, .int .u64 o.salt, .int .u8 o.loose] (by simp [hn1.plain, hb1.plain])
 repeat apply W.seq
 apply W.regN; simp [hnt, hbx]
 repeat apply W.seq
 apply W.regN; simp [hnt]
 have hS2 := hS1.new (vs := [nv, bv]) 28 (by simp [hn1.plain, hb1.plain])
 repeat apply W.seq
 apply W.regN; simp [hnt, hS1.c0, bs57 hn1.plain hb1.plain]
 generalize m1.new (.cells (cellsOf [nv, bv] 28)) = m2 at *
 generalize m1.nb = nb2 at *
 obtain ⟨L, hL⟩ : ∃ L : List (Nat × Cl), L = [(nb2, ⟨[nv, bv], none⟩), (nb, ⟨[nv, bv, .int .u64 o.salt, .int .u8 o.loose], none⟩)] := ⟨_, rfl⟩
 have hSc0 : ∀ {σ' m'}, S (cfg gl ng).toEnv σ m σ' m' L → ∀ o', m'.load (cfg gl ng).toEnv nb2 o' = [nv, bv][o']? := fun h o' => h.cell (i := 0) (by rw [hL]; rfl) o'
 have hS2' : S (cfg gl ng).toEnv σ m σ m2 L := by rw [hL]; exact hS2
 obtain ⟨doneL, hdl⟩ : ∃ f : Nat → List (List Int), f = fun k => if k = 0 then [] else if k = 1 then o.need else o.need ++ o.bar := ⟨_, rfl⟩
 apply W.block
 obtain ⟨I, hI⟩ : ∃ I : Nat → Tr Value → Mem → Prop, I = fun (k : Nat) (t : Tr Value) (m' : Mem) => t.get 13 = some (.int .i64 k) ∧ S (cfg gl ng).toEnv σ m σ m' L ∧ t.get 3 = some (.int .i64 (lenSum (doneL k))) ∧ (1 ≤ k → o.need.length ≤ 8) ∧ (2 ≤ k → o.bar.length ≤ 8) := ⟨_, rfl⟩
 refine W.upto (ws := [14, 15, 16, 5, 17, 18, 19, 2, 6, 20, 21, 22, 23, 26, 27, 28, 29, 30, 31, 32, 33, 3, 24, 25, 34, 13]) (by kernel_rfl) (2) I 0 (by omega) (by rw [hI]; exact ⟨by simp, hS2', by simp [hdl, lenSum], fun h => absurd h (by omega), fun h => absurd h (by omega)⟩) ?_
 intro k t m3 hk hfr hIi
 rw [hI] at hIi
 obtain ⟨q13, hS3, q3, hk1, hk2⟩ := hIi
 by_cases hkl : k < 2
 ·
  have c1 : (k : Int) < 2 := by omega
  repeat apply W.seq
  apply W.regN; simp [hnt, q13, hfr, c1]
  repeat apply W.seq
  refine W.choose (by simp; rfl) (fun hc => ?_) fun hc => ?_
  ·
   apply W.skip; try simp only [Then, InBlk]
   obtain ⟨x, ls, hx, hls, hkd, hset⟩ : ∃ x ls, [nv, bv][k]? = some x ∧ ListsK σ x ls ∧ doneL (k + 1) = doneL k ++ ls ∧ (ls.length ≤ 8 → (1 ≤ k + 1 → o.need.length ≤ 8) ∧ (2 ≤ k + 1 → o.bar.length ≤ 8)) := by
    have : k = 0 ∨ k = 1 := by omega
    rcases this with rfl | rfl
    · exact ⟨nv, o.need, rfl, hn, by simp [hdl], fun h => ⟨fun _ => h, fun h' => absurd h' (by omega)⟩⟩
    exact ⟨bv, o.bar, rfl, hb, by simp [hdl], fun h => ⟨fun _ => hk1 (by omega), fun _ => h⟩⟩
   obtain ⟨bx, ox, hx1, hx2⟩ := hls
   have hxlen : ∀ m', opLen (cfg gl ng) 28 x m' = .value (.int .i64 ls.length) m' := fun m' => K.ly28 hx1
   have hix : ∀ m', opIndexAddr (cfg gl ng).toEnv 57 (.slice (some ⟨nb2, 0, none⟩) 2 (mkCap 2 true)) (.int .i64 k) m' = .value (.pointer (some ⟨nb2, k, none⟩)) m' := fun m' => by rw [K.ix57 hkl, Nat.zero_add]
   repeat apply W.seq
   apply W.block
   repeat apply W.seq
   apply W.regN; simp [hnt, q13, hfr, hix, hSc0 hS3, hx]
   by_cases c2 : (8 : Int) < ls.length
   ·
    repeat apply W.seq
    apply W.regN; simp [hnt, hxlen, c2]
    refine W.choose (by simp; rfl) (fun hc => ?_) fun hc => ?_
    · repeat apply W.seq
      apply W.regN; simp [hnt]
      apply W.ret; try simp only [Then, InBlk]
      refine ⟨.inr rfl, rfl, rfl, _, by simp [unwind.results, Tryz.f5]; rfl, _, hS3.learn, ?_⟩
      exact ⟨true, rfl, fun h => by cases h⟩
    cases hc
   repeat apply W.seq
   apply W.regN; simp [hnt, hxlen, c2]
   refine W.choose (by simp; rfl) (fun hc => ?_) fun hc => ?_
   · cases hc
   apply W.skip; try simp only [Then, InBlk]
   repeat apply W.seq
   apply W.regN; simp [hnt]
   apply W.block
   obtain ⟨I2, hI2⟩ : ∃ I2 : Nat → Tr Value → Mem → Prop, I2 = fun (i : Nat) (t : Tr Value) (m' : Mem) => t.get 6 = some (.int .i64 i) ∧ S (cfg gl ng).toEnv σ m σ m' L ∧ t.get 3 = some (.int .i64 (lenSum (doneL k ++ ls.take i))) := ⟨_, rfl⟩
   refine W.upto (ws := [20, 21, 22, 23, 26, 27, 28, 29, 30, 31, 32, 33, 3, 24, 25, 6]) (by kernel_rfl) (ls.length) I2 0 (by omega) (by rw [hI2]; exact ⟨by simp, hS3, by simp [q3]⟩) ?_
   intro i t2 m4 hi hfr2 hIi
   rw [hI2] at hIi
   obtain ⟨q6, hS4, q3'⟩ := hIi
   repeat apply W.seq
   apply W.regN; simp [hnt, q6, hfr2, hxlen]
   refine W.choose (by simp; rfl) (fun hc => ?_) fun hc => ?_
   ·
    have hil : i < ls.length := by simpa using hc
    apply W.skip; try simp only [Then, InBlk]
    obtain ⟨y, a1, a2⟩ := hx2 i ls[i] (by simp [hil])
    have htk : ls.take (i + 1) = ls.take i ++ [ls[i]] := by simp [hil]
    have hle := lenSum_le (doneL k ++ ls.take i)
    have hnn := lenSum_nonneg (doneL k ++ ls.take i)
    have hdk : (doneL k).length ≤ 8 := by
     have : k = 0 ∨ k = 1 := by omega
     rcases this with rfl | rfl
     · simp [hdl]
     simp [hdl]; exact hk1 (by omega)
    have hlk : ((doneL k ++ ls.take i).length : Int) ≤ 16 := by simp; omega
    generalize ls[i] = l at *
    repeat apply W.seq
    apply W.block
    apply W.regN; simp [hnt, q6, q3', hfr2, K.iy28 hx1 hil, hS4.kn, a1, a2.len]
    rw [wrap_i64 (n := lenSum (doneL k ++ ls.take i) + min (l.length : Int) 100) (by omega) (by omega)]
    apply W.regN; simp [hnt, q6, wr1 (show i < _ by omega)]
    exact ⟨i + 1, by omega, by omega, by rw [hI2]; exact ⟨by simp, hS4, by rw [htk, ← List.append_assoc, lenSum_snoc]; simp⟩⟩
   have hil : i = ls.length := by
    have : ls.length ≤ i := by simpa using hc
    omega
   apply W.exit; try simp [Then, InBlk]
   rw [hil, List.take_length, ← hkd] at q3'
   apply W.regN; simp [hnt, q13, hfr2, wr1 (show k < _ by omega)]
   obtain ⟨g1, g2⟩ := hset (by omega)
   exact ⟨k + 1, by omega, by omega, by rw [hI]; exact ⟨by simp, hS4, by simp [q3'], g1, g2⟩⟩
  cases hc
 have hke : k = 2 := by omega
 subst hke
 repeat apply W.seq
 apply W.regN; simp [hnt, q13, hfr]
 repeat apply W.seq
 refine W.choose (by simp; rfl) (fun hc => ?_) fun hc => ?_
 · cases hc
 apply W.exit; try simp [Then, InBlk]
 repeat apply W.seq
 apply W.regN; simp [hnt, q3]
 apply W.ret
 refine ⟨.inr rfl, rfl, rfl, _, by simp [unwind.results, Tryz.f5]; rfl, _, hS3.learn, ?_⟩
 refine ⟨_, rfl, fun h => ?_⟩
 have hs : ¬ (60 : Int) < lenSum (doneL 2) := by simpa using h
 have hd2 : doneL 2 = o.need ++ o.bar := by simp [hdl]
 refine ⟨hk1 (by omega), hk2 (by omega), fun l hl => ?_, fun l hl => ?_⟩
 · have := lenSum_mem (ls := doneL 2) (l := l) (by rw [hd2]; simp [hl]); omega
 have := lenSum_mem (ls := doneL 2) (l := l) (by rw [hd2]; simp [hl]); omega
structure NotHuge (g : List RuleD) (t : T) : Prop where
 g1 : g.length ≤ 40
 g2 : ∀ r ∈ g, r.slots.length ≤ 12
 t1 : 0 ≤ deepT t 30
theorem f4_ok {σ : Kn} {m : Mem} {rv tv : Value} {g : List RuleD} {t : T} (hw : WF m) (hh : Holds (cfg gl ng).toEnv σ m) (hg : RulesV σ rv g) (ht : TreeK σ tv t) :
 Ct gl ng 4 [.agg #[rv], tv] σ m (fun _ r => FalseSays (NotHuge g t) r) := by
 refine Ct.of (c := _) Tryz.func4 rfl 74 rfl (fun c hnt => ?_)
 obtain ⟨bg, og, hg1, hg2⟩ := hg
 have hS := S.start hw hh
 obtain ⟨m1, nb2, hbx1, hS1⟩ := hS.box 24 #[rv] (by simp [hg1.plain])
 have ht0 := ht
 obtain ⟨x, y, z, rfl, px, py, pz⟩ := ht.agg
 obtain ⟨m2, nb3, hbx2, hS2⟩ := hS1.box 27 #[x, y, z] (by simp [px, py, pz])
 have hlen : ∀ m', opLen (cfg gl ng) 22 rv m' = .value (.int .i64 g.length) m' := fun m' => K.ly22 hg1
 have bad : FalseSays (NotHuge g t) (.bool true) := ⟨true, rfl, fun h => by cases h⟩
 repeat apply W.seq
 apply W.regN; simp [hnt, hbx1, hbx2]
 by_cases c1 : (40 : Int) < g.length
 ·
  repeat apply W.seq
  apply W.regN; simp [hnt, hS2.c1, hlen, c1]
  refine W.choose (by simp; rfl) (fun hc => ?_) fun hc => ?_
  · repeat apply W.seq
    apply W.regN; simp [hnt]
    apply W.ret; try simp only [Then, InBlk]
    refine ⟨.inr rfl, rfl, rfl, _, by simp [unwind.results, Tryz.f4]; rfl, _, hS2.learn, ?_⟩
    exact bad
  cases hc
 repeat apply W.seq
 apply W.regN; simp [hnt, hS2.c1, hlen, c1]
 refine W.choose (by simp; rfl) (fun hc => ?_) fun hc => ?_
 · cases hc
 apply W.skip; try simp only [Then, InBlk]
 repeat apply W.seq
 apply W.regN; simp [hnt]
 repeat apply W.seq
 apply W.regN; simp [hnt]
 apply W.block
 obtain ⟨I, hI⟩ : ∃ I : Nat → Tr Value → Mem → Prop, I = fun (i : Nat) (t : Tr Value) (m' : Mem) => t.get 6 = some (.int .i64 i) ∧ S (cfg gl ng).toEnv σ m σ m' [(nb3, ⟨[x, y, z], none⟩), (nb2, ⟨[rv], none⟩)] ∧ (∃ n : Int, t.get 5 = some (.int .i64 n) ∧ 0 ≤ n ∧ n ≤ 2000 * i) ∧ ∀ (j : Nat) (r : RuleD), j < i → g[j]? = some r → r.slots.length ≤ 12 := ⟨_, rfl⟩
 refine W.upto (ws := [13, 14, 15, 16, 17, 20, 21, 22, 23, 24, 7, 25, 26, 27, 28, 29, 30, 31, 32, 33, 34, 35, 36, 37, 38, 39, 40, 4, 8, 41, 42, 43, 44, 45, 48, 49, 50, 51, 52, 53, 54, 55, 56, 57, 58, 5, 59, 60, 61, 62, 63, 64, 65, 66, 46, 47, 18, 19, 6]) (by kernel_rfl) (g.length) I 0 (by omega) (by rw [hI]; exact ⟨by simp, hS2, ⟨0, by simp, by omega, by omega⟩, fun j r h => absurd h (by omega)⟩) ?_
 intro i t1 m3 hi hfr hIi
 rw [hI] at hIi
 obtain ⟨q6, hS3, ⟨n, q5, hn0, hn1⟩, hdone⟩ := hIi
 repeat apply W.seq
 apply W.regN; simp [hnt, q6, hfr, hS3.c1, hlen]
 refine W.choose (by simp; rfl) (fun hc => ?_) fun hc => ?_
 ·
  have hil : i < g.length := by simpa using hc
  apply W.skip; try simp only [Then, InBlk]
  have hgi : g[i]? = some g[i] := by simp [hil]
  obtain ⟨sv, u1, u2, u3, u4, bs, os, hs1, hs2⟩ := hg2 i g[i] hgi
  generalize g[i] = r at *
  have hslen : ∀ m', opLen (cfg gl ng) 49 sv m' = .value (.int .i64 r.slots.length) m' := fun m' => K.ly49 hs1
  obtain ⟨m4, e4, hS4⟩ := hS3.var 51 [.string .empty, .string .empty, .bool false, .slice none 0 0] [.string r.before, .string r.after, .bool r.leaf, sv] (by simp) (by simp [hs1.plain]) rfl
  repeat apply W.seq
  apply W.block
  repeat apply W.seq
  apply W.regN; simp [hnt, q6, hfr, hS3.c1, hS3.kn, K.iy22 hg1 hil, u1, u2, u3, u4, e4]
  generalize m3.nb = nb7 at *
  by_cases d1 : (12 : Int) < r.slots.length
  ·
   repeat apply W.seq
   apply W.regN; simp [hnt, hS4.c0, hslen, d1]
   refine W.choose (by simp; rfl) (fun hc => ?_) fun hc => ?_
   · repeat apply W.seq
     apply W.regN; simp [hnt]
     apply W.ret; try simp only [Then, InBlk]
     refine ⟨.inr rfl, rfl, rfl, _, by simp [unwind.results, Tryz.f4]; rfl, _, hS4.learn, ?_⟩
     exact bad
   cases hc
  by_cases d2 : (40 : Int) < r.before.size
  ·
   repeat apply W.seq
   apply W.regN; simp [hnt, hS4.c0, hslen, d1, d2]
   refine W.choose (by simp; rfl) (fun hc => ?_) fun hc => ?_
   · repeat apply W.seq
     apply W.regN; simp [hnt]
     apply W.ret; try simp only [Then, InBlk]
     refine ⟨.inr rfl, rfl, rfl, _, by simp [unwind.results, Tryz.f4]; rfl, _, hS4.learn, ?_⟩
     exact bad
   cases hc
  by_cases d3 : (40 : Int) < r.after.size
  ·
   repeat apply W.seq
   apply W.regN; simp [hnt, hS4.c0, hslen, d1, d2, d3]
   refine W.choose (by simp; rfl) (fun hc => ?_) fun hc => ?_
   · repeat apply W.seq
     apply W.regN; simp [hnt]
     apply W.ret; try simp only [Then, InBlk]
     refine ⟨.inr rfl, rfl, rfl, _, by simp [unwind.results, Tryz.f4]; rfl, _, hS4.learn, ?_⟩
     exact bad
   cases hc
  repeat apply W.seq
  apply W.regN; simp [hnt, hS4.c0, hslen, d1, d2, d3]
  refine W.choose (by simp; rfl) (fun hc => ?_) fun hc => ?_
  · cases hc
  apply W.skip; try simp only [Then, InBlk]
  repeat apply W.seq
  apply W.regN; simp [hnt]
  apply W.block
  obtain ⟨I2, hI2⟩ : ∃ I2 : Nat → Tr Value → Mem → Prop, I2 = fun (k : Nat) (t : Tr Value) (m' : Mem) => t.get 8 = some (.int .i64 k) ∧ S (cfg gl ng).toEnv σ m σ m' [(nb7, ⟨[.string r.before, .string r.after, .bool r.leaf, sv], none⟩), (nb3, ⟨[x, y, z], none⟩), (nb2, ⟨[rv], none⟩)] ∧ ∃ n' : Int, t.get 5 = some (.int .i64 n') ∧ 0 ≤ n' ∧ n' ≤ n + 101 * k := ⟨_, rfl⟩
  refine W.upto (ws := [41, 42, 43, 44, 45, 48, 49, 50, 51, 52, 53, 54, 55, 56, 57, 58, 5, 59, 60, 61, 62, 63, 64, 65, 66, 4, 46, 47, 8]) (by kernel_rfl) (r.slots.length) I2 0 (by omega) (by rw [hI2]; exact ⟨by simp, hS4, n, by simp [q5], hn0, by omega⟩) ?_
  intro k t2 m5 hk hfr2 hIi
  rw [hI2] at hIi
  obtain ⟨q8, hS5, n', q5', hn0', hn1'⟩ := hIi
  repeat apply W.seq
  apply W.regN; simp [hnt, q8, hfr2, hS5.c0, hslen]
  refine W.choose (by simp; rfl) (fun hc => ?_) fun hc => ?_
  ·
   have hkl : k < r.slots.length := by simpa using hc
   apply W.skip; try simp only [Then, InBlk]
   obtain ⟨kv, v1, v2, v3, v4⟩ := hs2 k r.slots[k] (by simp [hkl])
   generalize r.slots[k] = sl at *
   repeat apply W.seq
   apply W.block
   repeat apply W.seq
   apply W.regN; simp [hnt, q8, q5', hfr2, hS5.c0, hS5.kn, K.iy49 hs1 hkl, v2, v4.len]
   rw [wrap_i64 (n := n' + 1) (by omega) (by omega), wrap_i64 (n := n' + 1 + min (sl.kinds.length : Int) 100) (by omega) (by omega)]
   by_cases d4 : (40 : Int) < sl.between.size
   ·
    repeat apply W.seq
    apply W.regN; simp [hnt, q8, hfr2, hS5.c0, hS5.kn, K.iy49 hs1 hkl, v3, d4]
    refine W.choose (by simp; rfl) (fun hc => ?_) fun hc => ?_
    · repeat apply W.seq
      apply W.regN; simp [hnt]
      apply W.ret; try simp only [Then, InBlk]
      refine ⟨.inr rfl, rfl, rfl, _, by simp [unwind.results, Tryz.f4]; rfl, _, hS5.learn, ?_⟩
      exact bad
    cases hc
   repeat apply W.seq
   apply W.regN; simp [hnt, q8, hfr2, hS5.c0, hS5.kn, K.iy49 hs1 hkl, v3, d4]
   refine W.choose (by simp; rfl) (fun hc => ?_) fun hc => ?_
   · cases hc
   apply W.skip; try simp only [Then, InBlk]
   apply W.regN; simp [hnt, q8, hfr2, wr1 (show k < _ by omega)]
   exact ⟨k + 1, by omega, by omega, by rw [hI2]; exact ⟨by simp, hS5, _, by simp; rfl, by omega, by omega⟩⟩
  apply W.exit; try simp [Then, InBlk]
  apply W.regN; simp [hnt, q6, hfr2, wr1 (show i < _ by omega)]
  have hok : r.slots.length ≤ 12 := by omega
  exact ⟨i + 1, by omega, by omega, by rw [hI]; exact ⟨by simp, hS5.drop (List.sublist_cons_self _ _), ⟨n', by simp [q5'], hn0', by omega⟩, fun j r' hj hr' => by by_cases hji : j = i; exact (by subst hji; rw [hgi] at hr'; cases hr'; exact hok); exact hdone j r' (by omega) hr'⟩⟩
 apply W.exit; try simp [Then, InBlk]
 have hie : g.length ≤ i := by simpa using hc
 by_cases d5 : 200 < n
 ·
  repeat apply W.seq
  apply W.regN; simp [hnt, q5, d5]
  apply W.ret
  refine ⟨.inr rfl, rfl, rfl, _, by simp [unwind.results, Tryz.f4]; rfl, _, hS3.learn, ?_⟩
  exact bad
 repeat apply W.seq
 apply W.regN; simp [hnt, q5, d5, hfr, hS3.c0]
 refine Ct.use (f13_ok 30 t 30 σ m3 _ rfl (by omega) hS3.wf hS3.holds ht0) (fun σ4 v4 m4 hl4 hv4 => ?_)
 subst hv4
 have hS4 := hS3.grow hl4.grow
 simp [hnt]
 apply W.ret
 refine ⟨.inr rfl, rfl, rfl, _, by simp [unwind.results, Tryz.f4]; rfl, _, hS4.learn, ?_⟩
 refine ⟨_, rfl, fun h => ?_⟩
 have h' : 0 ≤ deepT t 30 := by simpa using h
 refine ⟨by omega, fun r hr => ?_, h'⟩
 obtain ⟨j, hj⟩ := List.mem_iff_getElem?.1 hr
 exact hdone j r (by have := lt_of_get hj; omega) hj
end Go.Proofs.Lw
