/-
  PROVED here: steps on the way to the card of 'sleuthlaw06.ReduceTreeMinimal' (an abstract machine, its soundness, what each function computes). No conditions beyond those that each theorem states.
-/
import Derived.Test.YtfgpboldklboaaaGreatDoorAm11
namespace Go.Proofs.Lw
open Go Go.Am
namespace K
variable {gl : Nat → Nat → Option Value} {ng : Nat} {m : Mem} {b o : Nat}
theorem is24 : Am.isAgg (cfg gl ng).toEnv 24 = some true := by kernel_rfl
theorem zs24 : szOf (cfg gl ng).toEnv 24 = 1 := by kernel_rfl
@[simp] theorem ld24 : opLoad (cfg gl ng).toEnv 24 (.pointer (some ⟨b, o, none⟩)) m = agN [m.load (cfg gl ng).toEnv b o] m := by
 rw [ld_a is24, zs24]; rfl
theorem is27 : Am.isAgg (cfg gl ng).toEnv 27 = some true := by kernel_rfl
theorem zs27 : szOf (cfg gl ng).toEnv 27 = 3 := by kernel_rfl
@[simp] theorem ld27 : opLoad (cfg gl ng).toEnv 27 (.pointer (some ⟨b, o, none⟩)) m = agN [m.load (cfg gl ng).toEnv b o, m.load (cfg gl ng).toEnv b (o + 1), m.load (cfg gl ng).toEnv b (o + 2)] m := by
 rw [ld_a is27, zs27]; rfl
theorem is31 : Am.isAgg (cfg gl ng).toEnv 31 = some true := by kernel_rfl
theorem zs31 : szOf (cfg gl ng).toEnv 31 = 4 := by kernel_rfl
@[simp] theorem ld31 : opLoad (cfg gl ng).toEnv 31 (.pointer (some ⟨b, o, none⟩)) m = agN [m.load (cfg gl ng).toEnv b o, m.load (cfg gl ng).toEnv b (o + 1), m.load (cfg gl ng).toEnv b (o + 2), m.load (cfg gl ng).toEnv b (o + 3)] m := by
 rw [ld_a is31, zs31]; rfl
theorem ul38 : und (cfg gl ng).toEnv 38 = some (.slice 46) := by kernel_rfl
@[simp] theorem len38 {a : Option Addr} {n c : Nat} : opLen (cfg gl ng) 38 (.slice a n c) m = .value (.int .i64 n) m := len_s ul38
theorem zero41 : zeroOf (cfg gl ng).toEnv 41 = some (.agg #[.bool false, .int .i64 0, .string .empty, .slice none 0 0]) := by kernel_rfl
@[simp] theorem al41 : opAlloc (cfg gl ng).toEnv 41 m = .value (.pointer (some ⟨m.nb, 0, none⟩)) (m.new (.cells (cellsOf [.bool false, .int .i64 0, .string .empty, .slice none 0 0] 41))) := al_z zero41 rfl
theorem if41 : ((cfg gl ng).toEnv.P.info? 41).isSome = true := by kernel_rfl
theorem sz41 : szOf (cfg gl ng).toEnv 41 = 4 := by kernel_rfl
@[simp] theorem st41 {vs : Array Value} (h : vs.size = 4) : opStore (cfg gl ng).toEnv 41 (.pointer (some ⟨b, o, none⟩)) (.agg vs) m = ru (m.write b o vs.toList) := st_a if41 sz41 h
theorem ul39 : und (cfg gl ng).toEnv 39 = some (.slice 9) := by kernel_rfl
@[simp] theorem len39 {a : Option Addr} {n c : Nat} : opLen (cfg gl ng) 39 (.slice a n c) m = .value (.int .i64 n) m := len_s ul39
@[simp] theorem fa41_1 : opFieldAddr (cfg gl ng).toEnv 41 (.pointer (some ⟨b, o, none⟩)) 1 m = .value (.pointer (some ⟨b, o + 1, none⟩)) m := by kernel_rfl
@[simp] theorem fa41_0 : opFieldAddr (cfg gl ng).toEnv 41 (.pointer (some ⟨b, o, none⟩)) 0 m = .value (.pointer (some ⟨b, o, none⟩)) m := by kernel_rfl
theorem is4 : Am.isAgg (cfg gl ng).toEnv 4 = some false := by kernel_rfl
@[simp] theorem ld4 : opLoad (cfg gl ng).toEnv 4 (.pointer (some ⟨b, o, none⟩)) m = rv (m.load (cfg gl ng).toEnv b o) m := ld_s is4
theorem ux39 : und (cfg gl ng).toEnv 39 = some (.slice 9) := by kernel_rfl
theorem ixs39 : szOf (cfg gl ng).toEnv 9 = 1 := by kernel_rfl
theorem ixi39 : ((cfg gl ng).toEnv.P.info? 9).isSome = true := by kernel_rfl
@[simp] theorem ix39 {b0 o0 c0 n i : Nat} (hi : i < n) : opIndexAddr (cfg gl ng).toEnv 39 (.slice (some ⟨b0, o0, none⟩) n c0) (.int .i64 i) m = .value (.pointer (some ⟨b0, o0 + i, none⟩)) m := by
 rw [ix_s ux39 ixi39 hi, ixs39]; simp [addr_add, Nat.mul_comm]
theorem is9 : Am.isAgg (cfg gl ng).toEnv 9 = some false := by kernel_rfl
@[simp] theorem ld9 : opLoad (cfg gl ng).toEnv 9 (.pointer (some ⟨b, o, none⟩)) m = rv (m.load (cfg gl ng).toEnv b o) m := ld_s is9
@[simp] theorem fa24_0 : opFieldAddr (cfg gl ng).toEnv 24 (.pointer (some ⟨b, o, none⟩)) 0 m = .value (.pointer (some ⟨b, o, none⟩)) m := by kernel_rfl
theorem is22 : Am.isAgg (cfg gl ng).toEnv 22 = some false := by kernel_rfl
@[simp] theorem ld22 : opLoad (cfg gl ng).toEnv 22 (.pointer (some ⟨b, o, none⟩)) m = rv (m.load (cfg gl ng).toEnv b o) m := ld_s is22
theorem ul22 : und (cfg gl ng).toEnv 22 = some (.slice 51) := by kernel_rfl
@[simp] theorem len22 {a : Option Addr} {n c : Nat} : opLen (cfg gl ng) 22 (.slice a n c) m = .value (.int .i64 n) m := len_s ul22
theorem ux22 : und (cfg gl ng).toEnv 22 = some (.slice 51) := by kernel_rfl
theorem ixs22 : szOf (cfg gl ng).toEnv 51 = 4 := by kernel_rfl
theorem ixi22 : ((cfg gl ng).toEnv.P.info? 51).isSome = true := by kernel_rfl
@[simp] theorem ix22 {b0 o0 c0 n i : Nat} (hi : i < n) : opIndexAddr (cfg gl ng).toEnv 22 (.slice (some ⟨b0, o0, none⟩) n c0) (.int .i64 i) m = .value (.pointer (some ⟨b0, o0 + 4 * i, none⟩)) m := by
 rw [ix_s ux22 ixi22 hi, ixs22]; simp [addr_add, Nat.mul_comm]
theorem is51 : Am.isAgg (cfg gl ng).toEnv 51 = some true := by kernel_rfl
theorem zs51 : szOf (cfg gl ng).toEnv 51 = 4 := by kernel_rfl
@[simp] theorem ld51 : opLoad (cfg gl ng).toEnv 51 (.pointer (some ⟨b, o, none⟩)) m = agN [m.load (cfg gl ng).toEnv b o, m.load (cfg gl ng).toEnv b (o + 1), m.load (cfg gl ng).toEnv b (o + 2), m.load (cfg gl ng).toEnv b (o + 3)] m := by
 rw [ld_a is51, zs51]; rfl
theorem zero51 : zeroOf (cfg gl ng).toEnv 51 = some (.agg #[.string .empty, .string .empty, .bool false, .slice none 0 0]) := by kernel_rfl
@[simp] theorem al51 : opAlloc (cfg gl ng).toEnv 51 m = .value (.pointer (some ⟨m.nb, 0, none⟩)) (m.new (.cells (cellsOf [.string .empty, .string .empty, .bool false, .slice none 0 0] 51))) := al_z zero51 rfl
theorem if51 : ((cfg gl ng).toEnv.P.info? 51).isSome = true := by kernel_rfl
theorem sz51 : szOf (cfg gl ng).toEnv 51 = 4 := by kernel_rfl
@[simp] theorem st51 {vs : Array Value} (h : vs.size = 4) : opStore (cfg gl ng).toEnv 51 (.pointer (some ⟨b, o, none⟩)) (.agg vs) m = ru (m.write b o vs.toList) := st_a if51 sz51 h
@[simp] theorem fa51_3 : opFieldAddr (cfg gl ng).toEnv 51 (.pointer (some ⟨b, o, none⟩)) 3 m = .value (.pointer (some ⟨b, o + 3, none⟩)) m := by kernel_rfl
theorem is49 : Am.isAgg (cfg gl ng).toEnv 49 = some false := by kernel_rfl
@[simp] theorem ld49 : opLoad (cfg gl ng).toEnv 49 (.pointer (some ⟨b, o, none⟩)) m = rv (m.load (cfg gl ng).toEnv b o) m := ld_s is49
theorem ul49 : und (cfg gl ng).toEnv 49 = some (.slice 55) := by kernel_rfl
@[simp] theorem len49 {a : Option Addr} {n c : Nat} : opLen (cfg gl ng) 49 (.slice a n c) m = .value (.int .i64 n) m := len_s ul49
@[simp] theorem fa51_0 : opFieldAddr (cfg gl ng).toEnv 51 (.pointer (some ⟨b, o, none⟩)) 0 m = .value (.pointer (some ⟨b, o, none⟩)) m := by kernel_rfl
theorem ul9 : und (cfg gl ng).toEnv 9 = some .string := by kernel_rfl
@[simp] theorem len9 {x : ByteArray} : opLen (cfg gl ng) 9 (.string x) m = .value (.int .i64 x.size) m := len_t ul9
@[simp] theorem fa51_1 : opFieldAddr (cfg gl ng).toEnv 51 (.pointer (some ⟨b, o, none⟩)) 1 m = .value (.pointer (some ⟨b, o + 1, none⟩)) m := by kernel_rfl
theorem ux49 : und (cfg gl ng).toEnv 49 = some (.slice 55) := by kernel_rfl
theorem ixs49 : szOf (cfg gl ng).toEnv 55 = 3 := by kernel_rfl
theorem ixi49 : ((cfg gl ng).toEnv.P.info? 55).isSome = true := by kernel_rfl
@[simp] theorem ix49 {b0 o0 c0 n i : Nat} (hi : i < n) : opIndexAddr (cfg gl ng).toEnv 49 (.slice (some ⟨b0, o0, none⟩) n c0) (.int .i64 i) m = .value (.pointer (some ⟨b0, o0 + 3 * i, none⟩)) m := by
 rw [ix_s ux49 ixi49 hi, ixs49]; simp [addr_add, Nat.mul_comm]
@[simp] theorem fa55_1 : opFieldAddr (cfg gl ng).toEnv 55 (.pointer (some ⟨b, o, none⟩)) 1 m = .value (.pointer (some ⟨b, o + 1, none⟩)) m := by kernel_rfl
theorem is53 : Am.isAgg (cfg gl ng).toEnv 53 = some false := by kernel_rfl
@[simp] theorem ld53 : opLoad (cfg gl ng).toEnv 53 (.pointer (some ⟨b, o, none⟩)) m = rv (m.load (cfg gl ng).toEnv b o) m := ld_s is53
theorem ul53 : und (cfg gl ng).toEnv 53 = some (.slice 3) := by kernel_rfl
@[simp] theorem len53 {a : Option Addr} {n c : Nat} : opLen (cfg gl ng) 53 (.slice a n c) m = .value (.int .i64 n) m := len_s ul53
@[simp] theorem fa55_2 : opFieldAddr (cfg gl ng).toEnv 55 (.pointer (some ⟨b, o, none⟩)) 2 m = .value (.pointer (some ⟨b, o + 2, none⟩)) m := by kernel_rfl
@[simp] theorem fa31_0 : opFieldAddr (cfg gl ng).toEnv 31 (.pointer (some ⟨b, o, none⟩)) 0 m = .value (.pointer (some ⟨b, o, none⟩)) m := by kernel_rfl
theorem is28 : Am.isAgg (cfg gl ng).toEnv 28 = some false := by kernel_rfl
@[simp] theorem ld28 : opLoad (cfg gl ng).toEnv 28 (.pointer (some ⟨b, o, none⟩)) m = rv (m.load (cfg gl ng).toEnv b o) m := ld_s is28
@[simp] theorem fa31_1 : opFieldAddr (cfg gl ng).toEnv 31 (.pointer (some ⟨b, o, none⟩)) 1 m = .value (.pointer (some ⟨b, o + 1, none⟩)) m := by kernel_rfl
theorem ul57 : und (cfg gl ng).toEnv 57 = some (.slice 28) := by kernel_rfl
@[simp] theorem len57 {a : Option Addr} {n c : Nat} : opLen (cfg gl ng) 57 (.slice a n c) m = .value (.int .i64 n) m := len_s ul57
theorem ux57 : und (cfg gl ng).toEnv 57 = some (.slice 28) := by kernel_rfl
theorem ixs57 : szOf (cfg gl ng).toEnv 28 = 1 := by kernel_rfl
theorem ixi57 : ((cfg gl ng).toEnv.P.info? 28).isSome = true := by kernel_rfl
@[simp] theorem ix57 {b0 o0 c0 n i : Nat} (hi : i < n) : opIndexAddr (cfg gl ng).toEnv 57 (.slice (some ⟨b0, o0, none⟩) n c0) (.int .i64 i) m = .value (.pointer (some ⟨b0, o0 + i, none⟩)) m := by
 rw [ix_s ux57 ixi57 hi, ixs57]; simp [addr_add, Nat.mul_comm]
theorem ul28 : und (cfg gl ng).toEnv 28 = some (.slice 53) := by kernel_rfl
@[simp] theorem len28 {a : Option Addr} {n c : Nat} : opLen (cfg gl ng) 28 (.slice a n c) m = .value (.int .i64 n) m := len_s ul28
theorem ux28 : und (cfg gl ng).toEnv 28 = some (.slice 53) := by kernel_rfl
theorem ixs28 : szOf (cfg gl ng).toEnv 53 = 1 := by kernel_rfl
theorem ixi28 : ((cfg gl ng).toEnv.P.info? 53).isSome = true := by kernel_rfl
@[simp] theorem ix28 {b0 o0 c0 n i : Nat} (hi : i < n) : opIndexAddr (cfg gl ng).toEnv 28 (.slice (some ⟨b0, o0, none⟩) n c0) (.int .i64 i) m = .value (.pointer (some ⟨b0, o0 + i, none⟩)) m := by
 rw [ix_s ux28 ixi28 hi, ixs28]; simp [addr_add, Nat.mul_comm]
@[simp] theorem fa27_2 : opFieldAddr (cfg gl ng).toEnv 27 (.pointer (some ⟨b, o, none⟩)) 2 m = .value (.pointer (some ⟨b, o + 2, none⟩)) m := by kernel_rfl
theorem is25 : Am.isAgg (cfg gl ng).toEnv 25 = some false := by kernel_rfl
@[simp] theorem ld25 : opLoad (cfg gl ng).toEnv 25 (.pointer (some ⟨b, o, none⟩)) m = rv (m.load (cfg gl ng).toEnv b o) m := ld_s is25
theorem ul25 : und (cfg gl ng).toEnv 25 = some (.slice 59) := by kernel_rfl
@[simp] theorem len25 {a : Option Addr} {n c : Nat} : opLen (cfg gl ng) 25 (.slice a n c) m = .value (.int .i64 n) m := len_s ul25
theorem ux25 : und (cfg gl ng).toEnv 25 = some (.slice 59) := by kernel_rfl
theorem ixs25 : szOf (cfg gl ng).toEnv 59 = 1 := by kernel_rfl
theorem ixi25 : ((cfg gl ng).toEnv.P.info? 59).isSome = true := by kernel_rfl
@[simp] theorem ix25 {b0 o0 c0 n i : Nat} (hi : i < n) : opIndexAddr (cfg gl ng).toEnv 25 (.slice (some ⟨b0, o0, none⟩) n c0) (.int .i64 i) m = .value (.pointer (some ⟨b0, o0 + i, none⟩)) m := by
 rw [ix_s ux25 ixi25 hi, ixs25]; simp [addr_add, Nat.mul_comm]
theorem is59 : Am.isAgg (cfg gl ng).toEnv 59 = some false := by kernel_rfl
@[simp] theorem ld59 : opLoad (cfg gl ng).toEnv 59 (.pointer (some ⟨b, o, none⟩)) m = rv (m.load (cfg gl ng).toEnv b o) m := ld_s is59
theorem ul59 : und (cfg gl ng).toEnv 59 = some (.slice 27) := by kernel_rfl
@[simp] theorem len59 {a : Option Addr} {n c : Nat} : opLen (cfg gl ng) 59 (.slice a n c) m = .value (.int .i64 n) m := len_s ul59
theorem ux59 : und (cfg gl ng).toEnv 59 = some (.slice 27) := by kernel_rfl
theorem ixs59 : szOf (cfg gl ng).toEnv 27 = 3 := by kernel_rfl
theorem ixi59 : ((cfg gl ng).toEnv.P.info? 27).isSome = true := by kernel_rfl
@[simp] theorem ix59 {b0 o0 c0 n i : Nat} (hi : i < n) : opIndexAddr (cfg gl ng).toEnv 59 (.slice (some ⟨b0, o0, none⟩) n c0) (.int .i64 i) m = .value (.pointer (some ⟨b0, o0 + 3 * i, none⟩)) m := by
 rw [ix_s ux59 ixi59 hi, ixs59]; simp [addr_add, Nat.mul_comm]
@[simp] theorem bu41_  : opBuild (cfg gl ng).toEnv 41 [] m = .value (.agg #[.bool false, .int .i64 0, .string .empty, .slice none 0 0]) m := by
 rw [bu_of (by simp [defd_agg]) (by kernel_rfl)]
 simp only [List.map_cons, List.map_nil, agg_cells]
 kernel_rfl
theorem zero27 : zeroOf (cfg gl ng).toEnv 27 = some (.agg #[.int .i64 0, .string .empty, .slice none 0 0]) := by kernel_rfl
@[simp] theorem al27 : opAlloc (cfg gl ng).toEnv 27 m = .value (.pointer (some ⟨m.nb, 0, none⟩)) (m.new (.cells (cellsOf [.int .i64 0, .string .empty, .slice none 0 0] 27))) := al_z zero27 rfl
theorem if27 : ((cfg gl ng).toEnv.P.info? 27).isSome = true := by kernel_rfl
theorem sz27 : szOf (cfg gl ng).toEnv 27 = 3 := by kernel_rfl
@[simp] theorem st27 {vs : Array Value} (h : vs.size = 3) : opStore (cfg gl ng).toEnv 27 (.pointer (some ⟨b, o, none⟩)) (.agg vs) m = ru (m.write b o vs.toList) := st_a if27 sz27 h
@[simp] theorem bu41_1 {x1_0 x1_1 x1_2 : Value}  : opBuild (cfg gl ng).toEnv 41 [(1, .agg #[x1_0, x1_1, x1_2])] m = .value (.agg #[.bool false, x1_0, x1_1, x1_2]) m := by
 rw [bu_of (by simp [defd_agg]) (by kernel_rfl)]
 simp only [List.map_cons, List.map_nil, agg_cells]
 kernel_rfl
@[simp] theorem bu41_0_1 {x0 x1_0 x1_1 x1_2 : Value} (h0 : plainV x0 = true) : opBuild (cfg gl ng).toEnv 41 [(0, x0), (1, .agg #[x1_0, x1_1, x1_2])] m = .value (.agg #[x0, x1_0, x1_1, x1_2]) m := by
 rw [bu_of (by simp [defd_agg, plain_defd h0]) (by kernel_rfl)]
 simp only [List.map_cons, List.map_nil, agg_cells, plain_cells h0]
 kernel_rfl
@[simp] theorem fa31_2 : opFieldAddr (cfg gl ng).toEnv 31 (.pointer (some ⟨b, o, none⟩)) 2 m = .value (.pointer (some ⟨b, o + 2, none⟩)) m := by kernel_rfl
theorem is29 : Am.isAgg (cfg gl ng).toEnv 29 = some false := by kernel_rfl
@[simp] theorem ld29 : opLoad (cfg gl ng).toEnv 29 (.pointer (some ⟨b, o, none⟩)) m = rv (m.load (cfg gl ng).toEnv b o) m := ld_s is29
@[simp] theorem fa31_3 : opFieldAddr (cfg gl ng).toEnv 31 (.pointer (some ⟨b, o, none⟩)) 3 m = .value (.pointer (some ⟨b, o + 3, none⟩)) m := by kernel_rfl
theorem is5 : Am.isAgg (cfg gl ng).toEnv 5 = some false := by kernel_rfl
@[simp] theorem ld5 : opLoad (cfg gl ng).toEnv 5 (.pointer (some ⟨b, o, none⟩)) m = rv (m.load (cfg gl ng).toEnv b o) m := ld_s is5
theorem ux53 : und (cfg gl ng).toEnv 53 = some (.slice 3) := by kernel_rfl
theorem ixs53 : szOf (cfg gl ng).toEnv 3 = 1 := by kernel_rfl
theorem ixi53 : ((cfg gl ng).toEnv.P.info? 3).isSome = true := by kernel_rfl
@[simp] theorem ix53 {b0 o0 c0 n i : Nat} (hi : i < n) : opIndexAddr (cfg gl ng).toEnv 53 (.slice (some ⟨b0, o0, none⟩) n c0) (.int .i64 i) m = .value (.pointer (some ⟨b0, o0 + i, none⟩)) m := by
 rw [ix_s ux53 ixi53 hi, ixs53]; simp [addr_add, Nat.mul_comm]
theorem is3 : Am.isAgg (cfg gl ng).toEnv 3 = some false := by kernel_rfl
@[simp] theorem ld3 : opLoad (cfg gl ng).toEnv 3 (.pointer (some ⟨b, o, none⟩)) m = rv (m.load (cfg gl ng).toEnv b o) m := ld_s is3
@[simp] theorem fa27_1 : opFieldAddr (cfg gl ng).toEnv 27 (.pointer (some ⟨b, o, none⟩)) 1 m = .value (.pointer (some ⟨b, o + 1, none⟩)) m := by kernel_rfl
@[simp] theorem fa27_0 : opFieldAddr (cfg gl ng).toEnv 27 (.pointer (some ⟨b, o, none⟩)) 0 m = .value (.pointer (some ⟨b, o, none⟩)) m := by kernel_rfl
@[simp] theorem fa51_2 : opFieldAddr (cfg gl ng).toEnv 51 (.pointer (some ⟨b, o, none⟩)) 2 m = .value (.pointer (some ⟨b, o + 2, none⟩)) m := by kernel_rfl
@[simp] theorem fa55_0 : opFieldAddr (cfg gl ng).toEnv 55 (.pointer (some ⟨b, o, none⟩)) 0 m = .value (.pointer (some ⟨b, o, none⟩)) m := by kernel_rfl
theorem is52 : Am.isAgg (cfg gl ng).toEnv 52 = some false := by kernel_rfl
@[simp] theorem ld52 : opLoad (cfg gl ng).toEnv 52 (.pointer (some ⟨b, o, none⟩)) m = rv (m.load (cfg gl ng).toEnv b o) m := ld_s is52
@[simp] theorem bu27_0_1 {x0 x1 : Value} (h0 : plainV x0 = true) (h1 : plainV x1 = true) : opBuild (cfg gl ng).toEnv 27 [(0, x0), (1, x1)] m = .value (.agg #[x0, x1, .slice none 0 0]) m := by
 rw [bu_of (by simp [defd_agg, plain_defd h0, plain_defd h1]) (by kernel_rfl)]
 simp only [List.map_cons, List.map_nil, agg_cells, plain_cells h0, plain_cells h1]
 kernel_rfl
theorem if25 : ((cfg gl ng).toEnv.P.info? 25).isSome = true := by kernel_rfl
theorem sz25 : szOf (cfg gl ng).toEnv 25 = 1 := by kernel_rfl
@[simp] theorem st25 {v : Value} (h : plainV v = true) : opStore (cfg gl ng).toEnv 25 (.pointer (some ⟨b, o, none⟩)) v m = ru (m.write b o [v]) := st_s if25 sz25 h
@[simp] theorem bu100_0_2 {x0 x2 : Value} (h0 : plainV x0 = true) (h2 : plainV x2 = true) : opBuild (cfg gl ng).toEnv 100 [(0, x0), (2, x2)] m = .value (.agg #[x0, .int .i64 0, x2]) m := by
 rw [bu_of (by simp [defd_agg, plain_defd h0, plain_defd h2]) (by kernel_rfl)]
 simp only [List.map_cons, List.map_nil, agg_cells, plain_cells h0, plain_cells h2]
 kernel_rfl
@[simp] theorem fa100_1 : opFieldAddr (cfg gl ng).toEnv 100 (.pointer (some ⟨b, o, none⟩)) 1 m = .value (.pointer (some ⟨b, o + 1, none⟩)) m := by kernel_rfl
@[simp] theorem bu55_  : opBuild (cfg gl ng).toEnv 55 [] m = .value (.agg #[.int .u8 0, .slice none 0 0, .string .empty]) m := by
 rw [bu_of (by simp [defd_agg]) (by kernel_rfl)]
 simp only [List.map_cons, List.map_nil, agg_cells]
 kernel_rfl
theorem ul83 : und (cfg gl ng).toEnv 83 = some (.slice 86) := by kernel_rfl
@[simp] theorem len83 {a : Option Addr} {n c : Nat} : opLen (cfg gl ng) 83 (.slice a n c) m = .value (.int .i64 n) m := len_s ul83
theorem ux83 : und (cfg gl ng).toEnv 83 = some (.slice 86) := by kernel_rfl
theorem ixs83 : szOf (cfg gl ng).toEnv 86 = 8 := by kernel_rfl
theorem ixi83 : ((cfg gl ng).toEnv.P.info? 86).isSome = true := by kernel_rfl
@[simp] theorem ix83 {b0 o0 c0 n i : Nat} (hi : i < n) : opIndexAddr (cfg gl ng).toEnv 83 (.slice (some ⟨b0, o0, none⟩) n c0) (.int .i64 i) m = .value (.pointer (some ⟨b0, o0 + 8 * i, none⟩)) m := by
 rw [ix_s ux83 ixi83 hi, ixs83]; simp [addr_add, Nat.mul_comm]
@[simp] theorem fa86_3 : opFieldAddr (cfg gl ng).toEnv 86 (.pointer (some ⟨b, o, none⟩)) 3 m = .value (.pointer (some ⟨b, o + 7, none⟩)) m := by kernel_rfl
theorem zero53 : zeroOf (cfg gl ng).toEnv 53 = some (.slice none 0 0) := by kernel_rfl
@[simp] theorem al53 : opAlloc (cfg gl ng).toEnv 53 m = .value (.pointer (some ⟨m.nb, 0, none⟩)) (m.new (.cells (cellsOf [.slice none 0 0] 53))) := al_z zero53 rfl
theorem is86 : Am.isAgg (cfg gl ng).toEnv 86 = some true := by kernel_rfl
theorem zs86 : szOf (cfg gl ng).toEnv 86 = 8 := by kernel_rfl
@[simp] theorem ld86 : opLoad (cfg gl ng).toEnv 86 (.pointer (some ⟨b, o, none⟩)) m = agN [m.load (cfg gl ng).toEnv b o, m.load (cfg gl ng).toEnv b (o + 1), m.load (cfg gl ng).toEnv b (o + 2), m.load (cfg gl ng).toEnv b (o + 3), m.load (cfg gl ng).toEnv b (o + 4), m.load (cfg gl ng).toEnv b (o + 5), m.load (cfg gl ng).toEnv b (o + 6), m.load (cfg gl ng).toEnv b (o + 7)] m := by
 rw [ld_a is86, zs86]; rfl
theorem zero86 : zeroOf (cfg gl ng).toEnv 86 = some (.agg #[.int .i64 0, .string .empty, .slice none 0 0, .int .u8 0, .slice none 0 0, .string .empty, .int .i64 0, .int .i64 0]) := by kernel_rfl
@[simp] theorem al86 : opAlloc (cfg gl ng).toEnv 86 m = .value (.pointer (some ⟨m.nb, 0, none⟩)) (m.new (.cells (cellsOf [.int .i64 0, .string .empty, .slice none 0 0, .int .u8 0, .slice none 0 0, .string .empty, .int .i64 0, .int .i64 0] 86))) := al_z zero86 rfl
theorem if86 : ((cfg gl ng).toEnv.P.info? 86).isSome = true := by kernel_rfl
theorem sz86 : szOf (cfg gl ng).toEnv 86 = 8 := by kernel_rfl
@[simp] theorem st86 {vs : Array Value} (h : vs.size = 8) : opStore (cfg gl ng).toEnv 86 (.pointer (some ⟨b, o, none⟩)) (.agg vs) m = ru (m.write b o vs.toList) := st_a if86 sz86 h
@[simp] theorem fa86_2 : opFieldAddr (cfg gl ng).toEnv 86 (.pointer (some ⟨b, o, none⟩)) 2 m = .value (.pointer (some ⟨b, o + 6, none⟩)) m := by kernel_rfl
theorem if53 : ((cfg gl ng).toEnv.P.info? 53).isSome = true := by kernel_rfl
theorem sz53 : szOf (cfg gl ng).toEnv 53 = 1 := by kernel_rfl
@[simp] theorem st53 {v : Value} (h : plainV v = true) : opStore (cfg gl ng).toEnv 53 (.pointer (some ⟨b, o, none⟩)) v m = ru (m.write b o [v]) := st_s if53 sz53 h
theorem zero105 : zeroOf (cfg gl ng).toEnv 105 = some (.nilFunc) := by kernel_rfl
@[simp] theorem al105 : opAlloc (cfg gl ng).toEnv 105 m = .value (.pointer (some ⟨m.nb, 0, none⟩)) (m.new (.cells (cellsOf [.nilFunc] 105))) := al_z zero105 rfl
theorem if105 : ((cfg gl ng).toEnv.P.info? 105).isSome = true := by kernel_rfl
theorem sz105 : szOf (cfg gl ng).toEnv 105 = 1 := by kernel_rfl
@[simp] theorem st105 {v : Value} (h : plainV v = true) : opStore (cfg gl ng).toEnv 105 (.pointer (some ⟨b, o, none⟩)) v m = ru (m.write b o [v]) := st_s if105 sz105 h
theorem is105 : Am.isAgg (cfg gl ng).toEnv 105 = some false := by kernel_rfl
@[simp] theorem ld105 : opLoad (cfg gl ng).toEnv 105 (.pointer (some ⟨b, o, none⟩)) m = rv (m.load (cfg gl ng).toEnv b o) m := ld_s is105
theorem ul108 : und (cfg gl ng).toEnv 108 = some (.slice 111) := by kernel_rfl
@[simp] theorem len108 {a : Option Addr} {n c : Nat} : opLen (cfg gl ng) 108 (.slice a n c) m = .value (.int .i64 n) m := len_s ul108
theorem ux108 : und (cfg gl ng).toEnv 108 = some (.slice 111) := by kernel_rfl
theorem ixs108 : szOf (cfg gl ng).toEnv 111 = 8 := by kernel_rfl
theorem ixi108 : ((cfg gl ng).toEnv.P.info? 111).isSome = true := by kernel_rfl
@[simp] theorem ix108 {b0 o0 c0 n i : Nat} (hi : i < n) : opIndexAddr (cfg gl ng).toEnv 108 (.slice (some ⟨b0, o0, none⟩) n c0) (.int .i64 i) m = .value (.pointer (some ⟨b0, o0 + 8 * i, none⟩)) m := by
 rw [ix_s ux108 ixi108 hi, ixs108]; simp [addr_add, Nat.mul_comm]
@[simp] theorem fa111_2 : opFieldAddr (cfg gl ng).toEnv 111 (.pointer (some ⟨b, o, none⟩)) 2 m = .value (.pointer (some ⟨b, o + 4, none⟩)) m := by kernel_rfl
@[simp] theorem fa111_0 : opFieldAddr (cfg gl ng).toEnv 111 (.pointer (some ⟨b, o, none⟩)) 0 m = .value (.pointer (some ⟨b, o, none⟩)) m := by kernel_rfl
theorem is55 : Am.isAgg (cfg gl ng).toEnv 55 = some true := by kernel_rfl
theorem zs55 : szOf (cfg gl ng).toEnv 55 = 3 := by kernel_rfl
@[simp] theorem ld55 : opLoad (cfg gl ng).toEnv 55 (.pointer (some ⟨b, o, none⟩)) m = agN [m.load (cfg gl ng).toEnv b o, m.load (cfg gl ng).toEnv b (o + 1), m.load (cfg gl ng).toEnv b (o + 2)] m := by
 rw [ld_a is55, zs55]; rfl
@[simp] theorem bu27_  : opBuild (cfg gl ng).toEnv 27 [] m = .value (.agg #[.int .i64 0, .string .empty, .slice none 0 0]) m := by
 rw [bu_of (by simp [defd_agg]) (by kernel_rfl)]
 simp only [List.map_cons, List.map_nil, agg_cells]
 kernel_rfl
theorem zero55 : zeroOf (cfg gl ng).toEnv 55 = some (.agg #[.int .u8 0, .slice none 0 0, .string .empty]) := by kernel_rfl
@[simp] theorem al55 : opAlloc (cfg gl ng).toEnv 55 m = .value (.pointer (some ⟨m.nb, 0, none⟩)) (m.new (.cells (cellsOf [.int .u8 0, .slice none 0 0, .string .empty] 55))) := al_z zero55 rfl
theorem if55 : ((cfg gl ng).toEnv.P.info? 55).isSome = true := by kernel_rfl
theorem sz55 : szOf (cfg gl ng).toEnv 55 = 3 := by kernel_rfl
@[simp] theorem st55 {vs : Array Value} (h : vs.size = 3) : opStore (cfg gl ng).toEnv 55 (.pointer (some ⟨b, o, none⟩)) (.agg vs) m = ru (m.write b o vs.toList) := st_a if55 sz55 h
theorem if3 : ((cfg gl ng).toEnv.P.info? 3).isSome = true := by kernel_rfl
theorem sz3 : szOf (cfg gl ng).toEnv 3 = 1 := by kernel_rfl
@[simp] theorem st3 {v : Value} (h : plainV v = true) : opStore (cfg gl ng).toEnv 3 (.pointer (some ⟨b, o, none⟩)) v m = ru (m.write b o [v]) := st_s if3 sz3 h
@[simp] theorem bu27_0_2 {x0 x2 : Value} (h0 : plainV x0 = true) (h2 : plainV x2 = true) : opBuild (cfg gl ng).toEnv 27 [(0, x0), (2, x2)] m = .value (.agg #[x0, .string .empty, x2]) m := by
 rw [bu_of (by simp [defd_agg, plain_defd h0, plain_defd h2]) (by kernel_rfl)]
 simp only [List.map_cons, List.map_nil, agg_cells, plain_cells h0, plain_cells h2]
 kernel_rfl
theorem if59 : ((cfg gl ng).toEnv.P.info? 59).isSome = true := by kernel_rfl
theorem sz59 : szOf (cfg gl ng).toEnv 59 = 1 := by kernel_rfl
@[simp] theorem st59 {v : Value} (h : plainV v = true) : opStore (cfg gl ng).toEnv 59 (.pointer (some ⟨b, o, none⟩)) v m = ru (m.write b o [v]) := st_s if59 sz59 h
theorem zero119 : zeroOf (cfg gl ng).toEnv 119 = some (.agg #[.pointer none, .slice none 0 0]) := by kernel_rfl
@[simp] theorem al119 : opAlloc (cfg gl ng).toEnv 119 m = .value (.pointer (some ⟨m.nb, 0, none⟩)) (m.new (.cells (cellsOf [.pointer none, .slice none 0 0] 119))) := al_z zero119 rfl
@[simp] theorem bu86_0_1_2 {x0_0 x0_1 x0_2 x1_0 x1_1 x1_2 x2 : Value} (h2 : plainV x2 = true) : opBuild (cfg gl ng).toEnv 86 [(0, .agg #[x0_0, x0_1, x0_2]), (1, .agg #[x1_0, x1_1, x1_2]), (2, x2)] m = .value (.agg #[x0_0, x0_1, x0_2, x1_0, x1_1, x1_2, x2, .int .i64 0]) m := by
 rw [bu_of (by simp [defd_agg, plain_defd h2]) (by kernel_rfl)]
 simp only [List.map_cons, List.map_nil, agg_cells, plain_cells h2]
 kernel_rfl
@[simp] theorem fa86_1 : opFieldAddr (cfg gl ng).toEnv 86 (.pointer (some ⟨b, o, none⟩)) 1 m = .value (.pointer (some ⟨b, o + 3, none⟩)) m := by kernel_rfl
@[simp] theorem bu129_0_2 {x0_0 x2 : Value} (h2 : plainV x2 = true) : opBuild (cfg gl ng).toEnv 129 [(0, .agg #[x0_0]), (2, x2)] m = .value (.agg #[x0_0, .int .i64 0, x2]) m := by
 rw [bu_of (by simp [defd_agg, plain_defd h2]) (by kernel_rfl)]
 simp only [List.map_cons, List.map_nil, agg_cells, plain_cells h2]
 kernel_rfl
@[simp] theorem bu27_0 {x0 : Value} (h0 : plainV x0 = true) : opBuild (cfg gl ng).toEnv 27 [(0, x0)] m = .value (.agg #[x0, .string .empty, .slice none 0 0]) m := by
 rw [bu_of (by simp [defd_agg, plain_defd h0]) (by kernel_rfl)]
 simp only [List.map_cons, List.map_nil, agg_cells, plain_cells h0]
 kernel_rfl
theorem zero97 : zeroOf (cfg gl ng).toEnv 97 = some (.agg #[.int .i64 0, .string .empty, .slice none 0 0]) := by kernel_rfl
@[simp] theorem al97 : opAlloc (cfg gl ng).toEnv 97 m = .value (.pointer (some ⟨m.nb, 0, none⟩)) (m.new (.cells (cellsOf [.int .i64 0, .string .empty, .slice none 0 0] 97))) := al_z zero97 rfl
theorem if97 : ((cfg gl ng).toEnv.P.info? 97).isSome = true := by kernel_rfl
theorem sz97 : szOf (cfg gl ng).toEnv 97 = 3 := by kernel_rfl
@[simp] theorem st97 {vs : Array Value} (h : vs.size = 3) : opStore (cfg gl ng).toEnv 97 (.pointer (some ⟨b, o, none⟩)) (.agg vs) m = ru (m.write b o vs.toList) := st_a if97 sz97 h
@[simp] theorem fa97_0 : opFieldAddr (cfg gl ng).toEnv 97 (.pointer (some ⟨b, o, none⟩)) 0 m = .value (.pointer (some ⟨b, o, none⟩)) m := by kernel_rfl
@[simp] theorem fa100_2 : opFieldAddr (cfg gl ng).toEnv 100 (.pointer (some ⟨b, o, none⟩)) 2 m = .value (.pointer (some ⟨b, o + 2, none⟩)) m := by kernel_rfl
theorem is98 : Am.isAgg (cfg gl ng).toEnv 98 = some false := by kernel_rfl
@[simp] theorem ld98 : opLoad (cfg gl ng).toEnv 98 (.pointer (some ⟨b, o, none⟩)) m = rv (m.load (cfg gl ng).toEnv b o) m := ld_s is98
theorem is83 : Am.isAgg (cfg gl ng).toEnv 83 = some false := by kernel_rfl
@[simp] theorem ld83 : opLoad (cfg gl ng).toEnv 83 (.pointer (some ⟨b, o, none⟩)) m = rv (m.load (cfg gl ng).toEnv b o) m := ld_s is83
@[simp] theorem fa86_0 : opFieldAddr (cfg gl ng).toEnv 86 (.pointer (some ⟨b, o, none⟩)) 0 m = .value (.pointer (some ⟨b, o, none⟩)) m := by kernel_rfl
theorem zero3 : zeroOf (cfg gl ng).toEnv 3 = some (.int .i64 0) := by kernel_rfl
@[simp] theorem al3 : opAlloc (cfg gl ng).toEnv 3 m = .value (.pointer (some ⟨m.nb, 0, none⟩)) (m.new (.cells (cellsOf [.int .i64 0] 3))) := al_z zero3 rfl
theorem is107 : Am.isAgg (cfg gl ng).toEnv 107 = some false := by kernel_rfl
@[simp] theorem ld107 : opLoad (cfg gl ng).toEnv 107 (.pointer (some ⟨b, o, none⟩)) m = rv (m.load (cfg gl ng).toEnv b o) m := ld_s is107
theorem is70 : Am.isAgg (cfg gl ng).toEnv 70 = some false := by kernel_rfl
@[simp] theorem ld70 : opLoad (cfg gl ng).toEnv 70 (.pointer (some ⟨b, o, none⟩)) m = rv (m.load (cfg gl ng).toEnv b o) m := ld_s is70
@[simp] theorem bu111_0_1_3 {x0_0 x0_1 x0_2 x1 x3 : Value} (h1 : plainV x1 = true) (h3 : plainV x3 = true) : opBuild (cfg gl ng).toEnv 111 [(0, .agg #[x0_0, x0_1, x0_2]), (1, x1), (3, x3)] m = .value (.agg #[x0_0, x0_1, x0_2, x1, .int .u8 0, .slice none 0 0, .string .empty, x3]) m := by
 rw [bu_of (by simp [defd_agg, plain_defd h1, plain_defd h3]) (by kernel_rfl)]
 simp only [List.map_cons, List.map_nil, agg_cells, plain_cells h1, plain_cells h3]
 kernel_rfl
@[simp] theorem bu27_0_1_2 {x0 x1 x2 : Value} (h0 : plainV x0 = true) (h1 : plainV x1 = true) (h2 : plainV x2 = true) : opBuild (cfg gl ng).toEnv 27 [(0, x0), (1, x1), (2, x2)] m = .value (.agg #[x0, x1, x2]) m := by
 rw [bu_of (by simp [defd_agg, plain_defd h0, plain_defd h1, plain_defd h2]) (by kernel_rfl)]
 simp only [List.map_cons, List.map_nil, agg_cells, plain_cells h0, plain_cells h1, plain_cells h2]
 kernel_rfl
@[simp] theorem fa119_1 : opFieldAddr (cfg gl ng).toEnv 119 (.pointer (some ⟨b, o, none⟩)) 1 m = .value (.pointer (some ⟨b, o + 1, none⟩)) m := by kernel_rfl
theorem is117 : Am.isAgg (cfg gl ng).toEnv 117 = some false := by kernel_rfl
@[simp] theorem ld117 : opLoad (cfg gl ng).toEnv 117 (.pointer (some ⟨b, o, none⟩)) m = rv (m.load (cfg gl ng).toEnv b o) m := ld_s is117
theorem if117 : ((cfg gl ng).toEnv.P.info? 117).isSome = true := by kernel_rfl
theorem sz117 : szOf (cfg gl ng).toEnv 117 = 1 := by kernel_rfl
@[simp] theorem st117 {v : Value} (h : plainV v = true) : opStore (cfg gl ng).toEnv 117 (.pointer (some ⟨b, o, none⟩)) v m = ru (m.write b o [v]) := st_s if117 sz117 h
theorem ul117 : und (cfg gl ng).toEnv 117 = some (.slice 5) := by kernel_rfl
@[simp] theorem len117 {a : Option Addr} {n c : Nat} : opLen (cfg gl ng) 117 (.slice a n c) m = .value (.int .i64 n) m := len_s ul117
@[simp] theorem fa129_1 : opFieldAddr (cfg gl ng).toEnv 129 (.pointer (some ⟨b, o, none⟩)) 1 m = .value (.pointer (some ⟨b, o + 1, none⟩)) m := by kernel_rfl
@[simp] theorem fa129_2 : opFieldAddr (cfg gl ng).toEnv 129 (.pointer (some ⟨b, o, none⟩)) 2 m = .value (.pointer (some ⟨b, o + 2, none⟩)) m := by kernel_rfl
theorem is127 : Am.isAgg (cfg gl ng).toEnv 127 = some false := by kernel_rfl
@[simp] theorem ld127 : opLoad (cfg gl ng).toEnv 127 (.pointer (some ⟨b, o, none⟩)) m = rv (m.load (cfg gl ng).toEnv b o) m := ld_s is127
@[simp] theorem fa129_0 : opFieldAddr (cfg gl ng).toEnv 129 (.pointer (some ⟨b, o, none⟩)) 0 m = .value (.pointer (some ⟨b, o, none⟩)) m := by kernel_rfl
@[simp] theorem fa100_0 : opFieldAddr (cfg gl ng).toEnv 100 (.pointer (some ⟨b, o, none⟩)) 0 m = .value (.pointer (some ⟨b, o, none⟩)) m := by kernel_rfl
theorem is38 : Am.isAgg (cfg gl ng).toEnv 38 = some false := by kernel_rfl
@[simp] theorem ld38 : opLoad (cfg gl ng).toEnv 38 (.pointer (some ⟨b, o, none⟩)) m = rv (m.load (cfg gl ng).toEnv b o) m := ld_s is38
@[simp] theorem bu97_0 {x0_0 x0_1 x0_2 : Value}  : opBuild (cfg gl ng).toEnv 97 [(0, .agg #[x0_0, x0_1, x0_2])] m = .value (.agg #[x0_0, x0_1, x0_2]) m := by
 rw [bu_of (by simp [defd_agg]) (by kernel_rfl)]
 simp only [List.map_cons, List.map_nil, agg_cells]
 kernel_rfl
theorem ux38 : und (cfg gl ng).toEnv 38 = some (.slice 46) := by kernel_rfl
theorem ixs38 : szOf (cfg gl ng).toEnv 46 = 1 := by kernel_rfl
theorem ixi38 : ((cfg gl ng).toEnv.P.info? 46).isSome = true := by kernel_rfl
@[simp] theorem ix38 {b0 o0 c0 n i : Nat} (hi : i < n) : opIndexAddr (cfg gl ng).toEnv 38 (.slice (some ⟨b0, o0, none⟩) n c0) (.int .i64 i) m = .value (.pointer (some ⟨b0, o0 + i, none⟩)) m := by
 rw [ix_s ux38 ixi38 hi, ixs38]; simp [addr_add, Nat.mul_comm]
theorem is46 : Am.isAgg (cfg gl ng).toEnv 46 = some false := by kernel_rfl
@[simp] theorem ld46 : opLoad (cfg gl ng).toEnv 46 (.pointer (some ⟨b, o, none⟩)) m = rv (m.load (cfg gl ng).toEnv b o) m := ld_s is46
@[simp] theorem fa111_3 : opFieldAddr (cfg gl ng).toEnv 111 (.pointer (some ⟨b, o, none⟩)) 3 m = .value (.pointer (some ⟨b, o + 7, none⟩)) m := by kernel_rfl
@[simp] theorem bu111_0_1_2_3 {x0_0 x0_1 x0_2 x1 x2_0 x2_1 x2_2 x3 : Value} (h1 : plainV x1 = true) (h3 : plainV x3 = true) : opBuild (cfg gl ng).toEnv 111 [(0, .agg #[x0_0, x0_1, x0_2]), (1, x1), (2, .agg #[x2_0, x2_1, x2_2]), (3, x3)] m = .value (.agg #[x0_0, x0_1, x0_2, x1, x2_0, x2_1, x2_2, x3]) m := by
 rw [bu_of (by simp [defd_agg, plain_defd h1, plain_defd h3]) (by kernel_rfl)]
 simp only [List.map_cons, List.map_nil, agg_cells, plain_cells h1, plain_cells h3]
 kernel_rfl
@[simp] theorem fa119_0 : opFieldAddr (cfg gl ng).toEnv 119 (.pointer (some ⟨b, o, none⟩)) 0 m = .value (.pointer (some ⟨b, o, none⟩)) m := by kernel_rfl
theorem is116 : Am.isAgg (cfg gl ng).toEnv 116 = some false := by kernel_rfl
@[simp] theorem ld116 : opLoad (cfg gl ng).toEnv 116 (.pointer (some ⟨b, o, none⟩)) m = rv (m.load (cfg gl ng).toEnv b o) m := ld_s is116
theorem if116 : ((cfg gl ng).toEnv.P.info? 116).isSome = true := by kernel_rfl
theorem sz116 : szOf (cfg gl ng).toEnv 116 = 1 := by kernel_rfl
@[simp] theorem st116 {v : Value} (h : plainV v = true) : opStore (cfg gl ng).toEnv 116 (.pointer (some ⟨b, o, none⟩)) v m = ru (m.write b o [v]) := st_s if116 sz116 h
@[simp] theorem callV_4 {args : List Value} : callV (cfg gl ng) 4 args m = .enter 4 args m := callV_of (fn := Tryz.f4) Tryz.func4 rfl rfl
@[simp] theorem callV_5 {args : List Value} : callV (cfg gl ng) 5 args m = .enter 5 args m := callV_of (fn := Tryz.f5) Tryz.func5 rfl rfl
@[simp] theorem callV_6 {args : List Value} : callV (cfg gl ng) 6 args m = .enter 6 args m := callV_of (fn := Tryz.f6) Tryz.func6 rfl rfl
@[simp] theorem callV_7 {args : List Value} : callV (cfg gl ng) 7 args m = .enter 7 args m := callV_of (fn := Tryz.f7) Tryz.func7 rfl rfl
@[simp] theorem callV_8 {args : List Value} : callV (cfg gl ng) 8 args m = .enter 8 args m := callV_of (fn := Tryz.f8) Tryz.func8 rfl rfl
@[simp] theorem callV_9 {args : List Value} : callV (cfg gl ng) 9 args m = .enter 9 args m := callV_of (fn := Tryz.f9) Tryz.func9 rfl rfl
@[simp] theorem callV_10 {args : List Value} : callV (cfg gl ng) 10 args m = .enter 10 args m := callV_of (fn := Tryz.f10) Tryz.func10 rfl rfl
@[simp] theorem callV_11 {args : List Value} : callV (cfg gl ng) 11 args m = .enter 11 args m := callV_of (fn := Tryz.f11) Tryz.func11 rfl rfl
@[simp] theorem callV_12 {args : List Value} : callV (cfg gl ng) 12 args m = .enter 12 args m := callV_of (fn := Tryz.f12) Tryz.func12 rfl rfl
@[simp] theorem callV_13 {args : List Value} : callV (cfg gl ng) 13 args m = .enter 13 args m := callV_of (fn := Tryz.f13) Tryz.func13 rfl rfl
@[simp] theorem callV_14 {args : List Value} : callV (cfg gl ng) 14 args m = .enter 14 args m := callV_of (fn := Tryz.f14) Tryz.func14 rfl rfl
@[simp] theorem callV_15 {args : List Value} : callV (cfg gl ng) 15 args m = .enter 15 args m := callV_of (fn := Tryz.f15) Tryz.func15 rfl rfl
@[simp] theorem callV_16 {args : List Value} : callV (cfg gl ng) 16 args m = .enter 16 args m := callV_of (fn := Tryz.f16) Tryz.func16 rfl rfl
@[simp] theorem callV_25 {args : List Value} : callV (cfg gl ng) 25 args m = .enter 25 args m := callV_of (fn := Tryz.f25) Tryz.func25 rfl rfl
@[simp] theorem callV_26 {args : List Value} : callV (cfg gl ng) 26 args m = .enter 26 args m := callV_of (fn := Tryz.f26) Tryz.func26 rfl rfl
@[simp] theorem callV_27 {args : List Value} : callV (cfg gl ng) 27 args m = .enter 27 args m := callV_of (fn := Tryz.f27) Tryz.func27 rfl rfl
@[simp] theorem callV_32 {args : List Value} : callV (cfg gl ng) 32 args m = .enter 32 args m := callV_of (fn := Tryz.f32) Tryz.func32 rfl rfl
@[simp] theorem callV_33 {args : List Value} : callV (cfg gl ng) 33 args m = .enter 33 args m := callV_of (fn := Tryz.f33) Tryz.func33 rfl rfl
@[simp] theorem callV_34 {args : List Value} : callV (cfg gl ng) 34 args m = .enter 34 args m := callV_of (fn := Tryz.f34) Tryz.func34 rfl rfl
@[simp] theorem callV_35 {args : List Value} : callV (cfg gl ng) 35 args m = .enter 35 args m := callV_of (fn := Tryz.f35) Tryz.func35 rfl rfl
@[simp] theorem callV_36 {args : List Value} : callV (cfg gl ng) 36 args m = .enter 36 args m := callV_of (fn := Tryz.f36) Tryz.func36 rfl rfl
@[simp] theorem callV_37 {args : List Value} : callV (cfg gl ng) 37 args m = .enter 37 args m := callV_of (fn := Tryz.f37) Tryz.func37 rfl rfl
@[simp] theorem callV_38 {args : List Value} : callV (cfg gl ng) 38 args m = .enter 38 args m := callV_of (fn := Tryz.f38) Tryz.func38 rfl rfl
@[simp] theorem callV_39 {args : List Value} : callV (cfg gl ng) 39 args m = .enter 39 args m := callV_of (fn := Tryz.f39) Tryz.func39 rfl rfl
@[simp] theorem callV_40 {args : List Value} : callV (cfg gl ng) 40 args m = .enter 40 args m := callV_of (fn := Tryz.f40) Tryz.func40 rfl rfl
@[simp] theorem callV_41 {args : List Value} : callV (cfg gl ng) 41 args m = .enter 41 args m := callV_of (fn := Tryz.f41) Tryz.func41 rfl rfl
@[simp] theorem callV_23 {args : List Value} : callV (cfg gl ng) 23 args m = .enter 23 args m := callV_of (fn := Tryz.f23) Tryz.func23 rfl rfl
@[simp] theorem callV_49 {args : List Value} : callV (cfg gl ng) 49 args m = .enter 49 args m := callV_of (fn := Tryz.f49) Tryz.func49 rfl rfl
@[simp] theorem callV_54 {args : List Value} : callV (cfg gl ng) 54 args m = .enter 54 args m := callV_of (fn := Tryz.f54) Tryz.func54 rfl rfl
@[simp] theorem callV_55 {args : List Value} : callV (cfg gl ng) 55 args m = .enter 55 args m := callV_of (fn := Tryz.f55) Tryz.func55 rfl rfl
@[simp] theorem callV_29 {args : List Value} : callV (cfg gl ng) 29 args m = .enter 29 args m := callV_of (fn := Tryz.f29) Tryz.func29 rfl rfl
@[simp] theorem callV_31 {args : List Value} : callV (cfg gl ng) 31 args m = .enter 31 args m := callV_of (fn := Tryz.f31) Tryz.func31 rfl rfl
@[simp] theorem callV_30 {args : List Value} : callV (cfg gl ng) 30 args m = .enter 30 args m := callV_of (fn := Tryz.f30) Tryz.func30 rfl rfl
@[simp] theorem callV_42 {args : List Value} : callV (cfg gl ng) 42 args m = .enter 42 args m := callV_of (fn := Tryz.f42) Tryz.func42 rfl rfl
@[simp] theorem callV_57 {args : List Value} : callV (cfg gl ng) 57 args m = .enter 57 args m := callV_of (fn := Tryz.f57) Tryz.func57 rfl rfl
@[simp] theorem callV_58 {args : List Value} : callV (cfg gl ng) 58 args m = .enter 58 args m := callV_of (fn := Tryz.f58) Tryz.func58 rfl rfl
@[simp] theorem callV_44 {args : List Value} : callV (cfg gl ng) 44 args m = .enter 44 args m := callV_of (fn := Tryz.f44) Tryz.func44 rfl rfl
@[simp] theorem callV_59 {args : List Value} : callV (cfg gl ng) 59 args m = .enter 59 args m := callV_of (fn := Tryz.f59) Tryz.func59 rfl rfl
@[simp] theorem callV_43 {args : List Value} : callV (cfg gl ng) 43 args m = .enter 43 args m := callV_of (fn := Tryz.f43) Tryz.func43 rfl rfl
@[simp] theorem callV_45 {args : List Value} : callV (cfg gl ng) 45 args m = .enter 45 args m := callV_of (fn := Tryz.f45) Tryz.func45 rfl rfl
@[simp] theorem callV_62 {args : List Value} : callV (cfg gl ng) 62 args m = .enter 62 args m := callV_of (fn := Tryz.f62) Tryz.func62 rfl rfl
@[simp] theorem callV_64 {args : List Value} : callV (cfg gl ng) 64 args m = .enter 64 args m := callV_of (fn := Tryz.f64) Tryz.func64 rfl rfl
@[simp] theorem callV_65 {args : List Value} : callV (cfg gl ng) 65 args m = .enter 65 args m := callV_of (fn := Tryz.f65) Tryz.func65 rfl rfl
@[simp] theorem callV_66 {args : List Value} : callV (cfg gl ng) 66 args m = .enter 66 args m := callV_of (fn := Tryz.f66) Tryz.func66 rfl rfl
@[simp] theorem callV_67 {args : List Value} : callV (cfg gl ng) 67 args m = .enter 67 args m := callV_of (fn := Tryz.f67) Tryz.func67 rfl rfl
@[simp] theorem callV_68 {args : List Value} : callV (cfg gl ng) 68 args m = .enter 68 args m := callV_of (fn := Tryz.f68) Tryz.func68 rfl rfl
@[simp] theorem callV_69 {args : List Value} : callV (cfg gl ng) 69 args m = .enter 69 args m := callV_of (fn := Tryz.f69) Tryz.func69 rfl rfl
@[simp] theorem callV_70 {args : List Value} : callV (cfg gl ng) 70 args m = .enter 70 args m := callV_of (fn := Tryz.f70) Tryz.func70 rfl rfl
@[simp] theorem callV_71 {args : List Value} : callV (cfg gl ng) 71 args m = .enter 71 args m := callV_of (fn := Tryz.f71) Tryz.func71 rfl rfl
@[simp] theorem callV_72 {args : List Value} : callV (cfg gl ng) 72 args m = .enter 72 args m := callV_of (fn := Tryz.f72) Tryz.func72 rfl rfl
@[simp] theorem callV_74 {args : List Value} : callV (cfg gl ng) 74 args m = .enter 74 args m := callV_of (fn := Tryz.f74) Tryz.func74 rfl rfl
@[simp] theorem callV_46 {args : List Value} : callV (cfg gl ng) 46 args m = .enter 46 args m := callV_of (fn := Tryz.f46) Tryz.func46 rfl rfl
@[simp] theorem callV_50 {args : List Value} : callV (cfg gl ng) 50 args m = .enter 50 args m := callV_of (fn := Tryz.f50) Tryz.func50 rfl rfl
@[simp] theorem callV_47 {args : List Value} : callV (cfg gl ng) 47 args m = .enter 47 args m := callV_of (fn := Tryz.f47) Tryz.func47 rfl rfl
@[simp] theorem callV_83 {args : List Value} : callV (cfg gl ng) 83 args m = .enter 83 args m := callV_of (fn := Tryz.f83) Tryz.func83 rfl rfl
@[simp] theorem callV_61 {args : List Value} : callV (cfg gl ng) 61 args m = .enter 61 args m := callV_of (fn := Tryz.f61) Tryz.func61 rfl rfl
@[simp] theorem callV_48 {args : List Value} : callV (cfg gl ng) 48 args m = .enter 48 args m := callV_of (fn := Tryz.f48) Tryz.func48 rfl rfl
@[simp] theorem callV_75 {args : List Value} : callV (cfg gl ng) 75 args m = .enter 75 args m := callV_of (fn := Tryz.f75) Tryz.func75 rfl rfl
@[simp] theorem callV_76 {args : List Value} : callV (cfg gl ng) 76 args m = .enter 76 args m := callV_of (fn := Tryz.f76) Tryz.func76 rfl rfl
@[simp] theorem callV_85 {args : List Value} : callV (cfg gl ng) 85 args m = .enter 85 args m := callV_of (fn := Tryz.f85) Tryz.func85 rfl rfl
@[simp] theorem callV_86 {args : List Value} : callV (cfg gl ng) 86 args m = .enter 86 args m := callV_of (fn := Tryz.f86) Tryz.func86 rfl rfl
@[simp] theorem callV_87 {args : List Value} : callV (cfg gl ng) 87 args m = .enter 87 args m := callV_of (fn := Tryz.f87) Tryz.func87 rfl rfl
@[simp] theorem callV_92 {args : List Value} : callV (cfg gl ng) 92 args m = .enter 92 args m := callV_of (fn := Tryz.f92) Tryz.func92 rfl rfl
@[simp] theorem callV_93 {x : Value} : callV (cfg gl ng) 93 [x] m = .value x m := by kernel_rfl
theorem iy39 {v : Value} {b0 o0 n i : Nat} (h : SliceAt v n b0 o0) (hi : i < n) {m : Mem} : opIndexAddr (cfg gl ng).toEnv 39 v (.int .i64 i) m = .value (.pointer (some ⟨b0, o0 + i, none⟩)) m := by
 rcases h with ⟨rfl, rfl⟩ | ⟨c, rfl⟩
 · omega
 exact ix39 hi
theorem iy22 {v : Value} {b0 o0 n i : Nat} (h : SliceAt v n b0 o0) (hi : i < n) {m : Mem} : opIndexAddr (cfg gl ng).toEnv 22 v (.int .i64 i) m = .value (.pointer (some ⟨b0, o0 + 4 * i, none⟩)) m := by
 rcases h with ⟨rfl, rfl⟩ | ⟨c, rfl⟩
 · omega
 exact ix22 hi
theorem iy49 {v : Value} {b0 o0 n i : Nat} (h : SliceAt v n b0 o0) (hi : i < n) {m : Mem} : opIndexAddr (cfg gl ng).toEnv 49 v (.int .i64 i) m = .value (.pointer (some ⟨b0, o0 + 3 * i, none⟩)) m := by
 rcases h with ⟨rfl, rfl⟩ | ⟨c, rfl⟩
 · omega
 exact ix49 hi
theorem iy57 {v : Value} {b0 o0 n i : Nat} (h : SliceAt v n b0 o0) (hi : i < n) {m : Mem} : opIndexAddr (cfg gl ng).toEnv 57 v (.int .i64 i) m = .value (.pointer (some ⟨b0, o0 + i, none⟩)) m := by
 rcases h with ⟨rfl, rfl⟩ | ⟨c, rfl⟩
 · omega
 exact ix57 hi
theorem iy28 {v : Value} {b0 o0 n i : Nat} (h : SliceAt v n b0 o0) (hi : i < n) {m : Mem} : opIndexAddr (cfg gl ng).toEnv 28 v (.int .i64 i) m = .value (.pointer (some ⟨b0, o0 + i, none⟩)) m := by
 rcases h with ⟨rfl, rfl⟩ | ⟨c, rfl⟩
 · omega
 exact ix28 hi
theorem iy25 {v : Value} {b0 o0 n i : Nat} (h : SliceAt v n b0 o0) (hi : i < n) {m : Mem} : opIndexAddr (cfg gl ng).toEnv 25 v (.int .i64 i) m = .value (.pointer (some ⟨b0, o0 + i, none⟩)) m := by
 rcases h with ⟨rfl, rfl⟩ | ⟨c, rfl⟩
 · omega
 exact ix25 hi
theorem iy59 {v : Value} {b0 o0 n i : Nat} (h : SliceAt v n b0 o0) (hi : i < n) {m : Mem} : opIndexAddr (cfg gl ng).toEnv 59 v (.int .i64 i) m = .value (.pointer (some ⟨b0, o0 + 3 * i, none⟩)) m := by
 rcases h with ⟨rfl, rfl⟩ | ⟨c, rfl⟩
 · omega
 exact ix59 hi
theorem iy53 {v : Value} {b0 o0 n i : Nat} (h : SliceAt v n b0 o0) (hi : i < n) {m : Mem} : opIndexAddr (cfg gl ng).toEnv 53 v (.int .i64 i) m = .value (.pointer (some ⟨b0, o0 + i, none⟩)) m := by
 rcases h with ⟨rfl, rfl⟩ | ⟨c, rfl⟩
 · omega
 exact ix53 hi
theorem iy83 {v : Value} {b0 o0 n i : Nat} (h : SliceAt v n b0 o0) (hi : i < n) {m : Mem} : opIndexAddr (cfg gl ng).toEnv 83 v (.int .i64 i) m = .value (.pointer (some ⟨b0, o0 + 8 * i, none⟩)) m := by
 rcases h with ⟨rfl, rfl⟩ | ⟨c, rfl⟩
 · omega
 exact ix83 hi
theorem iy108 {v : Value} {b0 o0 n i : Nat} (h : SliceAt v n b0 o0) (hi : i < n) {m : Mem} : opIndexAddr (cfg gl ng).toEnv 108 v (.int .i64 i) m = .value (.pointer (some ⟨b0, o0 + 8 * i, none⟩)) m := by
 rcases h with ⟨rfl, rfl⟩ | ⟨c, rfl⟩
 · omega
 exact ix108 hi
theorem iy38 {v : Value} {b0 o0 n i : Nat} (h : SliceAt v n b0 o0) (hi : i < n) {m : Mem} : opIndexAddr (cfg gl ng).toEnv 38 v (.int .i64 i) m = .value (.pointer (some ⟨b0, o0 + i, none⟩)) m := by
 rcases h with ⟨rfl, rfl⟩ | ⟨c, rfl⟩
 · omega
 exact ix38 hi
theorem ly38 {v : Value} {b0 o0 n : Nat} (h : SliceAt v n b0 o0) {m : Mem} : opLen (cfg gl ng) 38 v m = .value (.int .i64 n) m := by
 rcases h with ⟨rfl, rfl⟩ | ⟨c, rfl⟩
 · exact len38
 exact len38
theorem ly39 {v : Value} {b0 o0 n : Nat} (h : SliceAt v n b0 o0) {m : Mem} : opLen (cfg gl ng) 39 v m = .value (.int .i64 n) m := by
 rcases h with ⟨rfl, rfl⟩ | ⟨c, rfl⟩
 · exact len39
 exact len39
theorem ly22 {v : Value} {b0 o0 n : Nat} (h : SliceAt v n b0 o0) {m : Mem} : opLen (cfg gl ng) 22 v m = .value (.int .i64 n) m := by
 rcases h with ⟨rfl, rfl⟩ | ⟨c, rfl⟩
 · exact len22
 exact len22
theorem ly49 {v : Value} {b0 o0 n : Nat} (h : SliceAt v n b0 o0) {m : Mem} : opLen (cfg gl ng) 49 v m = .value (.int .i64 n) m := by
 rcases h with ⟨rfl, rfl⟩ | ⟨c, rfl⟩
 · exact len49
 exact len49
theorem ly53 {v : Value} {b0 o0 n : Nat} (h : SliceAt v n b0 o0) {m : Mem} : opLen (cfg gl ng) 53 v m = .value (.int .i64 n) m := by
 rcases h with ⟨rfl, rfl⟩ | ⟨c, rfl⟩
 · exact len53
 exact len53
theorem ly57 {v : Value} {b0 o0 n : Nat} (h : SliceAt v n b0 o0) {m : Mem} : opLen (cfg gl ng) 57 v m = .value (.int .i64 n) m := by
 rcases h with ⟨rfl, rfl⟩ | ⟨c, rfl⟩
 · exact len57
 exact len57
theorem ly28 {v : Value} {b0 o0 n : Nat} (h : SliceAt v n b0 o0) {m : Mem} : opLen (cfg gl ng) 28 v m = .value (.int .i64 n) m := by
 rcases h with ⟨rfl, rfl⟩ | ⟨c, rfl⟩
 · exact len28
 exact len28
theorem ly25 {v : Value} {b0 o0 n : Nat} (h : SliceAt v n b0 o0) {m : Mem} : opLen (cfg gl ng) 25 v m = .value (.int .i64 n) m := by
 rcases h with ⟨rfl, rfl⟩ | ⟨c, rfl⟩
 · exact len25
 exact len25
theorem ly59 {v : Value} {b0 o0 n : Nat} (h : SliceAt v n b0 o0) {m : Mem} : opLen (cfg gl ng) 59 v m = .value (.int .i64 n) m := by
 rcases h with ⟨rfl, rfl⟩ | ⟨c, rfl⟩
 · exact len59
 exact len59
theorem ly83 {v : Value} {b0 o0 n : Nat} (h : SliceAt v n b0 o0) {m : Mem} : opLen (cfg gl ng) 83 v m = .value (.int .i64 n) m := by
 rcases h with ⟨rfl, rfl⟩ | ⟨c, rfl⟩
 · exact len83
 exact len83
theorem ly108 {v : Value} {b0 o0 n : Nat} (h : SliceAt v n b0 o0) {m : Mem} : opLen (cfg gl ng) 108 v m = .value (.int .i64 n) m := by
 rcases h with ⟨rfl, rfl⟩ | ⟨c, rfl⟩
 · exact len108
 exact len108
theorem ly117 {v : Value} {b0 o0 n : Nat} (h : SliceAt v n b0 o0) {m : Mem} : opLen (cfg gl ng) 117 v m = .value (.int .i64 n) m := by
 rcases h with ⟨rfl, rfl⟩ | ⟨c, rfl⟩
 · exact len117
 exact len117
end K
end Go.Proofs.Lw
