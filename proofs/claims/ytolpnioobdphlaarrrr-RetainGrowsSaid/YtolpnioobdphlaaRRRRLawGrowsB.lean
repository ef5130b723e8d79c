/- RetainGrows: where the law turns a draw down, and the whole walk (printed by gen_growsb.py). -/
import Derived.Test.YtolpnioobdphlaaRRRRLawGrowsW
namespace Go.Proofs.YtolpnioobdphlaaRRRR
open Go.RowKit Retain

set_option maxHeartbeats 2000000 in
set_option maxRecDepth 100000 in
theorem grows_bad0 (A : Option Addr) (n c : Nat) (D W M more today later : Int) (w : World)  (h : 30 < n) :
    Calls Try.prog 6 #[.slice A n c, .agg #[.int .i64 D, .int .i64 W, .int .i64 M], .int .i64 more, .int .i64 today, .int .i64 later] w fun e w' => e = .returned (.bool true) ∧ Below w.heap.size w w' := by
  have B0 : Below w.heap.size w (w.alloc (.cells #[.int .i64 D, .int .i64 W, .int .i64 M] 31)) := (Below.refl _ _).alloc (Nat.le_refl _) _
  have c0 : (w.alloc (.cells #[.int .i64 D, .int .i64 W, .int .i64 M] 31)).cell? ⟨w.heap.size, 0, none⟩ = some (.int .i64 D) := World.cell?_alloc_at _ _ _ _ rfl
  have c1 : (w.alloc (.cells #[.int .i64 D, .int .i64 W, .int .i64 M] 31)).cell? ⟨w.heap.size, 1, none⟩ = some (.int .i64 W) := World.cell?_alloc_at _ _ _ _ rfl
  have c2 : (w.alloc (.cells #[.int .i64 D, .int .i64 W, .int .i64 M] 31)).cell? ⟨w.heap.size, 2, none⟩ = some (.int .i64 M) := World.cell?_alloc_at _ _ _ _ rfl
  have s0 : w.heap.size < (w.alloc (.cells #[.int .i64 D, .int .i64 W, .int .i64 M] 31)).heap.size := by simp
  go_enter Try.func6, Try.ntmps6
  go_wp2_with fail
  refine (alive_any _).mono ?_
  rintro e w1 ⟨rfl, HB⟩
  have d0 := ((bcell HB).1 _ 0 s0).trans c0
  have d1 := ((bcell HB).1 _ 1 s0).trans c1
  have d2 := ((bcell HB).1 _ 2 s0).trans c2
  have B1 := B0.trans (HB.mono (Nat.le_of_lt s0))
  clear HB B0 c0 c1 c2
  go_wp2
  go_ret
  exact ⟨rfl, B1⟩
set_option maxHeartbeats 2000000 in
set_option maxRecDepth 100000 in
theorem grows_bad1 (A : Option Addr) (n c : Nat) (D W M more today later : Int) (w : World) (h0 : n ≤ 30) (h : more < 0) :
    Calls Try.prog 6 #[.slice A n c, .agg #[.int .i64 D, .int .i64 W, .int .i64 M], .int .i64 more, .int .i64 today, .int .i64 later] w fun e w' => e = .returned (.bool true) ∧ Below w.heap.size w w' := by
  have B0 : Below w.heap.size w (w.alloc (.cells #[.int .i64 D, .int .i64 W, .int .i64 M] 31)) := (Below.refl _ _).alloc (Nat.le_refl _) _
  have c0 : (w.alloc (.cells #[.int .i64 D, .int .i64 W, .int .i64 M] 31)).cell? ⟨w.heap.size, 0, none⟩ = some (.int .i64 D) := World.cell?_alloc_at _ _ _ _ rfl
  have c1 : (w.alloc (.cells #[.int .i64 D, .int .i64 W, .int .i64 M] 31)).cell? ⟨w.heap.size, 1, none⟩ = some (.int .i64 W) := World.cell?_alloc_at _ _ _ _ rfl
  have c2 : (w.alloc (.cells #[.int .i64 D, .int .i64 W, .int .i64 M] 31)).cell? ⟨w.heap.size, 2, none⟩ = some (.int .i64 M) := World.cell?_alloc_at _ _ _ _ rfl
  have s0 : w.heap.size < (w.alloc (.cells #[.int .i64 D, .int .i64 W, .int .i64 M] 31)).heap.size := by simp
  go_enter Try.func6, Try.ntmps6
  go_wp2_with fail
  refine (alive_any _).mono ?_
  rintro e w1 ⟨rfl, HB⟩
  have d0 := ((bcell HB).1 _ 0 s0).trans c0
  have d1 := ((bcell HB).1 _ 1 s0).trans c1
  have d2 := ((bcell HB).1 _ 2 s0).trans c2
  have B1 := B0.trans (HB.mono (Nat.le_of_lt s0))
  clear HB B0 c0 c1 c2
  go_wp2
  go_ret
  exact ⟨rfl, B1⟩
set_option maxHeartbeats 2000000 in
set_option maxRecDepth 100000 in
theorem grows_bad2 (A : Option Addr) (n c : Nat) (D W M more today later : Int) (w : World) (h0 : n ≤ 30) (h1 : 0 ≤ more) (h : 100 < more) :
    Calls Try.prog 6 #[.slice A n c, .agg #[.int .i64 D, .int .i64 W, .int .i64 M], .int .i64 more, .int .i64 today, .int .i64 later] w fun e w' => e = .returned (.bool true) ∧ Below w.heap.size w w' := by
  have B0 : Below w.heap.size w (w.alloc (.cells #[.int .i64 D, .int .i64 W, .int .i64 M] 31)) := (Below.refl _ _).alloc (Nat.le_refl _) _
  have c0 : (w.alloc (.cells #[.int .i64 D, .int .i64 W, .int .i64 M] 31)).cell? ⟨w.heap.size, 0, none⟩ = some (.int .i64 D) := World.cell?_alloc_at _ _ _ _ rfl
  have c1 : (w.alloc (.cells #[.int .i64 D, .int .i64 W, .int .i64 M] 31)).cell? ⟨w.heap.size, 1, none⟩ = some (.int .i64 W) := World.cell?_alloc_at _ _ _ _ rfl
  have c2 : (w.alloc (.cells #[.int .i64 D, .int .i64 W, .int .i64 M] 31)).cell? ⟨w.heap.size, 2, none⟩ = some (.int .i64 M) := World.cell?_alloc_at _ _ _ _ rfl
  have s0 : w.heap.size < (w.alloc (.cells #[.int .i64 D, .int .i64 W, .int .i64 M] 31)).heap.size := by simp
  go_enter Try.func6, Try.ntmps6
  go_wp2_with fail
  refine (alive_any _).mono ?_
  rintro e w1 ⟨rfl, HB⟩
  have d0 := ((bcell HB).1 _ 0 s0).trans c0
  have d1 := ((bcell HB).1 _ 1 s0).trans c1
  have d2 := ((bcell HB).1 _ 2 s0).trans c2
  have B1 := B0.trans (HB.mono (Nat.le_of_lt s0))
  clear HB B0 c0 c1 c2
  go_wp2
  go_ret
  exact ⟨rfl, B1⟩
set_option maxHeartbeats 2000000 in
set_option maxRecDepth 100000 in
theorem grows_bad3 (A : Option Addr) (n c : Nat) (D W M more today later : Int) (w : World) (h0 : n ≤ 30) (h1 : 0 ≤ more) (h2 : more ≤ 100) (h : today < 0) :
    Calls Try.prog 6 #[.slice A n c, .agg #[.int .i64 D, .int .i64 W, .int .i64 M], .int .i64 more, .int .i64 today, .int .i64 later] w fun e w' => e = .returned (.bool true) ∧ Below w.heap.size w w' := by
  have B0 : Below w.heap.size w (w.alloc (.cells #[.int .i64 D, .int .i64 W, .int .i64 M] 31)) := (Below.refl _ _).alloc (Nat.le_refl _) _
  have c0 : (w.alloc (.cells #[.int .i64 D, .int .i64 W, .int .i64 M] 31)).cell? ⟨w.heap.size, 0, none⟩ = some (.int .i64 D) := World.cell?_alloc_at _ _ _ _ rfl
  have c1 : (w.alloc (.cells #[.int .i64 D, .int .i64 W, .int .i64 M] 31)).cell? ⟨w.heap.size, 1, none⟩ = some (.int .i64 W) := World.cell?_alloc_at _ _ _ _ rfl
  have c2 : (w.alloc (.cells #[.int .i64 D, .int .i64 W, .int .i64 M] 31)).cell? ⟨w.heap.size, 2, none⟩ = some (.int .i64 M) := World.cell?_alloc_at _ _ _ _ rfl
  have s0 : w.heap.size < (w.alloc (.cells #[.int .i64 D, .int .i64 W, .int .i64 M] 31)).heap.size := by simp
  go_enter Try.func6, Try.ntmps6
  go_wp2_with fail
  refine (alive_any _).mono ?_
  rintro e w1 ⟨rfl, HB⟩
  have d0 := ((bcell HB).1 _ 0 s0).trans c0
  have d1 := ((bcell HB).1 _ 1 s0).trans c1
  have d2 := ((bcell HB).1 _ 2 s0).trans c2
  have B1 := B0.trans (HB.mono (Nat.le_of_lt s0))
  clear HB B0 c0 c1 c2
  go_wp2
  go_ret
  exact ⟨rfl, B1⟩
set_option maxHeartbeats 2000000 in
set_option maxRecDepth 100000 in
theorem grows_bad4 (A : Option Addr) (n c : Nat) (D W M more today later : Int) (w : World) (h0 : n ≤ 30) (h1 : 0 ≤ more) (h2 : more ≤ 100) (h3 : 0 ≤ today) (h : later < 0) :
    Calls Try.prog 6 #[.slice A n c, .agg #[.int .i64 D, .int .i64 W, .int .i64 M], .int .i64 more, .int .i64 today, .int .i64 later] w fun e w' => e = .returned (.bool true) ∧ Below w.heap.size w w' := by
  have B0 : Below w.heap.size w (w.alloc (.cells #[.int .i64 D, .int .i64 W, .int .i64 M] 31)) := (Below.refl _ _).alloc (Nat.le_refl _) _
  have c0 : (w.alloc (.cells #[.int .i64 D, .int .i64 W, .int .i64 M] 31)).cell? ⟨w.heap.size, 0, none⟩ = some (.int .i64 D) := World.cell?_alloc_at _ _ _ _ rfl
  have c1 : (w.alloc (.cells #[.int .i64 D, .int .i64 W, .int .i64 M] 31)).cell? ⟨w.heap.size, 1, none⟩ = some (.int .i64 W) := World.cell?_alloc_at _ _ _ _ rfl
  have c2 : (w.alloc (.cells #[.int .i64 D, .int .i64 W, .int .i64 M] 31)).cell? ⟨w.heap.size, 2, none⟩ = some (.int .i64 M) := World.cell?_alloc_at _ _ _ _ rfl
  have s0 : w.heap.size < (w.alloc (.cells #[.int .i64 D, .int .i64 W, .int .i64 M] 31)).heap.size := by simp
  go_enter Try.func6, Try.ntmps6
  go_wp2_with fail
  refine (alive_any _).mono ?_
  rintro e w1 ⟨rfl, HB⟩
  have d0 := ((bcell HB).1 _ 0 s0).trans c0
  have d1 := ((bcell HB).1 _ 1 s0).trans c1
  have d2 := ((bcell HB).1 _ 2 s0).trans c2
  have B1 := B0.trans (HB.mono (Nat.le_of_lt s0))
  clear HB B0 c0 c1 c2
  go_wp2
  go_ret
  exact ⟨rfl, B1⟩
set_option maxHeartbeats 2000000 in
set_option maxRecDepth 100000 in
theorem grows_bad5 (A : Option Addr) (n c : Nat) (D W M more today later : Int) (w : World) (h0 : n ≤ 30) (h1 : 0 ≤ more) (h2 : more ≤ 100) (h3 : 0 ≤ today) (h4 : 0 ≤ later) (h : 1073741824 < today) :
    Calls Try.prog 6 #[.slice A n c, .agg #[.int .i64 D, .int .i64 W, .int .i64 M], .int .i64 more, .int .i64 today, .int .i64 later] w fun e w' => e = .returned (.bool true) ∧ Below w.heap.size w w' := by
  have B0 : Below w.heap.size w (w.alloc (.cells #[.int .i64 D, .int .i64 W, .int .i64 M] 31)) := (Below.refl _ _).alloc (Nat.le_refl _) _
  have c0 : (w.alloc (.cells #[.int .i64 D, .int .i64 W, .int .i64 M] 31)).cell? ⟨w.heap.size, 0, none⟩ = some (.int .i64 D) := World.cell?_alloc_at _ _ _ _ rfl
  have c1 : (w.alloc (.cells #[.int .i64 D, .int .i64 W, .int .i64 M] 31)).cell? ⟨w.heap.size, 1, none⟩ = some (.int .i64 W) := World.cell?_alloc_at _ _ _ _ rfl
  have c2 : (w.alloc (.cells #[.int .i64 D, .int .i64 W, .int .i64 M] 31)).cell? ⟨w.heap.size, 2, none⟩ = some (.int .i64 M) := World.cell?_alloc_at _ _ _ _ rfl
  have s0 : w.heap.size < (w.alloc (.cells #[.int .i64 D, .int .i64 W, .int .i64 M] 31)).heap.size := by simp
  go_enter Try.func6, Try.ntmps6
  go_wp2_with fail
  refine (alive_any _).mono ?_
  rintro e w1 ⟨rfl, HB⟩
  have d0 := ((bcell HB).1 _ 0 s0).trans c0
  have d1 := ((bcell HB).1 _ 1 s0).trans c1
  have d2 := ((bcell HB).1 _ 2 s0).trans c2
  have B1 := B0.trans (HB.mono (Nat.le_of_lt s0))
  clear HB B0 c0 c1 c2
  go_wp2
  go_ret
  exact ⟨rfl, B1⟩
set_option maxHeartbeats 2000000 in
set_option maxRecDepth 100000 in
theorem grows_bad6 (A : Option Addr) (n c : Nat) (D W M more today later : Int) (w : World) (h0 : n ≤ 30) (h1 : 0 ≤ more) (h2 : more ≤ 100) (h3 : 0 ≤ today) (h4 : 0 ≤ later) (h5 : today ≤ 1073741824) (h : 1073741824 < later) :
    Calls Try.prog 6 #[.slice A n c, .agg #[.int .i64 D, .int .i64 W, .int .i64 M], .int .i64 more, .int .i64 today, .int .i64 later] w fun e w' => e = .returned (.bool true) ∧ Below w.heap.size w w' := by
  have B0 : Below w.heap.size w (w.alloc (.cells #[.int .i64 D, .int .i64 W, .int .i64 M] 31)) := (Below.refl _ _).alloc (Nat.le_refl _) _
  have c0 : (w.alloc (.cells #[.int .i64 D, .int .i64 W, .int .i64 M] 31)).cell? ⟨w.heap.size, 0, none⟩ = some (.int .i64 D) := World.cell?_alloc_at _ _ _ _ rfl
  have c1 : (w.alloc (.cells #[.int .i64 D, .int .i64 W, .int .i64 M] 31)).cell? ⟨w.heap.size, 1, none⟩ = some (.int .i64 W) := World.cell?_alloc_at _ _ _ _ rfl
  have c2 : (w.alloc (.cells #[.int .i64 D, .int .i64 W, .int .i64 M] 31)).cell? ⟨w.heap.size, 2, none⟩ = some (.int .i64 M) := World.cell?_alloc_at _ _ _ _ rfl
  have s0 : w.heap.size < (w.alloc (.cells #[.int .i64 D, .int .i64 W, .int .i64 M] 31)).heap.size := by simp
  go_enter Try.func6, Try.ntmps6
  go_wp2_with fail
  refine (alive_any _).mono ?_
  rintro e w1 ⟨rfl, HB⟩
  have d0 := ((bcell HB).1 _ 0 s0).trans c0
  have d1 := ((bcell HB).1 _ 1 s0).trans c1
  have d2 := ((bcell HB).1 _ 2 s0).trans c2
  have B1 := B0.trans (HB.mono (Nat.le_of_lt s0))
  clear HB B0 c0 c1 c2
  go_wp2
  go_ret
  exact ⟨rfl, B1⟩
set_option maxHeartbeats 2000000 in
set_option maxRecDepth 100000 in
theorem grows_bad7 (A : Option Addr) (n c : Nat) (D W M more today later : Int) (w : World) (h0 : n ≤ 30) (h1 : 0 ≤ more) (h2 : more ≤ 100) (h3 : 0 ≤ today) (h4 : 0 ≤ later) (h5 : today ≤ 1073741824) (h6 : later ≤ 1073741824) (h : 1073741824 < D) :
    Calls Try.prog 6 #[.slice A n c, .agg #[.int .i64 D, .int .i64 W, .int .i64 M], .int .i64 more, .int .i64 today, .int .i64 later] w fun e w' => e = .returned (.bool true) ∧ Below w.heap.size w w' := by
  have B0 : Below w.heap.size w (w.alloc (.cells #[.int .i64 D, .int .i64 W, .int .i64 M] 31)) := (Below.refl _ _).alloc (Nat.le_refl _) _
  have c0 : (w.alloc (.cells #[.int .i64 D, .int .i64 W, .int .i64 M] 31)).cell? ⟨w.heap.size, 0, none⟩ = some (.int .i64 D) := World.cell?_alloc_at _ _ _ _ rfl
  have c1 : (w.alloc (.cells #[.int .i64 D, .int .i64 W, .int .i64 M] 31)).cell? ⟨w.heap.size, 1, none⟩ = some (.int .i64 W) := World.cell?_alloc_at _ _ _ _ rfl
  have c2 : (w.alloc (.cells #[.int .i64 D, .int .i64 W, .int .i64 M] 31)).cell? ⟨w.heap.size, 2, none⟩ = some (.int .i64 M) := World.cell?_alloc_at _ _ _ _ rfl
  have s0 : w.heap.size < (w.alloc (.cells #[.int .i64 D, .int .i64 W, .int .i64 M] 31)).heap.size := by simp
  go_enter Try.func6, Try.ntmps6
  go_wp2_with fail
  refine (alive_any _).mono ?_
  rintro e w1 ⟨rfl, HB⟩
  have d0 := ((bcell HB).1 _ 0 s0).trans c0
  have d1 := ((bcell HB).1 _ 1 s0).trans c1
  have d2 := ((bcell HB).1 _ 2 s0).trans c2
  have B1 := B0.trans (HB.mono (Nat.le_of_lt s0))
  clear HB B0 c0 c1 c2
  go_wp2
  go_ret
  exact ⟨rfl, B1⟩
set_option maxHeartbeats 2000000 in
set_option maxRecDepth 100000 in
theorem grows_bad8 (A : Option Addr) (n c : Nat) (D W M more today later : Int) (w : World) (h0 : n ≤ 30) (h1 : 0 ≤ more) (h2 : more ≤ 100) (h3 : 0 ≤ today) (h4 : 0 ≤ later) (h5 : today ≤ 1073741824) (h6 : later ≤ 1073741824) (h7 : D ≤ 1073741824) (h : 1073741824 < W) :
    Calls Try.prog 6 #[.slice A n c, .agg #[.int .i64 D, .int .i64 W, .int .i64 M], .int .i64 more, .int .i64 today, .int .i64 later] w fun e w' => e = .returned (.bool true) ∧ Below w.heap.size w w' := by
  have B0 : Below w.heap.size w (w.alloc (.cells #[.int .i64 D, .int .i64 W, .int .i64 M] 31)) := (Below.refl _ _).alloc (Nat.le_refl _) _
  have c0 : (w.alloc (.cells #[.int .i64 D, .int .i64 W, .int .i64 M] 31)).cell? ⟨w.heap.size, 0, none⟩ = some (.int .i64 D) := World.cell?_alloc_at _ _ _ _ rfl
  have c1 : (w.alloc (.cells #[.int .i64 D, .int .i64 W, .int .i64 M] 31)).cell? ⟨w.heap.size, 1, none⟩ = some (.int .i64 W) := World.cell?_alloc_at _ _ _ _ rfl
  have c2 : (w.alloc (.cells #[.int .i64 D, .int .i64 W, .int .i64 M] 31)).cell? ⟨w.heap.size, 2, none⟩ = some (.int .i64 M) := World.cell?_alloc_at _ _ _ _ rfl
  have s0 : w.heap.size < (w.alloc (.cells #[.int .i64 D, .int .i64 W, .int .i64 M] 31)).heap.size := by simp
  go_enter Try.func6, Try.ntmps6
  go_wp2_with fail
  refine (alive_any _).mono ?_
  rintro e w1 ⟨rfl, HB⟩
  have d0 := ((bcell HB).1 _ 0 s0).trans c0
  have d1 := ((bcell HB).1 _ 1 s0).trans c1
  have d2 := ((bcell HB).1 _ 2 s0).trans c2
  have B1 := B0.trans (HB.mono (Nat.le_of_lt s0))
  clear HB B0 c0 c1 c2
  go_wp2
  go_ret
  exact ⟨rfl, B1⟩
set_option maxHeartbeats 2000000 in
set_option maxRecDepth 100000 in
theorem grows_bad9 (A : Option Addr) (n c : Nat) (D W M more today later : Int) (w : World) (h0 : n ≤ 30) (h1 : 0 ≤ more) (h2 : more ≤ 100) (h3 : 0 ≤ today) (h4 : 0 ≤ later) (h5 : today ≤ 1073741824) (h6 : later ≤ 1073741824) (h7 : D ≤ 1073741824) (h8 : W ≤ 1073741824) (h : 1073741824 < M) :
    Calls Try.prog 6 #[.slice A n c, .agg #[.int .i64 D, .int .i64 W, .int .i64 M], .int .i64 more, .int .i64 today, .int .i64 later] w fun e w' => e = .returned (.bool true) ∧ Below w.heap.size w w' := by
  have B0 : Below w.heap.size w (w.alloc (.cells #[.int .i64 D, .int .i64 W, .int .i64 M] 31)) := (Below.refl _ _).alloc (Nat.le_refl _) _
  have c0 : (w.alloc (.cells #[.int .i64 D, .int .i64 W, .int .i64 M] 31)).cell? ⟨w.heap.size, 0, none⟩ = some (.int .i64 D) := World.cell?_alloc_at _ _ _ _ rfl
  have c1 : (w.alloc (.cells #[.int .i64 D, .int .i64 W, .int .i64 M] 31)).cell? ⟨w.heap.size, 1, none⟩ = some (.int .i64 W) := World.cell?_alloc_at _ _ _ _ rfl
  have c2 : (w.alloc (.cells #[.int .i64 D, .int .i64 W, .int .i64 M] 31)).cell? ⟨w.heap.size, 2, none⟩ = some (.int .i64 M) := World.cell?_alloc_at _ _ _ _ rfl
  have s0 : w.heap.size < (w.alloc (.cells #[.int .i64 D, .int .i64 W, .int .i64 M] 31)).heap.size := by simp
  go_enter Try.func6, Try.ntmps6
  go_wp2_with fail
  refine (alive_any _).mono ?_
  rintro e w1 ⟨rfl, HB⟩
  have d0 := ((bcell HB).1 _ 0 s0).trans c0
  have d1 := ((bcell HB).1 _ 1 s0).trans c1
  have d2 := ((bcell HB).1 _ 2 s0).trans c2
  have B1 := B0.trans (HB.mono (Nat.le_of_lt s0))
  clear HB B0 c0 c1 c2
  go_wp2
  go_ret
  exact ⟨rfl, B1⟩
set_option maxHeartbeats 2000000 in
set_option maxRecDepth 100000 in
theorem grows_bad10 (A : Option Addr) (n c : Nat) (D W M more today later : Int) (w : World) (h0 : n ≤ 30) (h1 : 0 ≤ more) (h2 : more ≤ 100) (h3 : 0 ≤ today) (h4 : 0 ≤ later) (h5 : today ≤ 1073741824) (h6 : later ≤ 1073741824) (h7 : D ≤ 1073741824) (h8 : W ≤ 1073741824) (h9 : M ≤ 1073741824) (h : D < 0) :
    Calls Try.prog 6 #[.slice A n c, .agg #[.int .i64 D, .int .i64 W, .int .i64 M], .int .i64 more, .int .i64 today, .int .i64 later] w fun e w' => e = .returned (.bool true) ∧ Below w.heap.size w w' := by
  have B0 : Below w.heap.size w (w.alloc (.cells #[.int .i64 D, .int .i64 W, .int .i64 M] 31)) := (Below.refl _ _).alloc (Nat.le_refl _) _
  have c0 : (w.alloc (.cells #[.int .i64 D, .int .i64 W, .int .i64 M] 31)).cell? ⟨w.heap.size, 0, none⟩ = some (.int .i64 D) := World.cell?_alloc_at _ _ _ _ rfl
  have c1 : (w.alloc (.cells #[.int .i64 D, .int .i64 W, .int .i64 M] 31)).cell? ⟨w.heap.size, 1, none⟩ = some (.int .i64 W) := World.cell?_alloc_at _ _ _ _ rfl
  have c2 : (w.alloc (.cells #[.int .i64 D, .int .i64 W, .int .i64 M] 31)).cell? ⟨w.heap.size, 2, none⟩ = some (.int .i64 M) := World.cell?_alloc_at _ _ _ _ rfl
  have s0 : w.heap.size < (w.alloc (.cells #[.int .i64 D, .int .i64 W, .int .i64 M] 31)).heap.size := by simp
  go_enter Try.func6, Try.ntmps6
  go_wp2_with fail
  refine (alive_any _).mono ?_
  rintro e w1 ⟨rfl, HB⟩
  have d0 := ((bcell HB).1 _ 0 s0).trans c0
  have d1 := ((bcell HB).1 _ 1 s0).trans c1
  have d2 := ((bcell HB).1 _ 2 s0).trans c2
  have B1 := B0.trans (HB.mono (Nat.le_of_lt s0))
  clear HB B0 c0 c1 c2
  go_wp2
  go_ret
  exact ⟨rfl, B1⟩
set_option maxHeartbeats 2000000 in
set_option maxRecDepth 100000 in
theorem grows_bad11 (A : Option Addr) (n c : Nat) (D W M more today later : Int) (w : World) (h0 : n ≤ 30) (h1 : 0 ≤ more) (h2 : more ≤ 100) (h3 : 0 ≤ today) (h4 : 0 ≤ later) (h5 : today ≤ 1073741824) (h6 : later ≤ 1073741824) (h7 : D ≤ 1073741824) (h8 : W ≤ 1073741824) (h9 : M ≤ 1073741824) (h10 : 0 ≤ D) (h : W < 0) :
    Calls Try.prog 6 #[.slice A n c, .agg #[.int .i64 D, .int .i64 W, .int .i64 M], .int .i64 more, .int .i64 today, .int .i64 later] w fun e w' => e = .returned (.bool true) ∧ Below w.heap.size w w' := by
  have B0 : Below w.heap.size w (w.alloc (.cells #[.int .i64 D, .int .i64 W, .int .i64 M] 31)) := (Below.refl _ _).alloc (Nat.le_refl _) _
  have c0 : (w.alloc (.cells #[.int .i64 D, .int .i64 W, .int .i64 M] 31)).cell? ⟨w.heap.size, 0, none⟩ = some (.int .i64 D) := World.cell?_alloc_at _ _ _ _ rfl
  have c1 : (w.alloc (.cells #[.int .i64 D, .int .i64 W, .int .i64 M] 31)).cell? ⟨w.heap.size, 1, none⟩ = some (.int .i64 W) := World.cell?_alloc_at _ _ _ _ rfl
  have c2 : (w.alloc (.cells #[.int .i64 D, .int .i64 W, .int .i64 M] 31)).cell? ⟨w.heap.size, 2, none⟩ = some (.int .i64 M) := World.cell?_alloc_at _ _ _ _ rfl
  have s0 : w.heap.size < (w.alloc (.cells #[.int .i64 D, .int .i64 W, .int .i64 M] 31)).heap.size := by simp
  go_enter Try.func6, Try.ntmps6
  go_wp2_with fail
  refine (alive_any _).mono ?_
  rintro e w1 ⟨rfl, HB⟩
  have d0 := ((bcell HB).1 _ 0 s0).trans c0
  have d1 := ((bcell HB).1 _ 1 s0).trans c1
  have d2 := ((bcell HB).1 _ 2 s0).trans c2
  have B1 := B0.trans (HB.mono (Nat.le_of_lt s0))
  clear HB B0 c0 c1 c2
  go_wp2
  go_ret
  exact ⟨rfl, B1⟩
set_option maxHeartbeats 2000000 in
set_option maxRecDepth 100000 in
theorem grows_bad12 (A : Option Addr) (n c : Nat) (D W M more today later : Int) (w : World) (h0 : n ≤ 30) (h1 : 0 ≤ more) (h2 : more ≤ 100) (h3 : 0 ≤ today) (h4 : 0 ≤ later) (h5 : today ≤ 1073741824) (h6 : later ≤ 1073741824) (h7 : D ≤ 1073741824) (h8 : W ≤ 1073741824) (h9 : M ≤ 1073741824) (h10 : 0 ≤ D) (h11 : 0 ≤ W) (h : M < 0) :
    Calls Try.prog 6 #[.slice A n c, .agg #[.int .i64 D, .int .i64 W, .int .i64 M], .int .i64 more, .int .i64 today, .int .i64 later] w fun e w' => e = .returned (.bool true) ∧ Below w.heap.size w w' := by
  have B0 : Below w.heap.size w (w.alloc (.cells #[.int .i64 D, .int .i64 W, .int .i64 M] 31)) := (Below.refl _ _).alloc (Nat.le_refl _) _
  have c0 : (w.alloc (.cells #[.int .i64 D, .int .i64 W, .int .i64 M] 31)).cell? ⟨w.heap.size, 0, none⟩ = some (.int .i64 D) := World.cell?_alloc_at _ _ _ _ rfl
  have c1 : (w.alloc (.cells #[.int .i64 D, .int .i64 W, .int .i64 M] 31)).cell? ⟨w.heap.size, 1, none⟩ = some (.int .i64 W) := World.cell?_alloc_at _ _ _ _ rfl
  have c2 : (w.alloc (.cells #[.int .i64 D, .int .i64 W, .int .i64 M] 31)).cell? ⟨w.heap.size, 2, none⟩ = some (.int .i64 M) := World.cell?_alloc_at _ _ _ _ rfl
  have s0 : w.heap.size < (w.alloc (.cells #[.int .i64 D, .int .i64 W, .int .i64 M] 31)).heap.size := by simp
  go_enter Try.func6, Try.ntmps6
  go_wp2_with fail
  refine (alive_any _).mono ?_
  rintro e w1 ⟨rfl, HB⟩
  have d0 := ((bcell HB).1 _ 0 s0).trans c0
  have d1 := ((bcell HB).1 _ 1 s0).trans c1
  have d2 := ((bcell HB).1 _ 2 s0).trans c2
  have B1 := B0.trans (HB.mono (Nat.le_of_lt s0))
  clear HB B0 c0 c1 c2
  go_wp2
  go_ret
  exact ⟨rfl, B1⟩
theorem grows_all (A : Option Addr) (n c : Nat) (ps : List Pt) (D W M more today later : Int) (w : World) (hsl : Sl ePt w A n c ps) :
    Calls Try.prog 6 #[.slice A n c, .agg #[.int .i64 D, .int .i64 W, .int .i64 M], .int .i64 more, .int .i64 today, .int .i64 later] w fun e w' => e = .returned (.bool true) ∧ Below w.heap.size w w' := by
  rcases Decidable.em (n ≤ 30) with h0 | h0
  case inr => exact grows_bad0 A n c D W M more today later w  (Nat.not_le.1 h0)
  rcases Decidable.em (0 ≤ more) with h1 | h1
  case inr => exact grows_bad1 A n c D W M more today later w h0 (Int.not_le.1 h1)
  rcases Decidable.em (more ≤ 100) with h2 | h2
  case inr => exact grows_bad2 A n c D W M more today later w h0 h1 (Int.not_le.1 h2)
  rcases Decidable.em (0 ≤ today) with h3 | h3
  case inr => exact grows_bad3 A n c D W M more today later w h0 h1 h2 (Int.not_le.1 h3)
  rcases Decidable.em (0 ≤ later) with h4 | h4
  case inr => exact grows_bad4 A n c D W M more today later w h0 h1 h2 h3 (Int.not_le.1 h4)
  rcases Decidable.em (today ≤ 1073741824) with h5 | h5
  case inr => exact grows_bad5 A n c D W M more today later w h0 h1 h2 h3 h4 (Int.not_le.1 h5)
  rcases Decidable.em (later ≤ 1073741824) with h6 | h6
  case inr => exact grows_bad6 A n c D W M more today later w h0 h1 h2 h3 h4 h5 (Int.not_le.1 h6)
  rcases Decidable.em (D ≤ 1073741824) with h7 | h7
  case inr => exact grows_bad7 A n c D W M more today later w h0 h1 h2 h3 h4 h5 h6 (Int.not_le.1 h7)
  rcases Decidable.em (W ≤ 1073741824) with h8 | h8
  case inr => exact grows_bad8 A n c D W M more today later w h0 h1 h2 h3 h4 h5 h6 h7 (Int.not_le.1 h8)
  rcases Decidable.em (M ≤ 1073741824) with h9 | h9
  case inr => exact grows_bad9 A n c D W M more today later w h0 h1 h2 h3 h4 h5 h6 h7 h8 (Int.not_le.1 h9)
  rcases Decidable.em (0 ≤ D) with h10 | h10
  case inr => exact grows_bad10 A n c D W M more today later w h0 h1 h2 h3 h4 h5 h6 h7 h8 h9 (Int.not_le.1 h10)
  rcases Decidable.em (0 ≤ W) with h11 | h11
  case inr => exact grows_bad11 A n c D W M more today later w h0 h1 h2 h3 h4 h5 h6 h7 h8 h9 h10 (Int.not_le.1 h11)
  rcases Decidable.em (0 ≤ M) with h12 | h12
  case inr => exact grows_bad12 A n c D W M more today later w h0 h1 h2 h3 h4 h5 h6 h7 h8 h9 h10 h11 (Int.not_le.1 h12)
  exact grows_good A n c ps D W M more today later w hsl h0 h1 h2 h3 h4 h5 h6 h7 h8 h9 h10 h11 h12
end Go.Proofs.YtolpnioobdphlaaRRRR
