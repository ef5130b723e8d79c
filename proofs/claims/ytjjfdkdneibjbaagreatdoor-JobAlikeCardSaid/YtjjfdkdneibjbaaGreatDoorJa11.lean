/- Joined texts: Span, StillD, SpanB, RunsA, RunsB. -/
import Derived.Test.YtjjfdkdneibjbaaGreatDoorJa10
import Derived.Deep.RegionHeld3
import Derived.Laws.ResultCell
import Derived.Laws.Rows
/- Walk of package span: spans that lie within the volume. -/
namespace Go.Proofs.YtjjfdkdneibjbaaGreatDoor
open Go.RowKit

/-- Two results, the first one lies in a block. -/
theorem results_row_tmp {P : Program} {fn : Func} {p u : Tmp} {ty : TypeId} (h : fn.results = #[.cell p ty, .tmp u]) (tmps : Array Value) (w : World) (g : Nat) (t : TypeId) (cs : Array Value) (fr : Nat × Nat) (d : TypeDesc)
    (hp : tmps.getD p undef = .pointer (some ⟨g, 0, none⟩)) (hg : w.heap[g]? = some (.cells cs t fr))
    (hu : P.underlying ty = some d) (hd : (match d with | .struct _ | .array _ _ => true | _ => false) = true) (hi : (P.info? ty).map (·.size) = some cs.size) :
    (results fn tmps).run P w = .ok (.tuple #[.agg cs, tmps.getD u undef]) w := by
  have hp' : tmps[p]?.getD undef = .pointer (some ⟨g, 0, none⟩) := by simpa using hp
  rw [results_cell_tmp h]
  simp [hp', asAddr, run_loadVar_row w g t ty cs fr d hg hu hd hi, Result.andThen]
theorem Tryz.infoSpan : (Tryz.prog.info? 59).map (·.size) = some 2 := by kernel_rfl
theorem Tryz.infoExt3 : (Tryz.prog.info? 107).map (·.size) = some 3 := by kernel_rfl
theorem heap_new (w : World) (o : Obj) : (w.alloc o).heap[w.heap.size]? = some o := by
  show (w.heap.push o)[w.heap.size]? = some o
  simp
def WhS (f n : Int) : Prop := 0 ≤ f ∧ 1 ≤ n ∧ f + n ≤ 64
set_option maxHeartbeats 1000000 in
theorem whole_sp (f n : Int) (w : World) (h : WhS f n) : Calls Tryz.prog 146 #[.agg #[.int .i64 f, .int .i64 n]] w fun e w' => e = .returned (.bool true) ∧ Below w.heap.size w w' := by
  have B1 : Below w.heap.size w (w.alloc (.cells #[.int .i64 f, .int .i64 n] 59)) := (Below.refl _ _).alloc (Nat.le_refl _) _
  obtain ⟨h1, h2, h3⟩ := h
  have h4 : f ≤ 64 := by omega
  have h5 : n ≤ 64 - f := by omega
  go_enter Tryz.func146, Tryz.ntmps146
  go_wp2
  go_ret
  exact ⟨rfl, B1⟩
/-- A call whose parameter of two cells lies in a block of its own. -/
theorem box2 (w : World) (f n : Int) (T : Nat) : ∃ w1, w1 = w.alloc (.cells #[.int .i64 f, .int .i64 n] T) ∧ Below w.heap.size w w1 ∧ w.heap.size < w1.heap.size ∧ w1.cell? ⟨w.heap.size, 0, none⟩ = some (.int .i64 f) ∧ w1.cell? ⟨w.heap.size, 1, none⟩ = some (.int .i64 n) :=
  ⟨_, rfl, (Below.refl _ _).alloc (Nat.le_refl _) _, by simp, World.cell?_alloc_at _ _ _ _ rfl, World.cell?_alloc_at _ _ _ _ rfl⟩
theorem box3 (w : World) (f n i : Int) (T : Nat) : ∃ w1, w1 = w.alloc (.cells #[.int .i64 f, .int .i64 n, .int .i64 i] T) ∧ Below w.heap.size w w1 ∧ w.heap.size < w1.heap.size ∧ w1.cell? ⟨w.heap.size, 0, none⟩ = some (.int .i64 f) ∧ w1.cell? ⟨w.heap.size, 1, none⟩ = some (.int .i64 n) ∧ w1.cell? ⟨w.heap.size, 2, none⟩ = some (.int .i64 i) :=
  ⟨_, rfl, (Below.refl _ _).alloc (Nat.le_refl _) _, by simp, World.cell?_alloc_at _ _ _ _ rfl, World.cell?_alloc_at _ _ _ _ rfl, World.cell?_alloc_at _ _ _ _ rfl⟩
set_option maxHeartbeats 1000000 in
theorem end_sp (f n : Int) (w : World) (h : WhS f n) : Calls Tryz.prog 162 #[.agg #[.int .i64 f, .int .i64 n]] w fun e w' => e = .returned (.int .i64 (f + n)) ∧ Below w.heap.size w w' := by
  obtain ⟨w1, hw1, B1, s1, c0, c1⟩ := box2 w f n 59
  obtain ⟨h1, h2, h3⟩ := h
  go_enter Tryz.func162, Tryz.ntmps162
  go_wp2_with fail
  rw [← hw1]
  clear hw1
  refine (whole_sp f n w1 ⟨h1, h2, h3⟩).mono ?_
  rintro e w2 ⟨rfl, HB2⟩
  have d0 := ((bcell HB2).1 _ 0 s1).trans c0
  have d1 := ((bcell HB2).1 _ 1 s1).trans c1
  have B2 : Below w.heap.size w w2 := B1.trans (HB2.mono (by omega))
  clear HB2 c0 c1
  go_wp2
  go_ret
  exact ⟨rfl, B2⟩
set_option maxHeartbeats 1000000 in
theorem valid_sp (f n : Int) (w : World) (h : WhS f n) : Calls Tryz.prog 82 #[.agg #[.int .i64 f, .int .i64 n], .int .i64 64] w fun e w' => e = .returned (.bool true) ∧ Below w.heap.size w w' := by
  obtain ⟨w1, hw1, B1, s1, c0, c1⟩ := box2 w f n 59
  obtain ⟨h1, h2, h3⟩ := h
  go_enter Tryz.func82, Tryz.ntmps82
  go_wp2_with fail
  rw [← hw1]
  clear hw1
  refine (whole_sp f n w1 ⟨h1, h2, h3⟩).mono ?_
  rintro e w2 ⟨rfl, HB2⟩
  have d0 := ((bcell HB2).1 _ 0 s1).trans c0
  have d1 := ((bcell HB2).1 _ 1 s1).trans c1
  have B2 : Below w.heap.size w w2 := B1.trans (HB2.mono (by omega))
  clear HB2 c0 c1
  go_wp2
  go_ret
  exact ⟨rfl, B2⟩
set_option maxHeartbeats 1000000 in
theorem of_no (f t : Int) (w : World) (h : t ≤ f) : Calls Tryz.prog 123 #[.int .i64 f, .int .i64 t] w fun e w' => e = .returned (.tuple #[.agg #[.int .i64 0, .int .i64 0], .bool false]) ∧ Below w.heap.size w w' := by
  go_enter Tryz.func123, Tryz.ntmps123
  go_wp2_with fail
  refine bodyPost_ret (results_row_tmp Tryz.results123 _ _ w.heap.size 59 _ (0, 0) _ rfl (heap_new w _) Tryz.underlying59 rfl Tryz.infoSpan) rfl ?_
  refine ⟨rfl, ?_⟩
  exact (Below.refl _ _).alloc (Nat.le_refl _) _
set_option maxHeartbeats 1000000 in
theorem of_yes (f t : Int) (w : World) (h0 : 0 ≤ f) (h : f < t) (h1 : t ≤ 64) : Calls Tryz.prog 123 #[.int .i64 f, .int .i64 t] w fun e w' => e = .returned (.tuple #[.agg #[.int .i64 f, .int .i64 (t - f)], .bool true]) ∧ Below w.heap.size w w' := by
  have h2 : ¬ t ≤ f := by omega
  go_enter Tryz.func123, Tryz.ntmps123
  go_wp2_with fail
  refine bodyPost_ret (results_row_tmp Tryz.results123 _ _ w.heap.size 59 _ (0, 0) _ rfl (heap_new w _) Tryz.underlying59 rfl Tryz.infoSpan) rfl ?_
  refine ⟨rfl, ?_⟩
  exact (Below.refl _ _).alloc (Nat.le_refl _) _
theorem hal (w : World) (o : Obj) : (w.alloc o).heap.size = w.heap.size + 1 := by show (w.heap.push o).size = _; simp
theorem alloc_cell {w : World} {b i : Nat} {u : Value} {o : Obj} (h : w.cell? ⟨b, i, none⟩ = some u) : (w.alloc o).cell? ⟨b, i, none⟩ = some u := (World.cell?_alloc_lt _ _ _ (World.block_lt_of_cell? w _ h)).trans h
theorem box22 (w : World) (f n g m : Int) (T : Nat) : ∃ w1, w1 = (w.alloc (.cells #[.int .i64 f, .int .i64 n] T)).alloc (.cells #[.int .i64 g, .int .i64 m] T) ∧ Below w.heap.size w w1 ∧ w1.heap.size = w.heap.size + 2 ∧
    w1.cell? ⟨w.heap.size, 0, none⟩ = some (.int .i64 f) ∧ w1.cell? ⟨w.heap.size, 1, none⟩ = some (.int .i64 n) ∧ w1.cell? ⟨w.heap.size + 1, 0, none⟩ = some (.int .i64 g) ∧ w1.cell? ⟨w.heap.size + 1, 1, none⟩ = some (.int .i64 m) := by
  have e := hal w (.cells #[.int .i64 f, .int .i64 n] T)
  refine ⟨_, rfl, ((Below.refl _ _).alloc (Nat.le_refl _) _).alloc (by omega) _, by rw [hal, hal], ?_, ?_, ?_, ?_⟩
  · exact alloc_cell (World.cell?_alloc_at _ _ _ _ rfl)
  · exact alloc_cell (World.cell?_alloc_at _ _ _ _ rfl)
  · rw [← e]; exact World.cell?_alloc_at _ _ _ _ rfl
  · rw [← e]; exact World.cell?_alloc_at _ _ _ _ rfl
theorem box222 (w : World) (f n g m : Int) (T : Nat) : ∃ w1, w1 = ((w.alloc (.cells #[.int .i64 f, .int .i64 n] T)).alloc (.cells #[.int .i64 g, .int .i64 m] T)).alloc (.cells #[.int .i64 0, .int .i64 0] T) ∧ Below w.heap.size w w1 ∧ w1.heap.size = w.heap.size + 3 ∧
    w1.cell? ⟨w.heap.size, 0, none⟩ = some (.int .i64 f) ∧ w1.cell? ⟨w.heap.size, 1, none⟩ = some (.int .i64 n) ∧ w1.cell? ⟨w.heap.size + 1, 0, none⟩ = some (.int .i64 g) ∧ w1.cell? ⟨w.heap.size + 1, 1, none⟩ = some (.int .i64 m) ∧
    w1.heap[w.heap.size + 2]? = some (.cells #[.int .i64 0, .int .i64 0] T) := by
  obtain ⟨w1, hw1, B1, s1, c0, c1, d0, d1⟩ := box22 w f n g m T
  rw [← hw1]
  refine ⟨_, rfl, B1.alloc (by omega) _, by rw [hal]; omega, ?_, ?_, ?_, ?_, ?_⟩
  · exact alloc_cell c0
  · exact alloc_cell c1
  · exact alloc_cell d0
  · exact alloc_cell d1
  · rw [← s1]; exact heap_new _ _
theorem cell_of_heap {W : World} {b i t : Nat} {cs : Array Value} {fr : Nat × Nat} {u : Value} (h : W.heap[b]? = some (.cells cs t fr)) (hu : cs[i]? = some u) : W.cell? ⟨b, i, none⟩ = some u := by simp [World.cell?, h, hu]
theorem froz_of_heap {W : World} {b i t : Nat} {cs : Array Value} (h : W.heap[b]? = some (.cells cs t (0, 0))) (_ : i < 2) : W.frozen? ⟨b, i, none⟩ = false := by simp [World.frozen?, h]
/-- Two boxes and a result of none. -/
def Two (w W : World) (f n g m : Int) : Prop := Below w.heap.size w W ∧ w.heap.size + 3 ≤ W.heap.size ∧ W.cell? ⟨w.heap.size, 0, none⟩ = some (.int .i64 f) ∧ W.cell? ⟨w.heap.size, 1, none⟩ = some (.int .i64 n) ∧ W.cell? ⟨w.heap.size + 1, 0, none⟩ = some (.int .i64 g) ∧ W.cell? ⟨w.heap.size + 1, 1, none⟩ = some (.int .i64 m) ∧ W.cell? ⟨w.heap.size + 2, 0, none⟩ = some (.int .i64 0) ∧ W.cell? ⟨w.heap.size + 2, 1, none⟩ = some (.int .i64 0) ∧ W.frozen? ⟨w.heap.size + 2, 0, none⟩ = false ∧ W.frozen? ⟨w.heap.size + 2, 1, none⟩ = false
theorem Two.below {w W W' : World} {f n g m : Int} (h : Two w W f n g m) (hb : Below W.heap.size W W') : Two w W' f n g m := by
  obtain ⟨b, s, c0, c1, c2, c3, c4, c5, z0, z1⟩ := h
  have := hb.size
  exact ⟨b.trans (hb.mono (by omega)), by omega, ((bcell hb).1 _ 0 (by omega)).trans c0, ((bcell hb).1 _ 1 (by omega)).trans c1, ((bcell hb).1 _ 0 (by omega)).trans c2, ((bcell hb).1 _ 1 (by omega)).trans c3, ((bcell hb).1 _ 0 (by omega)).trans c4, ((bcell hb).1 _ 1 (by omega)).trans c5, (World.frozen?_of_block (a := ⟨_, 0, none⟩) (hb.block (w.heap.size + 2) (by omega))).trans z0, (World.frozen?_of_block (a := ⟨_, 1, none⟩) (hb.block (w.heap.size + 2) (by omega))).trans z1⟩
theorem Two.set {w W : World} {f n g m : Int} (h : Two w W f n g m) : Two w ((W.setCell ⟨w.heap.size + 1 + 1, 0, none⟩ (.int .i64 0)).setCell ⟨w.heap.size + 1 + 1, 1, none⟩ (.int .i64 0)) f n g m := by
  obtain ⟨b, s, c0, c1, c2, c3, c4, c5, z0, z1⟩ := h
  have n0 : ∀ i, w.heap.size + 1 + 1 ≠ (⟨w.heap.size, i, none⟩ : Addr).block := fun i => by show _ ≠ w.heap.size; omega
  have n1 : ∀ i, w.heap.size + 1 + 1 ≠ (⟨w.heap.size + 1, i, none⟩ : Addr).block := fun i => by show _ ≠ w.heap.size + 1; omega
  refine ⟨(b.setCell (by show w.heap.size ≤ w.heap.size + 1 + 1; omega) _).setCell (by show w.heap.size ≤ w.heap.size + 1 + 1; omega) _, by simpa [World.setCell] using s, ?_, ?_, ?_, ?_, ?_, ?_, ?_, ?_⟩
  · rw [World.cell?_setCell_far _ _ _ _ (n0 0), World.cell?_setCell_far _ _ _ _ (n0 0)]; exact c0
  · rw [World.cell?_setCell_far _ _ _ _ (n0 1), World.cell?_setCell_far _ _ _ _ (n0 1)]; exact c1
  · rw [World.cell?_setCell_far _ _ _ _ (n1 0), World.cell?_setCell_far _ _ _ _ (n1 0)]; exact c2
  · rw [World.cell?_setCell_far _ _ _ _ (n1 1), World.cell?_setCell_far _ _ _ _ (n1 1)]; exact c3
  · exact (World.cell?_setCell_other _ ⟨w.heap.size + 1 + 1, 1, none⟩ ⟨w.heap.size + 2, 0, none⟩ _ (by simp)).trans (World.cell?_setCell_same _ _ _ c4)
  · exact World.cell?_setCell_same _ _ _ ((World.cell?_setCell_other _ ⟨w.heap.size + 1 + 1, 0, none⟩ ⟨w.heap.size + 2, 1, none⟩ _ (by simp)).trans c5)
  · rw [World.frozen?_setCell, World.frozen?_setCell]; exact z0
  · rw [World.frozen?_setCell, World.frozen?_setCell]; exact z1
theorem Two.s {w W : World} {f n g m : Int} (h : Two w W f n g m) : W.cell? ⟨w.heap.size, 0, none⟩ = some (.int .i64 f) ∧ W.cell? ⟨w.heap.size, 1, none⟩ = some (.int .i64 n) ∧ W.cell? ⟨w.heap.size + 1, 0, none⟩ = some (.int .i64 g) ∧ W.cell? ⟨w.heap.size + 1, 1, none⟩ = some (.int .i64 m) ∧ W.cell? ⟨w.heap.size + 2, 0, none⟩ = some (.int .i64 0) ∧ W.cell? ⟨w.heap.size + 2, 1, none⟩ = some (.int .i64 0) ∧ W.frozen? ⟨w.heap.size + 2, 0, none⟩ = false ∧ W.frozen? ⟨w.heap.size + 2, 1, none⟩ = false := h.2.2
theorem Two.drew {w W : World} {f n g m : Int} (h : Two w W f n g m) : Two w W.drew f n g m := ⟨h.1.drew, h.2.1, h.2.2⟩
/-- Two spans that do not meet. -/
def Off (f n g m : Int) : Prop := f + n ≤ g ∨ g + m ≤ f
set_option maxHeartbeats 200000 in
set_option maxRecDepth 100000 in
theorem meet_no (f n g m : Int) (w : World) (h : WhS f n) (k : WhS g m) (ho : Off f n g m) : Calls Tryz.prog 211 #[.agg #[.int .i64 f, .int .i64 n], .agg #[.int .i64 g, .int .i64 m]] w fun e w' => e = .returned (.tuple #[.agg #[.int .i64 0, .int .i64 0], .bool false]) ∧ Below w.heap.size w w' := by
  obtain ⟨w1, hw1, B1, s1, c0, c1, d0, d1, r0⟩ := box222 w f n g m 59
  have T : Two w w1 f n g m := ⟨B1, by omega, c0, c1, d0, d1, cell_of_heap r0 rfl, cell_of_heap r0 rfl, froz_of_heap r0 (by decide), froz_of_heap r0 (by decide)⟩
  clear d0 d1 r0 B1 s1
  go_enter Tryz.func211, Tryz.ntmps211
  go_wp2_with fail
  rw [← hw1]
  clear hw1 c0 c1
  have c0 := T.2.2.1
  have c1 := T.2.2.2.1
  go_wp2_with fail
  refine (whole_sp f n w1 h).mono ?_
  rintro e w2 ⟨rfl, HB2⟩
  replace T := T.below HB2
  clear c0 c1 HB2 w1
  have d0 := T.2.2.2.2.1
  have d1 := T.2.2.2.2.2.1
  go_wp2_with fail
  refine (whole_sp g m w2 k).mono ?_
  rintro e w3 ⟨rfl, HB2⟩
  replace T := T.below HB2
  clear d0 d1 HB2 w2
  go_wp2_with fail
  replace T := T.drew
  obtain ⟨h1, h2, h3⟩ := id h
  obtain ⟨h4, h5, h6⟩ := id k
  rcases ho with ho | ho
  · have ho : f + n ≤ g := ho
    have : f < g := by omega
    have : ¬ g ≤ f := by omega
    have : f + n < g + m := by omega
    have : ¬ g + m < f + n := by omega
    go_region_held3 (fun W => W.cell? ⟨w.heap.size, 0, none⟩ = some (.int .i64 f) ∧ W.cell? ⟨w.heap.size, 1, none⟩ = some (.int .i64 n) ∧ W.cell? ⟨w.heap.size + 1, 0, none⟩ = some (.int .i64 g) ∧ W.cell? ⟨w.heap.size + 1, 1, none⟩ = some (.int .i64 m) ∧ W.cell? ⟨w.heap.size + 2, 0, none⟩ = some (.int .i64 0) ∧ W.cell? ⟨w.heap.size + 2, 1, none⟩ = some (.int .i64 0) ∧ W.frozen? ⟨w.heap.size + 2, 0, none⟩ = false ∧ W.frozen? ⟨w.heap.size + 2, 1, none⟩ = false)
      (first | with_reducible exact T.s | with_reducible exact T.set.s)
      ((first
          | (go_at_call 162; refine (end_sp _ _ _ (by assumption)).mono ?_; intro e v hv; obtain ⟨he, HB⟩ := hv; subst he; replace T : Two w v f n g m := T.below HB; clear HB)
          | (go_at_call 123; refine (of_no _ _ _ (by first | assumption | (split <;> omega))).mono ?_; intro e v hv; obtain ⟨he, HB⟩ := hv; subst he; replace T : Two w v f n g m := T.below HB; clear HB)))
    all_goals
      replace T := T.set
      have c4 := T.2.2.2.2.2.2.1
      have c5 := T.2.2.2.2.2.2.2.1
      go_wp2_with fail
      refine bodyPost_ret (v := .tuple #[.agg #[.int .i64 0, .int .i64 0], .bool false]) ?_ rfl ⟨rfl, T.1⟩
      rw [results_cell_tmp rfl]
      go_simp
  · have ho : g + m ≤ f := ho
    have : ¬ f < g := by omega
    have : g ≤ f := by omega
    have : g + m < f + n := by omega
    have : ¬ f + n < g + m := by omega
    go_region_held3 (fun W => W.cell? ⟨w.heap.size, 0, none⟩ = some (.int .i64 f) ∧ W.cell? ⟨w.heap.size, 1, none⟩ = some (.int .i64 n) ∧ W.cell? ⟨w.heap.size + 1, 0, none⟩ = some (.int .i64 g) ∧ W.cell? ⟨w.heap.size + 1, 1, none⟩ = some (.int .i64 m) ∧ W.cell? ⟨w.heap.size + 2, 0, none⟩ = some (.int .i64 0) ∧ W.cell? ⟨w.heap.size + 2, 1, none⟩ = some (.int .i64 0) ∧ W.frozen? ⟨w.heap.size + 2, 0, none⟩ = false ∧ W.frozen? ⟨w.heap.size + 2, 1, none⟩ = false)
      (first | with_reducible exact T.s | with_reducible exact T.set.s)
      ((first
          | (go_at_call 162; refine (end_sp _ _ _ (by assumption)).mono ?_; intro e v hv; obtain ⟨he, HB⟩ := hv; subst he; replace T : Two w v f n g m := T.below HB; clear HB)
          | (go_at_call 123; refine (of_no _ _ _ (by first | assumption | (split <;> omega))).mono ?_; intro e v hv; obtain ⟨he, HB⟩ := hv; subst he; replace T : Two w v f n g m := T.below HB; clear HB)))
    all_goals
      replace T := T.set
      have c4 := T.2.2.2.2.2.2.1
      have c5 := T.2.2.2.2.2.2.2.1
      go_wp2_with fail
      refine bodyPost_ret (v := .tuple #[.agg #[.int .i64 0, .int .i64 0], .bool false]) ?_ rfl ⟨rfl, T.1⟩
      rw [results_cell_tmp rfl]
      go_simp
end Go.Proofs.YtjjfdkdneibjbaaGreatDoor
/- Walk of span.Blocks: the blocks that bytes touch. -/
namespace Go.Proofs.YtjjfdkdneibjbaaGreatDoor
open Go.RowKit

set_option maxHeartbeats 2000000 in
set_option maxRecDepth 20000 in
theorem blocks_sp (a n : Nat) (w : World) (hn : 1 ≤ n) (h : a + n ≤ 512) : Calls Tryz.prog 58 #[.int .i64 (a : Int), .int .i64 (n : Int)] w fun e w' => e = .returned (.tuple #[.agg #[.int .i64 ((a : Int) / 8), .int .i64 (((a : Int) + n - 1) / 8 + 1 - (a : Int) / 8)], .bool true]) ∧ Below w.heap.size w w' := by
  have z1 : (a : Int) ≤ 512 := by omega
  have z2 : (1 : Int) ≤ n := by omega
  have z3 : (n : Int) ≤ 512 - a := by omega
  have z4 : (a : Int) + n - 1 ≤ 512 := by omega
  obtain ⟨w1, hw1, B1, s1, c0, c1⟩ := box2 w 0 0 59
  have hz : w1.frozen? ⟨w.heap.size, 0, none⟩ = false ∧ w1.frozen? ⟨w.heap.size, 1, none⟩ = false := by
    have := heap_new w (.cells #[.int .i64 0, .int .i64 0] 59)
    rw [← hw1] at this
    exact ⟨froz_of_heap this (by decide), froz_of_heap this (by decide)⟩
  obtain ⟨y0, y1⟩ := hz
  go_enter Tryz.func58, Tryz.ntmps58
  go_wp2_with fail
  rw [← hw1]
  clear hw1
  obtain ⟨F, hF⟩ : ∃ F, F = (a : Int) / 8 := ⟨_, rfl⟩
  obtain ⟨T, hT⟩ : ∃ T, T = ((a : Int) + n - 1) / 8 + 1 := ⟨_, rfl⟩
  have f0 : 0 ≤ F := by omega
  have f1 : F < T := by omega
  have f2 : T ≤ 64 := by omega
  rw [← hF, ← hT]
  have HF := hide hF
  have HT := hide hT
  clear hF hT
  refine (of_yes F T w1 f0 f1 f2).mono ?_
  rintro e w2 ⟨rfl, HB⟩
  have c0 := ((bcell HB).1 _ 0 s1).trans c0
  have c1 := ((bcell HB).1 _ 1 s1).trans c1
  have y0 := ((bcell HB).2 _ 0 s1).trans y0
  have y1 := ((bcell HB).2 _ 1 s1).trans y1
  have B2 : Below w.heap.size w w2 := B1.trans (HB.mono (by omega))
  clear HB B1
  go_wp2_with fail
  have d0 : ((w2.setCell ⟨w.heap.size, 0, none⟩ (.int .i64 F)).setCell ⟨w.heap.size, 1, none⟩ (.int .i64 (T - F))).cell? ⟨w.heap.size, 0, none⟩ = some (.int .i64 F) :=
    (World.cell?_setCell_other _ ⟨w.heap.size, 1, none⟩ ⟨w.heap.size, 0, none⟩ _ (by simp)).trans (World.cell?_setCell_same _ _ _ c0)
  have d1 : ((w2.setCell ⟨w.heap.size, 0, none⟩ (.int .i64 F)).setCell ⟨w.heap.size, 1, none⟩ (.int .i64 (T - F))).cell? ⟨w.heap.size, 1, none⟩ = some (.int .i64 (T - F)) :=
    World.cell?_setCell_same _ _ _ ((World.cell?_setCell_other _ ⟨w.heap.size, 0, none⟩ ⟨w.heap.size, 1, none⟩ _ (by simp)).trans c1)
  have B3 := (B2.setCell (p := ⟨w.heap.size, 0, none⟩) (Nat.le_refl _) (.int .i64 F)).setCell (p := ⟨w.heap.size, 1, none⟩) (Nat.le_refl _) (.int .i64 (T - F))
  rw [← unhide HF, ← unhide HT]
  refine bodyPost_ret (v := .tuple #[.agg #[.int .i64 F, .int .i64 (T - F)], .bool true]) ?_ rfl ⟨rfl, B3⟩
  rw [results_cell_tmp rfl]
  go_simp
end Go.Proofs.YtjjfdkdneibjbaaGreatDoor
/- Walk of span.Less where the two do not meet. -/
namespace Go.Proofs.YtjjfdkdneibjbaaGreatDoor
open Go.RowKit

set_option maxHeartbeats 4000000 in
set_option maxRecDepth 100000 in
theorem less_no (f n g m : Int) (w : World) (h : WhS f n) (k : WhS g m) (ho : Off f n g m) : Calls Tryz.prog 189 #[.agg #[.int .i64 f, .int .i64 n], .agg #[.int .i64 g, .int .i64 m]] w fun e w' => (∃ q, e = .returned (.slice (some ⟨q, 0, none⟩) 1 1) ∧ w.heap.size ≤ q ∧ q < w'.heap.size ∧ w'.cell? ⟨q, 0, none⟩ = some (.int .i64 f) ∧ w'.cell? ⟨q, 1, none⟩ = some (.int .i64 n)) ∧ Below w.heap.size w w' := by
  obtain ⟨w1, hw1, B1, s1, c0, c1, d0, d1⟩ := box22 w f n g m 59
  go_enter Tryz.func189, Tryz.ntmps189
  go_wp2_with fail
  rw [← hw1]
  clear hw1
  refine (whole_sp f n w1 h).mono ?_
  rintro e w2 ⟨rfl, HB2⟩
  have d0 := ((bcell HB2).1 _ 0 (show w.heap.size + 1 < w1.heap.size by omega)).trans d0
  have d1 := ((bcell HB2).1 _ 1 (show w.heap.size + 1 < w1.heap.size by omega)).trans d1
  have c0 := ((bcell HB2).1 _ 0 (show w.heap.size < w1.heap.size by omega)).trans c0
  have c1 := ((bcell HB2).1 _ 1 (show w.heap.size < w1.heap.size by omega)).trans c1
  have B2 : Below w.heap.size w w2 := B1.trans (HB2.mono (by omega))
  have s2 : w.heap.size + 2 ≤ w2.heap.size := by have := HB2.size; omega
  clear HB2 B1
  go_wp2_with fail
  refine (meet_no f n g m w2 h k ho).mono ?_
  rintro e w3 ⟨rfl, HB2⟩
  have c0 := ((bcell HB2).1 _ 0 (show w.heap.size < w2.heap.size by omega)).trans c0
  have c1 := ((bcell HB2).1 _ 1 (show w.heap.size < w2.heap.size by omega)).trans c1
  have B3 : Below w.heap.size w w3 := B2.trans (HB2.mono (by omega))
  have s3 : w.heap.size + 2 ≤ w3.heap.size := by have := HB2.size; omega
  clear HB2 B2 d0 d1
  have lt0 : w.heap.size < w3.heap.size := by omega
  go_wp2_with fail
  go_ret
  have e : w3.heap.size + 1 = (w3.alloc (.cells #[.int .i64 0, .int .i64 0] 59)).heap.size := (hal _ _).symm
  refine ⟨⟨w3.heap.size + 1, rfl, by omega, by rw [hal, hal]; omega, ?_, ?_⟩, (B3.alloc (by omega) _).alloc (by rw [hal]; omega) _⟩
  · rw [e]; exact World.cell?_alloc_at _ _ _ _ rfl
  · rw [e]; exact World.cell?_alloc_at _ _ _ _ rfl
end Go.Proofs.YtjjfdkdneibjbaaGreatDoor
/- Walk of package span: spans that touch, and their join; whether a block is in one. -/
namespace Go.Proofs.YtjjfdkdneibjbaaGreatDoor
open Go.RowKit

set_option maxHeartbeats 1000000 in
theorem whole_no (f n : Int) (w : World) (h : ¬ WhS f n) : Calls Tryz.prog 146 #[.agg #[.int .i64 f, .int .i64 n]] w fun e w' => e = .returned (.bool false) ∧ Below w.heap.size w w' := by
  have B1 : Below w.heap.size w (w.alloc (.cells #[.int .i64 f, .int .i64 n] 59)) := (Below.refl _ _).alloc (Nat.le_refl _) _
  unfold WhS at h
  by_cases h1 : 0 ≤ f
  · by_cases h2 : f ≤ 64
    · by_cases h3 : 1 ≤ n
      · have h4 : ¬ n ≤ 64 - f := by omega
        clear h
        go_enter Tryz.func146, Tryz.ntmps146
        go_wp2
        go_ret
        exact ⟨rfl, B1⟩
      · clear h
        go_enter Tryz.func146, Tryz.ntmps146
        go_wp2
        go_ret
        exact ⟨rfl, B1⟩
    · clear h
      go_enter Tryz.func146, Tryz.ntmps146
      go_wp2
      go_ret
      exact ⟨rfl, B1⟩
  · clear h
    go_enter Tryz.func146, Tryz.ntmps146
    go_wp2
    go_ret
    exact ⟨rfl, B1⟩
set_option maxHeartbeats 1000000 in
theorem valid_no (f n : Int) (w : World) (h : ¬ WhS f n) : Calls Tryz.prog 82 #[.agg #[.int .i64 f, .int .i64 n], .int .i64 64] w fun e w' => e = .returned (.bool false) ∧ Below w.heap.size w w' := by
  obtain ⟨w1, hw1, B1, s1, c0, c1⟩ := box2 w f n 59
  go_enter Tryz.func82, Tryz.ntmps82
  go_wp2_with fail
  rw [← hw1]
  clear hw1
  refine (whole_no f n w1 h).mono ?_
  rintro e w2 ⟨rfl, HB2⟩
  have B2 : Below w.heap.size w w2 := B1.trans (HB2.mono (by omega))
  clear HB2 c0 c1
  go_wp2
  go_ret
  exact ⟨rfl, B2⟩
/-- Two boxes. -/
def TwoB (w W : World) (f n g m : Int) : Prop := Below w.heap.size w W ∧ w.heap.size + 2 ≤ W.heap.size ∧ (W.cell? ⟨w.heap.size, 0, none⟩ = some (.int .i64 f) ∧ W.cell? ⟨w.heap.size, 1, none⟩ = some (.int .i64 n) ∧ W.cell? ⟨w.heap.size + 1, 0, none⟩ = some (.int .i64 g) ∧ W.cell? ⟨w.heap.size + 1, 1, none⟩ = some (.int .i64 m))
theorem TwoB.below {w W W' : World} {f n g m : Int} (h : TwoB w W f n g m) (hb : Below W.heap.size W W') : TwoB w W' f n g m := by
  obtain ⟨b, s, c0, c1, c2, c3⟩ := h
  have := hb.size
  exact ⟨b.trans (hb.mono (by omega)), by omega, ((bcell hb).1 _ 0 (by omega)).trans c0, ((bcell hb).1 _ 1 (by omega)).trans c1, ((bcell hb).1 _ 0 (by omega)).trans c2, ((bcell hb).1 _ 1 (by omega)).trans c3⟩
theorem TwoB.drew {w W : World} {f n g m : Int} (h : TwoB w W f n g m) : TwoB w W.drew f n g m := ⟨h.1.drew, h.2.1, h.2.2⟩
theorem TwoB.s {w W : World} {f n g m : Int} (h : TwoB w W f n g m) : W.cell? ⟨w.heap.size, 0, none⟩ = some (.int .i64 f) ∧ W.cell? ⟨w.heap.size, 1, none⟩ = some (.int .i64 n) ∧ W.cell? ⟨w.heap.size + 1, 0, none⟩ = some (.int .i64 g) ∧ W.cell? ⟨w.heap.size + 1, 1, none⟩ = some (.int .i64 m) := h.2.2
/-- Do two spans touch? -/
def touchB (f n g m : Int) : Bool := decide (max f g ≤ min (f + n) (g + m))
set_option maxHeartbeats 4000000 in
set_option maxRecDepth 100000 in
theorem touch_sp (f n g m : Int) (w : World) (h : WhS f n) (k : WhS g m) : Calls Tryz.prog 147 #[.agg #[.int .i64 f, .int .i64 n], .agg #[.int .i64 g, .int .i64 m]] w fun e w' => e = .returned (.bool (touchB f n g m)) ∧ Below w.heap.size w w' := by
  obtain ⟨w1, hw1, B1, s1, c0, c1, d0, d1⟩ := box22 w f n g m 59
  have T : TwoB w w1 f n g m := ⟨B1, by omega, c0, c1, d0, d1⟩
  clear c0 c1 d0 d1 B1 s1
  unfold touchB
  obtain ⟨A, hA⟩ : ∃ A, max f g = A := ⟨_, rfl⟩
  obtain ⟨B, hB⟩ : ∃ B, min (f + n) (g + m) = B := ⟨_, rfl⟩
  have m1 : (if f < g then g else f) = A := by rw [← hA, Int.max_def]; split <;> split <;> omega
  have m2 : (if g + m < f + n then g + m else f + n) = B := by rw [← hB, Int.min_def]; split <;> split <;> omega
  rw [hA, hB]
  obtain ⟨r, hr⟩ : ∃ r, decide (A ≤ B) = r := ⟨_, rfl⟩
  rw [hr]
  replace T := T.drew
  go_enter Tryz.func147, Tryz.ntmps147
  go_wp2_with fail
  rw [← hw1]
  clear hw1
  go_region_held3 (fun W => W.cell? ⟨w.heap.size, 0, none⟩ = some (.int .i64 f) ∧ W.cell? ⟨w.heap.size, 1, none⟩ = some (.int .i64 n) ∧ W.cell? ⟨w.heap.size + 1, 0, none⟩ = some (.int .i64 g) ∧ W.cell? ⟨w.heap.size + 1, 1, none⟩ = some (.int .i64 m))
    (with_reducible exact T.s)
    ((first
        | (go_at_call 162; refine (end_sp _ _ _ (by assumption)).mono ?_; intro e v hv; obtain ⟨he, HB⟩ := hv; subst he; replace T : TwoB w v f n g m := T.below HB; clear HB)
        | (go_at_call 146; refine (whole_sp _ _ _ (by assumption)).mono ?_; intro e v hv; obtain ⟨he, HB⟩ := hv; subst he; replace T : TwoB w v f n g m := T.below HB; clear HB)))
  all_goals
    go_wp2_with fail
    go_ret
    exact ⟨rfl, T.1⟩
end Go.Proofs.YtjjfdkdneibjbaaGreatDoor
/- Walk of package span: the join of two spans that touch; whether a block is in a span. -/
namespace Go.Proofs.YtjjfdkdneibjbaaGreatDoor
open Go.RowKit

set_option maxHeartbeats 2000000 in
theorem has_sp (f n k : Int) (w : World) (h : WhS f n) : Calls Tryz.prog 122 #[.agg #[.int .i64 f, .int .i64 n], .int .i64 k] w fun e w' => e = .returned (.bool (decide (f ≤ k) && decide (k < f + n))) ∧ Below w.heap.size w w' := by
  obtain ⟨w1, hw1, B1, s1, c0, c1⟩ := box2 w f n 59
  by_cases hk : f ≤ k
  · obtain ⟨r, hr⟩ : ∃ r, decide (k < f + n) = r := ⟨_, rfl⟩
    rw [hr, decide_eq_true hk, Bool.true_and]
    go_enter Tryz.func122, Tryz.ntmps122
    go_wp2_with fail
    rw [← hw1]
    clear hw1
    refine (whole_sp f n w1 h).mono ?_
    rintro e w2 ⟨rfl, HB2⟩
    have c0 := ((bcell HB2).1 _ 0 s1).trans c0
    have c1 := ((bcell HB2).1 _ 1 s1).trans c1
    have B2 : Below w.heap.size w w2 := B1.trans (HB2.mono (by omega))
    have s2 : w.heap.size < w2.heap.size := by have := HB2.size; omega
    clear HB2 B1 s1
    go_wp2_with fail
    refine (end_sp f n w2 h).mono ?_
    rintro e w3 ⟨rfl, HB2⟩
    have B3 : Below w.heap.size w w3 := B2.trans (HB2.mono (by omega))
    clear HB2 B2
    go_wp2_with fail
    go_ret
    exact ⟨rfl, B3⟩
  · rw [decide_eq_false hk, Bool.false_and]
    go_enter Tryz.func122, Tryz.ntmps122
    go_wp2_with fail
    rw [← hw1]
    clear hw1
    refine (whole_sp f n w1 h).mono ?_
    rintro e w2 ⟨rfl, HB2⟩
    have c0 := ((bcell HB2).1 _ 0 s1).trans c0
    have B2 : Below w.heap.size w w2 := B1.trans (HB2.mono (by omega))
    clear HB2 B1 c1
    go_wp2_with fail
    go_ret
    exact ⟨rfl, B2⟩
/-- Two boxes and a result. -/
def TwoR (w W : World) (f n g m : Int) : Prop := Below w.heap.size w W ∧ w.heap.size + 3 ≤ W.heap.size ∧ (W.cell? ⟨w.heap.size, 0, none⟩ = some (.int .i64 f) ∧ W.cell? ⟨w.heap.size, 1, none⟩ = some (.int .i64 n) ∧ W.cell? ⟨w.heap.size + 1, 0, none⟩ = some (.int .i64 g) ∧ W.cell? ⟨w.heap.size + 1, 1, none⟩ = some (.int .i64 m)) ∧
  W.heap[w.heap.size + 1 + 1]? = some (.cells #[.int .i64 0, .int .i64 0] 59 (0, 0))
section
variable {w W W' : World} {f n g m : Int}
theorem TwoR.below (h : TwoR w W f n g m) (hb : Below W.heap.size W W') : TwoR w W' f n g m := by
  obtain ⟨b, s, ⟨c0, c1, c2, c3⟩, r⟩ := h
  have := hb.size
  exact ⟨b.trans (hb.mono (by omega)), by omega, ⟨((bcell hb).1 _ 0 (by omega)).trans c0, ((bcell hb).1 _ 1 (by omega)).trans c1, ((bcell hb).1 _ 0 (by omega)).trans c2, ((bcell hb).1 _ 1 (by omega)).trans c3⟩, (hb.block _ (by omega)).trans r⟩
theorem TwoR.drew (h : TwoR w W f n g m) : TwoR w W.drew f n g m := ⟨h.1.drew, h.2.1, h.2.2.1, h.2.2.2⟩
theorem TwoR.s (h : TwoR w W f n g m) : W.cell? ⟨w.heap.size, 0, none⟩ = some (.int .i64 f) ∧ W.cell? ⟨w.heap.size, 1, none⟩ = some (.int .i64 n) ∧ W.cell? ⟨w.heap.size + 1, 0, none⟩ = some (.int .i64 g) ∧ W.cell? ⟨w.heap.size + 1, 1, none⟩ = some (.int .i64 m) := h.2.2.1
theorem TwoR.z (h : TwoR w W f n g m) : W.cell? ⟨w.heap.size + 1 + 1, 0, none⟩ = some (.int .i64 0) ∧ W.cell? ⟨w.heap.size + 1 + 1, 1, none⟩ = some (.int .i64 0) ∧ W.frozen? ⟨w.heap.size + 1 + 1, 0, none⟩ = false ∧ W.frozen? ⟨w.heap.size + 1 + 1, 1, none⟩ = false := by
  have r := h.2.2.2
  exact ⟨cell_of_heap r rfl, cell_of_heap r rfl, by simp [World.frozen?, r], by simp [World.frozen?, r]⟩
abbrev set2 (W : World) (b : Nat) (x y : Value) : World := (W.setCell ⟨b, 0, none⟩ x).setCell ⟨b, 1, none⟩ y
theorem set2_other (W : World) (b k : Nat) (x y : Value) (h : k ≠ b) : (set2 W b x y).heap[k]? = W.heap[k]? := by
  unfold set2
  rw [Below.heap_setCell _ _ _ _ h, Below.heap_setCell _ _ _ _ h]
theorem TwoR.set (h : TwoR w W f n g m) (x y : Value) : (set2 W (w.heap.size + 1 + 1) x y).heap[w.heap.size + 1 + 1]? = some (.cells #[x, y] 59 (0, 0)) := by
  have r := h.2.2.2
  simp [set2, World.setCell, Array.getElem?_modify, r]
theorem TwoR.setS (h : TwoR w W f n g m) (x y : Value) : (set2 W (w.heap.size + 1 + 1) x y).cell? ⟨w.heap.size, 0, none⟩ = some (.int .i64 f) ∧ (set2 W (w.heap.size + 1 + 1) x y).cell? ⟨w.heap.size, 1, none⟩ = some (.int .i64 n) ∧ (set2 W (w.heap.size + 1 + 1) x y).cell? ⟨w.heap.size + 1, 0, none⟩ = some (.int .i64 g) ∧ (set2 W (w.heap.size + 1 + 1) x y).cell? ⟨w.heap.size + 1, 1, none⟩ = some (.int .i64 m) := by
  have e0 := set2_other W (w.heap.size + 1 + 1) w.heap.size x y (by omega)
  have e1 := set2_other W (w.heap.size + 1 + 1) (w.heap.size + 1) x y (by omega)
  obtain ⟨c0, c1, c2, c3⟩ := h.s
  exact ⟨(World.cell?_of_block (a := ⟨w.heap.size, 0, none⟩) e0).trans c0, (World.cell?_of_block (a := ⟨w.heap.size, 1, none⟩) e0).trans c1, (World.cell?_of_block (a := ⟨w.heap.size + 1, 0, none⟩) e1).trans c2, (World.cell?_of_block (a := ⟨w.heap.size + 1, 1, none⟩) e1).trans c3⟩
end
set_option maxHeartbeats 4000000 in
set_option maxRecDepth 100000 in
theorem join_sp (f n g m : Int) (w : World) (h : WhS f n) (k : WhS g m) (ht : touchB f n g m = true) : Calls Tryz.prog 148 #[.agg #[.int .i64 f, .int .i64 n], .agg #[.int .i64 g, .int .i64 m]] w fun e w' => e = .returned (.tuple #[.agg #[.int .i64 (min f g), .int .i64 (max (f + n) (g + m) - min f g)], .bool true]) ∧ Below w.heap.size w w' := by
  obtain ⟨w1, hw1, B1, s1, c0, c1, d0, d1, r0⟩ := box222 w f n g m 59
  have T : TwoR w w1 f n g m := ⟨B1, by omega, ⟨c0, c1, d0, d1⟩, r0⟩
  clear d0 d1 r0 B1 s1
  have Htc := hide (fun w => (touch_sp f n g m w h k))
  rw [ht] at Htc
  obtain ⟨A, hA⟩ : ∃ A, min f g = A := ⟨_, rfl⟩
  obtain ⟨B, hB⟩ : ∃ B, max (f + n) (g + m) = B := ⟨_, rfl⟩
  have m1 : (if g < f then g else f) = A := by rw [← hA, Int.min_def]; split <;> split <;> omega
  have m2 : (if f + n < g + m then g + m else f + n) = B := by rw [← hB, Int.max_def]; split <;> split <;> omega
  rw [hA, hB]
  obtain ⟨h1, h2, h3⟩ := id h
  obtain ⟨h4, h5, h6⟩ := id k
  have a0 : 0 ≤ A := by omega
  have ab : A < B := by omega
  have b6 : B ≤ 64 := by omega
  clear ht
  go_enter Tryz.func148, Tryz.ntmps148
  go_wp2_with fail
  rw [← hw1]
  clear hw1 c0 c1
  obtain ⟨c0, c1, d0, d1⟩ := T.s
  go_wp2_with fail
  refine (unhide Htc w1).mono ?_
  rintro e w2 ⟨rfl, HB2⟩
  replace T := T.below HB2
  clear c0 c1 d0 d1 HB2 w1
  replace T := T.drew
  go_wp2_with fail
  go_region_held3 (fun W => W.cell? ⟨w.heap.size, 0, none⟩ = some (.int .i64 f) ∧ W.cell? ⟨w.heap.size, 1, none⟩ = some (.int .i64 n) ∧ W.cell? ⟨w.heap.size + 1, 0, none⟩ = some (.int .i64 g) ∧ W.cell? ⟨w.heap.size + 1, 1, none⟩ = some (.int .i64 m))
    (first | with_reducible exact T.s | with_reducible exact T.setS _ _)
    ((first
        | (go_at_call 162; refine (end_sp _ _ _ (by assumption)).mono ?_; intro e v hv; obtain ⟨he, HB⟩ := hv; subst he; replace T : TwoR w v f n g m := T.below HB; clear HB)
        | (go_at_call 123; refine (of_yes _ _ _ (by assumption) (by assumption) (by assumption)).mono ?_; intro e v hv; obtain ⟨he, HB⟩ := hv; subst he; replace T : TwoR w v f n g m := T.below HB; clear HB; obtain ⟨y0, y1, z0, z1⟩ := T.z)))
  all_goals
    have T2 := T.set (.int .i64 A) (.int .i64 (B - A))
    have B9 : Below w.heap.size w (set2 v (w.heap.size + 1 + 1) (.int .i64 A) (.int .i64 (B - A))) := (T.1.setCell (p := ⟨w.heap.size + 1 + 1, 0, none⟩) (by show w.heap.size ≤ w.heap.size + 1 + 1; omega) _).setCell (p := ⟨w.heap.size + 1 + 1, 1, none⟩) (by show w.heap.size ≤ w.heap.size + 1 + 1; omega) _
    go_wp2_with fail
    refine bodyPost_ret (results_row_tmp Tryz.results148 _ _ (w.heap.size + 1 + 1) 59 #[.int .i64 A, .int .i64 (B - A)] (0, 0) _ rfl T2 Tryz.underlying59 rfl Tryz.infoSpan) rfl ?_
    exact ⟨rfl, B9⟩
end Go.Proofs.YtjjfdkdneibjbaaGreatDoor
