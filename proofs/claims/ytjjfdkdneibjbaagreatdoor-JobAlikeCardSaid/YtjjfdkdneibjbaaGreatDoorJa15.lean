/- Joined texts: ExtW, ExtO, ExtP, ExtD, ExtC, ExtS, ExtF. -/
import Derived.Test.YtjjfdkdneibjbaaGreatDoorJa11
import Derived.Test.YtjjfdkdneibjbaaGreatDoorJa14
/- Walk of package extent: an extent's span, Id and part; is it tidy; are two one. -/
namespace Go.Proofs.YtjjfdkdneibjbaaGreatDoor
open Go.RowKit

/-- An extent within the volume and the pool. -/
def WhE (x : Ext) : Prop := 0 ≤ x.from_ ∧ 1 ≤ x.n ∧ x.from_ + x.n ≤ 64 ∧ 0 ≤ x.id ∧ (x.id ≠ 0 → x.id + x.n ≤ 61)
set_option maxHeartbeats 1000000 in
theorem own_ex (f n i : Int) (w : World) : Calls Tryz.prog 166 #[.agg #[.int .i64 f, .int .i64 n, .int .i64 i]] w fun e w' => e = .returned (.agg #[.int .i64 f, .int .i64 n]) ∧ Below w.heap.size w w' := by
  obtain ⟨w1, hw1, B1, s1, c0, c1, c2⟩ := box3 w f n i 107
  have lt0 : w.heap.size < w1.heap.size := by omega
  go_enter Tryz.func166, Tryz.ntmps166
  go_wp2_with fail
  refine bodyPost_ret (results_cell_row Tryz.results166 _ _ (w.heap.size + 1) 59 #[.int .i64 f, .int .i64 n] (0, 0) _ rfl (by rw [← hal w (.cells #[.int .i64 f, .int .i64 n, .int .i64 i] 107)]; exact heap_new _ _) Tryz.underlying59 rfl Tryz.infoSpan) rfl ?_
  exact ⟨rfl, ((Below.refl _ _).alloc (Nat.le_refl _) _).alloc (by rw [hal]; omega) _⟩
set_option maxHeartbeats 2000000 in
theorem single_ex (f n i : Int) (w : World) (h : WhE ⟨f, n, i⟩) : Calls Tryz.prog 164 #[.agg #[.int .i64 f, .int .i64 n, .int .i64 i]] w fun e w' => e = .returned (.bool true) ∧ Below w.heap.size w w' := by
  obtain ⟨h1, h2, h3, h4, h5⟩ := h
  have h1 : 0 ≤ f := h1
  have h2 : 1 ≤ n := h2
  have h3 : f + n ≤ 64 := h3
  have h4 : 0 ≤ i := h4
  have h5 : i ≠ 0 → i + n ≤ 61 := h5
  obtain ⟨w1, hw1, B1, s1, c0, c1, c2⟩ := box3 w f n i 107
  go_enter Tryz.func164, Tryz.ntmps164
  go_wp2_with fail
  rw [← hw1]
  clear hw1
  refine (own_ex f n i w1).mono ?_
  rintro e w2 ⟨rfl, HB2⟩
  have c2 := ((bcell HB2).1 _ 2 s1).trans c2
  have c1 := ((bcell HB2).1 _ 1 s1).trans c1
  have B2 : Below w.heap.size w w2 := B1.trans (HB2.mono (by omega))
  have s2 : w.heap.size < w2.heap.size := by have := HB2.size; omega
  clear HB2 B1 c0
  go_wp2_with fail
  refine (valid_sp f n w2 ⟨h1, h2, h3⟩).mono ?_
  rintro e w3 ⟨rfl, HB2⟩
  have c2 := ((bcell HB2).1 _ 2 s2).trans c2
  have c1 := ((bcell HB2).1 _ 1 s2).trans c1
  have B3 : Below w.heap.size w w3 := B2.trans (HB2.mono (by omega))
  clear HB2 B2
  rcases (show i = 0 ∨ (1 ≤ i ∧ i ≤ 60 ∧ n ≤ 61 - i) by omega) with h | ⟨k1, k2, k3⟩
  · subst h
    go_wp2
    go_ret
    exact ⟨rfl, B3⟩
  · have h0 : (i == 0) = false := beq_eq_false_iff_ne.2 (by omega)
    have k4 : i ≤ 64 := by omega
    go_wp2
    go_ret
    exact ⟨rfl, B3⟩
set_option maxHeartbeats 1000000 in
theorem id_ex (f n i k : Int) (w : World) (h : WhE ⟨f, n, i⟩) (hk : 0 ≤ k ∧ k ≤ 64) : Calls Tryz.prog 151 #[.agg #[.int .i64 f, .int .i64 n, .int .i64 i], .int .i64 k] w fun e w' => e = .returned (.int .i64 (if i = 0 then 0 else i + k - f)) ∧ Below w.heap.size w w' := by
  obtain ⟨h1, h2, h3, h4, h5⟩ := h
  have h1 : 0 ≤ f := h1
  have h2 : 1 ≤ n := h2
  have h3 : f + n ≤ 64 := h3
  have h4 : 0 ≤ i := h4
  have h5 : i ≠ 0 → i + n ≤ 61 := h5
  have B1 : Below w.heap.size w (w.alloc (.cells #[.int .i64 f, .int .i64 n, .int .i64 i] 107)) := (Below.refl _ _).alloc (Nat.le_refl _) _
  obtain ⟨k1, k2⟩ := hk
  by_cases h0 : i = 0
  · subst h0
    go_enter Tryz.func151, Tryz.ntmps151
    go_wp2
    go_ret
    exact ⟨rfl, B1⟩
  · have h6 : (i == 0) = false := beq_eq_false_iff_ne.2 h0
    have k3 : i ≤ 60 := by have := h5 h0; omega
    have k4 : f ≤ 64 := by omega
    rw [if_neg h0]
    go_enter Tryz.func151, Tryz.ntmps151
    go_wp2
    go_ret
    exact ⟨rfl, B1⟩
end Go.Proofs.YtjjfdkdneibjbaaGreatDoor
/- Walk of package extent: are two one. -/
namespace Go.Proofs.YtjjfdkdneibjbaaGreatDoor
open Go.RowKit

/-- Two boxes of extents. -/
def Six (w W : World) (f n i g m j : Int) : Prop := Below w.heap.size w W ∧ w.heap.size + 2 ≤ W.heap.size ∧ W.cell? ⟨w.heap.size, 0, none⟩ = some (.int .i64 f) ∧ W.cell? ⟨w.heap.size, 1, none⟩ = some (.int .i64 n) ∧ W.cell? ⟨w.heap.size, 2, none⟩ = some (.int .i64 i) ∧ W.cell? ⟨w.heap.size + 1, 0, none⟩ = some (.int .i64 g) ∧ W.cell? ⟨w.heap.size + 1, 1, none⟩ = some (.int .i64 m) ∧ W.cell? ⟨w.heap.size + 1, 2, none⟩ = some (.int .i64 j)
theorem Six.below {w W W' : World} {f n i g m j : Int} (h : Six w W f n i g m j) (hb : Below W.heap.size W W') : Six w W' f n i g m j := by
  obtain ⟨b, s, c0, c1, c2, c3, c4, c5⟩ := h
  have := hb.size
  exact ⟨b.trans (hb.mono (by omega)), by omega, ((bcell hb).1 _ 0 (by omega)).trans c0, ((bcell hb).1 _ 1 (by omega)).trans c1, ((bcell hb).1 _ 2 (by omega)).trans c2, ((bcell hb).1 _ 0 (by omega)).trans c3, ((bcell hb).1 _ 1 (by omega)).trans c4, ((bcell hb).1 _ 2 (by omega)).trans c5⟩
theorem Six.drew {w W : World} {f n i g m j : Int} (h : Six w W f n i g m j) : Six w W.drew f n i g m j := ⟨h.1.drew, h.2.1, h.2.2⟩
theorem Six.s {w W : World} {f n i g m j : Int} (h : Six w W f n i g m j) : W.cell? ⟨w.heap.size, 0, none⟩ = some (.int .i64 f) ∧ W.cell? ⟨w.heap.size, 1, none⟩ = some (.int .i64 n) ∧ W.cell? ⟨w.heap.size, 2, none⟩ = some (.int .i64 i) ∧ W.cell? ⟨w.heap.size + 1, 0, none⟩ = some (.int .i64 g) ∧ W.cell? ⟨w.heap.size + 1, 1, none⟩ = some (.int .i64 m) ∧ W.cell? ⟨w.heap.size + 1, 2, none⟩ = some (.int .i64 j) := h.2.2
theorem box33 (w : World) (f n i g m j : Int) (T : Nat) : ∃ w1, w1 = (w.alloc (.cells #[.int .i64 f, .int .i64 n, .int .i64 i] T)).alloc (.cells #[.int .i64 g, .int .i64 m, .int .i64 j] T) ∧ Six w w1 f n i g m j := by
  have e := hal w (.cells #[.int .i64 f, .int .i64 n, .int .i64 i] T)
  refine ⟨_, rfl, ((Below.refl _ _).alloc (Nat.le_refl _) _).alloc (by omega) _, by rw [hal, hal]; omega, alloc_cell (World.cell?_alloc_at _ _ _ _ rfl), alloc_cell (World.cell?_alloc_at _ _ _ _ rfl), alloc_cell (World.cell?_alloc_at _ _ _ _ rfl), ?_, ?_, ?_⟩
  all_goals (rw [← e]; exact World.cell?_alloc_at _ _ _ _ rfl)
set_option maxHeartbeats 4000000 in
set_option maxRecDepth 100000 in
theorem one_ex (f n i g m j : Int) (w : World) (h : WhE ⟨f, n, i⟩) (hg : 0 ≤ g ∧ g ≤ 64) (hj : 0 ≤ j) : Calls Tryz.prog 191 #[.agg #[.int .i64 f, .int .i64 n, .int .i64 i], .agg #[.int .i64 g, .int .i64 m, .int .i64 j]] w fun e w' => e = .returned (.bool (oneE ⟨f, n, i⟩ ⟨g, m, j⟩)) ∧ Below w.heap.size w w' := by
  obtain ⟨w1, hw1, T⟩ := box33 w f n i g m j 107
  obtain ⟨h1, h2, h3, h4, h5⟩ := h
  have h1 : 0 ≤ f := h1
  have h2 : 1 ≤ n := h2
  have h3 : f + n ≤ 64 := h3
  have h4 : 0 ≤ i := h4
  have h5 : i ≠ 0 → i + n ≤ 61 := h5
  obtain ⟨g1, g2⟩ := hg
  have hs : WhS f n := ⟨h1, h2, h3⟩
  obtain ⟨r, hr⟩ : ∃ r, r = oneE ⟨f, n, i⟩ ⟨g, m, j⟩ := ⟨_, rfl⟩
  have hr2 : r = (decide (f + n = g) && (if i = 0 then decide (j = 0) else decide (0 < j) && decide (j = i + n))) := hr
  rw [← hr]
  have Hr := hide hr2
  clear hr hr2
  go_enter Tryz.func191, Tryz.ntmps191
  go_wp2_with fail
  rw [← hw1]
  clear hw1
  replace T := T.drew
  by_cases hfg : f + n = g
  · go_region_held3 (fun W => W.cell? ⟨w.heap.size, 0, none⟩ = some (.int .i64 f) ∧ W.cell? ⟨w.heap.size, 1, none⟩ = some (.int .i64 n) ∧ W.cell? ⟨w.heap.size, 2, none⟩ = some (.int .i64 i) ∧ W.cell? ⟨w.heap.size + 1, 0, none⟩ = some (.int .i64 g) ∧ W.cell? ⟨w.heap.size + 1, 1, none⟩ = some (.int .i64 m) ∧ W.cell? ⟨w.heap.size + 1, 2, none⟩ = some (.int .i64 j))
      (with_reducible exact T.s)
      ((first
        | (go_at_call 166; refine (own_ex _ _ _ _).mono ?_; intro e v hv; obtain ⟨he, HB⟩ := hv; subst he; replace T : Six w v f n i g m j := T.below HB; clear HB)
        | (go_at_call 162; refine (end_sp _ _ _ (by assumption)).mono ?_; intro e v hv; obtain ⟨he, HB⟩ := hv; subst he; replace T : Six w v f n i g m j := T.below HB; clear HB)))
    have c1 := T.2.2.2.1
    have c2 := T.2.2.2.2.1
    have d2 := T.2.2.2.2.2.2.2
    have B := T.1
    clear T
    by_cases hi : i = 0
    · subst hi
      by_cases hj0 : j = 0
      · subst hj0
        have hr := hide (show r = true by rw [unhide Hr]; simp [hfg])
        go_wp2
        go_ret
        exact ⟨ret_bool (unhide hr).symm, B⟩
      · have hr := hide (show r = false by rw [unhide Hr]; simp [hj0])
        have e0 : (j == 0) = false := beq_eq_false_iff_ne.2 hj0
        go_wp2
        go_ret
        exact ⟨ret_bool (unhide hr).symm, B⟩
    · have e0 : (i == 0) = false := beq_eq_false_iff_ne.2 hi
      have i60 : i + n ≤ 61 := h5 hi
      rcases (show j = 0 ∨ (0 < j ∧ j = i + n) ∨ (0 < j ∧ j ≠ i + n) by omega) with k1 | ⟨k1, k2⟩ | ⟨k1, k2⟩
      · subst k1
        have hr := hide (show r = false by rw [unhide Hr]; simp [hi])
        clear h5
        go_wp2
        go_ret
        exact ⟨ret_bool (unhide hr).symm, B⟩
      · have hr := hide (show r = true by rw [unhide Hr]; simp [hi, hfg, k2]; omega)
        subst k2
        clear h5
        go_wp2
        go_ret
        exact ⟨ret_bool (unhide hr).symm, B⟩
      · have hr := hide (show r = false by rw [unhide Hr]; simp [hi, k2])
        have e1 : (j == i + n) = false := beq_eq_false_iff_ne.2 k2
        clear h5
        go_wp2
        go_ret
        exact ⟨ret_bool (unhide hr).symm, B⟩
  · have hr := hide (show r = false by rw [unhide Hr]; simp [hfg])
    go_region_held3 (fun W => W.cell? ⟨w.heap.size, 0, none⟩ = some (.int .i64 f) ∧ W.cell? ⟨w.heap.size, 1, none⟩ = some (.int .i64 n) ∧ W.cell? ⟨w.heap.size, 2, none⟩ = some (.int .i64 i) ∧ W.cell? ⟨w.heap.size + 1, 0, none⟩ = some (.int .i64 g) ∧ W.cell? ⟨w.heap.size + 1, 1, none⟩ = some (.int .i64 m) ∧ W.cell? ⟨w.heap.size + 1, 2, none⟩ = some (.int .i64 j))
      (with_reducible exact T.s)
      ((first
        | (go_at_call 166; refine (own_ex _ _ _ _).mono ?_; intro e v hv; obtain ⟨he, HB⟩ := hv; subst he; replace T : Six w v f n i g m j := T.below HB; clear HB)
        | (go_at_call 162; refine (end_sp _ _ _ (by assumption)).mono ?_; intro e v hv; obtain ⟨he, HB⟩ := hv; subst he; replace T : Six w v f n i g m j := T.below HB; clear HB)))
    have B := T.1
    clear T h5
    go_wp2
    go_ret
    exact ⟨ret_bool (unhide hr).symm, B⟩
end Go.Proofs.YtjjfdkdneibjbaaGreatDoor
/- Walk of package extent: what an extent says of its own span. -/
namespace Go.Proofs.YtjjfdkdneibjbaaGreatDoor
open Go.RowKit

/-- Two boxes and a result. -/
def Par (w W : World) (f n i : Int) : Prop := Below w.heap.size w W ∧ w.heap.size + 3 ≤ W.heap.size ∧ (W.cell? ⟨w.heap.size, 0, none⟩ = some (.int .i64 f) ∧ W.cell? ⟨w.heap.size, 1, none⟩ = some (.int .i64 n) ∧ W.cell? ⟨w.heap.size, 2, none⟩ = some (.int .i64 i) ∧ W.cell? ⟨w.heap.size + 1, 0, none⟩ = some (.int .i64 f) ∧ W.cell? ⟨w.heap.size + 1, 1, none⟩ = some (.int .i64 n)) ∧
  W.heap[w.heap.size + 1 + 1]? = some (.cells #[.int .i64 0, .int .i64 0, .int .i64 0] 107 (0, 0))
theorem Par.below {w W W' : World} {f n i : Int} (h : Par w W f n i) (hb : Below W.heap.size W W') : Par w W' f n i := by
  obtain ⟨b, s, ⟨c0, c1, c2, c3, c4⟩, r⟩ := h
  have := hb.size
  exact ⟨b.trans (hb.mono (by omega)), by omega, ⟨((bcell hb).1 _ 0 (by omega)).trans c0, ((bcell hb).1 _ 1 (by omega)).trans c1, ((bcell hb).1 _ 2 (by omega)).trans c2, ((bcell hb).1 _ 0 (by omega)).trans c3, ((bcell hb).1 _ 1 (by omega)).trans c4⟩, (hb.block _ (by omega)).trans r⟩
theorem Par.drew {w W : World} {f n i : Int} (h : Par w W f n i) : Par w W.drew f n i := ⟨h.1.drew, h.2.1, h.2.2.1, h.2.2.2⟩
theorem Par.s {w W : World} {f n i : Int} (h : Par w W f n i) : W.cell? ⟨w.heap.size, 0, none⟩ = some (.int .i64 f) ∧ W.cell? ⟨w.heap.size, 1, none⟩ = some (.int .i64 n) ∧ W.cell? ⟨w.heap.size, 2, none⟩ = some (.int .i64 i) ∧ W.cell? ⟨w.heap.size + 1, 0, none⟩ = some (.int .i64 f) ∧ W.cell? ⟨w.heap.size + 1, 1, none⟩ = some (.int .i64 n) := h.2.2.1
theorem Par.z {w W : World} {f n i : Int} (h : Par w W f n i) : W.cell? ⟨w.heap.size + 1 + 1, 0, none⟩ = some (.int .i64 0) ∧ W.cell? ⟨w.heap.size + 1 + 1, 1, none⟩ = some (.int .i64 0) ∧ W.cell? ⟨w.heap.size + 1 + 1, 2, none⟩ = some (.int .i64 0) ∧ W.frozen? ⟨w.heap.size + 1 + 1, 0, none⟩ = false ∧ W.frozen? ⟨w.heap.size + 1 + 1, 1, none⟩ = false ∧ W.frozen? ⟨w.heap.size + 1 + 1, 2, none⟩ = false := by
  have r := h.2.2.2
  exact ⟨cell_of_heap r rfl, cell_of_heap r rfl, cell_of_heap r rfl, by simp [World.frozen?, r], by simp [World.frozen?, r], by simp [World.frozen?, r]⟩
/-- The result is stored. -/
def Par3 (w W : World) (f n i : Int) : Prop := Below w.heap.size w W ∧ (W.cell? ⟨w.heap.size, 0, none⟩ = some (.int .i64 f) ∧ W.cell? ⟨w.heap.size, 1, none⟩ = some (.int .i64 n) ∧ W.cell? ⟨w.heap.size, 2, none⟩ = some (.int .i64 i) ∧ W.cell? ⟨w.heap.size + 1, 0, none⟩ = some (.int .i64 f) ∧ W.cell? ⟨w.heap.size + 1, 1, none⟩ = some (.int .i64 n)) ∧
  W.heap[w.heap.size + 1 + 1]? = some (.cells #[.int .i64 f, .int .i64 n, .int .i64 i] 107 (0, 0))
theorem Par.set {w W : World} {f n i : Int} (h : Par w W f n i) : Par3 w (((W.setCell ⟨w.heap.size + 1 + 1, 0, none⟩ (.int .i64 f)).setCell ⟨w.heap.size + 1 + 1, 1, none⟩ (.int .i64 n)).setCell ⟨w.heap.size + 1 + 1, 2, none⟩ (.int .i64 i)) f n i := by
  obtain ⟨b, s, ⟨c0, c1, c2, c3, c4⟩, r⟩ := h
  have n0 : ∀ i, w.heap.size + 1 + 1 ≠ (⟨w.heap.size, i, none⟩ : Addr).block := fun i => by show _ ≠ w.heap.size; omega
  have n1 : ∀ i, w.heap.size + 1 + 1 ≠ (⟨w.heap.size + 1, i, none⟩ : Addr).block := fun i => by show _ ≠ w.heap.size + 1; omega
  have hl : w.heap.size ≤ w.heap.size + 1 + 1 := by omega
  refine ⟨((b.setCell (p := ⟨w.heap.size + 1 + 1, 0, none⟩) hl _).setCell (p := ⟨w.heap.size + 1 + 1, 1, none⟩) hl _).setCell (p := ⟨w.heap.size + 1 + 1, 2, none⟩) hl _, ⟨?_, ?_, ?_, ?_, ?_⟩, ?_⟩
  · rw [World.cell?_setCell_far _ _ _ _ (n0 0), World.cell?_setCell_far _ _ _ _ (n0 0), World.cell?_setCell_far _ _ _ _ (n0 0)]; exact c0
  · rw [World.cell?_setCell_far _ _ _ _ (n0 1), World.cell?_setCell_far _ _ _ _ (n0 1), World.cell?_setCell_far _ _ _ _ (n0 1)]; exact c1
  · rw [World.cell?_setCell_far _ _ _ _ (n0 2), World.cell?_setCell_far _ _ _ _ (n0 2), World.cell?_setCell_far _ _ _ _ (n0 2)]; exact c2
  · rw [World.cell?_setCell_far _ _ _ _ (n1 0), World.cell?_setCell_far _ _ _ _ (n1 0), World.cell?_setCell_far _ _ _ _ (n1 0)]; exact c3
  · rw [World.cell?_setCell_far _ _ _ _ (n1 1), World.cell?_setCell_far _ _ _ _ (n1 1), World.cell?_setCell_far _ _ _ _ (n1 1)]; exact c4
  · simp [World.setCell, Array.getElem?_modify, r]
theorem Par3.s {w W : World} {f n i : Int} (h : Par3 w W f n i) : W.cell? ⟨w.heap.size, 0, none⟩ = some (.int .i64 f) ∧ W.cell? ⟨w.heap.size, 1, none⟩ = some (.int .i64 n) ∧ W.cell? ⟨w.heap.size, 2, none⟩ = some (.int .i64 i) ∧ W.cell? ⟨w.heap.size + 1, 0, none⟩ = some (.int .i64 f) ∧ W.cell? ⟨w.heap.size + 1, 1, none⟩ = some (.int .i64 n) := h.2.1
theorem boxPar (w : World) (f n i : Int) : ∃ w1, w1 = ((w.alloc (.cells #[.int .i64 f, .int .i64 n, .int .i64 i] 107)).alloc (.cells #[.int .i64 f, .int .i64 n] 59)).alloc (.cells #[.int .i64 0, .int .i64 0, .int .i64 0] 107) ∧ Par w w1 f n i := by
  have e := hal w (.cells #[.int .i64 f, .int .i64 n, .int .i64 i] 107)
  have e2 := hal (w.alloc (.cells #[.int .i64 f, .int .i64 n, .int .i64 i] 107)) (.cells #[.int .i64 f, .int .i64 n] 59)
  rw [e] at e2
  refine ⟨_, rfl, (((Below.refl _ _).alloc (Nat.le_refl _) _).alloc (by omega) _).alloc (by omega) _, by rw [hal]; omega, ⟨alloc_cell (alloc_cell (World.cell?_alloc_at _ _ _ _ rfl)), alloc_cell (alloc_cell (World.cell?_alloc_at _ _ _ _ rfl)), alloc_cell (alloc_cell (World.cell?_alloc_at _ _ _ _ rfl)), ?_, ?_⟩, ?_⟩
  · rw [← e]; exact alloc_cell (World.cell?_alloc_at _ _ _ _ rfl)
  · rw [← e]; exact alloc_cell (World.cell?_alloc_at _ _ _ _ rfl)
  · rw [← e2]; exact heap_new _ _
set_option maxHeartbeats 4000000 in
set_option maxRecDepth 100000 in
theorem part_ex (f n i : Int) (w : World) (h : WhE ⟨f, n, i⟩) : Calls Tryz.prog 190 #[.agg #[.int .i64 f, .int .i64 n, .int .i64 i], .agg #[.int .i64 f, .int .i64 n]] w fun e w' => e = .returned (.agg #[.int .i64 f, .int .i64 n, .int .i64 i]) ∧ Below w.heap.size w w' := by
  obtain ⟨w1, hw1, T⟩ := boxPar w f n i
  have hid : ∀ w : World, Calls Tryz.prog 151 #[.agg #[.int .i64 f, .int .i64 n, .int .i64 i], .int .i64 f] w fun e w' => e = .returned (.int .i64 i) ∧ Below w.heap.size w w' := fun w => (id_ex f n i f w h (by have h1 : 0 ≤ f := h.1; have h2 : 1 ≤ n := h.2.1; have h3 : f + n ≤ 64 := h.2.2.1; omega)).mono fun e w' ⟨he, hb⟩ => ⟨by rw [he]; congr 2; split <;> omega, hb⟩
  have Hid := hide hid
  clear hid h
  go_enter Tryz.func190, Tryz.ntmps190
  go_wp2_with fail
  rw [← hw1]
  clear hw1
  replace T := T.drew
  go_region_held3 (fun W => W.cell? ⟨w.heap.size, 0, none⟩ = some (.int .i64 f) ∧ W.cell? ⟨w.heap.size, 1, none⟩ = some (.int .i64 n) ∧ W.cell? ⟨w.heap.size, 2, none⟩ = some (.int .i64 i) ∧ W.cell? ⟨w.heap.size + 1, 0, none⟩ = some (.int .i64 f) ∧ W.cell? ⟨w.heap.size + 1, 1, none⟩ = some (.int .i64 n))
    (first | with_reducible exact T.s | with_reducible exact T.set.s)
    ((go_at_call 151; refine (unhide Hid _).mono ?_; intro e v hv; obtain ⟨he, HB⟩ := hv; subst he; replace T : Par w v f n i := T.below HB; clear HB; obtain ⟨y0, y1, y2, z0, z1, z2⟩ := T.z))
  replace T := T.set
  go_wp2_with fail
  refine bodyPost_ret (results_cell_row Tryz.results190 _ _ (w.heap.size + 1 + 1) 107 #[.int .i64 f, .int .i64 n, .int .i64 i] (0, 0) _ rfl T.2.2 Tryz.underlying107 rfl Tryz.infoExt3) rfl ?_
  exact ⟨rfl, T.1⟩
end Go.Proofs.YtjjfdkdneibjbaaGreatDoor
/- Walk of package extent: an extent behind a map. -/
namespace Go.Proofs.YtjjfdkdneibjbaaGreatDoor
open Go.RowKit

/-- A box and the last one of a row. -/
def Adr (w W : World) (g k : Nat) (f n i p q r : Int) : Prop := Below w.heap.size w W ∧ w.heap.size + 1 ≤ W.heap.size ∧ g < w.heap.size ∧ W.cell? ⟨w.heap.size, 0, none⟩ = some (.int .i64 f) ∧ W.cell? ⟨w.heap.size, 1, none⟩ = some (.int .i64 n) ∧ W.cell? ⟨w.heap.size, 2, none⟩ = some (.int .i64 i) ∧
  W.cell? ⟨g, k * 3, none⟩ = some (.int .i64 p) ∧ W.cell? ⟨g, k * 3 + 1, none⟩ = some (.int .i64 q) ∧ W.cell? ⟨g, k * 3 + 2, none⟩ = some (.int .i64 r)
theorem Adr.below {w W W' : World} {g k : Nat} {f n i p q r : Int} (h : Adr w W g k f n i p q r) (hb : Below W.heap.size W W') : Adr w W' g k f n i p q r := by
  obtain ⟨b, s, hg, c0, c1, c2, c3, c4, c5⟩ := h
  have := hb.size
  exact ⟨b.trans (hb.mono (by omega)), by omega, hg, ((bcell hb).1 _ _ (by omega)).trans c0, ((bcell hb).1 _ _ (by omega)).trans c1, ((bcell hb).1 _ _ (by omega)).trans c2, ((bcell hb).1 _ _ (by omega)).trans c3, ((bcell hb).1 _ _ (by omega)).trans c4, ((bcell hb).1 _ _ (by omega)).trans c5⟩
theorem Adr.drew {w W : World} {g k : Nat} {f n i p q r : Int} (h : Adr w W g k f n i p q r) : Adr w W.drew g k f n i p q r := ⟨h.1.drew, h.2⟩
theorem Adr.s {w W : World} {g k : Nat} {f n i p q r : Int} (h : Adr w W g k f n i p q r) : W.cell? ⟨w.heap.size, 0, none⟩ = some (.int .i64 f) ∧ W.cell? ⟨w.heap.size, 1, none⟩ = some (.int .i64 n) ∧ W.cell? ⟨w.heap.size, 2, none⟩ = some (.int .i64 i) ∧
  W.cell? ⟨g, k * 3, none⟩ = some (.int .i64 p) ∧ W.cell? ⟨g, k * 3 + 1, none⟩ = some (.int .i64 q) ∧ W.cell? ⟨g, k * 3 + 2, none⟩ = some (.int .i64 r) := h.2.2.2
set_option maxHeartbeats 4000000 in
set_option maxRecDepth 100000 in
/-- Nothing is ahead of it. -/
theorem add_nil (v : Value) (f n i : Int) (base : Nat) (w : World) (hv : Own eE 107 w base v []) (hb : base ≤ w.heap.size) : Calls Tryz.prog 167 #[v, .agg #[.int .i64 f, .int .i64 n, .int .i64 i]] w fun e w' => (∃ v', e = .returned v' ∧ Own eE 107 w' base v' [⟨f, n, i⟩]) ∧ Below base w w' := by
  obtain ⟨i0, hi, hz0, hz1, hz2⟩ := info_parts Tryz.infoE
  obtain ⟨w1, hw1, B1, s1, c0, c1, c2⟩ := box3 w f n i 107
  have o1 := hv.below (w' := w1) B1
  have B0 : Below base w w1 := B1.mono hb
  obtain ⟨A, c, rfl, hsl, _⟩ := o1.sl
  have hcap := hsl.2.1
  go_enter Tryz.func167, Tryz.ntmps167
  go_wp2_with fail
  rw [← hw1]
  clear hw1 hv
  go_quiet (fail)
  obtain ⟨W, hW⟩ : ∃ W, W = w1.drewN nq := ⟨_, rfl⟩
  have o9 : Own eE 107 W base (.slice A 0 c) [] := by rw [hW]; exact o1
  have c0 : W.cell? ⟨w.heap.size, 0, none⟩ = some (.int .i64 f) := by rw [hW]; exact c0
  have c1 : W.cell? ⟨w.heap.size, 1, none⟩ = some (.int .i64 n) := by rw [hW]; exact c1
  have c2 : W.cell? ⟨w.heap.size, 2, none⟩ = some (.int .i64 i) := by rw [hW]; exact c2
  have B9 : Below base w W := by rw [hW]; exact below_drewN B0 _
  have s9 : base ≤ W.heap.size := by rw [hW]; show base ≤ w1.heap.size; omega
  rw [← hW]
  clear hW o1 hsl B1 B0
  go_wp2_with (at_builtin; refine wpList_append_one eE rfl _ _ _ rfl base 107 i0 _ 24 Tryz.underlying42 hi hz0 hz1 hz2 rfl (by decide) (.slice A 0 c) [] rfl _ o9 ⟨f, n, i⟩ #[.int .i64 f, .int .i64 n, .int .i64 i] rfl (by simp [Act.eval]) (by intro u hu; simp at hu; rcases hu with rfl | rfl | rfl <;> rfl) ?c3 ?c4 s9 ?_)
  case c3 => unfold maxLen; simp
  case c4 => simp
  intro v4 w4 hown4 hgr4 hloc4
  have hb4 := B9.alloc s9 (.cells #[.int .i64 f, .int .i64 n, .int .i64 i] 107)
  have B4 : Below base w w4 := hb4.grown hgr4 (by rw [hal]; omega) fun q hq => (o9.lt q hq).1
  clear hgr4 hloc4 hb4 o9
  go_wp2
  go_ret
  exact ⟨⟨_, rfl, hown4⟩, B4⟩
set_option maxHeartbeats 8000000 in
set_option maxRecDepth 100000 in
/-- One is ahead of it. -/
theorem add_more (v : Value) (m : List Ext) (p q r f n i : Int) (base : Nat) (w : World) (hv : Own eE 107 w base v (m ++ [⟨p, q, r⟩])) (hb : base ≤ w.heap.size) (hm : m.length < 64) (hy : WhE ⟨p, q, r⟩) (hx : WhE ⟨f, n, i⟩) : Calls Tryz.prog 167 #[v, .agg #[.int .i64 f, .int .i64 n, .int .i64 i]] w fun e w' => (∃ v', e = .returned v' ∧ Own eE 107 w' base v' (if oneE ⟨p, q, r⟩ ⟨f, n, i⟩ = true then m ++ [⟨p, q + n, r⟩] else m ++ [⟨p, q, r⟩] ++ [⟨f, n, i⟩])) ∧ Below base w w' := by
  obtain ⟨i0, hi, hz0, hz1, hz2⟩ := info_parts Tryz.infoE
  obtain ⟨w1, hw1, B1, s1, c0, c1, c2⟩ := box3 w f n i 107
  have o1 := hv.below (w' := w1) B1
  obtain ⟨E, hE⟩ : ∃ E, E = m ++ [⟨p, q, r⟩] := ⟨_, rfl⟩
  have hlen : E.length = m.length + 1 := by rw [hE]; simp
  have hll : m.length < E.length := by omega
  have hEx : E[m.length]'hll = ⟨p, q, r⟩ := by simp [hE]
  have hEs : ∀ y, E.set m.length y = m ++ [y] := fun y => by rw [hE]; simp
  rw [← hE] at hv o1 ⊢
  rcases hv.shape with ⟨_, h0⟩ | ⟨g, cap, rfl, hg1, hg2, hg3, hg4⟩
  · rw [h0] at hlen; simp at hlen
  have d0 : w1.cell? ⟨g, m.length * 3, none⟩ = some (.int .i64 p) := by
    have := o1.cell (i := m.length) (j := 0) hll (by decide)
    rw [hEx] at this
    simpa [eE] using this
  have d1 : w1.cell? ⟨g, m.length * 3 + 1, none⟩ = some (.int .i64 q) := by
    have := o1.cell (i := m.length) (j := 1) hll (by decide)
    rw [hEx] at this
    simpa [eE] using this
  have d2 : w1.cell? ⟨g, m.length * 3 + 2, none⟩ = some (.int .i64 r) := by
    have := o1.cell (i := m.length) (j := 2) hll (by decide)
    rw [hEx] at this
    simpa [eE] using this
  have T : Adr w w1 g m.length f n i p q r := ⟨B1, s1, hg2, c0, c1, c2, d0, d1, d2⟩
  replace T := T.drew
  have hone : ∀ w : World, Calls Tryz.prog 191 #[.agg #[.int .i64 p, .int .i64 q, .int .i64 r], .agg #[.int .i64 f, .int .i64 n, .int .i64 i]] w fun e w' => e = .returned (.bool (oneE ⟨p, q, r⟩ ⟨f, n, i⟩)) ∧ Below w.heap.size w w' := fun w => one_ex p q r f n i w hy ⟨hx.1, by have h2 : 1 ≤ n := hx.2.1; have h3 : f + n ≤ 64 := hx.2.2.1; omega⟩ hx.2.2.2.1
  obtain ⟨b, hbb⟩ : ∃ b, b = oneE ⟨p, q, r⟩ ⟨f, n, i⟩ := ⟨_, rfl⟩
  rw [← hbb]
  rw [← hbb] at hone
  obtain ⟨R, hR⟩ : ∃ R, R = (if b = true then m ++ [⟨p, q + n, r⟩] else E ++ [⟨f, n, i⟩]) := ⟨_, rfl⟩
  rw [← hR]
  have HR := hide hR
  clear hR
  have Hone := hide hone
  have HV := hide hv
  have hq1 : 1 ≤ q := hy.2.1
  have hq0 : 0 ≤ p := hy.1
  have hq2 : p + q ≤ 64 := hy.2.2.1
  have hn1 : 1 ≤ n := hx.2.1
  have hn0 : 0 ≤ f := hx.1
  have hn2 : f + n ≤ 64 := hx.2.2.1
  clear hone c0 c1 c2 d0 d1 d2 o1 hv hE hbb hy hx B1 s1
  have HEx := hide hEx
  have HEs := hide hEs
  clear hEx hEs
  rw [hlen] at HV hg3 ⊢
  have hsl : ((m.length + 1 : Nat) : Int) - 1 = (m.length : Int) := by omega
  have hb0 : (0 : Int) ≤ (m.length : Int) := by omega
  have hb1 : (m.length : Int) < (m.length : Int) + 1 := by omega
  have hb2 : (m.length : Int) < ((m.length + 1 : Nat) : Int) := by omega
  go_enter Tryz.func167, Tryz.ntmps167
  go_wp2_with fail
  rw [← hw1]
  clear hw1
  go_region_held3 (fun W => W.cell? ⟨w.heap.size, 0, none⟩ = some (.int .i64 f) ∧ W.cell? ⟨w.heap.size, 1, none⟩ = some (.int .i64 n) ∧ W.cell? ⟨w.heap.size, 2, none⟩ = some (.int .i64 i) ∧ W.cell? ⟨g, m.length * 3, none⟩ = some (.int .i64 p) ∧ W.cell? ⟨g, m.length * 3 + 1, none⟩ = some (.int .i64 q) ∧ W.cell? ⟨g, m.length * 3 + 2, none⟩ = some (.int .i64 r))
    (with_reducible exact T.s)
    ((go_at_call 191; refine (unhide Hone _).mono ?_; intro e v hv; obtain ⟨he, HB⟩ := hv; subst he; replace T : Adr w v g m.length f n i p q r := T.below HB; clear HB))
  have o9 : Own eE 107 v base (.slice (some ⟨g, 0, none⟩) (m.length + 1) cap) E := (unhide HV).below T.1
  have B9 : Below base w v := T.1.mono hb
  have s9 : base ≤ v.heap.size := by have := T.2.1; omega
  obtain ⟨_, _, _, c0, c1, c2, d0, d1, d2⟩ := T
  have hlE : E.length ≤ 64 := by omega
  cases b with
  | false =>
    have HR2 := hide (show R = E ++ [⟨f, n, i⟩] from (unhide HR).trans (if_neg (by simp)))
    go_wp2_with (at_builtin; refine wpList_append_one eE rfl _ _ _ rfl base 107 i0 _ 24 Tryz.underlying42 hi hz0 hz1 hz2 rfl (by decide) (.slice (some ⟨g, 0, none⟩) (m.length + 1) cap) E rfl _ o9 ⟨f, n, i⟩ #[.int .i64 f, .int .i64 n, .int .i64 i] rfl (by simp [Act.eval]) (by intro u hu; simp at hu; rcases hu with rfl | rfl | rfl <;> rfl) ?c3 ?c4 s9 ?_)
    case c3 => unfold maxLen; omega
    case c4 => omega
    intro v4 w4 hown4 hgr4 hloc4
    have hb4 := B9.alloc s9 (.cells #[.int .i64 f, .int .i64 n, .int .i64 i] 107)
    have B4 : Below base w w4 := hb4.grown hgr4 (by rw [hal]; omega) fun q hq => (o9.lt q hq).1
    clear hgr4 hloc4 hb4 o9
    go_wp2
    go_ret
    exact ⟨⟨_, rfl, by rw [unhide HR2]; exact hown4⟩, B4⟩
  | true =>
    have HR2 := hide (show R = m ++ [⟨p, q + n, r⟩] from (unhide HR).trans (if_pos rfl))
    have f1 := o9.frozen (m.length * 3 + 1)
    have o10 := Own.set (o9.drewN 1) hll (j := 1) (by decide) (.int .i64 (q + n)) ⟨p, q + n, r⟩ (fun j hj => by
      have hj3 : j < 3 := hj
      rw [unhide HEx]
      rcases (show j = 0 ∨ j = 1 ∨ j = 2 by omega) with rfl | rfl | rfl <;> rfl)
    rw [unhide HEs] at o10
    have B10 : Below base w ((v.drewN 1).setCell ⟨g, m.length * 3 + 1, none⟩ (.int .i64 (q + n))) := (below_drewN B9 1).setCell (p := ⟨g, m.length * 3 + 1, none⟩) (by show base ≤ g; omega) _
    have O10 := hide o10
    clear o10 o9
    go_wp2_with fail
    go_still_tail 10, (by kernel_rfl)
    change wpList _ _ _ _ _ v.drew
    go_wp2_with fail
    go_ret
    exact ⟨⟨_, rfl, by rw [unhide HR2]; exact unhide O10⟩, B10⟩
end Go.Proofs.YtjjfdkdneibjbaaGreatDoor
/- Walk of package extent: a map says nothing of a span: it stays. -/
namespace Go.Proofs.YtjjfdkdneibjbaaGreatDoor
open Go.RowKit

theorem add_ex (v : Value) (l : List Ext) (x : Ext) (base : Nat) (w : World) (hv : Own eE 107 w base v l) (hb : base ≤ w.heap.size) (hl : l.length ≤ 64) (hg : ∀ y ∈ l, WhE y) (hx : WhE x) : Calls Tryz.prog 167 #[v, .agg #[.int .i64 x.from_, .int .i64 x.n, .int .i64 x.id]] w fun e w' => (∃ v', e = .returned v' ∧ Own eE 107 w' base v' (addE l x)) ∧ Below base w w' := by
  rcases List.eq_nil_or_concat l with rfl | ⟨m, y, rfl⟩
  · exact add_nil v x.from_ x.n x.id base w hv hb
  · rw [List.concat_eq_append] at *
    rw [addE_snoc]
    have := add_more v m y.from_ y.n y.id x.from_ x.n x.id base w hv hb (by simp at hl; omega) (hg y (by simp)) hx
    rw [List.append_assoc] at this
    exact this
/-- The box of a span and the box of an extent. -/
def Cu (w W : World) (b p : Nat) (g m f n i : Int) : Prop := Below w.heap.size w W ∧ b < W.heap.size ∧ p < W.heap.size ∧ (W.cell? ⟨b, 0, none⟩ = some (.int .i64 g) ∧ W.cell? ⟨b, 1, none⟩ = some (.int .i64 m) ∧ W.cell? ⟨p, 0, none⟩ = some (.int .i64 f) ∧ W.cell? ⟨p, 1, none⟩ = some (.int .i64 n) ∧ W.cell? ⟨p, 2, none⟩ = some (.int .i64 i))
theorem Cu.below {w W W' : World} {b p : Nat} {g m f n i : Int} (h : Cu w W b p g m f n i) (hb : Below W.heap.size W W') (hs : w.heap.size ≤ W.heap.size) : Cu w W' b p g m f n i := by
  obtain ⟨B, s, t, c0, c1, c2, c3, c4⟩ := h
  have := hb.size
  exact ⟨B.trans (hb.mono hs), by omega, by omega, ((bcell hb).1 _ _ s).trans c0, ((bcell hb).1 _ _ s).trans c1, ((bcell hb).1 _ _ t).trans c2, ((bcell hb).1 _ _ t).trans c3, ((bcell hb).1 _ _ t).trans c4⟩
theorem Cu.drew {w W : World} {b p : Nat} {g m f n i : Int} (h : Cu w W b p g m f n i) : Cu w W.drew b p g m f n i := ⟨h.1.drew, h.2⟩
theorem Cu.s {w W : World} {b p : Nat} {g m f n i : Int} (h : Cu w W b p g m f n i) : W.cell? ⟨b, 0, none⟩ = some (.int .i64 g) ∧ W.cell? ⟨b, 1, none⟩ = some (.int .i64 m) ∧ W.cell? ⟨p, 0, none⟩ = some (.int .i64 f) ∧ W.cell? ⟨p, 1, none⟩ = some (.int .i64 n) ∧ W.cell? ⟨p, 2, none⟩ = some (.int .i64 i) := h.2.2.2
set_option maxHeartbeats 8000000 in
set_option maxRecDepth 100000 in
theorem cut_ex (A : Option Addr) (n c : Nat) (l : List Ext) (g m : Int) (w : World) (hs : Sl eE w A n c l) (h64 : n ≤ 64) (hw : ∀ x ∈ l, WhE x) (hN : NoOne l) (hk : WhS g m) (ho : ∀ x ∈ l, Off x.from_ x.n g m) :
    Calls Tryz.prog 165 #[.slice A n c, .agg #[.int .i64 g, .int .i64 m]] w fun e w' => (∃ v', e = .returned v' ∧ Own eE 107 w' w.heap.size v' l) ∧ Below w.heap.size w w' := by
  obtain ⟨w1, hw1, B1, s1, c0, c1⟩ := box2 w g m 59
  have s1e : w1.heap.size = w.heap.size + 1 := by rw [hw1, hal]
  obtain ⟨b, hb⟩ : ∃ b, b = w.heap.size := ⟨_, rfl⟩
  obtain ⟨B, hB⟩ : ∃ B, B = w.heap.size + 1 := ⟨_, rfl⟩
  have hbB : b < B := by omega
  have hwB : w.heap.size ≤ B := by omega
  have hBw : B ≤ w.heap.size + 1 := by omega
  have sB : B ≤ w1.heap.size := by omega
  have hn := hs.1
  have b1 := hs.2.1
  have b2 := hs.2.2.1
  have R := hide hs.2.2.2
  have Hn := hide hn
  have Hw := hide hw
  have HN := hide hN
  have Ho := hide ho
  have Hk := hide hk
  clear hs hn hw hN ho hk
  go_enter Tryz.func165, Tryz.ntmps165
  go_wp2_with fail
  rw [← hw1, ← hb]
  rw [← hb] at c0 c1
  clear hw1 s1 s1e
  have Hb := hide hb
  have HB0 := hide hB
  clear hb hB
  go_loopw [5, 12] (fun v j wr => ∃ k : Nat, k ≤ n ∧ j = .int .i64 k ∧ Own eE 107 wr B v (l.take k) ∧ Below w.heap.size w wr ∧ B ≤ wr.heap.size ∧ wr.cell? ⟨b, 0, none⟩ = some (.int .i64 g) ∧ wr.cell? ⟨b, 1, none⟩ = some (.int .i64 m)) (fun _ j _ => n - (intOf j).toNat)
  case atStart => exact ⟨0, Nat.zero_le _, rfl, Own.nil _ _ _ _, B1, sB, c0, c1⟩
  case round =>
    obtain ⟨k, hk, rfl, hown, HB, hsz, y0, y1⟩ := hrel
    have O1 := hide hown
    clear hown
    by_cases hlt : k < n
    · have hke : k < l.length := by have := unhide Hn; omega
      obtain ⟨ba, off, eA, lA, hr⟩ := unhide R (by omega)
      subst eA
      have x0 : wr.cell? ⟨ba, off + k * 3, none⟩ = some (.int .i64 l[k].from_) := ((bcell HB).1 _ _ lA).trans (hr k hke 0 (by decide))
      have x1 : wr.cell? ⟨ba, off + k * 3 + 1, none⟩ = some (.int .i64 l[k].n) := ((bcell HB).1 _ _ lA).trans (hr k hke 1 (by decide))
      have x2 : wr.cell? ⟨ba, off + k * 3 + 2, none⟩ = some (.int .i64 l[k].id) := ((bcell HB).1 _ _ lA).trans (hr k hke 2 (by decide))
      have hx := unhide Hw l[k] (List.getElem_mem hke)
      have hof := unhide Ho l[k] (List.getElem_mem hke)
      have ha := addE_anew (unhide HN) hke
      obtain ⟨x, hxe⟩ : ∃ x, x = l[k] := ⟨_, rfl⟩
      rw [← hxe] at x0 x1 x2 hx hof ha
      have Ha := hide ha
      obtain ⟨f, nn, i⟩ := x
      have x0 : wr.cell? ⟨ba, off + k * 3, none⟩ = some (.int .i64 f) := x0
      have x1 : wr.cell? ⟨ba, off + k * 3 + 1, none⟩ = some (.int .i64 nn) := x1
      have x2 : wr.cell? ⟨ba, off + k * 3 + 2, none⟩ = some (.int .i64 i) := x2
      have Hx := hide hx
      have Hof := hide (show Off f nn g m from hof)
      have Hwh := hide (show WhS f nn from ⟨hx.1, hx.2.1, hx.2.2.1⟩)
      clear hr ha hxe hx hof lA
      obtain ⟨w2, hw2⟩ : ∃ W, W = wr.alloc (.cells #[.int .i64 f, .int .i64 nn, .int .i64 i] 107) := ⟨_, rfl⟩
      obtain ⟨p, hp⟩ : ∃ p, p = wr.heap.size := ⟨_, rfl⟩
      have T : Cu w w2 b p g m f nn i := by
        rw [hw2, hp]
        have e := hal wr (.cells #[.int .i64 f, .int .i64 nn, .int .i64 i] 107)
        exact ⟨HB.alloc HB.size _, by omega, by omega, alloc_cell y0, alloc_cell y1, World.cell?_alloc_at _ _ _ _ rfl, World.cell?_alloc_at _ _ _ _ rfl, World.cell?_alloc_at _ _ _ _ rfl⟩
      have O2 := hide (show Own eE 107 w2 B u5 (l.take k) by rw [hw2]; exact (unhide O1).alloc _)
      have s2 : B ≤ w2.heap.size := by rw [hw2, hal]; omega
      go_wp2_with fail
      rw [← hw2, ← hp]
      clear hw2 hp HB O1 hsz y0 y1 x0 x1 x2
      replace T := T.drew
      replace O2 := hide ((unhide O2).drewN 1)
      have s2 : w.heap.size ≤ w2.drew.heap.size := by show w.heap.size ≤ w2.heap.size; omega
      go_region_held3 (fun W => W.cell? ⟨b, 0, none⟩ = some (.int .i64 g) ∧ W.cell? ⟨b, 1, none⟩ = some (.int .i64 m) ∧ W.cell? ⟨p, 0, none⟩ = some (.int .i64 f) ∧ W.cell? ⟨p, 1, none⟩ = some (.int .i64 nn) ∧ W.cell? ⟨p, 2, none⟩ = some (.int .i64 i))
        (with_reducible exact T.s)
        ((first
          | (go_at_call 166; refine (own_ex _ _ _ _).mono ?_; intro e v hv; obtain ⟨he, HB⟩ := hv; subst he; replace T : Cu w v b p g m f nn i := T.below HB s2; replace O2 : Hid (Own eE 107 v B u5 (l.take k)) := hide ((unhide O2).below HB); replace s2 : w.heap.size ≤ v.heap.size := Nat.le_trans s2 HB.size; clear HB)
          | (go_at_call 189; refine (less_no _ _ _ _ _ (unhide Hwh) (unhide Hk) (unhide Hof)).mono ?_; intro e v hv; obtain ⟨⟨q, he, hq1, hq2, q0, q1⟩, HB⟩ := hv; subst he; replace T : Cu w v b p g m f nn i := T.below HB s2; replace O2 : Hid (Own eE 107 v B u5 (l.take k)) := hide ((unhide O2).below HB); replace s2 : w.heap.size ≤ v.heap.size := Nat.le_trans s2 HB.size; have s5 := HB.size; clear HB)))
      have sv : B ≤ v.heap.size := by have h1 := T.2.1; have h2 := unhide Hb; have h3 := unhide HB0; omega
      clear s2
      go_wp2_with fail
      go_loopw [5, 21] (fun v' j' W => (j' = .int .i64 0 ∧ v' = u5 ∧ W = v) ∨ (j' = .int .i64 1 ∧ Own eE 107 W B v' (l.take (k + 1)) ∧ Below w.heap.size w W ∧ B ≤ W.heap.size ∧ W.cell? ⟨b, 0, none⟩ = some (.int .i64 g) ∧ W.cell? ⟨b, 1, none⟩ = some (.int .i64 m))) (fun _ j _ => 1 - (intOf j).toNat)
      case atStart => exact .inl ⟨rfl, rfl, rfl⟩
      case round =>
        rcases hrel with ⟨rfl, rfl, hwr⟩ | ⟨rfl, ho8, HB, hsz, y0, y1⟩
        · subst hwr
          obtain ⟨w6, hw6⟩ : ∃ W, W = wr.alloc (.cells #[.int .i64 f, .int .i64 nn] 59) := ⟨_, rfl⟩
          obtain ⟨t, ht⟩ : ∃ t, t = wr.heap.size := ⟨_, rfl⟩
          have B6 : Below wr.heap.size wr w6 := by rw [hw6]; exact (Below.refl _ _).alloc (Nat.le_refl _) _
          have T6 := T.below B6 (by have := unhide Hb; have := T.2.1; omega)
          have O6 := hide ((unhide O2).below B6)
          have t0 : w6.cell? ⟨t, 0, none⟩ = some (.int .i64 f) := by rw [hw6, ht]; exact World.cell?_alloc_at _ _ _ _ rfl
          have t1 : w6.cell? ⟨t, 1, none⟩ = some (.int .i64 nn) := by rw [hw6, ht]; exact World.cell?_alloc_at _ _ _ _ rfl
          have s6 : B ≤ w6.heap.size := by have := B6.size; omega
          have pl : p < wr.heap.size := T.2.2.1
          have p0 := T.2.2.2.2.2.1
          have p1 := T.2.2.2.2.2.2.1
          have p2 := T.2.2.2.2.2.2.2
          go_wp2_with fail
          rw [← hw6]
          clear hw6 p0 p1 p2
          refine (part_ex f nn i w6 (unhide Hx)).mono ?_
          rintro e w7 ⟨rfl, HB7⟩
          have T7 := T6.below HB7 (by omega)
          have o7 := (unhide O6).below HB7
          have s7 : B ≤ w7.heap.size := by have := HB7.size; omega
          go_wp2_with fail
          have hlt := List.length_take_le k l
          refine (add_ex _ (l.take k) ⟨f, nn, i⟩ B w7 o7 s7 (by have := unhide Hn; omega) (fun y hy => unhide Hw y (List.mem_of_mem_take hy)) (unhide Hx)).mono ?_
          rintro e w8 ⟨⟨v', rfl, ho8⟩, HB8⟩
          rw [unhide Ha] at ho8
          have y0 := ((bcell HB8).1 b 0 hbB).trans T7.2.2.2.1
          have y1 := ((bcell HB8).1 b 1 hbB).trans T7.2.2.2.2.1
          have B8 : Below w.heap.size w w8 := T7.1.trans (HB8.mono hwB)
          have s8 : B ≤ w8.heap.size := by have := HB8.size; omega
          have O8 := hide ho8
          clear ho8 o7 T T6 T7 HB7 HB8 B6 t0 t1
          go_wp2_with fail
          go_roundw
          case rel => exact .inr ⟨by go_num, unhide O8, B8, s8, y0, y1⟩
          case measure => simp [intOf]
        · have O8 := hide ho8
          clear ho8 T q0 q1
          go_wp2_with fail
          go_roundw
          case rel => exact ⟨k + 1, by omega, by go_num, unhide O8, HB, hsz, y0, y1⟩
          case measure => simp [intOf]; omega
    · obtain rfl : k = n := by omega
      have e := hide (show l.take k = l by rw [unhide Hn, List.take_length])
      go_wp2
      go_ret
      exact ⟨⟨_, rfl, by have := (unhide O1); rw [unhide e] at this; exact this.lower hwB⟩, HB⟩
end Go.Proofs.YtjjfdkdneibjbaaGreatDoor
/- Walk of package extent: a map with one extent behind it (Set). -/
namespace Go.Proofs.YtjjfdkdneibjbaaGreatDoor
open Go.RowKit

set_option maxHeartbeats 8000000 in
set_option maxRecDepth 100000 in
theorem set_ex (A : Option Addr) (n c : Nat) (l : List Ext) (x : Ext) (w : World) (hs : Sl eE w A n c l) (h64 : n ≤ 64) (hw : ∀ y ∈ l, WhE y) (hN : NoOne l) (hx : WhE x) (ho : ∀ y ∈ l, y.from_ + y.n ≤ x.from_) :
    Calls Tryz.prog 127 #[.slice A n c, .agg #[.int .i64 x.from_, .int .i64 x.n, .int .i64 x.id]] w fun e w' => (∃ v', e = .returned v' ∧ Own eE 107 w' w.heap.size v' (addE l x)) ∧ Below w.heap.size w w' := by
  obtain ⟨f, nn, i⟩ := x
  have ho : ∀ y ∈ l, y.from_ + y.n ≤ f := ho
  show Calls Tryz.prog 127 #[.slice A n c, .agg #[.int .i64 f, .int .i64 nn, .int .i64 i]] w _
  obtain ⟨w1, hw1, B1, s1, c0, c1, c2⟩ := box3 w f nn i 107
  have hnl := hs.1
  have Hs := hide (hs.below (w' := w1) B1)
  have Hw := hide hw
  have HN := hide hN
  have Ho := hide ho
  have Hx := hide hx
  have Hnl := hide hnl
  clear hs hw hN ho hx hnl
  go_enter Tryz.func127, Tryz.ntmps127
  go_wp2_with fail
  rw [← hw1]
  clear hw1
  go_wp2_with fail
  refine (single_ex f nn i w1 (unhide Hx)).mono ?_
  rintro e w2 ⟨rfl, HB2⟩
  have c0 := ((bcell HB2).1 _ 0 s1).trans c0
  have c1 := ((bcell HB2).1 _ 1 s1).trans c1
  have c2 := ((bcell HB2).1 _ 2 s1).trans c2
  have B2 : Below w.heap.size w w2 := B1.trans (HB2.mono (by omega))
  have s2 : w.heap.size < w2.heap.size := by have := HB2.size; omega
  have Hs2 := hide ((unhide Hs).below HB2)
  clear HB2 B1 Hs
  go_wp2_with fail
  refine (own_ex f nn i w2).mono ?_
  rintro e w3 ⟨rfl, HB2⟩
  have c0 := ((bcell HB2).1 _ 0 s2).trans c0
  have c1 := ((bcell HB2).1 _ 1 s2).trans c1
  have c2 := ((bcell HB2).1 _ 2 s2).trans c2
  have B3 : Below w.heap.size w w3 := B2.trans (HB2.mono (by omega))
  have s3 : w.heap.size < w3.heap.size := by have := HB2.size; omega
  have Hs3 := hide ((unhide Hs2).below HB2)
  clear HB2 B2 Hs2
  go_wp2_with fail
  refine (cut_ex A n c l f nn w3 (unhide Hs3) h64 (unhide Hw) (unhide HN) ⟨(unhide Hx).1, (unhide Hx).2.1, (unhide Hx).2.2.1⟩ (fun y hy => .inl (unhide Ho y hy))).mono ?_
  rintro e w4 ⟨⟨v4, rfl, ho4⟩, HB2⟩
  have c0 := ((bcell HB2).1 _ 0 s3).trans c0
  have c1 := ((bcell HB2).1 _ 1 s3).trans c1
  have c2 := ((bcell HB2).1 _ 2 s3).trans c2
  have B4 : Below w.heap.size w w4 := B3.trans (HB2.mono (by omega))
  have s4 : w.heap.size < w4.heap.size := by have := HB2.size; omega
  clear HB2 B3 Hs3
  obtain ⟨A4, d4, rfl, hs4, _⟩ := ho4.sl
  obtain ⟨N, hN'⟩ : ∃ N, N = l.length := ⟨_, rfl⟩
  rw [← hN'] at hs4 ⊢
  have b1 := hs4.2.1
  have b2 := hs4.2.2.1
  have R := hide hs4.2.2.2
  have HNl := hide hN'
  have h64 : N ≤ 64 := by have := unhide Hnl; omega
  obtain ⟨B, hB⟩ : ∃ B, B = w4.heap.size := ⟨_, rfl⟩
  have sB : B ≤ w4.heap.size := by omega
  have sB2 : w.heap.size < B := by omega
  have HBe := hide hB
  clear hs4 ho4 hN' hB s1 s2 s3
  go_wp2_with fail
  go_loopw [5, 6, 20] (fun v d j wr => ∃ k : Nat, k ≤ N ∧ j = .int .i64 k ∧ d = .bool false ∧ Own eE 107 wr B v (l.take k) ∧ Below B w4 wr ∧ B ≤ wr.heap.size) (fun _ _ j _ => N - (intOf j).toNat)
  case atStart => exact ⟨0, Nat.zero_le _, rfl, rfl, Own.nil _ _ _ _, Below.refl _ _, sB⟩
  case round =>
    obtain ⟨k, hk, rfl, rfl, hown, HB, hsz⟩ := hrel
    have e0 := ((bcell HB).1 _ 0 sB2).trans c0
    have e1 := ((bcell HB).1 _ 1 sB2).trans c1
    have e2 := ((bcell HB).1 _ 2 sB2).trans c2
    by_cases hlt : k < N
    · have hke : k < l.length := by have := unhide HNl; omega
      obtain ⟨ba, off, eA, lA, hr⟩ := unhide R (by omega)
      subst eA
      have lB : ba < B := by have := unhide HBe; omega
      have x0 : wr.cell? ⟨ba, off + k * 3, none⟩ = some (.int .i64 l[k].from_) := ((bcell HB).1 _ _ lB).trans (hr k hke 0 (by decide))
      have x1 : wr.cell? ⟨ba, off + k * 3 + 1, none⟩ = some (.int .i64 l[k].n) := ((bcell HB).1 _ _ lB).trans (hr k hke 1 (by decide))
      have x2 : wr.cell? ⟨ba, off + k * 3 + 2, none⟩ = some (.int .i64 l[k].id) := ((bcell HB).1 _ _ lB).trans (hr k hke 2 (by decide))
      have hy := unhide Hw l[k] (List.getElem_mem hke)
      have hof := unhide Ho l[k] (List.getElem_mem hke)
      have ha := addE_anew (unhide HN) hke
      obtain ⟨y, hye⟩ : ∃ y, y = l[k] := ⟨_, rfl⟩
      rw [← hye] at x0 x1 x2 hy hof ha
      have Ha := hide ha
      obtain ⟨p, q, r⟩ := y
      have x0 : wr.cell? ⟨ba, off + k * 3, none⟩ = some (.int .i64 p) := x0
      have x1 : wr.cell? ⟨ba, off + k * 3 + 1, none⟩ = some (.int .i64 q) := x1
      have x2 : wr.cell? ⟨ba, off + k * 3 + 2, none⟩ = some (.int .i64 r) := x2
      have hpf : ¬ f < p := by have h1 : p + q ≤ f := hof; have h2 : 1 ≤ q := hy.2.1; omega
      have Hy := hide hy
      clear hr ha hye hy hof lA
      obtain ⟨w5, hw5⟩ : ∃ W, W = wr.alloc (.cells #[.int .i64 p, .int .i64 q, .int .i64 r] 107) := ⟨_, rfl⟩
      have o5 := hide (show Own eE 107 w5 B u5 (l.take k) by rw [hw5]; exact hown.alloc _)
      have B5 : Below B w4 w5 := by rw [hw5]; exact HB.alloc hsz _
      have s5 : B ≤ w5.heap.size := by rw [hw5, hal]; omega
      have hl0 : w.heap.size < wr.heap.size := by omega
      clear hown
      go_wp2_with fail
      rw [← hw5]
      clear hw5
      have hlt' := List.length_take_le k l
      refine (add_ex _ (l.take k) ⟨p, q, r⟩ B w5 (unhide o5) s5 (by have := unhide HNl; omega) (fun y hy => unhide Hw y (List.mem_of_mem_take hy)) (unhide Hy)).mono ?_
      rintro e w8 ⟨⟨v', rfl, ho8⟩, HB8⟩
      rw [unhide Ha] at ho8
      have O8 := hide ho8
      have B8 := B5.trans HB8
      have s8 : B ≤ w8.heap.size := by have := HB8.size; omega
      clear ho8 o5 HB8 B5 HB
      go_wp2_with fail
      go_roundw
      case rel => exact ⟨k + 1, by omega, by go_num, rfl, unhide O8, B8, s8⟩
      case measure => simp [intOf]; omega
    · obtain rfl : k = N := by omega
      have e := hide (show l.take k = l by rw [unhide HNl, List.take_length])
      have o5 := hide hown
      clear hown
      go_wp2_with fail
      have hlt' : l.length ≤ 64 := by have := unhide HNl; omega
      refine (add_ex _ l ⟨f, nn, i⟩ B wr (by have := (unhide o5); rw [unhide e] at this; exact this) hsz hlt' (unhide Hw) (unhide Hx)).mono ?_
      rintro e w8 ⟨⟨v', rfl, ho8⟩, HB8⟩
      have O8 := hide ho8
      have B8 : Below w.heap.size w w8 := B4.trans ((HB.trans HB8).mono (by omega))
      clear ho8 HB8
      go_wp2_with fail
      go_ret
      exact ⟨⟨_, rfl, (unhide O8).lower (by omega)⟩, B8⟩
end Go.Proofs.YtjjfdkdneibjbaaGreatDoor
/- Walk of package extent: what a map says of a block. -/
namespace Go.Proofs.YtjjfdkdneibjbaaGreatDoor
open Go.RowKit

/-- Is a block in an extent? -/
def inE (k : Int) (y : Ext) : Bool := decide (y.from_ ≤ k) && decide (k < y.from_ + y.n)
def idE (k : Int) (y : Ext) : Int := if y.id = 0 then 0 else y.id + k - y.from_
def findX (l : List Ext) (k : Int) : Option Int := (l.find? (inE k)).map (idE k)
theorem find_at {α : Type} {p : α → Bool} {l : List α} {i : Nat} (hil : i < l.length) (hno : (l.take i).find? p = none) (e : p l[i] = true) : l.find? p = some l[i] := by
  have h2 : l.take i ++ l[i] :: l.drop (i + 1) = l := by rw [← List.drop_eq_getElem_cons hil, List.take_append_drop]
  refine (congrArg (List.find? p) h2.symm).trans ?_
  rw [List.find?_append, hno, Option.none_or, List.find?_cons_of_pos e]
/-- What is told of a block. -/
def saysX (o : Option Int) : Value := match o with
  | some id => .tuple #[.int .i64 id, .bool true]
  | none => .tuple #[.int .i64 0, .bool false]
set_option maxHeartbeats 4000000 in
set_option maxRecDepth 100000 in
theorem find_ex (A : Option Addr) (n c : Nat) (l : List Ext) (k : Int) (w : World) (hs : Sl eE w A n c l) (hw : ∀ y ∈ l, WhE y) (hk : 0 ≤ k ∧ k ≤ 64) : Calls Tryz.prog 163 #[.slice A n c, .int .i64 k] w fun e w' => e = .returned (saysX (findX l k)) ∧ Below w.heap.size w w' := by
  have hc1 := hs.2.1
  have hc2 := hs.2.2.1
  have RD := hide hs.2.2.2
  have HN := hide hs.1
  have HW := hide hw
  obtain ⟨RES, hRES⟩ : ∃ v, v = saysX (findX l k) := ⟨_, rfl⟩
  have HRES := hide hRES
  rw [← hRES]
  clear hs hw hRES
  go_enter Tryz.func163, Tryz.ntmps163
  go_wp2_with fail
  go_loopw [10] (fun j wr => ∃ i : Nat, i ≤ n ∧ j = .int .i64 i ∧ (l.take i).find? (inE k) = none ∧ Below w.heap.size w wr) (fun j _ => n - (intOf j).toNat)
  case atStart => exact ⟨0, Nat.zero_le _, rfl, rfl, Below.refl _ _⟩
  case round =>
    obtain ⟨i, hi, rfl, hno, HB⟩ := hrel
    have sr := HB.size
    by_cases hlt : i < n
    · have hlt' : (i : Int) < n := by omega
      have hil : i < l.length := by have := unhide HN; omega
      obtain ⟨b, off, eA, lb, hrd⟩ := unhide RD (by omega)
      subst eA
      have x0 : wr.cell? ⟨b, off + i * 3, none⟩ = some (.int .i64 l[i].from_) := ((bcell HB).1 _ _ lb).trans (hrd i hil 0 (by decide))
      have x1 : wr.cell? ⟨b, off + i * 3 + 1, none⟩ = some (.int .i64 l[i].n) := ((bcell HB).1 _ _ lb).trans (hrd i hil 1 (by decide))
      have x2 : wr.cell? ⟨b, off + i * 3 + 2, none⟩ = some (.int .i64 l[i].id) := ((bcell HB).1 _ _ lb).trans (hrd i hil 2 (by decide))
      have hwy := unhide HW _ (List.getElem_mem hil)
      have hyes : inE k l[i] = true → RES = .tuple #[.int .i64 (idE k l[i]), .bool true] := fun e => by
        have := find_at hil hno e
        rw [unhide HRES]
        unfold findX
        rw [this]; rfl
      have hnext : inE k l[i] = false → (l.take (i + 1)).find? (inE k) = none := fun e => by
        rw [← List.take_append_getElem hil, List.find?_append, hno]
        simp [e]
      obtain ⟨y, hy⟩ : ∃ y, y = l[i] := ⟨_, rfl⟩
      rw [← hy] at x0 x1 x2 hwy hyes hnext
      obtain ⟨yf, yn, yi⟩ := y
      have x0 : wr.cell? ⟨b, off + i * 3, none⟩ = some (.int .i64 yf) := x0
      have x1 : wr.cell? ⟨b, off + i * 3 + 1, none⟩ = some (.int .i64 yn) := x1
      have x2 : wr.cell? ⟨b, off + i * 3 + 2, none⟩ = some (.int .i64 yi) := x2
      obtain ⟨w3, hw3⟩ : ∃ W, W = wr.alloc (.cells #[.int .i64 yf, .int .i64 yn, .int .i64 yi] 107) := ⟨_, rfl⟩
      have B3 : Below w.heap.size w w3 := by rw [hw3]; exact HB.alloc sr _
      have s3 : wr.heap.size < w3.heap.size := by rw [hw3]; simp
      have hq := heap_new wr (.cells #[.int .i64 yf, .int .i64 yn, .int .i64 yi] 107)
      rw [← hw3] at hq
      have y0 : w3.cell? ⟨wr.heap.size, 0, none⟩ = some (.int .i64 yf) := cell_of_heap hq rfl
      have y1 : w3.cell? ⟨wr.heap.size, 1, none⟩ = some (.int .i64 yn) := cell_of_heap hq rfl
      have y2 : w3.cell? ⟨wr.heap.size, 2, none⟩ = some (.int .i64 yi) := cell_of_heap hq rfl
      obtain ⟨P, hP⟩ : ∃ P, P = wr.heap.size := ⟨_, rfl⟩
      rw [← hP] at y0 y1 y2 s3
      have y0' := y0
      have y1' := y1
      have y2' := y2
      rw [hw3] at y0' y1' y2'
      have HB3 := hide B3
      have hwS : WhS yf yn := ⟨hwy.1, hwy.2.1, hwy.2.2.1⟩
      obtain ⟨tb, htb⟩ : ∃ t, t = inE k ⟨yf, yn, yi⟩ := ⟨_, rfl⟩
      rw [← htb] at hyes hnext
      have htb' : (decide (yf ≤ k) && decide (k < yf + yn)) = tb := htb.symm
      have Hyes := hide hyes
      have Hnext := hide hnext
      have Htb := hide htb
      have hs3 := B3.size
      clear hrd hy hno hyes hnext htb hq B3 HB
      go_wp2_with fail
      rw [← hP, ← hw3]
      clear hP hw3 y0' y1' y2' x0 x1 x2
      refine (own_ex yf yn yi w3).mono ?_
      rintro e w4 ⟨rfl, HB4⟩
      have y0 := ((bcell HB4).1 P 0 s3).trans y0
      have y1 := ((bcell HB4).1 P 1 s3).trans y1
      have y2 := ((bcell HB4).1 P 2 s3).trans y2
      have s4 := HB4.size
      have B4 := hide ((unhide HB3).trans (HB4.mono hs3))
      clear HB4 HB3
      go_wp2_with fail
      have Hh := hide (has_sp yf yn k w4 hwS)
      rw [htb'] at Hh
      refine (unhide Hh).mono ?_
      rintro e w5 ⟨rfl, HB5⟩
      have y0 := ((bcell HB5).1 P 0 (by omega)).trans y0
      have y1 := ((bcell HB5).1 P 1 (by omega)).trans y1
      have y2 := ((bcell HB5).1 P 2 (by omega)).trans y2
      have B5 := hide ((unhide B4).trans (HB5.mono (by omega)))
      have s5 := HB5.size
      clear HB5 B4 Hh htb'
      cases tb with
      | true =>
        have hid := (id_ex yf yn yi k w5 hwy hk)
        obtain ⟨z, hz⟩ : ∃ z, z = (if yi = 0 then 0 else yi + k - yf) := ⟨_, rfl⟩
        rw [← hz] at hid
        have Hid' := hide hid
        have Hy := hide ((unhide Hyes rfl).trans (show Value.tuple #[.int .i64 (idE k ⟨yf, yn, yi⟩), .bool true] = .tuple #[.int .i64 z, .bool true] by rw [hz]; rfl))
        clear hid hz Hyes Hnext
        go_wp2_with fail
        refine (unhide Hid').mono ?_
        rintro e w6 ⟨rfl, HB6⟩
        have B6 := hide ((unhide B5).trans (HB6.mono (by omega)))
        clear HB6 B5
        go_wp2_with fail
        go_ret2
        exact ⟨by rw [unhide Hy]; rfl, unhide B6⟩
      | false =>
        have Hn := hide (unhide Hnext rfl)
        clear Hyes Hnext
        go_wp2_with fail
        go_roundw
        case rel => exact ⟨i + 1, by omega, by go_num, unhide Hn, unhide B5⟩
        case measure => simp [intOf]; omega
    · have hlt' : ¬ (i : Int) < n := by omega
      have hres : RES = .tuple #[.int .i64 0, .bool false] := by
        rw [unhide HRES]
        unfold findX
        rw [List.take_of_length_le (by have := unhide HN; omega)] at hno
        rw [hno]; rfl
      have Hres := hide hres
      have BF := hide HB
      clear hres hno HB
      go_wp2_with fail
      go_ret2
      exact ⟨by rw [unhide Hres]; rfl, unhide BF⟩
end Go.Proofs.YtjjfdkdneibjbaaGreatDoor
