/- Joined texts: ArrF, ExtIds, Fit. -/
import Derived.Test.YtjjfdkdneibjbaaGreatDoorJw05
import Derived.Test.YtjjfdkdneibjbaaGreatDoorJw02
/- The tidy map of an array: the walk. UNDER WAY. -/
namespace Go.Proofs.YtjjfdkdneibjbaaGreatDoor
open Go.RowKit

theorem extsL_le (L : List Int) (k : Nat) : (extsL L k).length ≤ k := by
  induction k with
  | zero => simp [extsL]
  | succ k ih =>
    unfold extsL
    split
    · omega
    · split
      · have : ∀ l : List Ext, (grow1 l).length = l.length := by
          intro l
          induction l with
          | nil => rfl
          | cons x l ih2 =>
            cases l with
            | nil => rfl
            | cons y l => simp only [grow1, List.length_cons] at ih2 ⊢; omega
        rw [this]; omega
      · rw [List.length_append, List.length_singleton]; omega
set_option maxHeartbeats 4000000 in
set_option maxRecDepth 100000 in
theorem extents_any (L : List Int) (hL : L.length = 64) (hb : ∀ k, -1 ≤ L.getD k 0 ∧ L.getD k 0 ≤ 60) (w : World) : Calls Tryz.prog 49 #[arrV L] w fun e w' => ∃ A c, e = .returned (.slice A (extsL L 64).length c) ∧ Own eE 107 w' w.heap.size (.slice A (extsL L 64).length c) (extsL L 64) ∧ Below w.heap.size w w' := by
  obtain ⟨i0, hi, hz0, hz1, hz2⟩ := info_parts Tryz.infoE
  obtain ⟨w1, hw1⟩ : ∃ w1, w1 = w.alloc (.cells (numCells L).toArray 48) := ⟨_, rfl⟩
  have B1 : Below w.heap.size w w1 := by rw [hw1]; exact (Below.refl _ _).alloc (Nat.le_refl _) _
  have s1 : w1.heap.size = w.heap.size + 1 := by rw [hw1]; show (w.heap.push _).size = _; simp
  have a1 := hide (show Arr w1 w.heap.size 48 L by rw [hw1]; exact Arr.alloc w _ _)
  have HL := hide hL
  have Hb := hide hb
  clear hL hb
  change Calls _ _ #[.agg (numCells L).toArray] w _
  go_enter Tryz.func49, Tryz.ntmps49
  go_wp2_with fail
  rw [← hw1]
  clear hw1
  obtain ⟨B, hB⟩ : ∃ B, B = w.heap.size + 1 := ⟨_, rfl⟩
  have hBs : B ≤ w1.heap.size := by omega
  have hBl : w.heap.size < B := by omega
  clear hB s1
  go_loopw [3, 4] (fun v j wr => ∃ k : Nat, k ≤ 64 ∧ j = .int .i64 k ∧ Arr wr w.heap.size 48 L ∧ (∃ A c, v = .slice A (extsL L k).length c ∧ Own eE 107 wr B (.slice A (extsL L k).length c) (extsL L k)) ∧ Below w.heap.size w wr ∧ B ≤ wr.heap.size) (fun _ j _ => 64 - (intOf j).toNat)
  case atStart => exact ⟨0, by omega, rfl, unhide a1, ⟨none, 0, rfl, Own.nil _ _ _ _⟩, B1, by omega⟩
  case round =>
    obtain ⟨k, hk, rfl, h1, ⟨Av, cv, rfl, hown⟩, HB, hsz⟩ := hrel
    have H1 := hide h1
    have Hown := hide hown
    have hle := extsL_le L k
    by_cases hlt : k < 64
    · have hkl : k < L.length := by rw [unhide HL]; exact hlt
      have ck := h1.cell hkl
      have hgk : L.getD k 0 = L[k] := by rw [List.getD_eq_getElem?_getD, List.getElem?_eq_getElem hkl, Option.getD_some]
      rw [← hgk] at ck
      obtain ⟨a, ha⟩ : ∃ a, a = L.getD k 0 := ⟨_, rfl⟩
      rw [← ha] at ck
      have hab := unhide Hb k
      rw [← ha] at hab
      obtain ⟨ha1, ha2⟩ := hab
      have Ha := hide ha
      clear h1 hown ha hgk
      by_cases hneg : a < 0
      · have hx := hide (show extsL L (k + 1) = extsL L k by rw [extsL, if_pos (by rw [← unhide Ha]; exact hneg)])
        go_wp2
        go_roundw
        case rel => exact ⟨k + 1, by omega, by go_num, unhide H1, ⟨Av, cv, by rw [unhide hx], by rw [unhide hx]; exact unhide Hown⟩, HB, hsz⟩
        case measure => simp [intOf]; omega
      · rcases Nat.eq_zero_or_pos k with hk0 | hk0
        · have hj := hide (show joinB L k = false by rw [hk0]; rfl)
          obtain ⟨E, hE⟩ : ∃ E, E = extsL L k := ⟨_, rfl⟩
          have hxE := hide (show extsL L (k + 1) = E ++ [⟨(k : Int), 1, a⟩] by rw [extsL, if_neg (by rw [← unhide Ha]; exact hneg), if_neg (by rw [unhide hj]; simp), ← unhide Ha, hE])
          rw [← hE] at Hown hle ⊢
          have HE := hide hE
          clear hE
          subst hk0
          go_wp2
          go_quiet (fail)
          obtain ⟨W, hW⟩ : ∃ W, W = wr.drewN nq := ⟨_, rfl⟩
          have A9 := hide (show Arr W w.heap.size 48 L by rw [hW]; exact unhide H1)
          have c9 : W.cell? ⟨w.heap.size, 0, none⟩ = some (.int .i64 a) := by rw [hW]; exact ck
          have o9 : Own eE 107 W B (.slice Av E.length cv) E := by rw [hW]; exact unhide Hown
          have B9 : Below w.heap.size w W := by rw [hW]; exact below_drewN HB _
          have s9 : B ≤ W.heap.size := by rw [hW]; exact hsz
          rw [← hW]
          clear hW HB hsz ck
          go_wp2_with (at_builtin; refine wpList_append_one eE rfl _ _ _ rfl B 107 i0 _ 24 Tryz.underlying42 hi hz0 hz1 hz2 rfl (by decide) (.slice Av E.length cv) E rfl _ o9 ⟨0, 1, a⟩ #[.int .i64 0, .int .i64 1, .int .i64 a] rfl (by simp [Act.eval]) (by intro u hu; simp at hu; rcases hu with rfl | rfl | rfl <;> rfl) ?c3 ?c4 s9 ?_)
          case c3 => unfold maxLen; omega
          case c4 => omega
          intro v4 w4 hown4 hgr4 hloc4
          have hal (w : World) (o : Obj) : (w.alloc o).heap.size = w.heap.size + 1 := by show (w.heap.push o).size = _; simp
          have hb4 := B9.alloc (by omega) (.cells #[.int .i64 0, .int .i64 1, .int .i64 a] 107)
          have B4 : Below w.heap.size w w4 := hb4.grown hgr4 hb4.size fun q hq => by have := (o9.lt q hq).1; omega
          have s4 : B ≤ w4.heap.size := by have := hgr4.size; rw [hal] at this; omega
          have A4 := hide ((unhide A9).kept (w' := w4) ((hgr4.block w.heap.size (by rw [hal]; omega) fun e => by have := (o9.lt _ e.symm).1; omega).trans (Below.heap_alloc W _ _ (by omega))))
          have hx4 := hide (show extsL L (0 + 1) = E ++ [⟨0, 1, a⟩] from unhide hxE)
          obtain ⟨A5, c5, hv5, _⟩ := hown4.sl
          rw [← unhide hx4] at hv5 hown4
          subst hv5
          have O4 := hide hown4
          clear hown4 hgr4 hloc4 hb4 o9 B9
          go_wp2
          go_roundw
          case rel => exact ⟨0 + 1, by omega, by go_num, unhide A4, ⟨A5, c5, rfl, unhide O4⟩, B4, s4⟩
          case measure => simp [intOf]
        · obtain ⟨m, rfl⟩ : ∃ m, k = m + 1 := ⟨k - 1, by omega⟩
          have hml : m < L.length := by omega
          have cm := (unhide H1).cell hml
          have hgm : L.getD m 0 = L[m] := by rw [List.getD_eq_getElem?_getD, List.getElem?_eq_getElem hml, Option.getD_some]
          rw [← hgm] at cm
          obtain ⟨b, hb⟩ : ∃ b, b = L.getD m 0 := ⟨_, rfl⟩
          rw [← hb] at cm
          have hbb := unhide Hb m
          rw [← hb] at hbb
          obtain ⟨hb1, hb2⟩ := hbb
          have hjb : joinB L (m + 1) = ((a == 0 && b == 0) || (decide (0 < a) && decide (0 < b) && a == b + 1)) := by
            unfold joinB
            rw [← unhide Ha, show m + 1 - 1 = m from rfl, ← hb]
            simp
          have Hjb := hide hjb
          obtain ⟨E, hE⟩ : ∃ E, E = extsL L (m + 1) := ⟨_, rfl⟩
          have hxE0 : joinB L (m + 1) = false → extsL L (m + 1 + 1) = E ++ [⟨(m : Int) + 1, 1, a⟩] := fun h => by rw [extsL, if_neg (by rw [← unhide Ha]; exact hneg), if_neg (by rw [h]; simp), ← unhide Ha, hE]; rfl
          have HxE0 := hide hxE0
          have hxJ : joinB L (m + 1) = true → extsL L (m + 1 + 1) = grow1 E := fun h => by rw [extsL, if_neg (by rw [← unhide Ha]; exact hneg), if_pos h, hE]
          have HxJ := hide hxJ
          have hlast : 0 ≤ b → ∃ l x, E = l ++ [x] ∧ x.n ≤ 64 ∧ 1 ≤ x.n := fun h => by
            have htd := tidy_ext L (unhide Hb) (m + 1) (by omega)
            obtain ⟨l, x, h1, _⟩ := htd.last (by omega) (by rw [show m + 1 - 1 = m from rfl, ← hb]; exact h)
            have hg := htd.good x (by rw [h1]; simp)
            exact ⟨l, x, by rw [hE, h1], by omega, hg.2.1⟩
          have Hlast := hide hlast
          clear hxJ hlast
          rw [← hE] at Hown hle ⊢
          have HE := hide hE
          have Hbb := hide hb
          clear hE hgm hb hjb hml hxE0
          rcases (show (a = 0 ∧ b = 0) ∨ (a = 0 ∧ b ≠ 0) ∨ (0 < a ∧ b ≤ 0) ∨ (0 < a ∧ 0 < b ∧ a = b + 1) ∨ (0 < a ∧ 0 < b ∧ a ≠ b + 1) by omega) with ⟨h1, h2⟩ | ⟨h1, h2⟩ | ⟨h1, h2⟩ | ⟨h1, h2, h3⟩ | ⟨h1, h2, h3⟩
          · have q1 : (a == 0) = true := beq_iff_eq.2 h1
            have q2 : (b == 0) = true := beq_iff_eq.2 h2
            have hxE := hide ((unhide HxJ) (by rw [unhide Hjb, q1, q2]; rfl))
            have hb0 : 0 ≤ b := by omega
            clear h1 h2
            obtain ⟨l, x, hEl, hn64, hn1⟩ := (unhide Hlast) (by omega)
            have hgr := hide (show extsL L (m + 1 + 1) = l ++ [⟨x.from_, x.n + 1, x.id⟩] by rw [unhide hxE, hEl, grow1_snoc])
            have hlen : E.length = l.length + 1 := by rw [hEl]; simp
            have hEx : ∀ h, E[l.length]'h = x := fun h => by simp [hEl]
            have hEs : ∀ y, E.set l.length y = l ++ [y] := fun y => by rw [hEl]; simp
            obtain ⟨f, nx, ix⟩ := x
            go_wp2
            go_quiet (fail)
            obtain ⟨W, hW⟩ : ∃ W, W = wr.drewN nq := ⟨_, rfl⟩
            have A9 := hide (show Arr W w.heap.size 48 L by rw [hW]; exact unhide H1)
            have o9 : Own eE 107 W B (.slice Av E.length cv) E := by rw [hW]; exact unhide Hown
            have B9 : Below w.heap.size w W := by rw [hW]; exact below_drewN HB _
            have s9 : B ≤ W.heap.size := by rw [hW]; exact hsz
            rw [← hW]
            clear hW HB hsz ck cm
            rcases o9.shape with ⟨_, h0⟩ | ⟨g, cap, hvv, hg1, hg2, hg3, hg4⟩
            · rw [h0] at hlen; simp at hlen
            · injection hvv with e1 e2 e3
              subst e1 e3
              clear e2
              have hll : l.length < E.length := by omega
              have c1 : W.cell? ⟨g, l.length * 3 + 1, none⟩ = some (.int .i64 nx) := by
                have := o9.cell (i := l.length) (j := 1) hll (by decide)
                rw [hEx] at this
                simpa [eE] using this
              have f1 := o9.frozen (l.length * 3 + 1)
              have o10 := Own.set o9 hll (j := 1) (by decide) (.int .i64 (nx + 1)) ⟨f, nx + 1, ix⟩ (fun j hj => by
                have hj3 : j < 3 := hj
                rw [hEx]
                rcases (show j = 0 ∨ j = 1 ∨ j = 2 by omega) with rfl | rfl | rfl <;> rfl)
              rw [hEs] at o10
              have A10 := hide ((unhide A9).kept (w' := W.setCell ⟨g, l.length * 3 + 1, none⟩ (.int .i64 (nx + 1))) (Below.heap_setCell W ⟨g, l.length * 3 + 1, none⟩ _ _ (by show w.heap.size ≠ g; omega)))
              have B10 : Below w.heap.size w (W.setCell ⟨g, l.length * 3 + 1, none⟩ (.int .i64 (nx + 1))) := B9.setCell (p := ⟨g, l.length * 3 + 1, none⟩) (by show w.heap.size ≤ g; omega) _
              have s10 : B ≤ (W.setCell ⟨g, l.length * 3 + 1, none⟩ (.int .i64 (nx + 1))).heap.size := by
                rw [show (W.setCell ⟨g, l.length * 3 + 1, none⟩ (.int .i64 (nx + 1))).heap.size = W.heap.size by simp [World.setCell]]; exact s9
              have hsl : ((E.length : Nat) : Int) - 1 = (l.length : Int) := by omega
              have o11 : Own eE 107 (W.setCell ⟨g, l.length * 3 + 1, none⟩ (.int .i64 (nx + 1))) B (.slice (some ⟨g, 0, none⟩) (l.length + 1) cv) (l ++ [⟨f, nx + 1, ix⟩]) := by
                rw [← hlen]; exact o10
              have O10 := hide o11
              clear o11
              have hlE : E.length ≤ 64 := by omega
              clear o9 o10 hEx hEs hEl
              go_wp2
              go_roundw
              case rel => exact ⟨m + 1 + 1, by omega, by go_num, unhide A10, ⟨some ⟨g, 0, none⟩, cv, by rw [unhide hgr, List.length_append]; rfl, by rw [unhide hgr, List.length_append]; exact unhide O10⟩, B10, s10⟩
              case measure => simp [intOf]; omega
          · have q1 : (a == 0) = true := beq_iff_eq.2 h1
            have q2 : (b == 0) = false := beq_eq_false_iff_ne.2 h2
            have q3 : decide ((0 : Int) < a) = false := decide_eq_false (by omega)
            have hxE := hide ((unhide HxE0) (by rw [unhide Hjb, q1, q2, q3]; rfl))
            clear h1 h2
            go_wp2
            go_quiet (fail)
            obtain ⟨W, hW⟩ : ∃ W, W = wr.drewN nq := ⟨_, rfl⟩
            have A9 := hide (show Arr W w.heap.size 48 L by rw [hW]; exact unhide H1)
            have c9 : W.cell? ⟨w.heap.size, m + 1, none⟩ = some (.int .i64 a) := by rw [hW]; exact ck
            have o9 : Own eE 107 W B (.slice Av E.length cv) E := by rw [hW]; exact unhide Hown
            have B9 : Below w.heap.size w W := by rw [hW]; exact below_drewN HB _
            have s9 : B ≤ W.heap.size := by rw [hW]; exact hsz
            rw [← hW]
            clear hW HB hsz ck cm
            go_wp2_with (at_builtin; refine wpList_append_one eE rfl _ _ _ rfl B 107 i0 _ 24 Tryz.underlying42 hi hz0 hz1 hz2 rfl (by decide) (.slice Av E.length cv) E rfl _ o9 ⟨(m : Int) + 1, 1, a⟩ #[.int .i64 ((m : Int) + 1), .int .i64 1, .int .i64 a] rfl (by simp [Act.eval]) (by intro u hu; simp at hu; rcases hu with rfl | rfl | rfl <;> rfl) ?c3 ?c4 s9 ?_)
            case c3 => unfold maxLen; omega
            case c4 => omega
            intro v4 w4 hown4 hgr4 hloc4
            have hal (w : World) (o : Obj) : (w.alloc o).heap.size = w.heap.size + 1 := by show (w.heap.push o).size = _; simp
            have hb4 := B9.alloc (by omega) (.cells #[.int .i64 ((m : Int) + 1), .int .i64 1, .int .i64 a] 107)
            have B4 : Below w.heap.size w w4 := hb4.grown hgr4 hb4.size fun q hq => by have := (o9.lt q hq).1; omega
            have s4 : B ≤ w4.heap.size := by have := hgr4.size; rw [hal] at this; omega
            have A4 := hide ((unhide A9).kept (w' := w4) ((hgr4.block w.heap.size (by rw [hal]; omega) fun e => by have := (o9.lt _ e.symm).1; omega).trans (Below.heap_alloc W _ _ (by omega))))
            have hx4 := hide (show extsL L (m + 1 + 1) = E ++ [⟨(m : Int) + 1, 1, a⟩] from unhide hxE)
            obtain ⟨A5, c5, hv5, _⟩ := hown4.sl
            rw [← unhide hx4] at hv5 hown4
            subst hv5
            have O4 := hide hown4
            clear hown4 hgr4 hloc4 hb4 o9 B9
            go_wp2
            go_roundw
            case rel => exact ⟨m + 1 + 1, by omega, by go_num, unhide A4, ⟨A5, c5, rfl, unhide O4⟩, B4, s4⟩
            case measure => simp [intOf]; omega
          · have q1 : (a == 0) = false := beq_eq_false_iff_ne.2 (by omega)
            have q3 : decide ((0 : Int) < a) = true := decide_eq_true h1
            have q4 : decide ((0 : Int) < b) = false := decide_eq_false (by omega)
            have hxE := hide ((unhide HxE0) (by rw [unhide Hjb, q1, q3, q4]; rfl))
            clear h1 h2
            go_wp2
            go_quiet (fail)
            obtain ⟨W, hW⟩ : ∃ W, W = wr.drewN nq := ⟨_, rfl⟩
            have A9 := hide (show Arr W w.heap.size 48 L by rw [hW]; exact unhide H1)
            have c9 : W.cell? ⟨w.heap.size, m + 1, none⟩ = some (.int .i64 a) := by rw [hW]; exact ck
            have o9 : Own eE 107 W B (.slice Av E.length cv) E := by rw [hW]; exact unhide Hown
            have B9 : Below w.heap.size w W := by rw [hW]; exact below_drewN HB _
            have s9 : B ≤ W.heap.size := by rw [hW]; exact hsz
            rw [← hW]
            clear hW HB hsz ck cm
            go_wp2_with (at_builtin; refine wpList_append_one eE rfl _ _ _ rfl B 107 i0 _ 24 Tryz.underlying42 hi hz0 hz1 hz2 rfl (by decide) (.slice Av E.length cv) E rfl _ o9 ⟨(m : Int) + 1, 1, a⟩ #[.int .i64 ((m : Int) + 1), .int .i64 1, .int .i64 a] rfl (by simp [Act.eval]) (by intro u hu; simp at hu; rcases hu with rfl | rfl | rfl <;> rfl) ?c3 ?c4 s9 ?_)
            case c3 => unfold maxLen; omega
            case c4 => omega
            intro v4 w4 hown4 hgr4 hloc4
            have hal (w : World) (o : Obj) : (w.alloc o).heap.size = w.heap.size + 1 := by show (w.heap.push o).size = _; simp
            have hb4 := B9.alloc (by omega) (.cells #[.int .i64 ((m : Int) + 1), .int .i64 1, .int .i64 a] 107)
            have B4 : Below w.heap.size w w4 := hb4.grown hgr4 hb4.size fun q hq => by have := (o9.lt q hq).1; omega
            have s4 : B ≤ w4.heap.size := by have := hgr4.size; rw [hal] at this; omega
            have A4 := hide ((unhide A9).kept (w' := w4) ((hgr4.block w.heap.size (by rw [hal]; omega) fun e => by have := (o9.lt _ e.symm).1; omega).trans (Below.heap_alloc W _ _ (by omega))))
            have hx4 := hide (show extsL L (m + 1 + 1) = E ++ [⟨(m : Int) + 1, 1, a⟩] from unhide hxE)
            obtain ⟨A5, c5, hv5, _⟩ := hown4.sl
            rw [← unhide hx4] at hv5 hown4
            subst hv5
            have O4 := hide hown4
            clear hown4 hgr4 hloc4 hb4 o9 B9
            go_wp2
            go_roundw
            case rel => exact ⟨m + 1 + 1, by omega, by go_num, unhide A4, ⟨A5, c5, rfl, unhide O4⟩, B4, s4⟩
            case measure => simp [intOf]; omega
          · have q1 : (a == 0) = false := beq_eq_false_iff_ne.2 (by omega)
            have q3 : decide ((0 : Int) < a) = true := decide_eq_true h1
            have q4 : decide ((0 : Int) < b) = true := decide_eq_true h2
            have q5 : (a == b + 1) = true := beq_iff_eq.2 h3
            have hxE := hide ((unhide HxJ) (by rw [unhide Hjb, q1, q3, q4, q5]; rfl))
            have hb0 : 0 ≤ b := by omega
            clear h1 h2 h3
            obtain ⟨l, x, hEl, hn64, hn1⟩ := (unhide Hlast) (by omega)
            have hgr := hide (show extsL L (m + 1 + 1) = l ++ [⟨x.from_, x.n + 1, x.id⟩] by rw [unhide hxE, hEl, grow1_snoc])
            have hlen : E.length = l.length + 1 := by rw [hEl]; simp
            have hEx : ∀ h, E[l.length]'h = x := fun h => by simp [hEl]
            have hEs : ∀ y, E.set l.length y = l ++ [y] := fun y => by rw [hEl]; simp
            obtain ⟨f, nx, ix⟩ := x
            go_wp2
            go_quiet (fail)
            obtain ⟨W, hW⟩ : ∃ W, W = wr.drewN nq := ⟨_, rfl⟩
            have A9 := hide (show Arr W w.heap.size 48 L by rw [hW]; exact unhide H1)
            have o9 : Own eE 107 W B (.slice Av E.length cv) E := by rw [hW]; exact unhide Hown
            have B9 : Below w.heap.size w W := by rw [hW]; exact below_drewN HB _
            have s9 : B ≤ W.heap.size := by rw [hW]; exact hsz
            rw [← hW]
            clear hW HB hsz ck cm
            rcases o9.shape with ⟨_, h0⟩ | ⟨g, cap, hvv, hg1, hg2, hg3, hg4⟩
            · rw [h0] at hlen; simp at hlen
            · injection hvv with e1 e2 e3
              subst e1 e3
              clear e2
              have hll : l.length < E.length := by omega
              have c1 : W.cell? ⟨g, l.length * 3 + 1, none⟩ = some (.int .i64 nx) := by
                have := o9.cell (i := l.length) (j := 1) hll (by decide)
                rw [hEx] at this
                simpa [eE] using this
              have f1 := o9.frozen (l.length * 3 + 1)
              have o10 := Own.set o9 hll (j := 1) (by decide) (.int .i64 (nx + 1)) ⟨f, nx + 1, ix⟩ (fun j hj => by
                have hj3 : j < 3 := hj
                rw [hEx]
                rcases (show j = 0 ∨ j = 1 ∨ j = 2 by omega) with rfl | rfl | rfl <;> rfl)
              rw [hEs] at o10
              have A10 := hide ((unhide A9).kept (w' := W.setCell ⟨g, l.length * 3 + 1, none⟩ (.int .i64 (nx + 1))) (Below.heap_setCell W ⟨g, l.length * 3 + 1, none⟩ _ _ (by show w.heap.size ≠ g; omega)))
              have B10 : Below w.heap.size w (W.setCell ⟨g, l.length * 3 + 1, none⟩ (.int .i64 (nx + 1))) := B9.setCell (p := ⟨g, l.length * 3 + 1, none⟩) (by show w.heap.size ≤ g; omega) _
              have s10 : B ≤ (W.setCell ⟨g, l.length * 3 + 1, none⟩ (.int .i64 (nx + 1))).heap.size := by
                rw [show (W.setCell ⟨g, l.length * 3 + 1, none⟩ (.int .i64 (nx + 1))).heap.size = W.heap.size by simp [World.setCell]]; exact s9
              have hsl : ((E.length : Nat) : Int) - 1 = (l.length : Int) := by omega
              have o11 : Own eE 107 (W.setCell ⟨g, l.length * 3 + 1, none⟩ (.int .i64 (nx + 1))) B (.slice (some ⟨g, 0, none⟩) (l.length + 1) cv) (l ++ [⟨f, nx + 1, ix⟩]) := by
                rw [← hlen]; exact o10
              have O10 := hide o11
              clear o11
              have hlE : E.length ≤ 64 := by omega
              clear o9 o10 hEx hEs hEl
              go_wp2
              go_roundw
              case rel => exact ⟨m + 1 + 1, by omega, by go_num, unhide A10, ⟨some ⟨g, 0, none⟩, cv, by rw [unhide hgr, List.length_append]; rfl, by rw [unhide hgr, List.length_append]; exact unhide O10⟩, B10, s10⟩
              case measure => simp [intOf]; omega
          · have q1 : (a == 0) = false := beq_eq_false_iff_ne.2 (by omega)
            have q3 : decide ((0 : Int) < a) = true := decide_eq_true h1
            have q4 : decide ((0 : Int) < b) = true := decide_eq_true h2
            have q5 : (a == b + 1) = false := beq_eq_false_iff_ne.2 h3
            have hxE := hide ((unhide HxE0) (by rw [unhide Hjb, q1, q3, q4, q5]; rfl))
            clear h1 h2 h3
            go_wp2
            go_quiet (fail)
            obtain ⟨W, hW⟩ : ∃ W, W = wr.drewN nq := ⟨_, rfl⟩
            have A9 := hide (show Arr W w.heap.size 48 L by rw [hW]; exact unhide H1)
            have c9 : W.cell? ⟨w.heap.size, m + 1, none⟩ = some (.int .i64 a) := by rw [hW]; exact ck
            have o9 : Own eE 107 W B (.slice Av E.length cv) E := by rw [hW]; exact unhide Hown
            have B9 : Below w.heap.size w W := by rw [hW]; exact below_drewN HB _
            have s9 : B ≤ W.heap.size := by rw [hW]; exact hsz
            rw [← hW]
            clear hW HB hsz ck cm
            go_wp2_with (at_builtin; refine wpList_append_one eE rfl _ _ _ rfl B 107 i0 _ 24 Tryz.underlying42 hi hz0 hz1 hz2 rfl (by decide) (.slice Av E.length cv) E rfl _ o9 ⟨(m : Int) + 1, 1, a⟩ #[.int .i64 ((m : Int) + 1), .int .i64 1, .int .i64 a] rfl (by simp [Act.eval]) (by intro u hu; simp at hu; rcases hu with rfl | rfl | rfl <;> rfl) ?c3 ?c4 s9 ?_)
            case c3 => unfold maxLen; omega
            case c4 => omega
            intro v4 w4 hown4 hgr4 hloc4
            have hal (w : World) (o : Obj) : (w.alloc o).heap.size = w.heap.size + 1 := by show (w.heap.push o).size = _; simp
            have hb4 := B9.alloc (by omega) (.cells #[.int .i64 ((m : Int) + 1), .int .i64 1, .int .i64 a] 107)
            have B4 : Below w.heap.size w w4 := hb4.grown hgr4 hb4.size fun q hq => by have := (o9.lt q hq).1; omega
            have s4 : B ≤ w4.heap.size := by have := hgr4.size; rw [hal] at this; omega
            have A4 := hide ((unhide A9).kept (w' := w4) ((hgr4.block w.heap.size (by rw [hal]; omega) fun e => by have := (o9.lt _ e.symm).1; omega).trans (Below.heap_alloc W _ _ (by omega))))
            have hx4 := hide (show extsL L (m + 1 + 1) = E ++ [⟨(m : Int) + 1, 1, a⟩] from unhide hxE)
            obtain ⟨A5, c5, hv5, _⟩ := hown4.sl
            rw [← unhide hx4] at hv5 hown4
            subst hv5
            have O4 := hide hown4
            clear hown4 hgr4 hloc4 hb4 o9 B9
            go_wp2
            go_roundw
            case rel => exact ⟨m + 1 + 1, by omega, by go_num, unhide A4, ⟨A5, c5, rfl, unhide O4⟩, B4, s4⟩
            case measure => simp [intOf]; omega
    · have hk64 : k = 64 := by omega
      subst hk64
      clear h1 hown
      go_wp2
      go_ret
      exact ⟨_, _, rfl, (unhide Hown).lower (by omega), HB⟩
end Go.Proofs.YtjjfdkdneibjbaaGreatDoor
/- All blocks of a pool that a map names. -/
namespace Go.Proofs.YtjjfdkdneibjbaaGreatDoor
open Go.RowKit

def idsX (x : Ext) : List Int := if 0 < x.id then (List.range x.n.toNat).map fun j : Nat => x.id + (j : Int) else []
def idsL (es : List Ext) : List Int := es.flatMap idsX
/-- Extents that lie within the volume. -/
def GoodE (es : List Ext) : Prop := ∀ x ∈ es, 0 ≤ x.from_ ∧ 1 ≤ x.n ∧ x.from_ + x.n ≤ 64 ∧ 0 ≤ x.id ∧ x.id ≤ 60
theorem idsL_snoc (es : List Ext) (x : Ext) : idsL (es ++ [x]) = idsL es ++ idsX x := by simp [idsL]
theorem idsL_le (es : List Ext) (h : GoodE es) : (idsL es).length ≤ 64 * es.length := by
  unfold idsL
  induction es with
  | nil => simp
  | cons x es ih =>
    rw [List.flatMap_cons, List.length_append, List.length_cons]
    have h1 := ih fun y hy => h y (List.mem_cons_of_mem _ hy)
    have h2 := h x List.mem_cons_self
    have h3 : (idsX x).length ≤ 64 := by
      unfold idsX; split
      · simp; omega
      · simp
    omega
set_option maxHeartbeats 1000000 in
theorem id_any (f n i k : Int) (w : World) (hi : 0 < i ∧ i ≤ 60) (hf : 0 ≤ f ∧ f ≤ 64) (hk : f ≤ k ∧ k ≤ 64) : Calls Tryz.prog 151 #[.agg #[.int .i64 f, .int .i64 n, .int .i64 i], .int .i64 k] w fun e w' => e = .returned (.int .i64 (i + k - f)) ∧ Below w.heap.size w w' := by
  have h0 : (i == 0) = false := beq_eq_false_iff_ne.2 (by omega)
  have B1 : Below w.heap.size w (w.alloc (.cells #[.int .i64 f, .int .i64 n, .int .i64 i] 107)) := (Below.refl _ _).alloc (Nat.le_refl _) _
  obtain ⟨i1, i2⟩ := hi
  obtain ⟨f1, f2⟩ := hf
  obtain ⟨k1, k2⟩ := hk
  go_enter Tryz.func151, Tryz.ntmps151
  go_wp2
  go_ret
  exact ⟨rfl, B1⟩
set_option maxHeartbeats 4000000 in
set_option maxRecDepth 100000 in
theorem ids_any (A : Option Addr) (n c : Nat) (es : List Ext) (w : World) (hs : Sl eE w A n c es) (hg : GoodE es) (h64 : n ≤ 64) : Calls Tryz.prog 90 #[.slice A n c] w fun e w' => ∃ A' c', e = .returned (.slice A' (idsL es).length c') ∧ Own eI 3 w' w.heap.size (.slice A' (idsL es).length c') (idsL es) ∧ Below w.heap.size w w' := by
  obtain ⟨i0, hi, hz0, hz1, hz2⟩ := info_parts Tryz.infoIn
  have hn := hs.1
  have b1 := hs.2.1
  have b2 := hs.2.2.1
  have R := hide hs.2.2.2
  have Hn := hide hn
  have Hg := hide hg
  clear hs hn hg
  go_enter Tryz.func90, Tryz.ntmps90
  go_wp2_with fail
  go_loopw [3, 9] (fun v j wr => ∃ k : Nat, k ≤ n ∧ j = .int .i64 k ∧ (∃ A c, v = .slice A (idsL (es.take k)).length c ∧ Own eI 3 wr w.heap.size (.slice A (idsL (es.take k)).length c) (idsL (es.take k))) ∧ Below w.heap.size w wr) (fun _ j _ => n - (intOf j).toNat)
  case atStart => exact ⟨0, Nat.zero_le _, rfl, ⟨none, 0, rfl, Own.nil _ _ _ _⟩, Below.refl _ _⟩
  case round =>
    obtain ⟨k, hk, rfl, ⟨Av, cv, rfl, hown⟩, HB⟩ := hrel
    by_cases hlt : k < n
    · have hke : k < es.length := by have := unhide Hn; omega
      obtain ⟨b, off, eA, lA, hr⟩ := unhide R (by omega)
      subst eA
      have x0 : wr.cell? ⟨b, off + k * 3, none⟩ = some (.int .i64 es[k].from_) := ((bcell HB).1 _ _ lA).trans (hr k hke 0 (by decide))
      have x1 : wr.cell? ⟨b, off + k * 3 + 1, none⟩ = some (.int .i64 es[k].n) := ((bcell HB).1 _ _ lA).trans (hr k hke 1 (by decide))
      have x2 : wr.cell? ⟨b, off + k * 3 + 2, none⟩ = some (.int .i64 es[k].id) := ((bcell HB).1 _ _ lA).trans (hr k hke 2 (by decide))
      obtain ⟨g1, g2, g3, g4, g5⟩ := unhide Hg es[k] (List.getElem_mem hke)
      have hsn := hide (show idsL (es.take (k + 1)) = idsL (es.take k) ++ idsX es[k] by rw [← idsL_snoc, List.take_append_getElem hke])
      have hle : (idsL (es.take k)).length ≤ 64 * 64 := by
        have := idsL_le (es.take k) fun y hy => unhide Hg y (List.mem_of_mem_take hy)
        rw [List.length_take] at this
        have := unhide Hn
        omega
      obtain ⟨L, hL⟩ : ∃ L, L = idsL (es.take k) := ⟨_, rfl⟩
      rw [← hL] at hown hsn hle ⊢
      obtain ⟨x, hx⟩ : ∃ x, x = es[k] := ⟨_, rfl⟩
      rw [← hx] at x0 x1 x2 g1 g2 g3 g4 g5 hsn
      obtain ⟨f, m, i⟩ := x
      have x0 : wr.cell? ⟨b, off + k * 3, none⟩ = some (.int .i64 f) := x0
      have x1 : wr.cell? ⟨b, off + k * 3 + 1, none⟩ = some (.int .i64 m) := x1
      have x2 : wr.cell? ⟨b, off + k * 3 + 2, none⟩ = some (.int .i64 i) := x2
      have g1 : 0 ≤ f := g1
      have g2 : 1 ≤ m := g2
      have g3 : f + m ≤ 64 := g3
      have g4 : 0 ≤ i := g4
      have g5 : i ≤ 60 := g5
      obtain ⟨M, rfl⟩ : ∃ M : Nat, m = (M : Int) := ⟨m.toNat, by omega⟩
      have hix : 0 < i → idsX ⟨f, M, i⟩ = (List.range M).map fun j : Nat => i + (j : Int) := fun h => by unfold idsX; rw [if_pos h]; simp
      have hix0 : ¬ 0 < i → idsX ⟨f, M, i⟩ = [] := fun h => by unfold idsX; rw [if_neg h]
      have Hix := hide hix
      have Hix0 := hide hix0
      have Hown := hide hown
      have hbl := hown.sl
      clear hr hL hx hix hix0 hown hbl
      obtain ⟨w1, hw1⟩ : ∃ W, W = wr.alloc (.cells #[.int .i64 f, .int .i64 M, .int .i64 i] 107) := ⟨_, rfl⟩
      obtain ⟨p, hp⟩ : ∃ p, p = wr.heap.size := ⟨_, rfl⟩
      have B1 : Below w.heap.size w w1 := by rw [hw1]; exact HB.alloc HB.size _
      have c0 : w1.cell? ⟨p, 0, none⟩ = some (.int .i64 f) := by rw [hw1, hp]; exact World.cell?_alloc_at _ _ _ _ rfl
      have c1 : w1.cell? ⟨p, 1, none⟩ = some (.int .i64 M) := by rw [hw1, hp]; exact World.cell?_alloc_at _ _ _ _ rfl
      have c2 : w1.cell? ⟨p, 2, none⟩ = some (.int .i64 i) := by rw [hw1, hp]; exact World.cell?_alloc_at _ _ _ _ rfl
      have sp : w.heap.size ≤ p := by rw [hp]; exact HB.size
      have s1 : p < w1.heap.size := by rw [hw1, hp]; simp
      have o1 := hide (show Own eI 3 w1 w.heap.size (.slice Av L.length cv) L by rw [hw1]; exact (unhide Hown).alloc _)
      have q1 := hide (show ∀ q, (Value.slice Av L.length cv).ownBlock = some q → q ≠ p from fun q hq e => by have := ((unhide Hown).lt q hq).2; omega)
      go_wp2_with fail
      rw [← hw1, ← hp]
      clear hw1 hp HB Hown
      by_cases hip : 0 < i
      · go_loopw [3, 6] (fun v j w2 => ∃ q : Nat, q ≤ M ∧ j = .int .i64 (f + q) ∧ (∃ A c, v = .slice A (L.length + q) c ∧ Own eI 3 w2 w.heap.size (.slice A (L.length + q) c) (L ++ (List.range q).map fun j : Nat => i + (j : Int)) ∧ ∀ b, (Value.slice A (L.length + q) c).ownBlock = some b → b ≠ p) ∧ w2.cell? ⟨p, 0, none⟩ = some (.int .i64 f) ∧ w2.cell? ⟨p, 1, none⟩ = some (.int .i64 M) ∧ w2.cell? ⟨p, 2, none⟩ = some (.int .i64 i) ∧ Below w.heap.size w w2 ∧ p < w2.heap.size) (fun _ j _ => (f + M - intOf j).toNat)
        case atStart => exact ⟨0, Nat.zero_le _, by simp, ⟨Av, cv, rfl, by simpa using unhide o1, unhide q1⟩, c0, c1, c2, B1, s1⟩
        case round =>
          obtain ⟨q, hq, rfl, ⟨A2, c2', rfl, ho2, hb2⟩, d0, d1, d2, HB2, sp2⟩ := hrel
          have Ho2 := hide ho2
          have Hb2 := hide hb2
          clear ho2 hb2
          by_cases hlq : q < M
          · have hlq' : f + (q : Int) < f + M := by omega
            go_wp2_with fail
            refine (id_any f M i (f + q) wr ⟨hip, g5⟩ ⟨g1, by omega⟩ ⟨by omega, by omega⟩).mono ?_
            rintro e w3 ⟨rfl, HB3⟩
            rw [show i + (f + (q : Int)) - f = i + q by omega]
            have e0 := ((bcell HB3).1 p 0 sp2).trans d0
            have e1 := ((bcell HB3).1 p 1 sp2).trans d1
            have e2 := ((bcell HB3).1 p 2 sp2).trans d2
            have s3 := HB3.size
            have B3 : Below w.heap.size w w3 := HB2.trans (HB3.mono HB2.size)
            have o3 := (unhide Ho2).below HB3
            have hl3 : (L ++ (List.range q).map fun j : Nat => i + (j : Int)).length = L.length + q := by simp
            have Hl3 := hide hl3
            clear HB3 d0 d1 d2 hl3
            go_wp2_with (at_builtin; refine wpList_append_one eI rfl _ _ _ rfl w.heap.size 3 i0 (.int .i64 0) 8 Tryz.underlying52 hi hz0 hz1 hz2 rfl (by decide) (.slice A2 (L.length + q) c2') (L ++ (List.range q).map fun j : Nat => i + (j : Int)) rfl _ o3 (i + q) #[.int .i64 (i + q)] rfl (by simp [Act.eval]) (one_int _) ?c3 ?c4 ?c5 ?_)
            case c3 => rw [unhide Hl3]; unfold maxLen; omega
            case c4 => rw [unhide Hl3]; omega
            case c5 => exact B3.size
            intro v4 w4 hown4 hgr4 hloc4
            have hal (w : World) (o : Obj) : (w.alloc o).heap.size = w.heap.size + 1 := by show (w.heap.push o).size = _; simp
            have hb3 := B3.alloc B3.size (.cells #[.int .i64 (i + q)] 3)
            have B4 : Below w.heap.size w w4 := hb3.grown hgr4 hb3.size fun j hj => (o3.lt j hj).1
            obtain ⟨A4, c4, hv4, _⟩ := hown4.sl
            have hv5 : v4 = .slice A4 (L.length + (q + 1)) c4 := by rw [hv4]; simp
            clear hv4
            subst hv5
            have ep : w4.heap[p]? = w3.heap[p]? := (hgr4.block p (by rw [hal]; omega) fun e => unhide Hb2 p e.symm rfl).trans (Below.heap_alloc w3 _ p (by omega))
            have k0 := (World.cell?_of_block (a := ⟨p, 0, none⟩) ep).trans e0
            have k1 := (World.cell?_of_block (a := ⟨p, 1, none⟩) ep).trans e1
            have k2 := (World.cell?_of_block (a := ⟨p, 2, none⟩) ep).trans e2
            have s4 : p < w4.heap.size := by have := hgr4.size; rw [hal] at this; omega
            have hb4 : ∀ b, (Value.slice A4 (L.length + (q + 1)) c4).ownBlock = some b → b ≠ p := fun b hb e => by
              rcases hloc4 with l | l
              · exact unhide Hb2 b (l ▸ hb) e
              · rw [l] at hb; injection hb with hb; omega
            have ho4 : Own eI 3 w4 w.heap.size (.slice A4 (L.length + (q + 1)) c4) (L ++ (List.range (q + 1)).map fun j : Nat => i + (j : Int)) := by
              rw [List.range_succ, List.map_append]
              exact hown4
            have Ho4 := hide ho4
            have Hb4 := hide hb4
            clear hown4 hgr4 hloc4 ho4 hb4 hb3 o3 e0 e1 e2 B3 ep
            go_wp2
            go_roundw
            case rel => exact ⟨q + 1, by omega, by go_num, ⟨A4, c4, rfl, unhide Ho4, unhide Hb4⟩, k0, k1, k2, B4, s4⟩
            case measure => simp [intOf]; omega
          · have hqM : q = M := by omega
            subst hqM
            have hlq' : ¬ f + (q : Int) < f + q := by omega
            have hfin := hide (show idsL (es.take (k + 1)) = L ++ (List.range q).map fun j : Nat => i + (j : Int) by rw [unhide hsn, unhide Hix hip])
            go_wp2
            go_roundw
            case rel =>
              refine ⟨k + 1, by omega, by go_num, ⟨A2, c2', ?_, ?_⟩, HB2⟩
              · rw [unhide hfin]; simp
              · rw [unhide hfin]; simpa using unhide Ho2
            case measure => simp [intOf]; omega
      · go_loopw [3, 6] (fun v j w2 => v = .slice Av L.length cv ∧ j = .int .i64 f ∧ w2 = w1) (fun _ _ _ => 0)
        case atStart => exact ⟨rfl, rfl, rfl⟩
        case round =>
          obtain ⟨rfl, rfl, hw2⟩ := hrel
          obtain rfl := hw2.symm
          have hfin := hide (show idsL (es.take (k + 1)) = L by rw [unhide hsn, unhide Hix0 (by omega), List.append_nil])
          go_wp2
          go_roundw
          case rel => exact ⟨k + 1, by omega, by go_num, ⟨Av, cv, by rw [unhide hfin], by rw [unhide hfin]; exact unhide o1⟩, B1⟩
          case measure => simp [intOf]; omega
    · have hkn : k = n := by omega
      subst hkn
      have hte : es.take k = es := List.take_of_length_le (by have := unhide Hn; omega)
      rw [hte] at hown ⊢
      have Hown := hide hown
      clear hown hte
      go_wp2
      go_ret
      exact ⟨_, _, rfl, unhide Hown, HB⟩
end Go.Proofs.YtjjfdkdneibjbaaGreatDoor
/- A chain of points that may be: what it is made of. UNDER WAY. -/
namespace Go.Proofs.YtjjfdkdneibjbaaGreatDoor
open Go.RowKit

/-- Extents as the laws make them. -/
def Fine (es : List Ext) : Prop := es.length ≤ 64 ∧ ∀ x ∈ es, 0 ≤ x.from_ ∧ 1 ≤ x.n ∧ x.from_ + x.n ≤ 64 ∧ 0 ≤ x.id ∧ (x.id ≠ 0 → x.id + x.n ≤ 61)
theorem Fine.good {es : List Ext} (h : Fine es) : GoodE es := fun x hx => by
  obtain ⟨h1, h2, h3, h4, h5⟩ := h.2 x hx
  refine ⟨h1, h2, h3, h4, ?_⟩
  by_cases e : x.id = 0
  · omega
  · have := h5 e; omega
theorem exts_fine (L : List Int) (hb : ∀ k, -1 ≤ L.getD k 0 ∧ L.getD k 0 ≤ 60) : Fine (extsL L 64) := by
  refine ⟨extsL_le L 64, fun x hx => ?_⟩
  obtain ⟨h1, h2, h3, h4, h5⟩ := (tidy_ext L hb 64 (by omega)).good x hx
  refine ⟨h1, h2, by omega, h4, fun e => ?_⟩
  rw [if_neg e] at h5
  omega
theorem ids_fine {es : List Ext} (h : Fine es) : ∀ i ∈ idsL es, 1 ≤ i ∧ i ≤ 60 := by
  intro i hi
  obtain ⟨x, hx, hm⟩ := List.mem_flatMap.1 hi
  obtain ⟨h1, h2, h3, h4, h5⟩ := h.2 x hx
  unfold idsX at hm
  split at hm
  · rename_i h6
    obtain ⟨j, hj, rfl⟩ := List.mem_map.1 hm
    have := List.mem_range.1 hj
    have := h5 (by omega)
    omega
  · simp at hm
/-- The numbers of a map are within the pool. -/
def InPool (L : List Int) : Prop := ∀ k, -1 ≤ L.getD k 0 ∧ L.getD k 0 ≤ 60
theorem InPool.set {L : List Int} (h : InPool L) (j : Nat) (v : Int) (hv : -1 ≤ v ∧ v ≤ 60) : InPool (L.set j v) := fun k => by
  rw [List.getD_eq_getElem?_getD, List.getElem?_set]
  by_cases e : j = k
  · subst e
    rw [if_pos rfl]
    split
    · exact hv
    · simp
  · rw [if_neg e, ← List.getD_eq_getElem?_getD]
    exact h k
theorem InPool.none : InPool (noneL 64) := fun k => by
  rw [List.getD_eq_getElem?_getD, noneL_at (by omega)]
  by_cases h1 : k < 64
  · rw [if_pos h1]; decide
  · rw [if_neg h1, if_neg h1]; decide
theorem InPool.setTo {L : List Int} (h : InPool L) (f : Nat) (i : Int) (n : Nat) (hn : 0 < i → i + n ≤ 61) : InPool (setTo L f i n) := by
  have key : ∀ k, k ≤ n → InPool (Go.Proofs.YtjjfdkdneibjbaaGreatDoor.setTo L f i k) := by
    intro k
    induction k with
    | zero => intro _; exact h
    | succ k ih =>
      intro hk
      have := ih (by omega)
      show InPool ((Go.Proofs.YtjjfdkdneibjbaaGreatDoor.setTo L f i k).set (f + k) (if 0 < i then i + k else 0))
      refine this.set _ _ ?_
      split
      · rename_i h1; have := hn h1; omega
      · omega
  exact key n (Nat.le_refl _)
theorem InPool.setL {L : List Int} (h : InPool L) (f n i : Int) : InPool (setL L f n i) := by
  unfold Go.Proofs.YtjjfdkdneibjbaaGreatDoor.setL
  split
  · rename_i ha
    unfold aloneB wholeB at ha
    simp at ha
    refine h.setTo _ _ _ fun h1 => ?_
    omega
  · exact h
theorem InPool.ofL (es : List Ext) : InPool (ofL es) := by
  unfold Go.Proofs.YtjjfdkdneibjbaaGreatDoor.ofL
  have key : ∀ (es : List Ext) (m : List Int), InPool m → InPool (es.foldl (fun m x => Go.Proofs.YtjjfdkdneibjbaaGreatDoor.setL m x.from_ x.n x.id) m) := by
    intro es
    induction es with
    | nil => intro m h; exact h
    | cons x es ih => intro m h; exact ih _ (h.setL _ _ _)
  exact key es _ InPool.none
end Go.Proofs.YtjjfdkdneibjbaaGreatDoor
