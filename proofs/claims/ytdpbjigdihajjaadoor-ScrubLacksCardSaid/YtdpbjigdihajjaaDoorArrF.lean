/- The tidy map of an array: the walk. UNDER WAY. -/
import Derived.Test.YtdpbjigdihajjaaDoorArrE
namespace Go.Proofs.YtdpbjigdihajjaaDoor
open Go.RowKit

theorem extsL_le (L : List Int) (k : Nat) : (extsL L k).length ≤ k := by
  induction k with
  | zero => simp [extsL]
  | succ k ih =>
    unfold extsL
    split
    · omega
    · split
      · have : ∀ l : List Ext, (grow1 l).length = l.length := by
          intro l
          induction l with
          | nil => rfl
          | cons x l ih2 =>
            cases l with
            | nil => rfl
            | cons y l => simp only [grow1, List.length_cons] at ih2 ⊢; omega
        rw [this]; omega
      · rw [List.length_append, List.length_singleton]; omega
set_option maxHeartbeats 4000000 in
set_option maxRecDepth 100000 in
theorem extents_any (L : List Int) (hL : L.length = 64) (hb : ∀ k, -1 ≤ L.getD k 0 ∧ L.getD k 0 ≤ 60) (w : World) : Calls Tryd.prog 40 #[arrV L] w fun e w' => ∃ A c, e = .returned (.slice A (extsL L 64).length c) ∧ Own eE 81 w' w.heap.size (.slice A (extsL L 64).length c) (extsL L 64) ∧ Below w.heap.size w w' := by
  obtain ⟨i0, hi, hz0, hz1, hz2⟩ := info_parts Tryd.infoE
  obtain ⟨w1, hw1⟩ : ∃ w1, w1 = w.alloc (.cells (numCells L).toArray 83) := ⟨_, rfl⟩
  have B1 : Below w.heap.size w w1 := by rw [hw1]; exact (Below.refl _ _).alloc (Nat.le_refl _) _
  have s1 : w1.heap.size = w.heap.size + 1 := by rw [hw1]; show (w.heap.push _).size = _; simp
  have a1 := hide (show Arr w1 w.heap.size 83 L by rw [hw1]; exact Arr.alloc w _ _)
  have HL := hide hL
  have Hb := hide hb
  clear hL hb
  change Calls _ _ #[.agg (numCells L).toArray] w _
  go_enter Tryd.func40, Tryd.ntmps40
  go_wp2_with fail
  rw [← hw1]
  clear hw1
  obtain ⟨B, hB⟩ : ∃ B, B = w.heap.size + 1 := ⟨_, rfl⟩
  have hBs : B ≤ w1.heap.size := by omega
  have hBl : w.heap.size < B := by omega
  clear hB s1
  go_loopw [3, 4] (fun v j wr => ∃ k : Nat, k ≤ 64 ∧ j = .int .i64 k ∧ Arr wr w.heap.size 83 L ∧ (∃ A c, v = .slice A (extsL L k).length c ∧ Own eE 81 wr B (.slice A (extsL L k).length c) (extsL L k)) ∧ Below w.heap.size w wr ∧ B ≤ wr.heap.size) (fun _ j _ => 64 - (intOf j).toNat)
  case atStart => exact ⟨0, by omega, rfl, unhide a1, ⟨none, 0, rfl, Own.nil _ _ _ _⟩, B1, by omega⟩
  case round =>
    obtain ⟨k, hk, rfl, h1, ⟨Av, cv, rfl, hown⟩, HB, hsz⟩ := hrel
    have H1 := hide h1
    have Hown := hide hown
    have hle := extsL_le L k
    by_cases hlt : k < 64
    · have hkl : k < L.length := by rw [unhide HL]; exact hlt
      have ck := h1.cell hkl
      have hgk : L.getD k 0 = L[k] := by rw [List.getD_eq_getElem?_getD, List.getElem?_eq_getElem hkl, Option.getD_some]
      rw [← hgk] at ck
      obtain ⟨a, ha⟩ : ∃ a, a = L.getD k 0 := ⟨_, rfl⟩
      rw [← ha] at ck
      have hab := unhide Hb k
      rw [← ha] at hab
      obtain ⟨ha1, ha2⟩ := hab
      have Ha := hide ha
      clear h1 hown ha hgk
      by_cases hneg : a < 0
      · have hx := hide (show extsL L (k + 1) = extsL L k by rw [extsL, if_pos (by rw [← unhide Ha]; exact hneg)])
        go_wp2
        go_roundw
        case rel => exact ⟨k + 1, by omega, by go_num, unhide H1, ⟨Av, cv, by rw [unhide hx], by rw [unhide hx]; exact unhide Hown⟩, HB, hsz⟩
        case measure => simp [intOf]; omega
      · rcases Nat.eq_zero_or_pos k with hk0 | hk0
        · have hj := hide (show joinB L k = false by rw [hk0]; rfl)
          obtain ⟨E, hE⟩ : ∃ E, E = extsL L k := ⟨_, rfl⟩
          have hxE := hide (show extsL L (k + 1) = E ++ [⟨(k : Int), 1, a⟩] by rw [extsL, if_neg (by rw [← unhide Ha]; exact hneg), if_neg (by rw [unhide hj]; simp), ← unhide Ha, hE])
          rw [← hE] at Hown hle ⊢
          have HE := hide hE
          clear hE
          subst hk0
          go_wp2
          go_quiet (fail)
          obtain ⟨W, hW⟩ : ∃ W, W = wr.drewN nq := ⟨_, rfl⟩
          have A9 := hide (show Arr W w.heap.size 83 L by rw [hW]; exact unhide H1)
          have c9 : W.cell? ⟨w.heap.size, 0, none⟩ = some (.int .i64 a) := by rw [hW]; exact ck
          have o9 : Own eE 81 W B (.slice Av E.length cv) E := by rw [hW]; exact unhide Hown
          have B9 : Below w.heap.size w W := by rw [hW]; exact below_drewN HB _
          have s9 : B ≤ W.heap.size := by rw [hW]; exact hsz
          rw [← hW]
          clear hW HB hsz ck
          go_wp2_with (at_builtin; refine wpList_append_one eE rfl _ _ _ rfl B 81 i0 _ 24 Tryd.underlying77 hi hz0 hz1 hz2 rfl (by decide) (.slice Av E.length cv) E rfl _ o9 ⟨0, 1, a⟩ #[.int .i64 0, .int .i64 1, .int .i64 a] rfl (by simp [Act.eval]) (by intro u hu; simp at hu; rcases hu with rfl | rfl | rfl <;> rfl) ?c3 ?c4 s9 ?_)
          case c3 => unfold maxLen; omega
          case c4 => omega
          intro v4 w4 hown4 hgr4 hloc4
          have hal (w : World) (o : Obj) : (w.alloc o).heap.size = w.heap.size + 1 := by show (w.heap.push o).size = _; simp
          have hb4 := B9.alloc (by omega) (.cells #[.int .i64 0, .int .i64 1, .int .i64 a] 81)
          have B4 : Below w.heap.size w w4 := hb4.grown hgr4 hb4.size fun q hq => by have := (o9.lt q hq).1; omega
          have s4 : B ≤ w4.heap.size := by have := hgr4.size; rw [hal] at this; omega
          have A4 := hide ((unhide A9).kept (w' := w4) ((hgr4.block w.heap.size (by rw [hal]; omega) fun e => by have := (o9.lt _ e.symm).1; omega).trans (Below.heap_alloc W _ _ (by omega))))
          have hx4 := hide (show extsL L (0 + 1) = E ++ [⟨0, 1, a⟩] from unhide hxE)
          obtain ⟨A5, c5, hv5, _⟩ := hown4.sl
          rw [← unhide hx4] at hv5 hown4
          subst hv5
          have O4 := hide hown4
          clear hown4 hgr4 hloc4 hb4 o9 B9
          go_wp2
          go_roundw
          case rel => exact ⟨0 + 1, by omega, by go_num, unhide A4, ⟨A5, c5, rfl, unhide O4⟩, B4, s4⟩
          case measure => simp [intOf]
        · obtain ⟨m, rfl⟩ : ∃ m, k = m + 1 := ⟨k - 1, by omega⟩
          have hml : m < L.length := by omega
          have cm := (unhide H1).cell hml
          have hgm : L.getD m 0 = L[m] := by rw [List.getD_eq_getElem?_getD, List.getElem?_eq_getElem hml, Option.getD_some]
          rw [← hgm] at cm
          obtain ⟨b, hb⟩ : ∃ b, b = L.getD m 0 := ⟨_, rfl⟩
          rw [← hb] at cm
          have hbb := unhide Hb m
          rw [← hb] at hbb
          obtain ⟨hb1, hb2⟩ := hbb
          have hjb : joinB L (m + 1) = ((a == 0 && b == 0) || (decide (0 < a) && decide (0 < b) && a == b + 1)) := by
            unfold joinB
            rw [← unhide Ha, show m + 1 - 1 = m from rfl, ← hb]
            simp
          have Hjb := hide hjb
          obtain ⟨E, hE⟩ : ∃ E, E = extsL L (m + 1) := ⟨_, rfl⟩
          have hxE0 : joinB L (m + 1) = false → extsL L (m + 1 + 1) = E ++ [⟨(m : Int) + 1, 1, a⟩] := fun h => by rw [extsL, if_neg (by rw [← unhide Ha]; exact hneg), if_neg (by rw [h]; simp), ← unhide Ha, hE]; rfl
          have HxE0 := hide hxE0
          have hxJ : joinB L (m + 1) = true → extsL L (m + 1 + 1) = grow1 E := fun h => by rw [extsL, if_neg (by rw [← unhide Ha]; exact hneg), if_pos h, hE]
          have HxJ := hide hxJ
          have hlast : 0 ≤ b → ∃ l x, E = l ++ [x] ∧ x.n ≤ 64 ∧ 1 ≤ x.n := fun h => by
            have htd := tidy_ext L (unhide Hb) (m + 1) (by omega)
            obtain ⟨l, x, h1, _⟩ := htd.last (by omega) (by rw [show m + 1 - 1 = m from rfl, ← hb]; exact h)
            have hg := htd.good x (by rw [h1]; simp)
            exact ⟨l, x, by rw [hE, h1], by omega, hg.2.1⟩
          have Hlast := hide hlast
          clear hxJ hlast
          rw [← hE] at Hown hle ⊢
          have HE := hide hE
          have Hbb := hide hb
          clear hE hgm hb hjb hml hxE0
          rcases (show (a = 0 ∧ b = 0) ∨ (a = 0 ∧ b ≠ 0) ∨ (0 < a ∧ b ≤ 0) ∨ (0 < a ∧ 0 < b ∧ a = b + 1) ∨ (0 < a ∧ 0 < b ∧ a ≠ b + 1) by omega) with ⟨h1, h2⟩ | ⟨h1, h2⟩ | ⟨h1, h2⟩ | ⟨h1, h2, h3⟩ | ⟨h1, h2, h3⟩
          · have q1 : (a == 0) = true := beq_iff_eq.2 h1
            have q2 : (b == 0) = true := beq_iff_eq.2 h2
            have hxE := hide ((unhide HxJ) (by rw [unhide Hjb, q1, q2]; rfl))
            have hb0 : 0 ≤ b := by omega
            clear h1 h2
            obtain ⟨l, x, hEl, hn64, hn1⟩ := (unhide Hlast) (by omega)
            have hgr := hide (show extsL L (m + 1 + 1) = l ++ [⟨x.from_, x.n + 1, x.id⟩] by rw [unhide hxE, hEl, grow1_snoc])
            have hlen : E.length = l.length + 1 := by rw [hEl]; simp
            have hEx : ∀ h, E[l.length]'h = x := fun h => by simp [hEl]
            have hEs : ∀ y, E.set l.length y = l ++ [y] := fun y => by rw [hEl]; simp
            obtain ⟨f, nx, ix⟩ := x
            go_wp2
            go_quiet (fail)
            obtain ⟨W, hW⟩ : ∃ W, W = wr.drewN nq := ⟨_, rfl⟩
            have A9 := hide (show Arr W w.heap.size 83 L by rw [hW]; exact unhide H1)
            have o9 : Own eE 81 W B (.slice Av E.length cv) E := by rw [hW]; exact unhide Hown
            have B9 : Below w.heap.size w W := by rw [hW]; exact below_drewN HB _
            have s9 : B ≤ W.heap.size := by rw [hW]; exact hsz
            rw [← hW]
            clear hW HB hsz ck cm
            rcases o9.shape with ⟨_, h0⟩ | ⟨g, cap, hvv, hg1, hg2, hg3, hg4⟩
            · rw [h0] at hlen; simp at hlen
            · injection hvv with e1 e2 e3
              subst e1 e3
              clear e2
              have hll : l.length < E.length := by omega
              have c1 : W.cell? ⟨g, l.length * 3 + 1, none⟩ = some (.int .i64 nx) := by
                have := o9.cell (i := l.length) (j := 1) hll (by decide)
                rw [hEx] at this
                simpa [eE] using this
              have f1 := o9.frozen (l.length * 3 + 1)
              have o10 := Own.set o9 hll (j := 1) (by decide) (.int .i64 (nx + 1)) ⟨f, nx + 1, ix⟩ (fun j hj => by
                have hj3 : j < 3 := hj
                rw [hEx]
                rcases (show j = 0 ∨ j = 1 ∨ j = 2 by omega) with rfl | rfl | rfl <;> rfl)
              rw [hEs] at o10
              have A10 := hide ((unhide A9).kept (w' := W.setCell ⟨g, l.length * 3 + 1, none⟩ (.int .i64 (nx + 1))) (Below.heap_setCell W ⟨g, l.length * 3 + 1, none⟩ _ _ (by show w.heap.size ≠ g; omega)))
              have B10 : Below w.heap.size w (W.setCell ⟨g, l.length * 3 + 1, none⟩ (.int .i64 (nx + 1))) := B9.setCell (p := ⟨g, l.length * 3 + 1, none⟩) (by show w.heap.size ≤ g; omega) _
              have s10 : B ≤ (W.setCell ⟨g, l.length * 3 + 1, none⟩ (.int .i64 (nx + 1))).heap.size := by
                rw [show (W.setCell ⟨g, l.length * 3 + 1, none⟩ (.int .i64 (nx + 1))).heap.size = W.heap.size by simp [World.setCell]]; exact s9
              have hsl : ((E.length : Nat) : Int) - 1 = (l.length : Int) := by omega
              have o11 : Own eE 81 (W.setCell ⟨g, l.length * 3 + 1, none⟩ (.int .i64 (nx + 1))) B (.slice (some ⟨g, 0, none⟩) (l.length + 1) cv) (l ++ [⟨f, nx + 1, ix⟩]) := by
                rw [← hlen]; exact o10
              have O10 := hide o11
              clear o11
              have hlE : E.length ≤ 64 := by omega
              clear o9 o10 hEx hEs hEl
              go_wp2
              go_roundw
              case rel => exact ⟨m + 1 + 1, by omega, by go_num, unhide A10, ⟨some ⟨g, 0, none⟩, cv, by rw [unhide hgr, List.length_append]; rfl, by rw [unhide hgr, List.length_append]; exact unhide O10⟩, B10, s10⟩
              case measure => simp [intOf]; omega
          · have q1 : (a == 0) = true := beq_iff_eq.2 h1
            have q2 : (b == 0) = false := beq_eq_false_iff_ne.2 h2
            have q3 : decide ((0 : Int) < a) = false := decide_eq_false (by omega)
            have hxE := hide ((unhide HxE0) (by rw [unhide Hjb, q1, q2, q3]; rfl))
            clear h1 h2
            go_wp2
            go_quiet (fail)
            obtain ⟨W, hW⟩ : ∃ W, W = wr.drewN nq := ⟨_, rfl⟩
            have A9 := hide (show Arr W w.heap.size 83 L by rw [hW]; exact unhide H1)
            have c9 : W.cell? ⟨w.heap.size, m + 1, none⟩ = some (.int .i64 a) := by rw [hW]; exact ck
            have o9 : Own eE 81 W B (.slice Av E.length cv) E := by rw [hW]; exact unhide Hown
            have B9 : Below w.heap.size w W := by rw [hW]; exact below_drewN HB _
            have s9 : B ≤ W.heap.size := by rw [hW]; exact hsz
            rw [← hW]
            clear hW HB hsz ck cm
            go_wp2_with (at_builtin; refine wpList_append_one eE rfl _ _ _ rfl B 81 i0 _ 24 Tryd.underlying77 hi hz0 hz1 hz2 rfl (by decide) (.slice Av E.length cv) E rfl _ o9 ⟨(m : Int) + 1, 1, a⟩ #[.int .i64 ((m : Int) + 1), .int .i64 1, .int .i64 a] rfl (by simp [Act.eval]) (by intro u hu; simp at hu; rcases hu with rfl | rfl | rfl <;> rfl) ?c3 ?c4 s9 ?_)
            case c3 => unfold maxLen; omega
            case c4 => omega
            intro v4 w4 hown4 hgr4 hloc4
            have hal (w : World) (o : Obj) : (w.alloc o).heap.size = w.heap.size + 1 := by show (w.heap.push o).size = _; simp
            have hb4 := B9.alloc (by omega) (.cells #[.int .i64 ((m : Int) + 1), .int .i64 1, .int .i64 a] 81)
            have B4 : Below w.heap.size w w4 := hb4.grown hgr4 hb4.size fun q hq => by have := (o9.lt q hq).1; omega
            have s4 : B ≤ w4.heap.size := by have := hgr4.size; rw [hal] at this; omega
            have A4 := hide ((unhide A9).kept (w' := w4) ((hgr4.block w.heap.size (by rw [hal]; omega) fun e => by have := (o9.lt _ e.symm).1; omega).trans (Below.heap_alloc W _ _ (by omega))))
            have hx4 := hide (show extsL L (m + 1 + 1) = E ++ [⟨(m : Int) + 1, 1, a⟩] from unhide hxE)
            obtain ⟨A5, c5, hv5, _⟩ := hown4.sl
            rw [← unhide hx4] at hv5 hown4
            subst hv5
            have O4 := hide hown4
            clear hown4 hgr4 hloc4 hb4 o9 B9
            go_wp2
            go_roundw
            case rel => exact ⟨m + 1 + 1, by omega, by go_num, unhide A4, ⟨A5, c5, rfl, unhide O4⟩, B4, s4⟩
            case measure => simp [intOf]; omega
          · have q1 : (a == 0) = false := beq_eq_false_iff_ne.2 (by omega)
            have q3 : decide ((0 : Int) < a) = true := decide_eq_true h1
            have q4 : decide ((0 : Int) < b) = false := decide_eq_false (by omega)
            have hxE := hide ((unhide HxE0) (by rw [unhide Hjb, q1, q3, q4]; rfl))
            clear h1 h2
            go_wp2
            go_quiet (fail)
            obtain ⟨W, hW⟩ : ∃ W, W = wr.drewN nq := ⟨_, rfl⟩
            have A9 := hide (show Arr W w.heap.size 83 L by rw [hW]; exact unhide H1)
            have c9 : W.cell? ⟨w.heap.size, m + 1, none⟩ = some (.int .i64 a) := by rw [hW]; exact ck
            have o9 : Own eE 81 W B (.slice Av E.length cv) E := by rw [hW]; exact unhide Hown
            have B9 : Below w.heap.size w W := by rw [hW]; exact below_drewN HB _
            have s9 : B ≤ W.heap.size := by rw [hW]; exact hsz
            rw [← hW]
            clear hW HB hsz ck cm
            go_wp2_with (at_builtin; refine wpList_append_one eE rfl _ _ _ rfl B 81 i0 _ 24 Tryd.underlying77 hi hz0 hz1 hz2 rfl (by decide) (.slice Av E.length cv) E rfl _ o9 ⟨(m : Int) + 1, 1, a⟩ #[.int .i64 ((m : Int) + 1), .int .i64 1, .int .i64 a] rfl (by simp [Act.eval]) (by intro u hu; simp at hu; rcases hu with rfl | rfl | rfl <;> rfl) ?c3 ?c4 s9 ?_)
            case c3 => unfold maxLen; omega
            case c4 => omega
            intro v4 w4 hown4 hgr4 hloc4
            have hal (w : World) (o : Obj) : (w.alloc o).heap.size = w.heap.size + 1 := by show (w.heap.push o).size = _; simp
            have hb4 := B9.alloc (by omega) (.cells #[.int .i64 ((m : Int) + 1), .int .i64 1, .int .i64 a] 81)
            have B4 : Below w.heap.size w w4 := hb4.grown hgr4 hb4.size fun q hq => by have := (o9.lt q hq).1; omega
            have s4 : B ≤ w4.heap.size := by have := hgr4.size; rw [hal] at this; omega
            have A4 := hide ((unhide A9).kept (w' := w4) ((hgr4.block w.heap.size (by rw [hal]; omega) fun e => by have := (o9.lt _ e.symm).1; omega).trans (Below.heap_alloc W _ _ (by omega))))
            have hx4 := hide (show extsL L (m + 1 + 1) = E ++ [⟨(m : Int) + 1, 1, a⟩] from unhide hxE)
            obtain ⟨A5, c5, hv5, _⟩ := hown4.sl
            rw [← unhide hx4] at hv5 hown4
            subst hv5
            have O4 := hide hown4
            clear hown4 hgr4 hloc4 hb4 o9 B9
            go_wp2
            go_roundw
            case rel => exact ⟨m + 1 + 1, by omega, by go_num, unhide A4, ⟨A5, c5, rfl, unhide O4⟩, B4, s4⟩
            case measure => simp [intOf]; omega
          · have q1 : (a == 0) = false := beq_eq_false_iff_ne.2 (by omega)
            have q3 : decide ((0 : Int) < a) = true := decide_eq_true h1
            have q4 : decide ((0 : Int) < b) = true := decide_eq_true h2
            have q5 : (a == b + 1) = true := beq_iff_eq.2 h3
            have hxE := hide ((unhide HxJ) (by rw [unhide Hjb, q1, q3, q4, q5]; rfl))
            have hb0 : 0 ≤ b := by omega
            clear h1 h2 h3
            obtain ⟨l, x, hEl, hn64, hn1⟩ := (unhide Hlast) (by omega)
            have hgr := hide (show extsL L (m + 1 + 1) = l ++ [⟨x.from_, x.n + 1, x.id⟩] by rw [unhide hxE, hEl, grow1_snoc])
            have hlen : E.length = l.length + 1 := by rw [hEl]; simp
            have hEx : ∀ h, E[l.length]'h = x := fun h => by simp [hEl]
            have hEs : ∀ y, E.set l.length y = l ++ [y] := fun y => by rw [hEl]; simp
            obtain ⟨f, nx, ix⟩ := x
            go_wp2
            go_quiet (fail)
            obtain ⟨W, hW⟩ : ∃ W, W = wr.drewN nq := ⟨_, rfl⟩
            have A9 := hide (show Arr W w.heap.size 83 L by rw [hW]; exact unhide H1)
            have o9 : Own eE 81 W B (.slice Av E.length cv) E := by rw [hW]; exact unhide Hown
            have B9 : Below w.heap.size w W := by rw [hW]; exact below_drewN HB _
            have s9 : B ≤ W.heap.size := by rw [hW]; exact hsz
            rw [← hW]
            clear hW HB hsz ck cm
            rcases o9.shape with ⟨_, h0⟩ | ⟨g, cap, hvv, hg1, hg2, hg3, hg4⟩
            · rw [h0] at hlen; simp at hlen
            · injection hvv with e1 e2 e3
              subst e1 e3
              clear e2
              have hll : l.length < E.length := by omega
              have c1 : W.cell? ⟨g, l.length * 3 + 1, none⟩ = some (.int .i64 nx) := by
                have := o9.cell (i := l.length) (j := 1) hll (by decide)
                rw [hEx] at this
                simpa [eE] using this
              have f1 := o9.frozen (l.length * 3 + 1)
              have o10 := Own.set o9 hll (j := 1) (by decide) (.int .i64 (nx + 1)) ⟨f, nx + 1, ix⟩ (fun j hj => by
                have hj3 : j < 3 := hj
                rw [hEx]
                rcases (show j = 0 ∨ j = 1 ∨ j = 2 by omega) with rfl | rfl | rfl <;> rfl)
              rw [hEs] at o10
              have A10 := hide ((unhide A9).kept (w' := W.setCell ⟨g, l.length * 3 + 1, none⟩ (.int .i64 (nx + 1))) (Below.heap_setCell W ⟨g, l.length * 3 + 1, none⟩ _ _ (by show w.heap.size ≠ g; omega)))
              have B10 : Below w.heap.size w (W.setCell ⟨g, l.length * 3 + 1, none⟩ (.int .i64 (nx + 1))) := B9.setCell (p := ⟨g, l.length * 3 + 1, none⟩) (by show w.heap.size ≤ g; omega) _
              have s10 : B ≤ (W.setCell ⟨g, l.length * 3 + 1, none⟩ (.int .i64 (nx + 1))).heap.size := by
                rw [show (W.setCell ⟨g, l.length * 3 + 1, none⟩ (.int .i64 (nx + 1))).heap.size = W.heap.size by simp [World.setCell]]; exact s9
              have hsl : ((E.length : Nat) : Int) - 1 = (l.length : Int) := by omega
              have o11 : Own eE 81 (W.setCell ⟨g, l.length * 3 + 1, none⟩ (.int .i64 (nx + 1))) B (.slice (some ⟨g, 0, none⟩) (l.length + 1) cv) (l ++ [⟨f, nx + 1, ix⟩]) := by
                rw [← hlen]; exact o10
              have O10 := hide o11
              clear o11
              have hlE : E.length ≤ 64 := by omega
              clear o9 o10 hEx hEs hEl
              go_wp2
              go_roundw
              case rel => exact ⟨m + 1 + 1, by omega, by go_num, unhide A10, ⟨some ⟨g, 0, none⟩, cv, by rw [unhide hgr, List.length_append]; rfl, by rw [unhide hgr, List.length_append]; exact unhide O10⟩, B10, s10⟩
              case measure => simp [intOf]; omega
          · have q1 : (a == 0) = false := beq_eq_false_iff_ne.2 (by omega)
            have q3 : decide ((0 : Int) < a) = true := decide_eq_true h1
            have q4 : decide ((0 : Int) < b) = true := decide_eq_true h2
            have q5 : (a == b + 1) = false := beq_eq_false_iff_ne.2 h3
            have hxE := hide ((unhide HxE0) (by rw [unhide Hjb, q1, q3, q4, q5]; rfl))
            clear h1 h2 h3
            go_wp2
            go_quiet (fail)
            obtain ⟨W, hW⟩ : ∃ W, W = wr.drewN nq := ⟨_, rfl⟩
            have A9 := hide (show Arr W w.heap.size 83 L by rw [hW]; exact unhide H1)
            have c9 : W.cell? ⟨w.heap.size, m + 1, none⟩ = some (.int .i64 a) := by rw [hW]; exact ck
            have o9 : Own eE 81 W B (.slice Av E.length cv) E := by rw [hW]; exact unhide Hown
            have B9 : Below w.heap.size w W := by rw [hW]; exact below_drewN HB _
            have s9 : B ≤ W.heap.size := by rw [hW]; exact hsz
            rw [← hW]
            clear hW HB hsz ck cm
            go_wp2_with (at_builtin; refine wpList_append_one eE rfl _ _ _ rfl B 81 i0 _ 24 Tryd.underlying77 hi hz0 hz1 hz2 rfl (by decide) (.slice Av E.length cv) E rfl _ o9 ⟨(m : Int) + 1, 1, a⟩ #[.int .i64 ((m : Int) + 1), .int .i64 1, .int .i64 a] rfl (by simp [Act.eval]) (by intro u hu; simp at hu; rcases hu with rfl | rfl | rfl <;> rfl) ?c3 ?c4 s9 ?_)
            case c3 => unfold maxLen; omega
            case c4 => omega
            intro v4 w4 hown4 hgr4 hloc4
            have hal (w : World) (o : Obj) : (w.alloc o).heap.size = w.heap.size + 1 := by show (w.heap.push o).size = _; simp
            have hb4 := B9.alloc (by omega) (.cells #[.int .i64 ((m : Int) + 1), .int .i64 1, .int .i64 a] 81)
            have B4 : Below w.heap.size w w4 := hb4.grown hgr4 hb4.size fun q hq => by have := (o9.lt q hq).1; omega
            have s4 : B ≤ w4.heap.size := by have := hgr4.size; rw [hal] at this; omega
            have A4 := hide ((unhide A9).kept (w' := w4) ((hgr4.block w.heap.size (by rw [hal]; omega) fun e => by have := (o9.lt _ e.symm).1; omega).trans (Below.heap_alloc W _ _ (by omega))))
            have hx4 := hide (show extsL L (m + 1 + 1) = E ++ [⟨(m : Int) + 1, 1, a⟩] from unhide hxE)
            obtain ⟨A5, c5, hv5, _⟩ := hown4.sl
            rw [← unhide hx4] at hv5 hown4
            subst hv5
            have O4 := hide hown4
            clear hown4 hgr4 hloc4 hb4 o9 B9
            go_wp2
            go_roundw
            case rel => exact ⟨m + 1 + 1, by omega, by go_num, unhide A4, ⟨A5, c5, rfl, unhide O4⟩, B4, s4⟩
            case measure => simp [intOf]; omega
    · have hk64 : k = 64 := by omega
      subst hk64
      clear h1 hown
      go_wp2
      go_ret
      exact ⟨_, _, rfl, (unhide Hown).lower (by omega), HB⟩
end Go.Proofs.YtdpbjigdihajjaaDoor
