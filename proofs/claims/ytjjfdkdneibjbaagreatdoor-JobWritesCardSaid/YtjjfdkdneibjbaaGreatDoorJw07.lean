/- Joined texts: SetP, ExtW, ExtO, ExtP, ExtD. -/
import Derived.Test.YtjjfdkdneibjbaaGreatDoorJw06
import Derived.Test.YtjjfdkdneibjbaaGreatDoorJw05
/- A map of extents, one more block behind it: the plain law. -/
namespace Go.Proofs.YtjjfdkdneibjbaaGreatDoor
open Go.RowKit

/-- An extent and the next one are one. -/
def oneE (a b : Ext) : Bool := decide (a.from_ + a.n = b.from_) && (if a.id = 0 then decide (b.id = 0) else decide (0 < b.id) && decide (b.id = a.id + a.n))
/-- A map with an extent behind it. -/
def addE : List Ext → Ext → List Ext
  | [], x => [x]
  | [y], x => if oneE y x = true then [⟨y.from_, y.n + x.n, y.id⟩] else [y, x]
  | y :: z :: l, x => y :: addE (z :: l) x
theorem addE_snoc (l : List Ext) (y x : Ext) : addE (l ++ [y]) x = if oneE y x = true then l ++ [⟨y.from_, y.n + x.n, y.id⟩] else l ++ [y, x] := by
  induction l with
  | nil => rfl
  | cons z l ih =>
    cases l with
    | nil =>
      show z :: addE [y] x = _
      unfold addE
      split <;> rfl
    | cons u l =>
      show z :: addE (u :: l ++ [y]) x = _
      rw [ih]
      split <;> rfl
theorem addE_len (l : List Ext) (x : Ext) : (addE l x).length ≤ l.length + 1 := by
  rcases List.eq_nil_or_concat l with rfl | ⟨m, y, rfl⟩
  · simp [addE]
  · rw [List.concat_eq_append, addE_snoc]
    split <;> simp
/-- No two that follow one another are one. -/
def NoOne (l : List Ext) : Prop := ∀ m y z r, l = m ++ y :: z :: r → oneE y z = false
theorem NoOne.nil : NoOne [] := fun m y z r h => by
  have := congrArg List.length h
  simp at this
theorem NoOne.snoc {l : List Ext} {y x : Ext} (h : NoOne (l ++ [y])) (hx : oneE y x = false) : NoOne (l ++ [y] ++ [x]) := fun m a b r e => by
  rcases List.eq_nil_or_concat r with rfl | ⟨r', c, rfl⟩
  · have e2 : l ++ [y] ++ [x] = (m ++ [a]) ++ [b] := by rw [e]; simp
    obtain ⟨e3, e4⟩ := List.append_inj' e2 rfl
    obtain ⟨_, e5⟩ := List.append_inj' e3 rfl
    simp only [List.cons.injEq, and_true] at e4 e5
    rw [← e4, ← e5]; exact hx
  · rw [List.concat_eq_append] at e
    have e2 : l ++ [y] ++ [x] = (m ++ a :: b :: r') ++ [c] := by rw [e]; simp
    exact h m a b r' (List.append_inj' e2 rfl).1
theorem NoOne.one (x : Ext) : NoOne [x] := fun m y z r h => by
  have := congrArg List.length h
  simp at this
  omega
theorem NoOne.grow {l : List Ext} {y y' : Ext} (h : NoOne (l ++ [y])) (hf : y'.from_ = y.from_) (hi : y'.id = y.id) : NoOne (l ++ [y']) := fun m a b r e => by
  rcases List.eq_nil_or_concat r with rfl | ⟨r', c, rfl⟩
  · have e2 : l ++ [y'] = (m ++ [a]) ++ [b] := by rw [e]; simp
    obtain ⟨e3, e4⟩ := List.append_inj' e2 rfl
    simp only [List.cons.injEq, and_true] at e4
    have h1 := h m a y [] (by rw [e3]; simp)
    unfold oneE at h1 ⊢
    rw [← e4, hf, hi]; exact h1
  · rw [List.concat_eq_append] at e
    have e2 : l ++ [y'] = (m ++ a :: b :: r') ++ [c] := by rw [e]; simp
    have e3 := (List.append_inj' e2 rfl).1
    exact h m a b (r' ++ [y]) (by rw [e3]; simp)
theorem NoOne.take {l : List Ext} (h : NoOne l) (k : Nat) : NoOne (l.take k) := fun m y z r e => h m y z (r ++ l.drop k) (by
  conv => lhs; rw [← List.take_append_drop k l, e]
  simp)
/-- Built anew, one by one, it is what it was. -/
theorem addE_anew {l : List Ext} (h : NoOne l) {k : Nat} (hk : k < l.length) : addE (l.take k) l[k] = l.take (k + 1) := by
  rw [← List.take_append_getElem hk]
  rcases List.eq_nil_or_concat (l.take k) with e | ⟨m, y, e⟩
  · rw [e]; rfl
  · rw [List.concat_eq_append] at e
    rw [e, addE_snoc, if_neg]
    · simp
    · have := h m y l[k] (l.drop (k + 1)) (by
        conv => lhs; rw [← List.take_append_drop k l, e, List.drop_eq_getElem_cons hk]
        simp)
      simp [this]
theorem grow1_nil_or (l : List Ext) : l = [] ∨ ∃ m x, l = m ++ [x] := by
  rcases List.eq_nil_or_concat l with h | ⟨m, y, h⟩
  · exact .inl h
  · exact .inr ⟨m, y, by rw [h, List.concat_eq_append]⟩
/-- What a tidy map's last extent says of the next block. -/
theorem extsL_one (L : List Int) (hL : InPool L) (k : Nat) (hk : k < 64) (h0 : 0 ≤ L.getD k 0) :
    (extsL L k = [] → joinB L k = false) ∧ ∀ m y, extsL L k = m ++ [y] → oneE y ⟨k, 1, L.getD k 0⟩ = joinB L k := by
  have hT := tidy_ext L hL k (by omega)
  rcases Nat.eq_zero_or_pos k with hk0 | hk0
  · subst hk0
    refine ⟨fun _ => rfl, fun m y e => ?_⟩
    have := congrArg List.length e
    simp [extsL] at this
  · have hb := hL (k - 1)
    by_cases h1 : 0 ≤ L.getD (k - 1) 0
    · obtain ⟨l, x, e1, e2, e3, e4⟩ := hT.last hk0 h1
      refine ⟨fun e => by rw [e1] at e; simp at e, fun m y e => ?_⟩
      rw [e1] at e
      obtain ⟨_, e5⟩ := List.append_inj' e rfl
      simp only [List.cons.injEq, and_true] at e5
      rw [← e5]
      have hg := hT.good x (by rw [e1]; simp)
      unfold oneE joinB
      rw [Bool.eq_iff_iff]
      simp only [Bool.and_eq_true, Bool.or_eq_true, decide_eq_true_eq, beq_iff_eq]
      by_cases hx : x.id = 0
      · rw [if_pos hx]
        have := e3.1 hx
        simp only [decide_eq_true_eq]
        omega
      · rw [if_neg hx]
        have h5 := e4 (by omega)
        have h6 : L.getD (k - 1) 0 ≠ 0 := fun e => hx (e3.2 e)
        simp only [Bool.and_eq_true, decide_eq_true_eq]
        omega
    · have e1 : extsL L k = extsL L (k - 1) := by
        obtain ⟨j, rfl⟩ : ∃ j, k = j + 1 := ⟨k - 1, by omega⟩
        rw [extsL, if_pos (by show L.getD j 0 < 0; have : j + 1 - 1 = j := rfl; rw [this] at h1; omega)]
        rfl
      have hj : joinB L k = false := by
        unfold joinB
        have a1 : (L.getD (k - 1) 0 == 0) = false := beq_eq_false_iff_ne.2 (by omega)
        have a2 : decide (0 < L.getD (k - 1) 0) = false := decide_eq_false (by omega)
        rw [a1, a2]
        simp
      refine ⟨fun _ => hj, fun m y e => ?_⟩
      rw [hj]
      have hT2 := tidy_ext L hL (k - 1) (by omega)
      have hg := hT2.good y (by rw [← e1, e]; simp)
      unfold oneE
      rw [decide_eq_false (by show ¬ (y.from_ + y.n = (k : Int)); omega)]
      rfl
theorem extsL_noone (L : List Int) (hL : InPool L) (k : Nat) (hk : k ≤ 64) : NoOne (extsL L k) := by
  induction k with
  | zero => exact NoOne.nil
  | succ k ih =>
    have ih := ih (by omega)
    rw [extsL]
    split
    · exact ih
    · rename_i h1
      obtain ⟨g1, g2⟩ := extsL_one L hL k (by omega) (by omega)
      split
      · rename_i h2
        rcases grow1_nil_or (extsL L k) with e | ⟨m, y, e⟩
        · rw [g1 e] at h2; cases h2
        · rw [e, grow1_snoc]
          rw [e] at ih
          exact ih.grow rfl rfl
      · rename_i h2
        rcases grow1_nil_or (extsL L k) with e | ⟨m, y, e⟩
        · rw [e]; exact NoOne.one _
        · rw [e] at ih ⊢
          exact ih.snoc (by rw [g2 m y e]; simpa using h2)
theorem extsL_congr {L M : List Int} : ∀ k, (∀ j, j < k → L.getD j 0 = M.getD j 0) → extsL L k = extsL M k
  | 0, _ => rfl
  | k + 1, h => by
    have e1 := extsL_congr k fun j hj => h j (by omega)
    have e2 := h k (by omega)
    have e3 : joinB L k = joinB M k := by
      unfold joinB
      rcases Nat.eq_zero_or_pos k with h0 | h0
      · subst h0; rfl
      · rw [e2, h (k - 1) (by omega)]
    rw [extsL, extsL, e1, e2, e3]
/-- Nothing is said of the blocks from one on. -/
theorem extsL_rest {L : List Int} {k : Nat} (h : ∀ j, k ≤ j → j < 64 → L.getD j 0 < 0) (m : Nat) (hm : k + m ≤ 64) : extsL L (k + m) = extsL L k := by
  induction m with
  | zero => rfl
  | succ m ih =>
    show extsL L (k + m + 1) = _
    rw [extsL, if_pos (h (k + m) (by omega) (by omega))]
    exact ih (by omega)
/-- One more block, behind all of which something is said. -/
theorem extsL_set (L : List Int) (hL : InPool L) (hl : L.length = 64) (k : Nat) (hk : k < 64) (id : Int) (hid : 0 ≤ id ∧ id ≤ 60) (h : ∀ j, k ≤ j → j < 64 → L.getD j 0 < 0) :
    addE (extsL L 64) ⟨k, 1, id⟩ = extsL (L.set k id) 64 := by
  have hL' : InPool (L.set k id) := hL.set k id (by omega)
  have gk : (L.set k id).getD k 0 = id := by
    rw [List.getD_eq_getElem?_getD, List.getElem?_set_self (by omega), Option.getD_some]
  have go : ∀ j, j ≠ k → (L.set k id).getD j 0 = L.getD j 0 := fun j hj => by
    rw [List.getD_eq_getElem?_getD, List.getElem?_set_ne (fun e => hj e.symm), ← List.getD_eq_getElem?_getD]
  have e1 : extsL L 64 = extsL L k := by
    have := extsL_rest h (64 - k) (by omega)
    rw [show k + (64 - k) = 64 by omega] at this
    exact this
  have e2 : extsL (L.set k id) 64 = extsL (L.set k id) (k + 1) := by
    have := extsL_rest (L := L.set k id) (k := k + 1) (fun j h1 h2 => by rw [go j (by omega)]; exact h j (by omega) h2) (64 - (k + 1)) (by omega)
    rw [show k + 1 + (64 - (k + 1)) = 64 by omega] at this
    exact this
  have e3 : extsL (L.set k id) k = extsL L k := extsL_congr k fun j hj => go j (by omega)
  obtain ⟨g1, g2⟩ := extsL_one (L.set k id) hL' k hk (by rw [gk]; omega)
  rw [e1, e2, extsL, if_neg (by rw [gk]; omega), e3, gk]
  rw [e3] at g1 g2
  rw [gk] at g2
  rcases grow1_nil_or (extsL L k) with e | ⟨m, y, e⟩
  · rw [g1 e, e]; rfl
  · rw [e, addE_snoc, ← g2 m y e]
    split
    · rw [grow1_snoc]
    · simp
end Go.Proofs.YtjjfdkdneibjbaaGreatDoor
/- Walk of package extent: an extent's span, Id and part; is it tidy; are two one. -/
namespace Go.Proofs.YtjjfdkdneibjbaaGreatDoor
open Go.RowKit

/-- An extent within the volume and the pool. -/
def WhE (x : Ext) : Prop := 0 ≤ x.from_ ∧ 1 ≤ x.n ∧ x.from_ + x.n ≤ 64 ∧ 0 ≤ x.id ∧ (x.id ≠ 0 → x.id + x.n ≤ 61)
set_option maxHeartbeats 1000000 in
theorem own_ex (f n i : Int) (w : World) : Calls Tryz.prog 166 #[.agg #[.int .i64 f, .int .i64 n, .int .i64 i]] w fun e w' => e = .returned (.agg #[.int .i64 f, .int .i64 n]) ∧ Below w.heap.size w w' := by
  obtain ⟨w1, hw1, B1, s1, c0, c1, c2⟩ := box3 w f n i 107
  have lt0 : w.heap.size < w1.heap.size := by omega
  go_enter Tryz.func166, Tryz.ntmps166
  go_wp2_with fail
  refine bodyPost_ret (results_cell_row Tryz.results166 _ _ (w.heap.size + 1) 59 #[.int .i64 f, .int .i64 n] (0, 0) _ rfl (by rw [← hal w (.cells #[.int .i64 f, .int .i64 n, .int .i64 i] 107)]; exact heap_new _ _) Tryz.underlying59 rfl Tryz.infoSpan) rfl ?_
  exact ⟨rfl, ((Below.refl _ _).alloc (Nat.le_refl _) _).alloc (by rw [hal]; omega) _⟩
set_option maxHeartbeats 2000000 in
theorem single_ex (f n i : Int) (w : World) (h : WhE ⟨f, n, i⟩) : Calls Tryz.prog 164 #[.agg #[.int .i64 f, .int .i64 n, .int .i64 i]] w fun e w' => e = .returned (.bool true) ∧ Below w.heap.size w w' := by
  obtain ⟨h1, h2, h3, h4, h5⟩ := h
  have h1 : 0 ≤ f := h1
  have h2 : 1 ≤ n := h2
  have h3 : f + n ≤ 64 := h3
  have h4 : 0 ≤ i := h4
  have h5 : i ≠ 0 → i + n ≤ 61 := h5
  obtain ⟨w1, hw1, B1, s1, c0, c1, c2⟩ := box3 w f n i 107
  go_enter Tryz.func164, Tryz.ntmps164
  go_wp2_with fail
  rw [← hw1]
  clear hw1
  refine (own_ex f n i w1).mono ?_
  rintro e w2 ⟨rfl, HB2⟩
  have c2 := ((bcell HB2).1 _ 2 s1).trans c2
  have c1 := ((bcell HB2).1 _ 1 s1).trans c1
  have B2 : Below w.heap.size w w2 := B1.trans (HB2.mono (by omega))
  have s2 : w.heap.size < w2.heap.size := by have := HB2.size; omega
  clear HB2 B1 c0
  go_wp2_with fail
  refine (valid_sp f n w2 ⟨h1, h2, h3⟩).mono ?_
  rintro e w3 ⟨rfl, HB2⟩
  have c2 := ((bcell HB2).1 _ 2 s2).trans c2
  have c1 := ((bcell HB2).1 _ 1 s2).trans c1
  have B3 : Below w.heap.size w w3 := B2.trans (HB2.mono (by omega))
  clear HB2 B2
  rcases (show i = 0 ∨ (1 ≤ i ∧ i ≤ 60 ∧ n ≤ 61 - i) by omega) with h | ⟨k1, k2, k3⟩
  · subst h
    go_wp2
    go_ret
    exact ⟨rfl, B3⟩
  · have h0 : (i == 0) = false := beq_eq_false_iff_ne.2 (by omega)
    have k4 : i ≤ 64 := by omega
    go_wp2
    go_ret
    exact ⟨rfl, B3⟩
set_option maxHeartbeats 1000000 in
theorem id_ex (f n i k : Int) (w : World) (h : WhE ⟨f, n, i⟩) (hk : 0 ≤ k ∧ k ≤ 64) : Calls Tryz.prog 151 #[.agg #[.int .i64 f, .int .i64 n, .int .i64 i], .int .i64 k] w fun e w' => e = .returned (.int .i64 (if i = 0 then 0 else i + k - f)) ∧ Below w.heap.size w w' := by
  obtain ⟨h1, h2, h3, h4, h5⟩ := h
  have h1 : 0 ≤ f := h1
  have h2 : 1 ≤ n := h2
  have h3 : f + n ≤ 64 := h3
  have h4 : 0 ≤ i := h4
  have h5 : i ≠ 0 → i + n ≤ 61 := h5
  have B1 : Below w.heap.size w (w.alloc (.cells #[.int .i64 f, .int .i64 n, .int .i64 i] 107)) := (Below.refl _ _).alloc (Nat.le_refl _) _
  obtain ⟨k1, k2⟩ := hk
  by_cases h0 : i = 0
  · subst h0
    go_enter Tryz.func151, Tryz.ntmps151
    go_wp2
    go_ret
    exact ⟨rfl, B1⟩
  · have h6 : (i == 0) = false := beq_eq_false_iff_ne.2 h0
    have k3 : i ≤ 60 := by have := h5 h0; omega
    have k4 : f ≤ 64 := by omega
    rw [if_neg h0]
    go_enter Tryz.func151, Tryz.ntmps151
    go_wp2
    go_ret
    exact ⟨rfl, B1⟩
end Go.Proofs.YtjjfdkdneibjbaaGreatDoor
/- Walk of package extent: are two one. -/
namespace Go.Proofs.YtjjfdkdneibjbaaGreatDoor
open Go.RowKit

/-- Two boxes of extents. -/
def Six (w W : World) (f n i g m j : Int) : Prop := Below w.heap.size w W ∧ w.heap.size + 2 ≤ W.heap.size ∧ W.cell? ⟨w.heap.size, 0, none⟩ = some (.int .i64 f) ∧ W.cell? ⟨w.heap.size, 1, none⟩ = some (.int .i64 n) ∧ W.cell? ⟨w.heap.size, 2, none⟩ = some (.int .i64 i) ∧ W.cell? ⟨w.heap.size + 1, 0, none⟩ = some (.int .i64 g) ∧ W.cell? ⟨w.heap.size + 1, 1, none⟩ = some (.int .i64 m) ∧ W.cell? ⟨w.heap.size + 1, 2, none⟩ = some (.int .i64 j)
theorem Six.below {w W W' : World} {f n i g m j : Int} (h : Six w W f n i g m j) (hb : Below W.heap.size W W') : Six w W' f n i g m j := by
  obtain ⟨b, s, c0, c1, c2, c3, c4, c5⟩ := h
  have := hb.size
  exact ⟨b.trans (hb.mono (by omega)), by omega, ((bcell hb).1 _ 0 (by omega)).trans c0, ((bcell hb).1 _ 1 (by omega)).trans c1, ((bcell hb).1 _ 2 (by omega)).trans c2, ((bcell hb).1 _ 0 (by omega)).trans c3, ((bcell hb).1 _ 1 (by omega)).trans c4, ((bcell hb).1 _ 2 (by omega)).trans c5⟩
theorem Six.drew {w W : World} {f n i g m j : Int} (h : Six w W f n i g m j) : Six w W.drew f n i g m j := ⟨h.1.drew, h.2.1, h.2.2⟩
theorem Six.s {w W : World} {f n i g m j : Int} (h : Six w W f n i g m j) : W.cell? ⟨w.heap.size, 0, none⟩ = some (.int .i64 f) ∧ W.cell? ⟨w.heap.size, 1, none⟩ = some (.int .i64 n) ∧ W.cell? ⟨w.heap.size, 2, none⟩ = some (.int .i64 i) ∧ W.cell? ⟨w.heap.size + 1, 0, none⟩ = some (.int .i64 g) ∧ W.cell? ⟨w.heap.size + 1, 1, none⟩ = some (.int .i64 m) ∧ W.cell? ⟨w.heap.size + 1, 2, none⟩ = some (.int .i64 j) := h.2.2
theorem box33 (w : World) (f n i g m j : Int) (T : Nat) : ∃ w1, w1 = (w.alloc (.cells #[.int .i64 f, .int .i64 n, .int .i64 i] T)).alloc (.cells #[.int .i64 g, .int .i64 m, .int .i64 j] T) ∧ Six w w1 f n i g m j := by
  have e := hal w (.cells #[.int .i64 f, .int .i64 n, .int .i64 i] T)
  refine ⟨_, rfl, ((Below.refl _ _).alloc (Nat.le_refl _) _).alloc (by omega) _, by rw [hal, hal]; omega, alloc_cell (World.cell?_alloc_at _ _ _ _ rfl), alloc_cell (World.cell?_alloc_at _ _ _ _ rfl), alloc_cell (World.cell?_alloc_at _ _ _ _ rfl), ?_, ?_, ?_⟩
  all_goals (rw [← e]; exact World.cell?_alloc_at _ _ _ _ rfl)
set_option maxHeartbeats 4000000 in
set_option maxRecDepth 100000 in
theorem one_ex (f n i g m j : Int) (w : World) (h : WhE ⟨f, n, i⟩) (hg : 0 ≤ g ∧ g ≤ 64) (hj : 0 ≤ j) : Calls Tryz.prog 191 #[.agg #[.int .i64 f, .int .i64 n, .int .i64 i], .agg #[.int .i64 g, .int .i64 m, .int .i64 j]] w fun e w' => e = .returned (.bool (oneE ⟨f, n, i⟩ ⟨g, m, j⟩)) ∧ Below w.heap.size w w' := by
  obtain ⟨w1, hw1, T⟩ := box33 w f n i g m j 107
  obtain ⟨h1, h2, h3, h4, h5⟩ := h
  have h1 : 0 ≤ f := h1
  have h2 : 1 ≤ n := h2
  have h3 : f + n ≤ 64 := h3
  have h4 : 0 ≤ i := h4
  have h5 : i ≠ 0 → i + n ≤ 61 := h5
  obtain ⟨g1, g2⟩ := hg
  have hs : WhS f n := ⟨h1, h2, h3⟩
  obtain ⟨r, hr⟩ : ∃ r, r = oneE ⟨f, n, i⟩ ⟨g, m, j⟩ := ⟨_, rfl⟩
  have hr2 : r = (decide (f + n = g) && (if i = 0 then decide (j = 0) else decide (0 < j) && decide (j = i + n))) := hr
  rw [← hr]
  have Hr := hide hr2
  clear hr hr2
  go_enter Tryz.func191, Tryz.ntmps191
  go_wp2_with fail
  rw [← hw1]
  clear hw1
  replace T := T.drew
  by_cases hfg : f + n = g
  · go_region_held3 (fun W => W.cell? ⟨w.heap.size, 0, none⟩ = some (.int .i64 f) ∧ W.cell? ⟨w.heap.size, 1, none⟩ = some (.int .i64 n) ∧ W.cell? ⟨w.heap.size, 2, none⟩ = some (.int .i64 i) ∧ W.cell? ⟨w.heap.size + 1, 0, none⟩ = some (.int .i64 g) ∧ W.cell? ⟨w.heap.size + 1, 1, none⟩ = some (.int .i64 m) ∧ W.cell? ⟨w.heap.size + 1, 2, none⟩ = some (.int .i64 j))
      (with_reducible exact T.s)
      ((first
        | (go_at_call 166; refine (own_ex _ _ _ _).mono ?_; intro e v hv; obtain ⟨he, HB⟩ := hv; subst he; replace T : Six w v f n i g m j := T.below HB; clear HB)
        | (go_at_call 162; refine (end_sp _ _ _ (by assumption)).mono ?_; intro e v hv; obtain ⟨he, HB⟩ := hv; subst he; replace T : Six w v f n i g m j := T.below HB; clear HB)))
    have c1 := T.2.2.2.1
    have c2 := T.2.2.2.2.1
    have d2 := T.2.2.2.2.2.2.2
    have B := T.1
    clear T
    by_cases hi : i = 0
    · subst hi
      by_cases hj0 : j = 0
      · subst hj0
        have hr := hide (show r = true by rw [unhide Hr]; simp [hfg])
        go_wp2
        go_ret
        exact ⟨ret_bool (unhide hr).symm, B⟩
      · have hr := hide (show r = false by rw [unhide Hr]; simp [hj0])
        have e0 : (j == 0) = false := beq_eq_false_iff_ne.2 hj0
        go_wp2
        go_ret
        exact ⟨ret_bool (unhide hr).symm, B⟩
    · have e0 : (i == 0) = false := beq_eq_false_iff_ne.2 hi
      have i60 : i + n ≤ 61 := h5 hi
      rcases (show j = 0 ∨ (0 < j ∧ j = i + n) ∨ (0 < j ∧ j ≠ i + n) by omega) with k1 | ⟨k1, k2⟩ | ⟨k1, k2⟩
      · subst k1
        have hr := hide (show r = false by rw [unhide Hr]; simp [hi])
        clear h5
        go_wp2
        go_ret
        exact ⟨ret_bool (unhide hr).symm, B⟩
      · have hr := hide (show r = true by rw [unhide Hr]; simp [hi, hfg, k1, k2]; omega)
        subst k2
        clear h5
        go_wp2
        go_ret
        exact ⟨ret_bool (unhide hr).symm, B⟩
      · have hr := hide (show r = false by rw [unhide Hr]; simp [hi, k2])
        have e1 : (j == i + n) = false := beq_eq_false_iff_ne.2 k2
        clear h5
        go_wp2
        go_ret
        exact ⟨ret_bool (unhide hr).symm, B⟩
  · have hr := hide (show r = false by rw [unhide Hr]; simp [hfg])
    go_region_held3 (fun W => W.cell? ⟨w.heap.size, 0, none⟩ = some (.int .i64 f) ∧ W.cell? ⟨w.heap.size, 1, none⟩ = some (.int .i64 n) ∧ W.cell? ⟨w.heap.size, 2, none⟩ = some (.int .i64 i) ∧ W.cell? ⟨w.heap.size + 1, 0, none⟩ = some (.int .i64 g) ∧ W.cell? ⟨w.heap.size + 1, 1, none⟩ = some (.int .i64 m) ∧ W.cell? ⟨w.heap.size + 1, 2, none⟩ = some (.int .i64 j))
      (with_reducible exact T.s)
      ((first
        | (go_at_call 166; refine (own_ex _ _ _ _).mono ?_; intro e v hv; obtain ⟨he, HB⟩ := hv; subst he; replace T : Six w v f n i g m j := T.below HB; clear HB)
        | (go_at_call 162; refine (end_sp _ _ _ (by assumption)).mono ?_; intro e v hv; obtain ⟨he, HB⟩ := hv; subst he; replace T : Six w v f n i g m j := T.below HB; clear HB)))
    have B := T.1
    clear T h5
    go_wp2
    go_ret
    exact ⟨ret_bool (unhide hr).symm, B⟩
end Go.Proofs.YtjjfdkdneibjbaaGreatDoor
/- Walk of package extent: what an extent says of its own span. -/
namespace Go.Proofs.YtjjfdkdneibjbaaGreatDoor
open Go.RowKit

/-- Two boxes and a result. -/
def Par (w W : World) (f n i : Int) : Prop := Below w.heap.size w W ∧ w.heap.size + 3 ≤ W.heap.size ∧ (W.cell? ⟨w.heap.size, 0, none⟩ = some (.int .i64 f) ∧ W.cell? ⟨w.heap.size, 1, none⟩ = some (.int .i64 n) ∧ W.cell? ⟨w.heap.size, 2, none⟩ = some (.int .i64 i) ∧ W.cell? ⟨w.heap.size + 1, 0, none⟩ = some (.int .i64 f) ∧ W.cell? ⟨w.heap.size + 1, 1, none⟩ = some (.int .i64 n)) ∧
  W.heap[w.heap.size + 1 + 1]? = some (.cells #[.int .i64 0, .int .i64 0, .int .i64 0] 107 (0, 0))
theorem Par.below {w W W' : World} {f n i : Int} (h : Par w W f n i) (hb : Below W.heap.size W W') : Par w W' f n i := by
  obtain ⟨b, s, ⟨c0, c1, c2, c3, c4⟩, r⟩ := h
  have := hb.size
  exact ⟨b.trans (hb.mono (by omega)), by omega, ⟨((bcell hb).1 _ 0 (by omega)).trans c0, ((bcell hb).1 _ 1 (by omega)).trans c1, ((bcell hb).1 _ 2 (by omega)).trans c2, ((bcell hb).1 _ 0 (by omega)).trans c3, ((bcell hb).1 _ 1 (by omega)).trans c4⟩, (hb.block _ (by omega)).trans r⟩
theorem Par.drew {w W : World} {f n i : Int} (h : Par w W f n i) : Par w W.drew f n i := ⟨h.1.drew, h.2.1, h.2.2.1, h.2.2.2⟩
theorem Par.s {w W : World} {f n i : Int} (h : Par w W f n i) : W.cell? ⟨w.heap.size, 0, none⟩ = some (.int .i64 f) ∧ W.cell? ⟨w.heap.size, 1, none⟩ = some (.int .i64 n) ∧ W.cell? ⟨w.heap.size, 2, none⟩ = some (.int .i64 i) ∧ W.cell? ⟨w.heap.size + 1, 0, none⟩ = some (.int .i64 f) ∧ W.cell? ⟨w.heap.size + 1, 1, none⟩ = some (.int .i64 n) := h.2.2.1
theorem Par.z {w W : World} {f n i : Int} (h : Par w W f n i) : W.cell? ⟨w.heap.size + 1 + 1, 0, none⟩ = some (.int .i64 0) ∧ W.cell? ⟨w.heap.size + 1 + 1, 1, none⟩ = some (.int .i64 0) ∧ W.cell? ⟨w.heap.size + 1 + 1, 2, none⟩ = some (.int .i64 0) ∧ W.frozen? ⟨w.heap.size + 1 + 1, 0, none⟩ = false ∧ W.frozen? ⟨w.heap.size + 1 + 1, 1, none⟩ = false ∧ W.frozen? ⟨w.heap.size + 1 + 1, 2, none⟩ = false := by
  have r := h.2.2.2
  exact ⟨cell_of_heap r rfl, cell_of_heap r rfl, cell_of_heap r rfl, by simp [World.frozen?, r], by simp [World.frozen?, r], by simp [World.frozen?, r]⟩
/-- The result is stored. -/
def Par3 (w W : World) (f n i : Int) : Prop := Below w.heap.size w W ∧ (W.cell? ⟨w.heap.size, 0, none⟩ = some (.int .i64 f) ∧ W.cell? ⟨w.heap.size, 1, none⟩ = some (.int .i64 n) ∧ W.cell? ⟨w.heap.size, 2, none⟩ = some (.int .i64 i) ∧ W.cell? ⟨w.heap.size + 1, 0, none⟩ = some (.int .i64 f) ∧ W.cell? ⟨w.heap.size + 1, 1, none⟩ = some (.int .i64 n)) ∧
  W.heap[w.heap.size + 1 + 1]? = some (.cells #[.int .i64 f, .int .i64 n, .int .i64 i] 107 (0, 0))
theorem Par.set {w W : World} {f n i : Int} (h : Par w W f n i) : Par3 w (((W.setCell ⟨w.heap.size + 1 + 1, 0, none⟩ (.int .i64 f)).setCell ⟨w.heap.size + 1 + 1, 1, none⟩ (.int .i64 n)).setCell ⟨w.heap.size + 1 + 1, 2, none⟩ (.int .i64 i)) f n i := by
  obtain ⟨b, s, ⟨c0, c1, c2, c3, c4⟩, r⟩ := h
  have n0 : ∀ i, w.heap.size + 1 + 1 ≠ (⟨w.heap.size, i, none⟩ : Addr).block := fun i => by show _ ≠ w.heap.size; omega
  have n1 : ∀ i, w.heap.size + 1 + 1 ≠ (⟨w.heap.size + 1, i, none⟩ : Addr).block := fun i => by show _ ≠ w.heap.size + 1; omega
  have hl : w.heap.size ≤ w.heap.size + 1 + 1 := by omega
  refine ⟨((b.setCell (p := ⟨w.heap.size + 1 + 1, 0, none⟩) hl _).setCell (p := ⟨w.heap.size + 1 + 1, 1, none⟩) hl _).setCell (p := ⟨w.heap.size + 1 + 1, 2, none⟩) hl _, ⟨?_, ?_, ?_, ?_, ?_⟩, ?_⟩
  · rw [World.cell?_setCell_far _ _ _ _ (n0 0), World.cell?_setCell_far _ _ _ _ (n0 0), World.cell?_setCell_far _ _ _ _ (n0 0)]; exact c0
  · rw [World.cell?_setCell_far _ _ _ _ (n0 1), World.cell?_setCell_far _ _ _ _ (n0 1), World.cell?_setCell_far _ _ _ _ (n0 1)]; exact c1
  · rw [World.cell?_setCell_far _ _ _ _ (n0 2), World.cell?_setCell_far _ _ _ _ (n0 2), World.cell?_setCell_far _ _ _ _ (n0 2)]; exact c2
  · rw [World.cell?_setCell_far _ _ _ _ (n1 0), World.cell?_setCell_far _ _ _ _ (n1 0), World.cell?_setCell_far _ _ _ _ (n1 0)]; exact c3
  · rw [World.cell?_setCell_far _ _ _ _ (n1 1), World.cell?_setCell_far _ _ _ _ (n1 1), World.cell?_setCell_far _ _ _ _ (n1 1)]; exact c4
  · simp [World.setCell, Array.getElem?_modify, r]
theorem Par3.s {w W : World} {f n i : Int} (h : Par3 w W f n i) : W.cell? ⟨w.heap.size, 0, none⟩ = some (.int .i64 f) ∧ W.cell? ⟨w.heap.size, 1, none⟩ = some (.int .i64 n) ∧ W.cell? ⟨w.heap.size, 2, none⟩ = some (.int .i64 i) ∧ W.cell? ⟨w.heap.size + 1, 0, none⟩ = some (.int .i64 f) ∧ W.cell? ⟨w.heap.size + 1, 1, none⟩ = some (.int .i64 n) := h.2.1
theorem boxPar (w : World) (f n i : Int) : ∃ w1, w1 = ((w.alloc (.cells #[.int .i64 f, .int .i64 n, .int .i64 i] 107)).alloc (.cells #[.int .i64 f, .int .i64 n] 59)).alloc (.cells #[.int .i64 0, .int .i64 0, .int .i64 0] 107) ∧ Par w w1 f n i := by
  have e := hal w (.cells #[.int .i64 f, .int .i64 n, .int .i64 i] 107)
  have e2 := hal (w.alloc (.cells #[.int .i64 f, .int .i64 n, .int .i64 i] 107)) (.cells #[.int .i64 f, .int .i64 n] 59)
  rw [e] at e2
  refine ⟨_, rfl, (((Below.refl _ _).alloc (Nat.le_refl _) _).alloc (by omega) _).alloc (by omega) _, by rw [hal]; omega, ⟨alloc_cell (alloc_cell (World.cell?_alloc_at _ _ _ _ rfl)), alloc_cell (alloc_cell (World.cell?_alloc_at _ _ _ _ rfl)), alloc_cell (alloc_cell (World.cell?_alloc_at _ _ _ _ rfl)), ?_, ?_⟩, ?_⟩
  · rw [← e]; exact alloc_cell (World.cell?_alloc_at _ _ _ _ rfl)
  · rw [← e]; exact alloc_cell (World.cell?_alloc_at _ _ _ _ rfl)
  · rw [← e2]; exact heap_new _ _
set_option maxHeartbeats 4000000 in
set_option maxRecDepth 100000 in
theorem part_ex (f n i : Int) (w : World) (h : WhE ⟨f, n, i⟩) : Calls Tryz.prog 190 #[.agg #[.int .i64 f, .int .i64 n, .int .i64 i], .agg #[.int .i64 f, .int .i64 n]] w fun e w' => e = .returned (.agg #[.int .i64 f, .int .i64 n, .int .i64 i]) ∧ Below w.heap.size w w' := by
  obtain ⟨w1, hw1, T⟩ := boxPar w f n i
  have hid : ∀ w : World, Calls Tryz.prog 151 #[.agg #[.int .i64 f, .int .i64 n, .int .i64 i], .int .i64 f] w fun e w' => e = .returned (.int .i64 i) ∧ Below w.heap.size w w' := fun w => (id_ex f n i f w h (by have h1 : 0 ≤ f := h.1; have h2 : 1 ≤ n := h.2.1; have h3 : f + n ≤ 64 := h.2.2.1; omega)).mono fun e w' ⟨he, hb⟩ => ⟨by rw [he]; congr 2; split <;> omega, hb⟩
  have Hid := hide hid
  clear hid h
  go_enter Tryz.func190, Tryz.ntmps190
  go_wp2_with fail
  rw [← hw1]
  clear hw1
  replace T := T.drew
  go_region_held3 (fun W => W.cell? ⟨w.heap.size, 0, none⟩ = some (.int .i64 f) ∧ W.cell? ⟨w.heap.size, 1, none⟩ = some (.int .i64 n) ∧ W.cell? ⟨w.heap.size, 2, none⟩ = some (.int .i64 i) ∧ W.cell? ⟨w.heap.size + 1, 0, none⟩ = some (.int .i64 f) ∧ W.cell? ⟨w.heap.size + 1, 1, none⟩ = some (.int .i64 n))
    (first | with_reducible exact T.s | with_reducible exact T.set.s)
    ((go_at_call 151; refine (unhide Hid _).mono ?_; intro e v hv; obtain ⟨he, HB⟩ := hv; subst he; replace T : Par w v f n i := T.below HB; clear HB; obtain ⟨y0, y1, y2, z0, z1, z2⟩ := T.z))
  replace T := T.set
  go_wp2_with fail
  refine bodyPost_ret (results_cell_row Tryz.results190 _ _ (w.heap.size + 1 + 1) 107 #[.int .i64 f, .int .i64 n, .int .i64 i] (0, 0) _ rfl T.2.2 Tryz.underlying107 rfl Tryz.infoExt3) rfl ?_
  exact ⟨rfl, T.1⟩
end Go.Proofs.YtjjfdkdneibjbaaGreatDoor
/- Walk of package extent: an extent behind a map. -/
namespace Go.Proofs.YtjjfdkdneibjbaaGreatDoor
open Go.RowKit

/-- A box and the last one of a row. -/
def Adr (w W : World) (g k : Nat) (f n i p q r : Int) : Prop := Below w.heap.size w W ∧ w.heap.size + 1 ≤ W.heap.size ∧ g < w.heap.size ∧ W.cell? ⟨w.heap.size, 0, none⟩ = some (.int .i64 f) ∧ W.cell? ⟨w.heap.size, 1, none⟩ = some (.int .i64 n) ∧ W.cell? ⟨w.heap.size, 2, none⟩ = some (.int .i64 i) ∧
  W.cell? ⟨g, k * 3, none⟩ = some (.int .i64 p) ∧ W.cell? ⟨g, k * 3 + 1, none⟩ = some (.int .i64 q) ∧ W.cell? ⟨g, k * 3 + 2, none⟩ = some (.int .i64 r)
theorem Adr.below {w W W' : World} {g k : Nat} {f n i p q r : Int} (h : Adr w W g k f n i p q r) (hb : Below W.heap.size W W') : Adr w W' g k f n i p q r := by
  obtain ⟨b, s, hg, c0, c1, c2, c3, c4, c5⟩ := h
  have := hb.size
  exact ⟨b.trans (hb.mono (by omega)), by omega, hg, ((bcell hb).1 _ _ (by omega)).trans c0, ((bcell hb).1 _ _ (by omega)).trans c1, ((bcell hb).1 _ _ (by omega)).trans c2, ((bcell hb).1 _ _ (by omega)).trans c3, ((bcell hb).1 _ _ (by omega)).trans c4, ((bcell hb).1 _ _ (by omega)).trans c5⟩
theorem Adr.drew {w W : World} {g k : Nat} {f n i p q r : Int} (h : Adr w W g k f n i p q r) : Adr w W.drew g k f n i p q r := ⟨h.1.drew, h.2⟩
theorem Adr.s {w W : World} {g k : Nat} {f n i p q r : Int} (h : Adr w W g k f n i p q r) : W.cell? ⟨w.heap.size, 0, none⟩ = some (.int .i64 f) ∧ W.cell? ⟨w.heap.size, 1, none⟩ = some (.int .i64 n) ∧ W.cell? ⟨w.heap.size, 2, none⟩ = some (.int .i64 i) ∧
  W.cell? ⟨g, k * 3, none⟩ = some (.int .i64 p) ∧ W.cell? ⟨g, k * 3 + 1, none⟩ = some (.int .i64 q) ∧ W.cell? ⟨g, k * 3 + 2, none⟩ = some (.int .i64 r) := h.2.2.2
set_option maxHeartbeats 4000000 in
set_option maxRecDepth 100000 in
/-- Nothing is ahead of it. -/
theorem add_nil (v : Value) (f n i : Int) (base : Nat) (w : World) (hv : Own eE 107 w base v []) (hb : base ≤ w.heap.size) : Calls Tryz.prog 167 #[v, .agg #[.int .i64 f, .int .i64 n, .int .i64 i]] w fun e w' => (∃ v', e = .returned v' ∧ Own eE 107 w' base v' [⟨f, n, i⟩]) ∧ Below base w w' := by
  obtain ⟨i0, hi, hz0, hz1, hz2⟩ := info_parts Tryz.infoE
  obtain ⟨w1, hw1, B1, s1, c0, c1, c2⟩ := box3 w f n i 107
  have o1 := hv.below (w' := w1) B1
  have B0 : Below base w w1 := B1.mono hb
  obtain ⟨A, c, rfl, hsl, _⟩ := o1.sl
  have hcap := hsl.2.1
  go_enter Tryz.func167, Tryz.ntmps167
  go_wp2_with fail
  rw [← hw1]
  clear hw1 hv
  go_quiet (fail)
  obtain ⟨W, hW⟩ : ∃ W, W = w1.drewN nq := ⟨_, rfl⟩
  have o9 : Own eE 107 W base (.slice A 0 c) [] := by rw [hW]; exact o1
  have c0 : W.cell? ⟨w.heap.size, 0, none⟩ = some (.int .i64 f) := by rw [hW]; exact c0
  have c1 : W.cell? ⟨w.heap.size, 1, none⟩ = some (.int .i64 n) := by rw [hW]; exact c1
  have c2 : W.cell? ⟨w.heap.size, 2, none⟩ = some (.int .i64 i) := by rw [hW]; exact c2
  have B9 : Below base w W := by rw [hW]; exact below_drewN B0 _
  have s9 : base ≤ W.heap.size := by rw [hW]; show base ≤ w1.heap.size; omega
  rw [← hW]
  clear hW o1 hsl B1 B0
  go_wp2_with (at_builtin; refine wpList_append_one eE rfl _ _ _ rfl base 107 i0 _ 24 Tryz.underlying42 hi hz0 hz1 hz2 rfl (by decide) (.slice A 0 c) [] rfl _ o9 ⟨f, n, i⟩ #[.int .i64 f, .int .i64 n, .int .i64 i] rfl (by simp [Act.eval]) (by intro u hu; simp at hu; rcases hu with rfl | rfl | rfl <;> rfl) ?c3 ?c4 s9 ?_)
  case c3 => unfold maxLen; simp
  case c4 => simp
  intro v4 w4 hown4 hgr4 hloc4
  have hb4 := B9.alloc s9 (.cells #[.int .i64 f, .int .i64 n, .int .i64 i] 107)
  have B4 : Below base w w4 := hb4.grown hgr4 (by rw [hal]; omega) fun q hq => (o9.lt q hq).1
  clear hgr4 hloc4 hb4 o9
  go_wp2
  go_ret
  exact ⟨⟨_, rfl, hown4⟩, B4⟩
set_option maxHeartbeats 8000000 in
set_option maxRecDepth 100000 in
/-- One is ahead of it. -/
theorem add_more (v : Value) (m : List Ext) (p q r f n i : Int) (base : Nat) (w : World) (hv : Own eE 107 w base v (m ++ [⟨p, q, r⟩])) (hb : base ≤ w.heap.size) (hm : m.length < 64) (hy : WhE ⟨p, q, r⟩) (hx : WhE ⟨f, n, i⟩) : Calls Tryz.prog 167 #[v, .agg #[.int .i64 f, .int .i64 n, .int .i64 i]] w fun e w' => (∃ v', e = .returned v' ∧ Own eE 107 w' base v' (if oneE ⟨p, q, r⟩ ⟨f, n, i⟩ = true then m ++ [⟨p, q + n, r⟩] else m ++ [⟨p, q, r⟩] ++ [⟨f, n, i⟩])) ∧ Below base w w' := by
  obtain ⟨i0, hi, hz0, hz1, hz2⟩ := info_parts Tryz.infoE
  obtain ⟨w1, hw1, B1, s1, c0, c1, c2⟩ := box3 w f n i 107
  have o1 := hv.below (w' := w1) B1
  obtain ⟨E, hE⟩ : ∃ E, E = m ++ [⟨p, q, r⟩] := ⟨_, rfl⟩
  have hlen : E.length = m.length + 1 := by rw [hE]; simp
  have hll : m.length < E.length := by omega
  have hEx : E[m.length]'hll = ⟨p, q, r⟩ := by simp [hE]
  have hEs : ∀ y, E.set m.length y = m ++ [y] := fun y => by rw [hE]; simp
  rw [← hE] at hv o1 ⊢
  rcases hv.shape with ⟨_, h0⟩ | ⟨g, cap, rfl, hg1, hg2, hg3, hg4⟩
  · rw [h0] at hlen; simp at hlen
  have d0 : w1.cell? ⟨g, m.length * 3, none⟩ = some (.int .i64 p) := by
    have := o1.cell (i := m.length) (j := 0) hll (by decide)
    rw [hEx] at this
    simpa [eE] using this
  have d1 : w1.cell? ⟨g, m.length * 3 + 1, none⟩ = some (.int .i64 q) := by
    have := o1.cell (i := m.length) (j := 1) hll (by decide)
    rw [hEx] at this
    simpa [eE] using this
  have d2 : w1.cell? ⟨g, m.length * 3 + 2, none⟩ = some (.int .i64 r) := by
    have := o1.cell (i := m.length) (j := 2) hll (by decide)
    rw [hEx] at this
    simpa [eE] using this
  have T : Adr w w1 g m.length f n i p q r := ⟨B1, s1, hg2, c0, c1, c2, d0, d1, d2⟩
  replace T := T.drew
  have hone : ∀ w : World, Calls Tryz.prog 191 #[.agg #[.int .i64 p, .int .i64 q, .int .i64 r], .agg #[.int .i64 f, .int .i64 n, .int .i64 i]] w fun e w' => e = .returned (.bool (oneE ⟨p, q, r⟩ ⟨f, n, i⟩)) ∧ Below w.heap.size w w' := fun w => one_ex p q r f n i w hy ⟨hx.1, by have h2 : 1 ≤ n := hx.2.1; have h3 : f + n ≤ 64 := hx.2.2.1; omega⟩ hx.2.2.2.1
  obtain ⟨b, hbb⟩ : ∃ b, b = oneE ⟨p, q, r⟩ ⟨f, n, i⟩ := ⟨_, rfl⟩
  rw [← hbb]
  rw [← hbb] at hone
  obtain ⟨R, hR⟩ : ∃ R, R = (if b = true then m ++ [⟨p, q + n, r⟩] else E ++ [⟨f, n, i⟩]) := ⟨_, rfl⟩
  rw [← hR]
  have HR := hide hR
  clear hR
  have Hone := hide hone
  have HV := hide hv
  have hq1 : 1 ≤ q := hy.2.1
  have hq0 : 0 ≤ p := hy.1
  have hq2 : p + q ≤ 64 := hy.2.2.1
  have hn1 : 1 ≤ n := hx.2.1
  have hn0 : 0 ≤ f := hx.1
  have hn2 : f + n ≤ 64 := hx.2.2.1
  clear hone c0 c1 c2 d0 d1 d2 o1 hv hE hbb hy hx B1 s1
  have HEx := hide hEx
  have HEs := hide hEs
  clear hEx hEs
  rw [hlen] at HV hg3 ⊢
  have hsl : ((m.length + 1 : Nat) : Int) - 1 = (m.length : Int) := by omega
  have hb0 : (0 : Int) ≤ (m.length : Int) := by omega
  have hb1 : (m.length : Int) < (m.length : Int) + 1 := by omega
  have hb2 : (m.length : Int) < ((m.length + 1 : Nat) : Int) := by omega
  go_enter Tryz.func167, Tryz.ntmps167
  go_wp2_with fail
  rw [← hw1]
  clear hw1
  go_region_held3 (fun W => W.cell? ⟨w.heap.size, 0, none⟩ = some (.int .i64 f) ∧ W.cell? ⟨w.heap.size, 1, none⟩ = some (.int .i64 n) ∧ W.cell? ⟨w.heap.size, 2, none⟩ = some (.int .i64 i) ∧ W.cell? ⟨g, m.length * 3, none⟩ = some (.int .i64 p) ∧ W.cell? ⟨g, m.length * 3 + 1, none⟩ = some (.int .i64 q) ∧ W.cell? ⟨g, m.length * 3 + 2, none⟩ = some (.int .i64 r))
    (with_reducible exact T.s)
    ((go_at_call 191; refine (unhide Hone _).mono ?_; intro e v hv; obtain ⟨he, HB⟩ := hv; subst he; replace T : Adr w v g m.length f n i p q r := T.below HB; clear HB))
  have o9 : Own eE 107 v base (.slice (some ⟨g, 0, none⟩) (m.length + 1) cap) E := (unhide HV).below T.1
  have B9 : Below base w v := T.1.mono hb
  have s9 : base ≤ v.heap.size := by have := T.2.1; omega
  obtain ⟨_, _, _, c0, c1, c2, d0, d1, d2⟩ := T
  have hlE : E.length ≤ 64 := by omega
  cases b with
  | false =>
    have HR2 := hide (show R = E ++ [⟨f, n, i⟩] from (unhide HR).trans (if_neg (by simp)))
    go_wp2_with (at_builtin; refine wpList_append_one eE rfl _ _ _ rfl base 107 i0 _ 24 Tryz.underlying42 hi hz0 hz1 hz2 rfl (by decide) (.slice (some ⟨g, 0, none⟩) (m.length + 1) cap) E rfl _ o9 ⟨f, n, i⟩ #[.int .i64 f, .int .i64 n, .int .i64 i] rfl (by simp [Act.eval]) (by intro u hu; simp at hu; rcases hu with rfl | rfl | rfl <;> rfl) ?c3 ?c4 s9 ?_)
    case c3 => unfold maxLen; omega
    case c4 => omega
    intro v4 w4 hown4 hgr4 hloc4
    have hb4 := B9.alloc s9 (.cells #[.int .i64 f, .int .i64 n, .int .i64 i] 107)
    have B4 : Below base w w4 := hb4.grown hgr4 (by rw [hal]; omega) fun q hq => (o9.lt q hq).1
    clear hgr4 hloc4 hb4 o9
    go_wp2
    go_ret
    exact ⟨⟨_, rfl, by rw [unhide HR2]; exact hown4⟩, B4⟩
  | true =>
    have HR2 := hide (show R = m ++ [⟨p, q + n, r⟩] from (unhide HR).trans (if_pos rfl))
    have f1 := o9.frozen (m.length * 3 + 1)
    have o10 := Own.set (o9.drewN 1) hll (j := 1) (by decide) (.int .i64 (q + n)) ⟨p, q + n, r⟩ (fun j hj => by
      have hj3 : j < 3 := hj
      rw [unhide HEx]
      rcases (show j = 0 ∨ j = 1 ∨ j = 2 by omega) with rfl | rfl | rfl <;> rfl)
    rw [unhide HEs] at o10
    have B10 : Below base w ((v.drewN 1).setCell ⟨g, m.length * 3 + 1, none⟩ (.int .i64 (q + n))) := (below_drewN B9 1).setCell (p := ⟨g, m.length * 3 + 1, none⟩) (by show base ≤ g; omega) _
    have O10 := hide o10
    clear o10 o9
    go_wp2_with fail
    go_still_tail 10, (by kernel_rfl)
    change wpList _ _ _ _ _ v.drew
    go_wp2_with fail
    go_ret
    exact ⟨⟨_, rfl, by rw [unhide HR2]; exact unhide O10⟩, B10⟩
end Go.Proofs.YtjjfdkdneibjbaaGreatDoor
