/- What the law RetainTells leans on. -/
import Derived.Test.YtdpbjigdihajjaaLentC
import Derived.Test.YtdpbjigdihajjaaRefA
import Derived.Test.YtdpbjigdihajjaaRetD
namespace Go.Proofs.Ytdpbjigdihajjaa
open Go.RowKit Retain

theorem of_no (n : Int) (h : n < 0 ∨ 999 < n) (w : World) :
    Calls Try.prog 11 #[.int .i64 n] w fun e w' => e = .returned (.tuple #[.agg #[.int .i64 0, .int .i64 0, .int .i64 0], .int .i64 1]) ∧ Below w.heap.size w w' := by
  rcases h with h | h
  all_goals
    go_enter Try.func11, Try.ntmps11
    go_wp2
    refine bodyPost_ret (v := .tuple #[.agg #[.int .i64 0, .int .i64 0, .int .i64 0], .int .i64 1]) (by simp [results, Try.results11, go_sem]) rfl ⟨rfl, ?_⟩
    exact (Below.refl _ _).alloc (Nat.le_refl _) _
theorem last_max (k many today : Int) (ds : List Int) (i : Nat) : lastB k (max many 0) today ds i = lastB k many today ds i := by
  rw [Bool.eq_iff_iff, lastB_iff, lastB_iff]
  refine and_congr_right fun _ => ?_
  omega
theorem stays_max (D W M today : Int) (ds : List Int) (i : Nat) : staysB (max D 0) (max W 0) (max M 0) today ds i = staysB D W M today ds i := by
  unfold staysB
  rw [last_max, last_max, last_max]
theorem part_max (D W M today : Int) (ps : List Pt) (b : Bool) (k : Nat) : partL (max D 0) (max W 0) (max M 0) today ps b k = partL D W M today ps b k := by
  unfold partL
  simp only [stays_max]
theorem PtCopy.day {w : World} {base : Nat} {w' : World} {k : Nat} {ps qs : List Pt} (h : PtCopy w base w' k ps qs) : qs.map Pt.day = ps.map Pt.day := by
  apply List.ext_getElem (by simp [h.len])
  intro i h1 h2
  rw [List.getElem_map, List.getElem_map]
  exact (h.same i (by simpa using h1) (by simpa using h2)).2.2.1
theorem PtCopy.days_le {w : World} {base : Nat} {w' : World} {k : Nat} {ps qs : List Pt} {m : Int} (h : PtCopy w base w' k ps qs) (hd : ∀ p ∈ ps, p.day ≤ m) : ∀ p ∈ qs, p.day ≤ m := by
  intro q hq
  obtain ⟨i, hi, rfl⟩ := List.mem_iff_getElem.1 hq
  have hl := h.len
  rw [(h.same i hi (by omega)).2.2.1]
  exact hd _ (List.getElem_mem _)
theorem PtCopy.part {w : World} {base : Nat} {w' : World} {k : Nat} {ps qs : List Pt} (h : PtCopy w base w' k ps qs) (D W M today : Int) (b : Bool) (m : Nat) : partL D W M today qs b m = partL D W M today ps b m := by
  induction m with
  | zero => rfl
  | succ m ih =>
    have hl := h.len
    by_cases hm : m < ps.length
    · by_cases hs : (staysB D W M today (ps.map Pt.day) m == b) = true
      · rw [partL_yes hm hs, partL_yes (k := m) (by omega) (by rw [h.day]; exact hs), ih, (h.same m (by omega) hm).1]
      · have hs' : (staysB D W M today (ps.map Pt.day) m == b) = false := by simpa using hs
        rw [partL_no hs', partL_no (by rw [h.day]; exact hs'), ih]
    · have e1 : ps[m]? = none := List.getElem?_eq_none (by omega)
      have e2 : qs[m]? = none := List.getElem?_eq_none (by omega)
      have hps : ∀ l : List Pt, l[m]? = none → partL D W M today l b (m + 1) = partL D W M today l b m := by
        intro l hl
        unfold partL
        rw [List.range_succ, List.filter_append, List.filterMap_append, List.map_append]
        have : (List.filterMap (fun i => l[i]?) (List.filter (fun i => staysB D W M today (l.map Pt.day) i == b) [m])) = [] := by
          rw [List.filterMap_eq_nil_iff]
          intro a ha
          have := (List.mem_filter.1 ha).1
          simp at this
          rw [this]; exact hl
        rw [this]
        simp
      rw [hps ps e1, hps qs e2, ih]
theorem BookI.fresh (w : World) : BookI (w.alloc (.cells #[.slice none 0 0, .slice none 0 0, .slice none 0 0, .slice none 0 0, .slice none 0 0, .slice none 0 0, .slice none 0 0, .slice none 0 0, .slice none 0 0, .slice none 0 0, .slice none 0 0, .slice none 0 0, .slice none 0 0, .slice none 0 0] 39)) w.heap.size (w.heap.size + 1) (.slice none 0 0) (.slice none 0 0) [] [] [] := by
  have hr : ∀ W : World, RowsI W (w.heap.size + 1) (.slice none 0 0) [] [] := fun W => ⟨Own.nil _ _ _ _, rfl, fun i h => by simp at h, fun i h => by simp at h, fun i j h => by simp at h⟩
  refine ⟨?_, Nat.lt_succ_self _, ?_, hr _, hr _, fun q h => by simp [Value.ownBlock] at h, fun i h => by simp at h, fun i h => by simp at h⟩
  · show (w.heap.push _)[w.heap.size]? = _
    simp
  · show _ ≤ (w.heap.push _).size
    simp
theorem BookI.below {w w' : World} {b B : Nat} {X Y : Value} {vs us : List Value} {Ls : List (List Int)} (h : BookI w b B X Y vs us Ls) (hb : Below w.heap.size w w') : BookI w' b B X Y vs us Ls :=
  ⟨(hb.block b (Nat.lt_of_lt_of_le h.lt h.bw)).trans h.blk, h.lt, Nat.le_trans h.bw hb.size, h.rows.below hb, h.copy.below hb, h.sep, h.vY, h.uX⟩
/-- Two rows of the call's own, apart from one another. -/
def Two (w : World) (base : Nat) (S G : Value) (L1 L2 : List Int) : Prop := Own eI 3 w base S L1 ∧ Own eI 3 w base G L2 ∧ ∀ q, S.ownBlock = some q → G.ownBlock ≠ some q
theorem Two.start (w : World) (base : Nat) : Two w base (.slice none 0 0) (.slice none 0 0) [] [] := ⟨Own.nil _ _ _ _, Own.nil _ _ _ _, fun q h => by simp [Value.ownBlock] at h⟩
theorem Two.swap {w : World} {base : Nat} {S G : Value} {L1 L2 : List Int} (h : Two w base S G L1 L2) : Two w base G S L2 L1 := ⟨h.2.1, h.1, fun q h1 h2 => h.2.2 q h2 h1⟩
theorem Two.fst {w w' : World} {base : Nat} {S S' G : Value} {L1 L1' L2 : List Int} {o : Obj} (h : Two w base S G L1 L2) (hown : Own eI 3 w' base S' L1') (hgr : (w.alloc o).grownBy w' S.ownBlock) (hloc : S'.ownBlock = S.ownBlock ∨ S'.ownBlock = some (w.heap.size + 1)) : Two w' base S' G L1' L2 := by
  have hal : (w.alloc o).heap.size = w.heap.size + 1 := by show (w.heap.push o).size = _; simp
  refine ⟨hown, h.2.1.same_block fun q hq => (hgr.block q (by have := (h.2.1.lt q hq).2; omega) fun e => h.2.2 q e.symm hq).trans (Below.heap_alloc w o q (h.2.1.lt q hq).2), fun q hq hq2 => ?_⟩
  rcases hloc with l | l
  · exact h.2.2 q (l ▸ hq) hq2
  · rw [l] at hq
    injection hq with hq
    have := (h.2.1.lt q hq2).2
    omega
theorem TouchI.own {w w' : World} {b B : Nat} {X Y X' Y' v : Value} {L : List Int} (h : TouchI w w' b X Y X' Y') (hb : b < B) (ho : Own eI 3 w B v L) (hx : ∀ q, v.ownBlock = some q → X.ownBlock ≠ some q ∧ Y.ownBlock ≠ some q) : Own eI 3 w' B v L :=
  ho.same_block fun q hq => h.same q (ho.lt q hq).2 (fun e => by have := (ho.lt q hq).1; omega) (hx q hq).1 (hx q hq).2
end Go.Proofs.Ytdpbjigdihajjaa
