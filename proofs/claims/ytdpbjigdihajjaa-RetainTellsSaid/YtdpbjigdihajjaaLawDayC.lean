/- Words of the laws RetainDays and RetainWeeks: points of a day each. -/
import Derived.Test.YtdpbjigdihajjaaRetD
import Derived.Test.YtdpbjigdihajjaaMap
namespace Go.Proofs.Ytdpbjigdihajjaa
open Go.RowKit Retain

def dayPts (n : Nat) : List Pt := (List.range n).map fun (i : Nat) => ⟨(i : Int) + 1, 0, i, none, 0, 0⟩
def ptCells (ps : List Pt) : List Value := ps.flatMap fun p => [.int .i64 p.id, .int .i64 p.kind, .int .i64 p.day, .slice p.eA p.eN p.eC]
theorem dayPts_succ (n : Nat) : dayPts (n + 1) = dayPts n ++ [⟨(n : Int) + 1, 0, n, none, 0, 0⟩] := by
  unfold dayPts; rw [List.range_succ, List.map_append]; rfl
theorem dayPts_len (n : Nat) : (dayPts n).length = n := by simp [dayPts]
theorem ptCells_len (ps : List Pt) : (ptCells ps).length = ps.length * 4 := by
  unfold ptCells
  induction ps with
  | nil => rfl
  | cons p ps ih => rw [List.flatMap_cons, List.length_append, ih]; simp; omega
theorem Try.infoPt : (Try.prog.info? 28).map (fun i => (i.zero, i.size, i.bytes)) = some (some (.agg #[.int .i64 0, .int .i64 0, .int .i64 0, .slice none 0 0]), 4, 48) := by kernel_rfl

theorem own_sl_pt {w : World} {base e n : Nat} {v : Value} {ps : List Pt} (h : w.ownsRow base e 4 v n (ptCells ps)) (hn : ps.length = n) : ∃ A c, v = .slice A n c ∧ Sl ePt w A n c ps := by
  rcases h.2 with ⟨rfl, rfl⟩ | ⟨g, cap, cur, rfl, hb, hg, hnc, hm, hs, ht⟩
  · exact ⟨none, 0, rfl, by rw [hn], Nat.le_refl _, by omega, fun h => by omega⟩
  · refine ⟨_, _, rfl, hn.symm, hnc, hm, fun _ => ⟨g, 0, rfl, (Array.getElem?_eq_some_iff.1 hg).1, fun i hi j hj => ?_⟩⟩
    have hj4 : j < 4 := hj
    have := h.cellAt (0 + i * 4 + j) (by omega)
    rw [show ePt.sz = 4 from rfl, this]
    clear this h ht
    unfold ptCells
    clear hn hs hnc hm hg hb hj
    induction ps generalizing i with
    | nil => simp at hi
    | cons p ps ih =>
      rw [List.flatMap_cons]
      cases i with
      | zero =>
        rcases (show j = 0 ∨ j = 1 ∨ j = 2 ∨ j = 3 by omega) with rfl | rfl | rfl | rfl <;> simp [ePt]
      | succ i =>
        rw [List.getElem?_append_right (by simp; omega)]
        have := ih i (by simpa using hi)
        simpa [show (i + 1) * 4 + j - 4 = i * 4 + j by omega] using this
def eInt : Enc Int := ⟨1, fun x _ => .int .i64 x⟩
theorem own_sl_int {w : World} {base e n : Nat} {v : Value} {xs : List Int} (h : w.ownsRow base e 1 v n (xs.map (Value.int .i64))) (hn : xs.length = n) : ∃ A c, v = .slice A n c ∧ Sl eInt w A n c xs := by
  rcases h.2 with ⟨rfl, rfl⟩ | ⟨g, cap, cur, rfl, hb, hg, hnc, hm, hs, ht⟩
  · exact ⟨none, 0, rfl, by rw [hn], Nat.le_refl _, by omega, fun h => by omega⟩
  · refine ⟨_, _, rfl, hn.symm, hnc, hm, fun _ => ⟨g, 0, rfl, (Array.getElem?_eq_some_iff.1 hg).1, fun i hi j hj => ?_⟩⟩
    have hj1 : j = 0 := by have : j < 1 := hj; omega
    subst hj1
    have := h.cellAt (0 + i * 1 + 0) (by omega)
    rw [show eInt.sz = 1 from rfl, this]
    simp [eInt, hi]

def fillT (L : List Int) : List (Int × Value) := L.foldl (fun es x => put es x (.bool true)) []
theorem fillT_snoc (L : List Int) (x : Int) : fillT (L ++ [x]) = put (fillT L) x (.bool true) := by simp [fillT]
theorem fillT_lk (L : List Int) (x : Int) : (lk (fillT L) x).getD (.bool false) = .bool (decide (x ∈ L)) := by
  have : ∀ (L : List Int) (es : List (Int × Value)), lk (L.foldl (fun es x => put es x (.bool true)) es) x = if x ∈ L then some (.bool true) else lk es x := by
    intro L
    induction L with
    | nil => intro es; simp
    | cons y L ih =>
      intro es
      rw [List.foldl_cons, ih]
      by_cases h : x = y
      · subst h; simp [lk_put_same]
      · rw [lk_put_other _ _ h]; simp [h]
  unfold fillT
  rw [this]
  split <;> simp [*, lk]

theorem mem_part {D W M today : Int} {m k : Nat} (hk : k < m) : (((k : Int) + 1) ∈ partL D W M today (dayPts m) true m) ↔ staysB D W M today ((dayPts m).map Pt.day) k = true := by
  unfold partL
  simp only [List.mem_map, List.mem_filterMap, List.mem_filter, List.mem_range, beq_true]
  have hx : ∀ i, i < m → (dayPts m)[i]? = some ⟨(i : Int) + 1, 0, i, none, 0, 0⟩ := fun i hi => by simp [dayPts, hi]
  constructor
  · rintro ⟨p, ⟨i, ⟨hi, hs⟩, hp⟩, he⟩
    rw [hx i hi] at hp
    cases hp
    have : i = k := by simp at he; omega
    rw [← this]; exact hs
  · intro h
    exact ⟨_, ⟨k, ⟨hk, h⟩, hx k hk⟩, rfl⟩
theorem zeroB (w : World) : (zeroValue 4).run Try.prog w = .ok (.bool false) w := by kernel_rfl
theorem dayPts_days (m : Nat) : (dayPts m).map Pt.day = rangeI m := by simp [dayPts, rangeI, Function.comp_def]
theorem days_ok (m : Nat) (hm : m ≤ 60) : ∀ p ∈ dayPts m, p.day ≤ 9223372036854775807 := by
  intro p hp
  simp [dayPts] at hp
  obtain ⟨i, hi, rfl⟩ := hp
  show (i : Int) ≤ _
  omega

end Go.Proofs.Ytdpbjigdihajjaa
