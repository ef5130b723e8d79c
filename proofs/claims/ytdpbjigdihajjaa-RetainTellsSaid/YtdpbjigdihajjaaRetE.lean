/- Points whose ids are their places: how the laws RetainGrows and RetainNone make them; which stay, as lists. -/
import Derived.Test.YtdpbjigdihajjaaRetD
import Derived.Test.YtdpbjigdihajjaaOwn
import Derived.Test.YtdpbjigdihajjaaLawDayC
import Derived.Laws.BitsAllLaws
import Derived.Laws.BitsLemmas
namespace Go.Proofs.Ytdpbjigdihajjaa
open Go.RowKit Retain

theorem flat_eI (L : List Int) : eI.flat L = L.map (Value.int .i64) := by
  unfold Enc.flat
  induction L with
  | nil => rfl
  | cons x L ih => rw [List.flatMap_cons, ih]; rfl
theorem flat_ePt (ps : List Pt) : ePt.flat ps = ptCells ps := rfl
theorem ePt_one (ps : List Pt) : ∀ u ∈ ePt.flat ps, u.oneCell' = true := by
  intro u hu
  rw [flat_ePt] at hu
  unfold ptCells at hu
  obtain ⟨p, _, h⟩ := List.mem_flatMap.1 hu
  simp at h
  rcases h with rfl | rfl | rfl | rfl <;> rfl
theorem own_ints {w : World} {base : Nat} {v : Value} {L : List Int} (h : w.ownsRow base 3 1 v L.length (L.map (Value.int .i64))) : Own eI 3 w base v L := by
  unfold Own
  rw [flat_eI]; exact h

theorem keep_own (D W M today : Int) (A : Option Addr) (n c : Nat) (ps : List Pt) (w : World) (hs : Sl ePt w A n c ps) (hr : n * 8 ≤ 140737488351232)
    (hd : ∀ p ∈ ps, p.day ≤ 9223372036854775807) (ht : today ≤ 9223372036854775807) :
    Calls Try.prog 7 #[.slice A n c, .agg #[.int .i64 D, .int .i64 W, .int .i64 M], .int .i64 today] w
      fun e w' => ∃ v, e = .returned v ∧ Own eI 3 w' w.heap.size v (partL D W M today ps true n) ∧ Below w.heap.size w w' :=
  (keep_any D W M today A n c ps w hs hr hd ht).mono fun _ _ ⟨v, h1, h2, h3⟩ => ⟨v, h1, own_ints h2, h3⟩
theorem gone_own (D W M today : Int) (A : Option Addr) (n c : Nat) (ps : List Pt) (w : World) (hs : Sl ePt w A n c ps) (hr : n * 8 ≤ 140737488351232)
    (hd : ∀ p ∈ ps, p.day ≤ 9223372036854775807) (ht : today ≤ 9223372036854775807) :
    Calls Try.prog 8 #[.slice A n c, .agg #[.int .i64 D, .int .i64 W, .int .i64 M], .int .i64 today] w
      fun e w' => ∃ v, e = .returned v ∧ Own eI 3 w' w.heap.size v (partL D W M today ps false n) ∧ Below w.heap.size w w' :=
  (gone_any D W M today A n c ps w hs hr hd ht).mono fun _ _ ⟨v, h1, h2, h3⟩ => ⟨v, h1, own_ints h2, h3⟩

theorem and_bd (x : Int) (m : Nat) (hm : m < 9223372036854775808) : 0 ≤ bits .and .i64 x (m : Int) ∧ bits .and .i64 x (m : Int) ≤ m := by
  have h : (BitVec.ofInt 64 (m : Int)).toNat = m := by
    rw [BitVec.ofInt_natCast, BitVec.toNat_ofNat]; exact Nat.mod_eq_of_lt (by omega)
  show 0 ≤ IntKind.i64.wrap ((BitVec.ofInt 64 x &&& BitVec.ofInt 64 (m : Int)).toNat : Int) ∧ IntKind.i64.wrap ((BitVec.ofInt 64 x &&& BitVec.ofInt 64 (m : Int)).toNat : Int) ≤ m
  rw [BitVec.toNat_and, h]
  have := Nat.and_le_right (n := (BitVec.ofInt 64 x).toNat) (m := m)
  rw [IntKind.wrap_i64]
  omega

theorem set_pt {w : World} {e base g n c k : Nat} {xs : List Pt} (h : Own ePt e w base (.slice (some ⟨g, 0, none⟩) n c) xs) (hk : k < xs.length) (a d : Int) :
    Own ePt e (((w.setCell ⟨g, k * 4, none⟩ (.int .i64 a)).setCell ⟨g, k * 4 + 3, none⟩ (.slice none 0 0)).setCell ⟨g, k * 4 + 2, none⟩ (.int .i64 d)) base (.slice (some ⟨g, 0, none⟩) n c) (xs.set k ⟨a, xs[k].kind, d, none, 0, 0⟩) := by
  have c4 : ∀ j, j < ePt.sz → j = 0 ∨ j = 1 ∨ j = 2 ∨ j = 3 := fun j hj => by have : j < 4 := hj; omega
  have o1 := Own.set h hk (j := 0) (by decide) (.int .i64 a) ⟨a, xs[k].kind, xs[k].day, xs[k].eA, xs[k].eN, xs[k].eC⟩ (fun j hj => by
    rcases c4 j hj with rfl | rfl | rfl | rfl <;> rfl)
  have k1 : k < (xs.set k ⟨a, xs[k].kind, xs[k].day, xs[k].eA, xs[k].eN, xs[k].eC⟩).length := by simpa using hk
  have o2 := Own.set o1 k1 (j := 3) (by decide) (.slice none 0 0) ⟨a, xs[k].kind, xs[k].day, none, 0, 0⟩ (fun j hj => by
    rcases c4 j hj with rfl | rfl | rfl | rfl <;> simp [ePt])
  rw [List.set_set] at o2
  have k2 : k < (xs.set k ⟨a, xs[k].kind, xs[k].day, none, 0, 0⟩).length := by simpa using hk
  have o3 := Own.set o2 k2 (j := 2) (by decide) (.int .i64 d) ⟨a, xs[k].kind, d, none, 0, 0⟩ (fun j hj => by
    rcases c4 j hj with rfl | rfl | rfl | rfl <;> simp [ePt])
  rw [List.set_set] at o3
  exact o3
/-- The points as the laws make them: their ids are their places, their days are cut. -/
def md (m : Int) (i : Nat) (p : Pt) : Pt := ⟨(i : Int) + 1, p.kind, bits .and .i64 p.day m, none, 0, 0⟩
def mixed (m : Int) (ps : List Pt) (k : Nat) : List Pt := ps.mapIdx fun i p => if i < k then md m i p else p
theorem mixed_len (m : Int) (ps : List Pt) (k : Nat) : (mixed m ps k).length = ps.length := by simp [mixed]
theorem mixed_zero (m : Int) (ps : List Pt) : mixed m ps 0 = ps := by
  apply List.ext_getElem?
  intro i
  simp [mixed]
theorem mixed_at {m : Int} {ps : List Pt} {k : Nat} (hk : k < ps.length) : (mixed m ps k)[k]'(by rw [mixed_len]; exact hk) = ps[k] := by simp [mixed]
theorem mixed_succ {m : Int} {ps : List Pt} {k : Nat} (hk : k < ps.length) : mixed m ps (k + 1) = (mixed m ps k).set k (md m k ps[k]) := by
  apply List.ext_getElem?
  intro i
  simp only [mixed, List.getElem?_set, List.getElem?_mapIdx, List.length_mapIdx]
  by_cases hi : k = i
  · subst hi; simp [hk]
  · rw [if_neg hi]
    cases ps[i]? with
    | none => rfl
    | some p =>
      by_cases h : i < k
      · simp [h, show i < k + 1 by omega]
      · simp [h, show ¬ i < k + 1 by omega]
theorem mixed_all {m : Int} {ps : List Pt} {i : Nat} (hi : i < ps.length) : (mixed m ps ps.length)[i]? = some (md m i ps[i]) := by simp [mixed, hi]
theorem mixed_days {m : Nat} (hm : m < 9223372036854775808) (ps : List Pt) : ∀ p ∈ mixed m ps ps.length, 0 ≤ p.day ∧ p.day ≤ m := by
  intro p hp
  obtain ⟨i, hi⟩ := List.mem_iff_getElem?.1 hp
  have hlt : i < ps.length := by
    have := (List.getElem?_eq_some_iff.1 hi).1
    rwa [mixed_len] at this
  rw [mixed_all hlt] at hi
  cases hi
  exact and_bd _ _ hm
theorem mem_mixed {m D W M today : Int} {ps : List Pt} {wanted : Bool} {k : Nat} (hk : k < ps.length) :
    (((k : Int) + 1) ∈ partL D W M today (mixed m ps ps.length) wanted ps.length) ↔ (staysB D W M today ((mixed m ps ps.length).map Pt.day) k == wanted) = true := by
  unfold partL
  simp only [List.mem_map, List.mem_filterMap, List.mem_filter, List.mem_range]
  constructor
  · rintro ⟨p, ⟨i, ⟨hi, hs⟩, hp⟩, he⟩
    rw [mixed_all hi] at hp
    cases hp
    have : i = k := by simp [md] at he; omega
    rw [← this]; exact hs
  · intro h
    exact ⟨_, ⟨k, ⟨hk, h⟩, mixed_all hk⟩, rfl⟩
theorem mem_mixed_form {m D W M today : Int} {ps : List Pt} {wanted : Bool} {x : Int} (h : x ∈ partL D W M today (mixed m ps ps.length) wanted ps.length) : ∃ k, k < ps.length ∧ x = (k : Int) + 1 := by
  unfold partL at h
  simp only [List.mem_map, List.mem_filterMap, List.mem_filter, List.mem_range] at h
  obtain ⟨p, ⟨i, ⟨hi, _⟩, hp⟩, he⟩ := h
  rw [mixed_all hi] at hp
  cases hp
  exact ⟨i, hi, he.symm⟩
theorem part_split (D W M today : Int) (ps : List Pt) : ∀ k, k ≤ ps.length → (partL D W M today ps true k).length + (partL D W M today ps false k).length = k := by
  intro k
  induction k with
  | zero => intro _; rfl
  | succ k ih =>
    intro hk
    have := ih (by omega)
    cases h : staysB D W M today (ps.map Pt.day) k with
    | true =>
      rw [partL_yes (by omega) (by rw [h]; rfl), partL_no (wanted := false) (by rw [h]; rfl), List.length_append]
      simp; omega
    | false =>
      rw [partL_no (wanted := true) (by rw [h]; rfl), partL_yes (wanted := false) (by omega) (by rw [h]; rfl), List.length_append]
      simp; omega
theorem last_grows {k many more today : Int} {ds : List Int} {i : Nat} (h : lastB k many today ds i = true) (hm : 0 ≤ more) : lastB k (many + more) today ds i = true := by
  rw [lastB_iff] at h ⊢
  exact ⟨h.1, by omega⟩
theorem stays_grows {D W M more today : Int} {ds : List Int} {i : Nat} (hm : 0 ≤ more) (h : staysB D W M today ds i = true) : staysB (D + more) (W + more) (M + more) today ds i = true := by
  unfold staysB at h ⊢
  simp only [Bool.or_eq_true] at h ⊢
  rcases h with ((h | h) | h) | h
  · exact .inl (.inl (.inl h))
  · exact .inl (.inl (.inr (last_grows h hm)))
  · exact .inl (.inr (last_grows h hm))
  · exact .inr (last_grows h hm)
theorem last_later {k many later today : Int} {ds : List Int} {i : Nat} (hk : 0 < k) (h : lastB k many (today + later) ds i = true) (hm : 0 ≤ later) : lastB k many today ds i = true := by
  rw [lastB_iff] at h ⊢
  refine ⟨h.1, ?_⟩
  have : un k today ≤ un k (today + later) := by unfold un; exact Int.ediv_le_ediv hk (by omega)
  omega
theorem stays_later {D W M later today : Int} {ds : List Int} {i : Nat} (hm : 0 ≤ later) (h : staysB D W M (today + later) ds i = true) : staysB D W M today ds i = true := by
  unfold staysB at h ⊢
  simp only [Bool.or_eq_true] at h ⊢
  rcases h with ((h | h) | h) | h
  · exact .inl (.inl (.inl h))
  · exact .inl (.inl (.inr (last_later (by omega) h hm)))
  · exact .inl (.inr (last_later (by omega) h hm))
  · exact .inr (last_later (by omega) h hm)
theorem stays_last {D W M today : Int} {ds : List Int} {i : Nat} (h : i + 1 = ds.length) : staysB D W M today ds i = true := by simp [staysB, h]
end Go.Proofs.Ytdpbjigdihajjaa
