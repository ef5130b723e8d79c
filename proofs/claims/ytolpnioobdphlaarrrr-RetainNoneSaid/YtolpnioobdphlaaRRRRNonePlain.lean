/- The plain law of RetainNone: with nothing wanted the newest alone stays; with days alone one point of each day stays. -/
import Derived.Test.YtolpnioobdphlaaRRRRRetE
import Derived.Test.YtolpnioobdphlaaRRRRMap
namespace Go.Proofs.YtolpnioobdphlaaRRRR
open Go.RowKit Retain

theorem partL_length {D W M today : Int} {ps : List Pt} {wanted : Bool} : ∀ {k : Nat}, k ≤ ps.length → (partL D W M today ps wanted k).length = ((List.range k).filter fun i => staysB D W M today (ps.map Pt.day) i == wanted).length
  | 0, _ => by simp [partL]
  | k + 1, h => by
    have ih := partL_length (D := D) (W := W) (M := M) (today := today) (ps := ps) (wanted := wanted) (k := k) (by omega)
    rw [List.range_succ, List.filter_append, List.length_append, ← ih]
    cases hs : staysB D W M today (ps.map Pt.day) k == wanted with
    | true => rw [partL_yes (by omega) hs]; simp [hs]
    | false => rw [partL_no hs]; simp [hs]
theorem stays_bare {today : Int} {ds : List Int} {i : Nat} : staysB 0 0 0 today ds i = decide (i + 1 = ds.length) := by
  simp [staysB, last_none (Int.le_refl 0)]
theorem part_bare {today : Int} {ps : List Pt} : ∀ k, k < ps.length → partL 0 0 0 today ps true k = []
  | 0, _ => by simp [partL]
  | k + 1, h => by
    rw [partL_no, part_bare k (by omega)]
    rw [stays_bare]
    simp; omega
theorem part_bare_all {today : Int} {ps : List Pt} {k : Nat} (h : k + 1 = ps.length) : partL 0 0 0 today ps true (k + 1) = [(ps[k]'(by omega)).id] := by
  rw [partL_yes (by omega), part_bare k (by omega)]
  · rfl
  · rw [stays_bare]; simp; omega
theorem part_bare_at {today : Int} {ps : List Pt} {k m : Nat} (hm : m = k + 1) (h : k + 1 = ps.length) : partL 0 0 0 today ps true m = [(ps[k]'(by omega)).id] := by
  subst hm
  exact part_bare_all h
theorem part_bare_mixed {today : Int} {ps : List Pt} {k : Nat} (h : k + 1 = ps.length) : partL 0 0 0 today (mixed 255 ps ps.length) true ps.length = [(ps.length : Int)] := by
  rw [part_bare_at (k := k) h.symm (by rw [mixed_len]; exact h)]
  have h1 := mixed_all (m := 255) (ps := ps) (i := k) (by omega)
  rw [List.getElem?_eq_getElem (by rw [mixed_len]; omega)] at h1
  injection h1 with h1
  rw [h1]
  simp [md]; omega

def lasts : List Int → List Int
  | [] => []
  | d :: t => if d ∈ t then lasts t else d :: lasts t
theorem mem_lasts (x : Int) : ∀ L : List Int, x ∈ lasts L ↔ x ∈ L
  | [] => by simp [lasts]
  | d :: t => by
    have ih := mem_lasts x t
    unfold lasts
    by_cases h : d ∈ t
    · rw [if_pos h, ih]
      constructor
      · exact fun h => List.mem_cons_of_mem _ h
      · intro hx
        rcases List.mem_cons.1 hx with rfl | hx
        · exact h
        · exact hx
    · rw [if_neg h, List.mem_cons, ih, List.mem_cons]
theorem nodup_lasts : ∀ L : List Int, (lasts L).Nodup
  | [] => by simp [lasts]
  | d :: t => by
    unfold lasts
    by_cases h : d ∈ t
    · rw [if_pos h]; exact nodup_lasts t
    · rw [if_neg h, List.nodup_cons]
      exact ⟨fun hm => h ((mem_lasts d t).1 hm), nodup_lasts t⟩
theorem count_lasts : ∀ (p : Nat → Bool) (L : List Int), (∀ i, i < L.length → (p i = true ↔ ∀ j, i < j → j < L.length → L.getD j 0 ≠ L.getD i 0)) → ((List.range L.length).filter p).length = (lasts L).length
  | p, [], _ => by simp [lasts]
  | p, d :: t, h => by
    have ih := count_lasts (fun i => p (i + 1)) t (fun i hi => by
      have := h (i + 1) (by simp; omega)
      rw [this]
      constructor
      · intro hh j hj hl
        have := hh (j + 1) (by omega) (by simp; omega)
        simpa using this
      · intro hh j hj hl
        obtain ⟨j', rfl⟩ : ∃ j', j = j' + 1 := ⟨j - 1, by omega⟩
        have := hh j' (by omega) (by simpa using hl)
        simpa using this)
    rw [List.length_cons, List.range_succ_eq_map, List.filter_cons, List.filter_map, ]
    have h0 := h 0 (by simp)
    have hm : d ∈ t ↔ ¬ (p 0 = true) := by
      rw [h0]
      constructor
      · intro hm hh
        obtain ⟨j, hj⟩ := List.mem_iff_getElem?.1 hm
        have hl := (List.getElem?_eq_some_iff.1 hj).1
        have := hh (j + 1) (by omega) (by simp; omega)
        simp [hj] at this
      · intro hh
        rcases Decidable.em (d ∈ t) with hm | hm
        · exact hm
        · exfalso
          apply hh
          intro j hj hl
          obtain ⟨j', rfl⟩ : ∃ j', j = j' + 1 := ⟨j - 1, by omega⟩
          have hl' : j' < t.length := by simpa using hl
          intro e
          apply hm
          simp [hl'] at e
          rw [← e]
          exact List.getElem_mem hl'
    have ih' : (List.filter (p ∘ Nat.succ) (List.range t.length)).length = (lasts t).length := ih
    unfold lasts
    by_cases hd : d ∈ t
    · rw [if_pos hd, if_neg (hm.1 hd), List.length_map, ih']
    · have : p 0 = true := by
        cases hp : p 0 with
        | true => rfl
        | false => exact absurd (hm.2 (by simp [hp])) hd
      rw [if_neg hd, if_pos this, List.length_cons, List.length_cons, List.length_map, ih']

theorem nodup_length {A B : List Int} (ha : A.Nodup) (hb : B.Nodup) (h : ∀ x, x ∈ A ↔ x ∈ B) : A.length = B.length := by
  refine List.Perm.length_eq ?_
  rw [List.perm_iff_count]
  intro x
  rw [ha.count, hb.count]
  simp [h x]

theorem mem_fillT (L : List Int) (x : Int) : x ∈ (fillT L).map (·.1) ↔ x ∈ L := by
  have h := fillT_lk L x
  by_cases hx : x ∈ L
  · simp only [hx, decide_true, iff_true] at h ⊢
    cases hl : lk (fillT L) x with
    | none => rw [hl] at h; simp at h
    | some v => exact List.mem_map.2 ⟨_, lk_some_mem hl, rfl⟩
  · simp only [hx, iff_false] at h ⊢
    intro hm
    obtain ⟨⟨k, v⟩, hp, rfl⟩ := List.mem_map.1 hm
    have : ∀ (L : List Int) (es : List (Int × Value)), k ∉ L → lk (L.foldl (fun es x => put es x (.bool true)) es) k = lk es k := by
      intro L
      induction L with
      | nil => intro es _; rfl
      | cons y L ih =>
        intro es hn
        rw [List.foldl_cons, ih _ (fun h => hn (List.mem_cons_of_mem _ h)), lk_put_other _ _ (fun (e : k = y) => hn (by rw [e]; exact List.mem_cons_self))]
    have h2 := this L [] hx
    exact lk_none.1 h2 _ hp rfl

theorem stays_days {today : Int} {ds : List Int} {i : Nat} (hi : i < ds.length) (hd : ∀ d ∈ ds, 0 ≤ d ∧ d ≤ 255) (h0 : 0 ≤ today) (h1 : today ≤ 100000) :
    staysB 1073741824 0 0 today ds i = true ↔ ∀ j, i < j → j < ds.length → ds.getD j 0 ≠ ds.getD i 0 := by
  have hb : ∀ j, j < ds.length → 0 ≤ ds.getD j 0 ∧ ds.getD j 0 ≤ 255 := fun j hj => by
    rw [List.getD_eq_getElem?_getD, List.getElem?_eq_getElem hj]
    exact hd _ (List.getElem_mem hj)
  have hu : ∀ j, j < ds.length → un 1 (ds.getD j 0) = ds.getD j 0 := fun j hj => by
    unfold un; rw [Int.max_eq_left (hb j hj).1]; omega
  have ht : un 1 today = today := by unfold un; rw [Int.max_eq_left h0]; omega
  have hl : lastB 1 1073741824 today ds i = true ↔ ∀ j, i < j → j < ds.length → ds.getD j 0 ≠ ds.getD i 0 := by
    rw [lastB_iff, ht, hu i hi]
    constructor
    · intro ⟨h, _⟩ j hj hl
      have := h j hj hl
      rwa [hu j hl] at this
    · intro h
      refine ⟨fun j hj hl => by rw [hu j hl]; exact h j hj hl, ?_⟩
      have := hb i hi
      omega
  unfold staysB
  rw [last_none (Int.le_refl 0), last_none (Int.le_refl 0)]
  simp only [Bool.or_false, Bool.or_eq_true, decide_eq_true_iff]
  rw [hl]
  constructor
  · rintro (h | h)
    · intro j hj hl; omega
    · exact h
  · exact .inr
theorem days_count {today : Int} {ps : List Pt} (hd : ∀ p ∈ ps, 0 ≤ p.day ∧ p.day ≤ 255) (h0 : 0 ≤ today) (h1 : today ≤ 100000) (hn : ((fillT (ps.map Pt.day)).map (·.1)).Nodup) :
    (partL 1073741824 0 0 today ps true ps.length).length = (fillT (ps.map Pt.day)).length := by
  rw [partL_length (Nat.le_refl _)]
  have h2 := count_lasts (fun i => staysB 1073741824 0 0 today (ps.map Pt.day) i == true) (ps.map Pt.day) (fun i hi => by
    rw [beq_true]
    exact stays_days hi (fun d hd' => by obtain ⟨p, hp, rfl⟩ := List.mem_map.1 hd'; exact hd p hp) h0 h1)
  rw [List.length_map] at h2
  rw [h2]
  have h3 := nodup_length (nodup_lasts (ps.map Pt.day)) hn (fun x => by rw [mem_lasts, mem_fillT])
  rw [h3, List.length_map]
end Go.Proofs.YtolpnioobdphlaaRRRR
