/- The plain law of package retain: which points stay; numbers and lists alone. -/
import Derived.Test.YtdpbjigdihajjaaLib
namespace Go.Proofs.Ytdpbjigdihajjaa.Retain
def un (k d : Int) : Int := max d 0 / k
def lastB (k many today : Int) (ds : List Int) (i : Nat) : Bool :=
  (ds.drop (i+1)).all (fun d => un k d != un k (ds.getD i 0)) && decide (max (un k today - un k (ds.getD i 0)) 0 < many)
def staysB (D W M today : Int) (ds : List Int) (i : Nat) : Bool :=
  decide (i + 1 = ds.length) || lastB 28 M today ds i || lastB 7 W today ds i || lastB 1 D today ds i

theorem lastB_iff {k many today : Int} {ds : List Int} {i : Nat} : lastB k many today ds i = true ↔ (∀ j, i < j → j < ds.length → un k (ds.getD j 0) ≠ un k (ds.getD i 0)) ∧ max (un k today - un k (ds.getD i 0)) 0 < many := by
  unfold lastB
  rw [Bool.and_eq_true, List.all_eq_true, decide_eq_true_iff]
  refine and_congr_left fun _ => ⟨fun h j h1 h2 => ?_, fun h x hx => ?_⟩
  · have := h (ds.getD j 0) (by
      rw [List.mem_iff_getElem?]
      refine ⟨j - (i+1), ?_⟩
      rw [List.getElem?_drop, show i + 1 + (j - (i + 1)) = j by omega, List.getD_eq_getElem?_getD, List.getElem?_eq_getElem h2]; rfl)
    simpa using this
  · obtain ⟨j, hj⟩ := List.mem_iff_getElem?.1 hx
    rw [List.getElem?_drop] at hj
    have hlt : i + 1 + j < ds.length := by
      rcases Nat.lt_or_ge (i+1+j) ds.length with h | h
      · exact h
      · rw [List.getElem?_eq_none h] at hj; cases hj
    have := h (i+1+j) (by omega) hlt
    rw [List.getD_eq_getElem?_getD, hj] at this
    simpa using this

def rangeI (n : Nat) : List Int := (List.range n).map fun (i : Nat) => (i : Int)
theorem rangeI_getD {n i : Nat} (h : i < n) : (rangeI n).getD i 0 = i := by
  simp [rangeI, h]
theorem rangeI_len (n : Nat) : (rangeI n).length = n := by simp [rangeI]

theorem last_range {k many today : Int} {n i : Nat} (hk : 0 < k) (hi : i < n) :
    lastB k many today (rangeI n) i = true ↔ (i + 1 = n ∨ ((i:Int) + 1) / k ≠ (i:Int) / k) ∧ max (un k today - (i:Int) / k) 0 < many := by
  rw [lastB_iff, rangeI_getD hi, rangeI_len]
  have e : ∀ x : Nat, un k (x:Int) = (x:Int) / k := fun x => by unfold un; rw [Int.max_eq_left (by omega)]
  rw [e]
  refine and_congr_left fun _ => ⟨fun h => ?_, fun h j h1 h2 => ?_⟩
  · by_cases hn : i + 1 = n
    · exact .inl hn
    · refine .inr ?_
      have := h (i+1) (by omega) (by omega)
      rw [rangeI_getD (by omega), e] at this
      simpa using this
  · rcases h with h | h
    · omega
    · rw [rangeI_getD h2, e]
      have h3 : ((i:Int) + 1) / k ≤ (j:Int) / k := Int.ediv_le_ediv hk (by omega)
      have h4 : ((i:Int)) / k ≤ ((i:Int)+1) / k := Int.ediv_le_ediv hk (by omega)
      omega

theorem last_none {k many today : Int} {ds : List Int} {i : Nat} (h : many ≤ 0) : lastB k many today ds i = false := by
  rw [Bool.eq_false_iff]; intro hc
  rw [lastB_iff] at hc
  omega

/-- RetainDays' plain law. -/
theorem days_plain {n i : Nat} {days today : Int} (hi : i < n) (h0 : 0 ≤ today) :
    staysB days 0 0 today (rangeI n) i = (decide (i + 1 = n) || decide (max (today - i) 0 < days)) := by
  unfold staysB
  rw [last_none (Int.le_refl 0), last_none (Int.le_refl 0), rangeI_len]
  simp only [Bool.or_false]
  congr 1
  rw [Bool.eq_iff_iff, last_range (by omega) hi, decide_eq_true_iff]
  have : un 1 today = today := by unfold un; rw [Int.max_eq_left h0]; omega
  rw [this]
  simp only [Int.ediv_one]
  constructor
  · exact fun h => h.2
  · exact fun h => ⟨.inr (by omega), h⟩

theorem weeks_plain {n i : Nat} {weeks months : Int} (hi : i < n) (hn : n ≤ 60) :
    staysB 0 weeks months ((n:Int) - 1) (rangeI n) i =
      (decide (i + 1 = n) || (((decide (i + 1 = n)) || decide ((i:Int) % 7 = 6)) && decide (((n:Int) - 1) / 7 - (i:Int) / 7 < weeks)) ||
        (((decide (i + 1 = n)) || decide ((i:Int) % 28 = 27)) && decide (((n:Int) - 1) / 28 - (i:Int) / 28 < months))) := by
  unfold staysB
  rw [last_none (k := 1) (Int.le_refl 0), rangeI_len, Bool.or_false]
  have e : ∀ k : Int, un k ((n:Int) - 1) = ((n:Int)-1) / k := fun k => by unfold un; rw [Int.max_eq_left (by omega)]
  rw [Bool.eq_iff_iff]
  simp only [Bool.or_eq_true, Bool.and_eq_true, last_range (k := 7) (by omega) hi, last_range (k := 28) (by omega) hi, e, decide_eq_true_iff]
  by_cases h : i + 1 = n
  · simp [h]
  · simp only [h, false_or]
    have a7 : (((i:Int) + 1) / 7 ≠ (i:Int) / 7) ↔ (i:Int) % 7 = 6 := by omega
    have a28 : (((i:Int) + 1) / 28 ≠ (i:Int) / 28) ↔ (i:Int) % 28 = 27 := by omega
    rw [a7, a28]
    have b7 : 0 ≤ ((n:Int) - 1) / 7 - (i:Int) / 7 := by omega
    have b28 : 0 ≤ ((n:Int) - 1) / 28 - (i:Int) / 28 := by omega
    rw [Int.max_eq_left b7, Int.max_eq_left b28]
    constructor
    · rintro (h | h)
      · exact .inr h
      · exact .inl h
    · rintro (h | h)
      · exact .inr h
      · exact .inl h
end Go.Proofs.Ytdpbjigdihajjaa.Retain
