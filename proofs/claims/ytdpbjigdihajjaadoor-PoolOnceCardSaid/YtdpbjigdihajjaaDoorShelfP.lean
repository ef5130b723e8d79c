/- Buckets as plain lists: what Find tells, how many there are; what Put and Cut do to them. -/
import Derived.Test.YtdpbjigdihajjaaDoorShelfF
namespace Go.Proofs.YtdpbjigdihajjaaDoor

/-- What Find tells. -/
def findL (bs : List (List (Int × Int))) (x : Int) : List Int := (((bs.getD (bk bs x) []).filter fun t => t.1 == x).map fun t => t.2).mergeSort fun a b => decide (a ≤ b)
/-- How many there are. -/
def lenB (bs : List (List (Int × Int))) : Nat := (bs.map List.length).sum
theorem bk_set {bs : List (List (Int × Int))} {x : Int} {k : Nat} {L : List (Int × Int)} : bk (bs.set k L) x = bk bs x := by unfold bk; rw [List.length_set]
theorem bk_putB {bs : List (List (Int × Int))} {x y id : Int} : bk (putB bs x id) y = bk bs y := bk_set
theorem bk_cutB {bs : List (List (Int × Int))} {x y id : Int} : bk (cutB bs x id) y = bk bs y := bk_set
theorem getD_set_self {bs : List (List (Int × Int))} {k : Nat} {L : List (Int × Int)} (h : k < bs.length) : (bs.set k L).getD k [] = L := by
  rw [List.getD_eq_getElem?_getD, List.getElem?_set_self h, Option.getD_some]
theorem set_getD_self {bs : List (List (Int × Int))} {k : Nat} : bs.set k (bs.getD k []) = bs := by
  apply List.ext_getElem?
  intro j
  rw [List.getElem?_set]
  by_cases h : k = j
  · subst h
    rw [if_pos rfl]
    by_cases hk : k < bs.length
    · rw [if_pos hk, List.getD_eq_getElem?_getD, List.getElem?_eq_getElem hk]; rfl
    · rw [if_neg hk, List.getElem?_eq_none (by omega)]
  · rw [if_neg h]
theorem mem_findL {bs : List (List (Int × Int))} {x id : Int} : id ∈ findL bs x ↔ hasB bs x id := by
  unfold findL hasB
  rw [List.mem_mergeSort, List.mem_map]
  constructor
  · rintro ⟨⟨a, b⟩, h, rfl⟩
    obtain ⟨h1, h2⟩ := List.mem_filter.1 h
    simp only [beq_iff_eq] at h2
    subst h2
    exact h1
  · intro h
    exact ⟨(x, id), List.mem_filter.2 ⟨h, by simp⟩, rfl⟩
theorem sum_set {l : List Nat} {k n : Nat} (h : k < l.length) : (l.set k n).sum + l[k] = l.sum + n := by
  induction l generalizing k with
  | nil => simp at h
  | cons a l ih =>
    cases k with
    | zero => simp; omega
    | succ k =>
      simp only [List.set_cons_succ, List.sum_cons, List.getElem_cons_succ]
      have := ih (k := k) (by simpa using h)
      omega
theorem lenB_set {bs : List (List (Int × Int))} {k : Nat} {L : List (Int × Int)} (h : k < bs.length) : lenB (bs.set k L) + (bs.getD k []).length = lenB bs + L.length := by
  unfold lenB
  rw [List.map_set]
  have := sum_set (l := bs.map List.length) (k := k) (n := L.length) (by simpa using h)
  rw [List.getD_eq_getElem?_getD, List.getElem?_eq_getElem h, Option.getD_some]
  simpa using this
theorem le_lenB {bs : List (List (Int × Int))} (k : Nat) : (bs.getD k []).length ≤ lenB bs := by
  by_cases h : k < bs.length
  · have := lenB_set (bs := bs) (k := k) (L := []) h
    rw [List.length_nil] at this; omega
  · rw [List.getD_eq_getElem?_getD, List.getElem?_eq_none (by omega)]; simp
theorem lenB_putB {bs : List (List (Int × Int))} (x id : Int) (h : 0 < bs.length) : lenB (putB bs x id) = lenB bs + 1 := by
  have := lenB_set (bs := bs) (k := bk bs x) (L := bs.getD (bk bs x) [] ++ [(x, id)]) (bk_lt h)
  unfold putB
  rw [List.length_append, List.length_singleton] at this
  omega
theorem lenB_cutB {bs : List (List (Int × Int))} {x id : Int} (h : 0 < bs.length) (hm : hasB bs x id) : lenB (cutB bs x id) + 1 = lenB bs := by
  have := lenB_set (bs := bs) (k := bk bs x) (L := (bs.getD (bk bs x) []).erase (x, id)) (bk_lt h)
  unfold cutB
  have h2 : 0 < (bs.getD (bk bs x) []).length := List.length_pos_of_mem hm
  rw [List.length_erase_of_mem hm] at this
  omega
theorem hasB_putB {bs : List (List (Int × Int))} (x id : Int) (h : 0 < bs.length) : hasB (putB bs x id) x id := by
  unfold hasB
  rw [bk_putB]
  unfold putB
  rw [getD_set_self (bk_lt h)]
  simp
theorem cutB_putB {bs : List (List (Int × Int))} {x id : Int} (h : 0 < bs.length) (hm : ¬ hasB bs x id) : cutB (putB bs x id) x id = bs := by
  unfold cutB
  rw [bk_putB]
  unfold putB
  rw [getD_set_self (bk_lt h), List.set_set, List.erase_append_right _ hm]
  simp only [List.erase_cons_head, List.append_nil]
  exact set_getD_self
/-- No bucket has a thing twice. -/
def NdB (bs : List (List (Int × Int))) : Prop := ∀ k, (bs.getD k []).Nodup
theorem NdB.set {bs : List (List (Int × Int))} (h : NdB bs) {k : Nat} {L : List (Int × Int)} (hL : L.Nodup) : NdB (bs.set k L) := by
  intro j
  rw [List.getD_eq_getElem?_getD, List.getElem?_set]
  by_cases hk : k = j
  · rw [if_pos hk]
    by_cases hl : k < bs.length
    · rw [if_pos hl]; exact hL
    · rw [if_neg hl]; exact List.nodup_nil
  · rw [if_neg hk, ← List.getD_eq_getElem?_getD]; exact h j
theorem NdB.putB {bs : List (List (Int × Int))} (h : NdB bs) {x id : Int} (hm : ¬ hasB bs x id) : NdB (putB bs x id) := by
  refine h.set ?_
  rw [List.nodup_append]
  refine ⟨h _, by simp, ?_⟩
  intro a ha b hb e
  simp only [List.mem_singleton] at hb
  subst e hb
  exact hm ha
theorem NdB.nil (n : Nat) : NdB (List.replicate n []) := by
  intro k
  rw [List.getD_eq_getElem?_getD, List.getElem?_replicate]
  by_cases h : k < n <;> simp [h]
theorem not_hasB_cutB {bs : List (List (Int × Int))} {x id : Int} (h : 0 < bs.length) (hn : NdB bs) : ¬ hasB (cutB bs x id) x id := by
  unfold hasB
  rw [bk_cutB]
  unfold cutB
  rw [getD_set_self (bk_lt h)]
  exact List.Nodup.not_mem_erase (hn _)
theorem sort_perm {l m : List Int} (h : l.Perm m) : (l.mergeSort fun a b => decide (a ≤ b)) = m.mergeSort fun a b => decide (a ≤ b) := by
  have tr : ∀ a b c : Int, decide (a ≤ b) = true → decide (b ≤ c) = true → decide (a ≤ c) = true := by simp; omega
  have to : ∀ a b : Int, (decide (a ≤ b) || decide (b ≤ a)) = true := by simp; omega
  refine List.Perm.eq_of_pairwise (le := fun a b : Int => a ≤ b) (fun a b _ _ h1 h2 => Int.le_antisymm h1 h2) ?_ ?_ ?_
  · exact (List.pairwise_mergeSort tr to l).imp (by simp)
  · exact (List.pairwise_mergeSort tr to m).imp (by simp)
  · exact ((List.mergeSort_perm l _).trans h).trans (List.mergeSort_perm m _).symm
theorem findL_again {bs : List (List (Int × Int))} {x id : Int} (h : 0 < bs.length) (hm : hasB bs x id) : findL (putB (cutB bs x id) x id) x = findL bs x := by
  unfold findL
  apply sort_perm
  apply List.Perm.map
  apply List.Perm.filter
  rw [bk_putB, bk_cutB]
  unfold putB
  rw [bk_cutB, getD_set_self (by unfold cutB; rw [List.length_set]; exact bk_lt h)]
  unfold cutB
  rw [getD_set_self (bk_lt h)]
  exact (List.perm_append_comm (l₁ := (bs.getD (bk bs x) []).erase (x, id)) (l₂ := [(x, id)])).trans (List.perm_cons_erase hm).symm
/-- What one Put leaves. -/
def putA (bs : List (List (Int × Int))) (x id : Int) : List (List (Int × Int)) := if hasB bs x id then bs else putB bs x id
theorem putA_length {bs : List (List (Int × Int))} {x id : Int} : (putA bs x id).length = bs.length := by
  unfold putA putB
  split
  · rfl
  · rw [List.length_set]
theorem cutB_length {bs : List (List (Int × Int))} {x id : Int} : (cutB bs x id).length = bs.length := by
  unfold cutB
  rw [List.length_set]
theorem NdB.putA {bs : List (List (Int × Int))} (h : NdB bs) (x id : Int) : NdB (putA bs x id) := by
  unfold Go.Proofs.YtdpbjigdihajjaaDoor.putA
  split
  · exact h
  · exact h.putB (by assumption)
theorem lenB_putA {bs : List (List (Int × Int))} (x id : Int) (h : 0 < bs.length) : lenB (putA bs x id) ≤ lenB bs + 1 := by
  unfold putA
  split
  · omega
  · rw [lenB_putB _ _ h]; omega
end Go.Proofs.YtdpbjigdihajjaaDoor
