/- A look at blocks: no two faults are alike. -/
import Derived.Test.YtdpbjigdihajjaaDoorScrF
import Derived.Test.YtdpbjigdihajjaaDoorRange
namespace Go.Proofs.YtdpbjigdihajjaaDoor
open Go.RowKit

theorem bad_snd {W : Int → Int} {seen : List ByteArray} {b : Shv} {f : Int × Int} (h : f ∈ bad W seen b) : f.2 = b.id ∧ f.1 ≠ 4 ∧ (f.1 = 5 → W b.id = 0) ∧ (f.1 = 3 → W b.id ≠ b.refs) := by
  unfold bad badE at h
  rcases List.mem_append.1 h with h | h
  · split at h
    · simp only [List.mem_singleton] at h; subst h; simp
    · simp at h
  · rcases List.mem_append.1 h with h | h
    · split at h
      · simp only [List.mem_singleton] at h; subst h; simp
      · simp at h
    · split at h
      · simp only [List.mem_singleton] at h; subst h; simpa using by assumption
      · split at h
        · simp only [List.mem_singleton] at h; subst h; simpa using by assumption
        · simp at h
theorem bad_nodup (W : Int → Int) (seen : List ByteArray) (b : Shv) : (bad W seen b).Nodup := by
  unfold bad badE
  by_cases h1 : zeroB b.bytes = true <;> by_cases h2 : hasT seen b.bytes = true <;> by_cases h3 : W b.id = 0 <;> by_cases h4 : W b.id ≠ b.refs <;> simp [h1, h2, h3, h4]
theorem bads_nodup (W : Int → Int) (l : List Shv) (hn : (l.map (·.id)).Nodup) (k : Nat) (hk : k ≤ l.length) : (bads W l k).Nodup ∧ ∀ f ∈ bads W l k, ∃ i, ∃ h : i < l.length, i < k ∧ f.2 = l[i].id ∧ f.1 ≠ 4 := by
  induction k with
  | zero => simp [bads]
  | succ k ih =>
    obtain ⟨h1, h2⟩ := ih (by omega)
    have hkl : k < l.length := by omega
    rw [bads_succ W l k hkl]
    refine ⟨List.nodup_append.2 ⟨h1, bad_nodup _ _ _, fun a ha b hb e => ?_⟩, fun f hf => ?_⟩
    · obtain ⟨i, hi, hik, e1, _⟩ := h2 a ha
      have e2 := (bad_snd hb).1
      have h3 : (l.map (·.id))[i]? = (l.map (·.id))[k]? := by
        rw [List.getElem?_map, List.getElem?_map, List.getElem?_eq_getElem hi, List.getElem?_eq_getElem hkl]
        simp [← e1, ← e2, e]
      have := (List.getElem?_inj (by simpa using hi) hn).1 h3
      omega
    · rcases List.mem_append.1 hf with hf | hf
      · obtain ⟨i, hi, hik, e⟩ := h2 f hf
        exact ⟨i, hi, by omega, e⟩
      · exact ⟨k, hkl, by omega, (bad_snd hf).1, (bad_snd hf).2.1⟩
/-- What is told, ahead of its order. -/
def lackL (ks : List Int) : List (Int × Int) := ks.map fun id => (4, id)
theorem told_nodup (W : Int → Int) (l : List Shv) (hn : (l.map (·.id)).Nodup) (ks : List Int) (hk : ks.Nodup) : (bads W l l.length ++ lackL ks).Nodup := by
  obtain ⟨h1, h2⟩ := bads_nodup W l hn l.length (Nat.le_refl _)
  refine List.nodup_append.2 ⟨h1, ?_, fun a ha b hb e => ?_⟩
  · unfold lackL
    rw [List.nodup_iff_pairwise_ne, List.pairwise_map]
    exact (List.nodup_iff_pairwise_ne.1 hk).imp fun h e => h (by injection e)
  · obtain ⟨i, _, _, _, h4⟩ := h2 a ha
    unfold lackL at hb
    obtain ⟨id, _, rfl⟩ := List.mem_map.1 hb
    exact h4 (by rw [e])
/-- What is known when so many blocks were looked at. -/
structure Seen (k : Nat) (l : List Shv) (X : List (ByteArray × Int)) (Y : List (Int × Int)) : Prop where
  x : ∀ t, 0 < atN X t ↔ t ∈ (l.take k).map (·.bytes)
  xb : ∀ t, 0 ≤ atN X t ∧ atN X t ≤ k
  y : ∀ j, 0 < atN Y j ↔ j ∈ (l.take k).map (·.id)
  yb : ∀ j, 0 ≤ atN Y j ∧ atN Y j ≤ 2 * k
theorem Seen.start (l : List Shv) : Seen 0 l [] [] := ⟨fun t => by simp [atN, lkN], fun t => by simp [atN, lkN], fun t => by simp [atN, lkN], fun t => by simp [atN, lkN]⟩
theorem Seen.next {k : Nat} {l : List Shv} {X : List (ByteArray × Int)} {Y Y' : List (Int × Int)} (h : Seen k l X Y) (hk : k < l.length) (h1 : ∀ j, j ≠ l[k].id → atN Y' j = atN Y j) (h2 : atN Y l[k].id < atN Y' l[k].id) (h3 : atN Y' l[k].id ≤ atN Y l[k].id + 2) :
    Seen (k + 1) l (putN X l[k].bytes (atN X l[k].bytes + 1)) Y' where
  x := fun t => by
    rw [← List.take_append_getElem hk, List.map_append, List.mem_append, atN_put, ← h.x t]
    by_cases e : t = l[k].bytes
    · rw [if_pos e]
      have := h.xb l[k].bytes
      simp [e]; omega
    · rw [if_neg e]; simp [e]
  xb := fun t => by
    rw [atN_put]
    have := h.xb t
    split
    · rename_i e; rw [← e]; omega
    · omega
  y := fun j => by
    rw [← List.take_append_getElem hk, List.map_append, List.mem_append, ← h.y j]
    by_cases e : j = l[k].id
    · have := h.yb j
      subst e
      simp; omega
    · rw [h1 j e]; simp [e]
  yb := fun j => by
    have := h.yb j
    by_cases e : j = l[k].id
    · subst e; omega
    · rw [h1 j e]; omega
theorem LookAt.farG {w w' : World} {F : Nat → Prop} {p bw bb bt r : Nat} {T : List (Int × Int)} {X : List (ByteArray × Int)} {Y : List (Int × Int)} {v : Value} {out : List (Int × Int)} (h : LookAt w F p bw bb bt T X Y v out) (hg : w.grownBy w' (some r)) (hr : ¬ F r) (hb : bw ≠ r) : LookAt w' F p bw bb bt T X Y v out := by
  have far : ∀ k, k < w.heap.size → F k → w'.heap[k]? = w.heap[k]? := fun k h1 h2 => hg.block k h1 fun e => by injection e with e; exact hr (e ▸ h2)
  exact h.keep (far p h.plt h.pF) (hg.block bw h.mw.lt fun e => by injection e with e; exact hb e) (far bb h.mb.lt h.bF) (far bt h.mt.lt h.tF) fun k hk => far k (h.own.lt k hk).2 (h.vF k hk).1
end Go.Proofs.YtdpbjigdihajjaaDoor
