/- Joined texts: ShelfD. -/
import Derived.Test.YtnpgjdhigcjihaaGreatDoorPP03
import Derived.Test.YtnpgjdhigcjihaaGreatDoorPP06
/- What a shelf is: its blocks, its buckets; what a change may touch. -/
namespace Go.Proofs.YtnpgjdhigcjihaaGreatDoor
open Go.RowKit

/-- A thing: its fingerprint, its number. -/
def eTh : Enc (Int × Int) := ⟨2, fun t j => if j = 0 then .int .u32 t.1 else .int .i64 t.2⟩
theorem eTh_one (L : List (Int × Int)) : ∀ u ∈ eTh.flat L, u.oneCell' = true := by
  intro u hu
  unfold Enc.flat at hu
  rw [List.mem_flatMap] at hu
  obtain ⟨t, _, hu⟩ := hu
  simp [Enc.cells, eTh, List.range_succ] at hu
  rcases hu with rfl | rfl <;> rfl

/-- The shelf s has these buckets; all its blocks are of F. -/
def ShelfIs (w : World) (F : Nat → Prop) (s : Value) (bs : List (List (Int × Int))) : Prop :=
  ∃ (p g : Nat) (vs : List Value), s = .pointer (some ⟨p, 0, none⟩) ∧ p < w.heap.size ∧ g < w.heap.size ∧ F p ∧ F g ∧ p ≠ g ∧
    w.cell? ⟨p, 0, none⟩ = some (.slice (some ⟨g, 0, none⟩) bs.length bs.length) ∧ 0 < bs.length ∧ bs.length ≤ 100 ∧ vs.length = bs.length ∧
    w.heap[g]? = some (.cells vs.toArray 119 (0, 0)) ∧
    (∀ i (h : i < bs.length) (h' : i < vs.length), Own eTh 122 w 0 vs[i] bs[i]) ∧
    (∀ v ∈ vs, ∀ k, v.ownBlock = some k → F k ∧ k ≠ p ∧ k ≠ g) ∧
    (∀ i j (h : i < vs.length) (h' : j < vs.length), i ≠ j → ∀ k, vs[i].ownBlock = some k → vs[j].ownBlock ≠ some k)

theorem Own.of_block {α : Type} {E : Enc α} {e : TypeId} {w w' : World} {base : Nat} {v : Value} {xs : List α} (h : Own E e w base v xs) (hb : ∀ k, v.ownBlock = some k → w'.heap[k]? = w.heap[k]?) : Own E e w' base v xs := by
  obtain ⟨h1, h2⟩ := h
  refine ⟨h1, ?_⟩
  rcases h2 with h2 | ⟨g, cap, cur, rfl, hg, hh, r⟩
  · exact .inl h2
  · exact .inr ⟨g, cap, cur, rfl, hg, (hb g rfl).trans hh, r⟩
theorem ShelfIs.keep {w w' : World} {F : Nat → Prop} {s : Value} {bs : List (List (Int × Int))} (h : ShelfIs w F s bs) (hs : w.heap.size ≤ w'.heap.size) (hb : ∀ k, k < w.heap.size → F k → w'.heap[k]? = w.heap[k]?) : ShelfIs w' F s bs := by
  obtain ⟨p, g, vs, h1, h2, h3, h4, h5, h6, h7, h8, h9, h10, h11, h12, h13, h14⟩ := h
  refine ⟨p, g, vs, h1, by omega, by omega, h4, h5, h6, (World.cell?_of_block (a := ⟨p, 0, none⟩) (hb p h2 h4)).trans h7, h8, h9, h10, (hb g h3 h5).trans h11, fun i hi hi' => (h12 i hi hi').of_block fun k hk => ?_, h13, h14⟩
  exact hb k ((h12 i hi hi').lt k hk).2 (h13 _ (List.getElem_mem hi') k hk).1
theorem ShelfIs.below {w w' : World} {F : Nat → Prop} {s : Value} {bs : List (List (Int × Int))} (h : ShelfIs w F s bs) (hb : Below w.heap.size w w') : ShelfIs w' F s bs :=
  h.keep hb.size fun k hk _ => hb.block k hk
theorem ShelfIs.chg {w w' : World} {F G : Nat → Prop} {s : Value} {bs : List (List (Int × Int))} (h : ShelfIs w F s bs) (hc : Chg G w w') (hd : ∀ k, F k → ¬ G k) : ShelfIs w' F s bs :=
  h.keep hc.size fun k hk hf => hc.block k hk (hd k hf)
theorem ShelfIs.mono {w : World} {F G : Nat → Prop} {s : Value} {bs : List (List (Int × Int))} (h : ShelfIs w F s bs) (hG : ∀ k, F k → G k) : ShelfIs w G s bs := by
  obtain ⟨p, g, vs, h1, h2, h3, h4, h5, h6, h7, h8, h9, h10, h11, h12, h13, h14⟩ := h
  exact ⟨p, g, vs, h1, h2, h3, hG _ h4, hG _ h5, h6, h7, h8, h9, h10, h11, h12, fun v hv k hk => ⟨hG _ (h13 v hv k hk).1, (h13 v hv k hk).2⟩, h14⟩
/-- Bucket k is another one now, in its own block or in a new one. -/
theorem ShelfIs.set {w w1 w2 : World} {F F' : Nat → Prop} {p g : Nat} {vs : List Value} {bs : List (List (Int × Int))} {k : Nat} {v' : Value} {L : List (Int × Int)}
    (h2 : p < w.heap.size) (h3 : g < w.heap.size) (h4 : F p) (h5 : F g) (h6 : p ≠ g) (h7 : w.cell? ⟨p, 0, none⟩ = some (.slice (some ⟨g, 0, none⟩) bs.length bs.length)) (h8 : 0 < bs.length) (h9 : bs.length ≤ 100)
    (h10 : vs.length = bs.length) (h11 : w.heap[g]? = some (.cells vs.toArray 119 (0, 0)))
    (h12 : ∀ i (h : i < bs.length) (h' : i < vs.length), Own eTh 122 w 0 vs[i] bs[i])
    (h13 : ∀ v ∈ vs, ∀ k, v.ownBlock = some k → F k ∧ k ≠ p ∧ k ≠ g)
    (h14 : ∀ i j (h : i < vs.length) (h' : j < vs.length), i ≠ j → ∀ k, vs[i].ownBlock = some k → vs[j].ownBlock ≠ some k)
    (hk : k < vs.length) (hFF : ∀ j, F j → F' j)
    (hsz : w.heap.size ≤ w1.heap.size) (hold : ∀ j, j < w.heap.size → vs[k].ownBlock ≠ some j → w1.heap[j]? = w.heap[j]?)
    (hown : Own eTh 122 w1 0 v' L) (hv : ∀ j, v'.ownBlock = some j → F' j ∧ (vs[k].ownBlock = some j ∨ w.heap.size ≤ j))
    (hw2 : w2 = w1.setCell ⟨g, k, none⟩ v') : ShelfIs w2 F' (.pointer (some ⟨p, 0, none⟩)) (bs.set k L) := by
  subst hw2
  have hgk : vs[k].ownBlock ≠ some g := fun e => (h13 _ (List.getElem_mem hk) g e).2.2 rfl
  have hpk : vs[k].ownBlock ≠ some p := fun e => (h13 _ (List.getElem_mem hk) p e).2.1 rfl
  have hg1 : w1.heap[g]? = some (.cells vs.toArray 119 (0, 0)) := (hold g h3 hgk).trans h11
  have hvg : ∀ j, v'.ownBlock = some j → j ≠ g ∧ j ≠ p := fun j hj => by
    rcases (hv j hj).2 with h | h
    · exact ⟨fun e => hgk (by rw [← e]; exact h), fun e => hpk (by rw [← e]; exact h)⟩
    · exact ⟨by omega, by omega⟩
  have hset : ∀ j, j ≠ g → (w1.setCell ⟨g, k, none⟩ v').heap[j]? = w1.heap[j]? := fun j hj => Below.heap_setCell _ ⟨g, k, none⟩ v' j hj
  refine ⟨p, g, vs.set k v', rfl, by simp; omega, by simp; omega, hFF _ h4, hFF _ h5, h6, ?_, by simpa using h8, by simpa using h9, by simpa using h10, ?_, ?_, ?_, ?_⟩
  · have e1 : (w1.setCell ⟨g, k, none⟩ v').heap[p]? = w.heap[p]? := (hset p h6).trans (hold p h2 hpk)
    rw [World.cell?_of_block (w := w) (a := ⟨p, 0, none⟩) e1, h7, List.length_set]
  · simp [World.setCell, Array.getElem?_modify, hg1]
  · intro i hi hi'
    have hib : i < bs.length := by simpa using hi
    have hiv : i < vs.length := by simpa using hi'
    by_cases hik : i = k
    · subst hik
      simp only [List.getElem_set_self]
      exact hown.of_block fun j hj => hset j (hvg j hj).1
    · simp only [List.getElem_set_ne (fun e => hik e.symm)]
      refine (h12 i hib hiv).of_block fun j hj => ?_
      have hlt := ((h12 i hib hiv).lt j hj).2
      rw [hset j (h13 _ (List.getElem_mem hiv) j hj).2.2, hold j hlt (h14 i k hiv hk hik j hj)]
  · intro v hv' j hj
    rcases List.mem_or_eq_of_mem_set hv' with hm | rfl
    · have := h13 v hm j hj
      exact ⟨hFF _ this.1, this.2⟩
    · exact ⟨(hv j hj).1, (hvg j hj).2, (hvg j hj).1⟩
  · intro i j hi hj hij q hq
    have hiv : i < vs.length := by simpa using hi
    have hjv : j < vs.length := by simpa using hj
    by_cases hik : i = k
    · subst hik
      simp only [List.getElem_set_self] at hq
      simp only [List.getElem_set_ne hij]
      intro hq'
      rcases (hv q hq).2 with h | h
      · exact h14 i j hiv hjv hij q h hq'
      · have := ((h12 j (by omega) hjv).lt q hq').2; omega
    · simp only [List.getElem_set_ne (fun e => hik e.symm)] at hq
      by_cases hjk : j = k
      · subst hjk
        simp only [List.getElem_set_self]
        intro hq'
        rcases (hv q hq').2 with h | h
        · exact h14 i j hiv hjv hij q hq h
        · have := ((h12 i (by omega) hiv).lt q hq).2; omega
      · simp only [List.getElem_set_ne (fun e => hjk e.symm)]
        exact h14 i j hiv hjv hij q hq
end Go.Proofs.YtnpgjdhigcjihaaGreatDoor
