/- Joined texts: ShelfE. -/
import Derived.Test.YtnpgjdhigcjihaaGreatDoorPP09
import Derived.Shelf.RegionOpenPlain
import Derived.Lib.SliceRun
/- Walk of slices.Delete at things: one element is taken out of a row of the call's own. -/
namespace Go.Proofs.YtnpgjdhigcjihaaGreatDoor
open Go.RowKit

theorem shSetCells_block {b : Nat} {T : TypeId} {fr : Nat × Nat} : ∀ (vs : List Value) (o : Nat) (w : World) (cur : Array Value), w.heap[b]? = some (.cells cur T fr) →
    ∃ cur' : Array Value, (w.setCells b o vs).heap[b]? = some (.cells cur' T fr) ∧ cur'.size = cur.size ∧ ∀ i : Nat, cur'[i]? = if o ≤ i ∧ i < o + vs.length ∧ i < cur.size then vs[i - o]? else cur[i]?
  | [], o, w, cur, h => ⟨cur, h, rfl, fun i => by rw [if_neg (by simp; omega)]⟩
  | v :: r, o, w, cur, h => by
    have h1 : (w.setCell ⟨b, o, none⟩ v).heap[b]? = some (.cells (cur.setIfInBounds o v) T fr) := by simp [World.setCell, Array.getElem?_modify, h]
    obtain ⟨cur', h2, h3, h4⟩ := shSetCells_block r (o + 1) _ _ h1
    refine ⟨cur', h2, by rw [h3]; simp, fun i => ?_⟩
    rw [h4 i]
    simp only [Array.size_setIfInBounds, List.length_cons]
    by_cases c1 : o + 1 ≤ i ∧ i < o + 1 + r.length ∧ i < cur.size
    · rw [if_pos c1, if_pos (by omega), show i - o = (i - (o + 1)) + 1 by omega, List.getElem?_cons_succ]
    · rw [if_neg c1]
      by_cases c2 : i = o
      · subst c2
        by_cases c3 : i < cur.size
        · rw [if_pos (by omega)]; simp [c3]
        · rw [if_neg (by omega)]; simp [c3]
      · rw [if_neg (by omega), Array.getElem?_setIfInBounds_ne (by omega)]
theorem setCells_kept (g : Nat) : ∀ (vs : List Value) (o : Nat) (w : World), (w.setCells g o vs).os = w.os ∧ (w.setCells g o vs).tape = w.tape ∧ (w.setCells g o vs).output = w.output ∧ (w.setCells g o vs).heap.size = w.heap.size ∧
    ∀ k, k ≠ g → (w.setCells g o vs).heap[k]? = w.heap[k]?
  | [], _, _ => ⟨rfl, rfl, rfl, rfl, fun _ _ => rfl⟩
  | v :: r, o, w => by
    obtain ⟨h1, h2, h3, h4, h5⟩ := setCells_kept g r (o + 1) (w.setCell ⟨g, o, none⟩ v)
    exact ⟨h1, h2, h3, h4.trans (by simp), fun k hk => (h5 k hk).trans (Below.heap_setCell w ⟨g, o, none⟩ v k hk)⟩
theorem zeroTh (w : World) : (zeroValue 122).run Tryz.prog w = .ok (.agg #[.int .u32 0, .int .i64 0]) w := by kernel_rfl

theorem own_delete {w w1 : World} {base g cap i : Nat} {L : List (Int × Int)} (h : Own eTh 122 w base (.slice (some ⟨g, 0, none⟩) L.length cap) L) (hi : i < L.length)
    (hw : w1 = (w.setCells g (i * 2) (eTh.flat (L.drop (i + 1)))).setCells g ((L.length - 1) * 2) [.int .u32 0, .int .i64 0]) :
    Own eTh 122 w1 base (.slice (some ⟨g, 0, none⟩) (L.length - 1) cap) (L.eraseIdx i) := by
  subst hw
  obtain ⟨_, h2⟩ := h
  rcases h2 with ⟨h2, _⟩ | ⟨g', cap', cur, hv, hg, hh, hnc, hm, hs, ht⟩
  · cases h2
  cases hv
  obtain ⟨cu1, a1, a2, a3⟩ := shSetCells_block (eTh.flat (L.drop (i + 1))) (i * 2) w cur hh
  obtain ⟨cu2, b1, b2, b3⟩ := shSetCells_block [.int .u32 0, .int .i64 0] ((L.length - 1) * 2) _ cu1 a1
  have hl : (L.eraseIdx i).length = L.length - 1 := by rw [List.length_eraseIdx, if_pos hi]
  have hz : eTh.sz = 2 := rfl
  refine ⟨by rw [Enc.flat_len], .inr ⟨g, cap, cu2, by rw [hl], hg, b1, by rw [hl]; omega, hm, by rw [b2, a2, hs], ?_⟩⟩
  rw [hl, hz]
  have hfl : (eTh.flat (L.eraseIdx i)).length = (L.length - 1) * 2 := by rw [Enc.flat_len, hl, hz]
  have hsz : cur.size = cap * 2 := hs
  apply List.ext_getElem?
  intro k
  by_cases hk : k < (L.length - 1) * 2
  · rw [List.getElem?_take_of_lt hk, Array.getElem?_toList, b3, if_neg (by omega), a3]
    simp only [Enc.flat_len, List.length_drop, hz]
    have hcur : ∀ q, q < L.length * 2 → cur[q]? = (eTh.flat L)[q]? := fun q hq => by
      rw [← ht, List.getElem?_take_of_lt (by rw [hz]; exact hq), Array.getElem?_toList]
    rw [List.eraseIdx_eq_take_drop_succ, Enc.flat_app]
    have hft : (eTh.flat (L.take i)).length = i * 2 := by rw [Enc.flat_len, List.length_take, hz]; omega
    by_cases c : k < i * 2
    · rw [if_neg (by omega), hcur k (by omega), List.getElem?_append_left (by omega)]
      conv => lhs; rw [← List.take_append_drop i L, Enc.flat_app]
      rw [List.getElem?_append_left (by omega)]
    · rw [if_pos (by omega), List.getElem?_append_right (by omega), hft]
  · rw [List.getElem?_eq_none (by simp; omega), List.getElem?_eq_none (by omega)]

set_option maxHeartbeats 4000000 in
set_option maxRecDepth 100000 in
theorem delete_any (g cap base i j : Nat) (L : List (Int × Int)) (w : World) (h : Own eTh 122 w base (.slice (some ⟨g, 0, none⟩) L.length cap) L) (hi : i < L.length) (hij : j = i + 1) :
    Calls Tryz.prog 106 #[.slice (some ⟨g, 0, none⟩) L.length cap, .int .i64 i, .int .i64 j] w
      fun e w' => e = .returned (.slice (some ⟨g, 0, none⟩) (L.length - 1) cap) ∧ Own eTh 122 w' base (.slice (some ⟨g, 0, none⟩) (L.length - 1) cap) (L.eraseIdx i) ∧ w.grownBy w' (some g) := by
  obtain ⟨i0, hi0, hz0, hz1, hz2⟩ := info_parts Tryz.infoTh
  obtain ⟨hcap, hm⟩ : L.length ≤ cap ∧ cap ≤ 9223372036854775807 := by
    obtain ⟨A, c, hv, hs, _⟩ := h.sl
    injection hv with _ _ hc
    subst hc
    exact ⟨hs.2.1, hs.2.2.1⟩
  have hcell : ∀ q, q < L.length * 2 → ∃ v, (eTh.flat L)[q]? = some v ∧ w.cell? ⟨g, q, none⟩ = some v := by
    intro q hq
    have hl : (eTh.flat L).length = L.length * 2 := Enc.flat_len L
    refine ⟨_, List.getElem?_eq_getElem (by omega), ?_⟩
    have h0 := World.ownsRow.cellAt h q (by rw [show eTh.sz = 2 from rfl]; omega)
    rw [List.getElem?_eq_getElem (by omega)] at h0
    exact h0
  have hfro : ∀ q, w.frozen? ⟨g, q, none⟩ = false := fun q => h.frozen q
  obtain ⟨news, hnews⟩ : ∃ news, news = eTh.flat (L.drop j) := ⟨_, rfl⟩
  have hlen : news.length = (L.length - j) * 2 := by rw [hnews, Enc.flat_len, List.length_drop]; rfl
  obtain ⟨A, hA, hsrc⟩ : ∃ A : Addr, (if cap = j then some (⟨g, 0, none⟩ : Addr) else some ⟨g, j * 2, none⟩) = some A ∧ Hid (∀ t u, news[t]? = some u → w.drew.cell? (A.add t) = some u) := by
    by_cases hc : cap = j
    · refine ⟨⟨g, 0, none⟩, by simp [hc], fun t u hu => ?_⟩
      have h0 : news.length = 0 := by rw [hlen]; omega
      rw [List.length_eq_zero_iff.1 h0] at hu
      simp at hu
    · refine ⟨⟨g, j * 2, none⟩, by simp [hc], fun t u hu => ?_⟩
      have ht : t < (L.length - j) * 2 := by
        have := (List.getElem?_eq_some_iff.1 hu).1
        rwa [hlen] at this
      obtain ⟨v, h1, h2⟩ := hcell (j * 2 + t) (by omega)
      rw [Go.WideShapes.add_plain]
      refine (show w.drew.cell? ⟨g, j * 2 + t, none⟩ = some v from h2).trans ?_
      rw [← h1, ← hu, hnews]
      conv => lhs; rw [← List.take_append_drop j L, Enc.flat_app]
      have hlt : (eTh.flat (L.take j)).length = j * 2 := by rw [Enc.flat_len, List.length_take, show eTh.sz = 2 from rfl]; omega
      rw [List.getElem?_append_right (by omega), hlt, Nat.add_sub_cancel_left]
  have s1 : Hid (news.length = (L.length - j) * 2) := hlen
  have s2 : Hid (∀ u ∈ news, u.oneCell' = true) := by rw [hnews]; exact eTh_one _
  have s3 : Hid (∀ t, t < news.length → (w.drew.cell? ⟨g, 0 + i * 2 + t, none⟩).isSome = true ∧ w.drew.frozen? ⟨g, 0 + i * 2 + t, none⟩ = false) := by
    intro t ht
    rw [hlen] at ht
    obtain ⟨v, _, h2⟩ := hcell (0 + i * 2 + t) (by omega)
    exact ⟨by show (w.cell? _).isSome = true; rw [h2]; rfl, hfro _⟩
  obtain ⟨W1, hW1⟩ : ∃ W1, W1 = w.drew.setCells g (0 + i * 2) news := ⟨_, rfl⟩
  have hiso : ∀ q, q < L.length * 2 → (W1.cell? ⟨g, q, none⟩).isSome = true ∧ W1.frozen? ⟨g, q, none⟩ = false := by
    intro q hq
    obtain ⟨v, _, h2⟩ := hcell q hq
    rw [hW1]
    refine ⟨World.isSome_setCells g news _ _ _ (by show (w.cell? _).isSome = true; rw [h2]; rfl), ?_⟩
    rw [World.frozen?_setCells]
    exact hfro q
  have hcl : ∀ ty, (Builtin.clear_ #[119] ty #[.slice (some ⟨g, (i + (L.length - j)) * 2, none⟩) (L.length - (i + (L.length - j))) (cap - (i + (L.length - j)))]).run Tryz.prog W1 =
      .ok (.tuple #[]) (W1.setCells g ((L.length - 1) * 2) [.int .u32 0, .int .i64 0]) := by
    intro ty
    have e1 : L.length - (i + (L.length - j)) = 1 := by omega
    have e2 : i + (L.length - j) = L.length - 1 := by omega
    rw [e1, e2]
    have hst := run_storeCells_cells (P := Tryz.prog) g ((L.length - 1) * 2) [.int .u32 0, .int .i64 0] 0 W1 (fun t ht => by rw [Nat.add_zero]; exact (hiso _ (by simp at ht; omega)).1) (fun t ht => by rw [Nat.add_zero]; exact (hiso _ (by simp at ht; omega)).2) (by simp [Value.oneCell'])
    simp only [Nat.add_zero] at hst
    have hzc : (Builtin.zeroCells (Value.agg #[.int .u32 0, .int .i64 0]).cells 1).toList = [.int .u32 0, .int .i64 0] := by kernel_rfl
    simp [Builtin.clear_, run_underlying Tryz.underlying119, hzc, hst]
  have hW : Hid (W1 = w.drew.setCells g (0 + i * 2) news) := hW1
  have hic : i ≤ cap := by omega
  have hjc : j ≤ cap := by omega
  have hlt : i < j := by omega
  have hjl : j ≤ L.length := by omega
  have Hij := hide hij
  have Hn := hide hnews
  have H := hide h
  clear hW1 h hcell hfro hnews hlen hiso hij
  go_enter Tryz.func106, Tryz.ntmps106
  go_wp2_with fail
  go_region_law (refine step_append_room rfl (.tmp 22) (.tmp 25) 119 rfl 122 i0 2 Tryz.underlying119 hi0 hz1 g 0 i cap (by simp [Act.eval, Act.put]) A (L.length - j) (cap - j) news (by simp [Act.eval, Act.put]) s1.out hsrc.out s2.out (by omega) s3.out ?_; rw [← hW.out])
  go_wp2
  go_ret
  have e1 : i + (L.length - j) = L.length - 1 := by have := unhide Hij; omega
  rw [e1]
  have hw' : W1.setCells g ((L.length - 1) * 2) [.int .u32 0, .int .i64 0] = (w.drew.setCells g (i * 2) (eTh.flat (L.drop (i + 1)))).setCells g ((L.length - 1) * 2) [.int .u32 0, .int .i64 0] := by
    rw [unhide hW, unhide Hn, unhide Hij, Nat.zero_add]
  refine ⟨rfl, own_delete (w := w.drew) ((unhide H).drewN 1) hi hw', ?_⟩
  rw [hw']
  have k1 := setCells_kept g (eTh.flat (L.drop (i + 1))) (i * 2) w.drew
  have k2 := setCells_kept g [.int .u32 0, .int .i64 0] ((L.length - 1) * 2) (w.drew.setCells g (i * 2) (eTh.flat (L.drop (i + 1))))
  exact ⟨k2.1.trans k1.1, k2.2.1.trans k1.2.1, k2.2.2.1.trans k1.2.2.1, by rw [k2.2.2.2.1, k1.2.2.2.1]; exact Nat.le_refl _, fun k hk hne => (k2.2.2.2.2 k (fun e => hne (by rw [e]))).trans (k1.2.2.2.2 k (fun e => hne (by rw [e])))⟩
end Go.Proofs.YtnpgjdhigcjihaaGreatDoor
