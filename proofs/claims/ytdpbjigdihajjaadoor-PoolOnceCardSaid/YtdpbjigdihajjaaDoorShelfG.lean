/- Walks of package shelf: New. -/
import Derived.Test.YtdpbjigdihajjaaDoorShelfF
namespace Go.Proofs.YtdpbjigdihajjaaDoor
open Go.RowKit

/-- So many buckets. -/
def nB (b : Int) : Nat := (min (max b 1) 100).toNat

theorem Tryd.infoBk : (Tryd.prog.info? 119).map (fun i => (i.zero, i.size, i.bytes)) = some (some (.slice none 0 0), 1, 24) := by kernel_rfl
theorem shelf_made (w : World) (c : Int) (h0 : 1 ≤ c) (h1 : c ≤ 100) :
    ∃ W, (Instr.makeSlice 101 (.int .i64 c) (.int .i64 c)).run Tryd.prog w = .ok (.slice (some ⟨w.heap.size, 0, none⟩) c.toNat c.toNat) W ∧ Below w.heap.size w W ∧ W.heap.size = w.heap.size + 1 ∧
      ShelfIs (W.alloc (.cells #[.slice (some ⟨w.heap.size, 0, none⟩) c.toNat c.toNat] 103)) (fun k => w.heap.size ≤ k) (.pointer (some ⟨w.heap.size + 1, 0, none⟩)) (List.replicate c.toNat []) := by
  obtain ⟨i0, hi, hz0, hz1, hz2⟩ := info_parts Tryd.infoBk
  have hr := run_makeSlice (P := Tryd.prog) (w := w) 101 119 i0 _ Tryd.underlying101 hi hz0 .i64 .i64 c c (by omega) (Int.le_refl _) (by rw [hz1]; omega) (by rw [hz2]; omega) (by omega)
  rw [hz1, Nat.mul_one] at hr
  refine ⟨_, hr, (Below.refl _ _).alloc (Nat.le_refl _) _, by simp, w.heap.size + 1, w.heap.size, List.replicate c.toNat (.slice none 0 0), rfl, by simp, by simp; omega, by omega, Nat.le_refl _, by omega, ?_, by simp; omega, by simp; omega, by simp, ?_, ?_, ?_, ?_⟩
  · simp only [List.length_replicate]
    simp
  · have hm : (madeCells (Value.slice none 0 0).cells c.toNat) = (List.replicate c.toNat (Value.slice none 0 0)).toArray := by
      apply Array.ext_getElem?
      intro k
      by_cases hk : k < c.toNat
      · simp [madeCells, Value.cells, hk, Nat.mod_one]
      · simp [madeCells, Value.cells, hk, Nat.mod_one]
    rw [hm]
    rw [Below.heap_alloc _ _ _ (by simp), heap_alloc_new]
  · intro i h h'
    simp only [List.getElem_replicate]
    exact Own.nil _ _ _ _
  · intro v hv k hk
    rw [List.eq_of_mem_replicate hv] at hk
    simp [Value.ownBlock] at hk
  · intro i j h h' _ k hk
    simp [Value.ownBlock] at hk
set_option maxHeartbeats 1000000 in
set_option maxRecDepth 100000 in
theorem new_any (b : Int) (w : World) :
    Calls Tryd.prog 27 #[.int .i64 b] w fun e w' => ∃ v, e = .returned v ∧ ShelfIs w' (fun k => w.heap.size ≤ k) v (List.replicate (nB b) []) ∧ Below w.heap.size w w' := by
  have hc : (b < 1 ∧ nB b = (1 : Int).toNat) ∨ ((1 ≤ b ∧ b ≤ 100) ∧ nB b = b.toNat) ∨ (100 < b ∧ nB b = (100 : Int).toNat) := by unfold nB; omega
  rcases hc with ⟨h, hn⟩ | ⟨⟨h, h'⟩, hn⟩ | ⟨h, hn⟩
  · obtain ⟨W, hr, HB, hs, hS⟩ := shelf_made w 1 (by omega) (by omega)
    rw [hn]
    have HS := hide hS
    clear hn hS
    go_enter Tryd.func27, Tryd.ntmps27
    go_wp2
    go_ret
    exact ⟨_, rfl, unhide HS, HB.alloc (by omega) _⟩
  · obtain ⟨W, hr, HB, hs, hS⟩ := shelf_made w b (by omega) (by omega)
    rw [hn]
    have HS := hide hS
    clear hn hS
    go_enter Tryd.func27, Tryd.ntmps27
    go_wp2
    go_ret
    exact ⟨_, rfl, unhide HS, HB.alloc (by omega) _⟩
  · obtain ⟨W, hr, HB, hs, hS⟩ := shelf_made w 100 (by omega) (by omega)
    rw [hn]
    have HS := hide hS
    clear hn hS
    go_enter Tryd.func27, Tryd.ntmps27
    go_wp2
    go_ret
    exact ⟨_, rfl, unhide HS, HB.alloc (by omega) _⟩
end Go.Proofs.YtdpbjigdihajjaaDoor
