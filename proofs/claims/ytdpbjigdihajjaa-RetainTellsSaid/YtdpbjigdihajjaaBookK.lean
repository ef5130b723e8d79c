/- The book's answer: each list is as it was, none shares memory with another one. -/
import Derived.Test.YtdpbjigdihajjaaBookJ
namespace Go.Proofs.Ytdpbjigdihajjaa
open Go.RowKit

theorem blk_cell {w : World} {b : Nat} {cs : Array Value} {T : TypeId} {fr : Nat × Nat} (h : w.heap[b]? = some (.cells cs T fr)) (i : Nat) (v : Value) (hv : cs[i]? = some v) : w.cell? ⟨b, i, none⟩ = some v := by
  simp [World.cell?, h, hv]
set_option maxHeartbeats 8000000 in
set_option maxRecDepth 100000 in
theorem apart_ints (b B : Nat) (X Y : Value) (vs us : List Value) (Ls : List (List Int)) (w : World) (h : BookI w b B X Y vs us Ls) (hn : Ls.length ≤ 250) (hl : ∀ i, (Ls.getD i []).length ≤ 99000) :
    Calls Try.prog 16 #[.pointer (some ⟨b, 0, none⟩)] w fun e w' => e = .returned (.bool true) ∧ Below b w w' := by
  have hlt := h.lt
  have hbw := h.bw
  have H := hide h
  have Hl := hide hl
  have Hblk := hide h.blk
  clear h hl
  go_enter Try.func16, Try.ntmps16
  go_wp2_with fail
  refine (still0Texts b _ (blk_cell (unhide Hblk) 0 _ rfl)).mono ?_
  rintro e w' ⟨rfl, hw⟩; obtain rfl := hw.symm
  go_wp2_with fail
  refine (still_ints b X Y vs us Ls _ (blk_cell (unhide Hblk) 2 _ rfl) (blk_cell (unhide Hblk) 3 _ rfl) (unhide H).rows.read (unhide H).copy.read (by omega)).mono ?_
  rintro e w1 ⟨rfl, q, hq⟩
  have B1 : Below b w w1 := by rw [hq]; exact below_drewN (Below.refl _ _) _
  have e1 : w1.heap[b]? = w.heap[b]? := by rw [hq]; rfl
  have blk1 := e1.trans (unhide Hblk)
  have R1 : RowsI w1 B X vs Ls := by rw [hq]; exact (unhide H).rows.kept fun _ _ => rfl
  have s1 : B ≤ w1.heap.size := by rw [hq]; exact hbw
  have Hb1 := hide blk1
  have HR1 := hide R1
  clear hq blk1 R1 e1
  go_wp2_with fail
  refine (still0Spans b _ (blk_cell (unhide Hb1) 4 _ rfl)).mono ?_
  rintro e w' ⟨rfl, hw⟩; obtain rfl := hw.symm
  go_wp2_with fail
  refine (still0Extents b _ (blk_cell (unhide Hb1) 6 _ rfl)).mono ?_
  rintro e w' ⟨rfl, hw⟩; obtain rfl := hw.symm
  go_wp2_with fail
  refine (still0Shelves b _ (blk_cell (unhide Hb1) 8 _ rfl)).mono ?_
  rintro e w' ⟨rfl, hw⟩; obtain rfl := hw.symm
  go_wp2_with fail
  refine (still0Pairs b _ (blk_cell (unhide Hb1) 10 _ rfl)).mono ?_
  rintro e w' ⟨rfl, hw⟩; obtain rfl := hw.symm
  go_wp2_with fail
  refine (still0Points b _ (blk_cell (unhide Hb1) 12 _ rfl)).mono ?_
  rintro e w' ⟨rfl, hw⟩; obtain rfl := hw.symm
  go_wp2_with fail
  refine (put0Points b _ (blk_cell (unhide Hb1) 12 _ rfl)).mono ?_
  rintro e w' ⟨rfl, hw⟩; obtain rfl := hw.symm
  go_wp2_with fail
  refine (put0Texts b _ (blk_cell (unhide Hb1) 0 _ rfl)).mono ?_
  rintro e w' ⟨rfl, hw⟩; obtain rfl := hw.symm
  go_wp2_with fail
  refine (put_ints b B X vs Ls _ (blk_cell (unhide Hb1) 2 _ rfl) hlt s1 (unhide HR1) (by omega) (fun i => Nat.le_trans (unhide Hl i) (by omega))).mono ?_
  rintro e w2 ⟨rfl, ⟨Ms, R2, hM, hMl, hMn⟩, HB2⟩
  have B2 : Below b w w2 := B1.trans (HB2.mono (Nat.le_of_lt hlt))
  have blk2 := (HB2.block b hlt).trans (unhide Hb1)
  have Hb2 := hide blk2
  have s2 : B ≤ w2.heap.size := Nat.le_trans s1 HB2.size
  have HR2 := hide R2
  have HM := hide hM
  have hMl2 : ∀ i, (Ms.getD i []).length ≤ 99000 := fun i => by rw [hMn i]; exact unhide Hl i
  have hMlen : Ms.length ≤ 250 := by omega
  have HMl := hide hMl2
  clear blk2 R2 hM hMn hMl HB2 hMl2
  go_wp2_with fail
  refine (put0Spans b _ (blk_cell (unhide Hb2) 4 _ rfl)).mono ?_
  rintro e w' ⟨rfl, hw⟩; obtain rfl := hw.symm
  go_wp2_with fail
  refine (put0Extents b _ (blk_cell (unhide Hb2) 6 _ rfl)).mono ?_
  rintro e w' ⟨rfl, hw⟩; obtain rfl := hw.symm
  go_wp2_with fail
  refine (put0Shelves b _ (blk_cell (unhide Hb2) 8 _ rfl)).mono ?_
  rintro e w' ⟨rfl, hw⟩; obtain rfl := hw.symm
  go_wp2_with fail
  refine (put0Pairs b _ (blk_cell (unhide Hb2) 10 _ rfl)).mono ?_
  rintro e w' ⟨rfl, hw⟩; obtain rfl := hw.symm
  go_wp2_with fail
  refine (grow0Texts b _ (blk_cell (unhide Hb2) 0 _ rfl)).mono ?_
  rintro e w' ⟨rfl, hw⟩; obtain rfl := hw.symm
  go_wp2_with fail
  refine (grow_ints b B X vs Ms _ (blk_cell (unhide Hb2) 2 _ rfl) hlt s2 (unhide HR2) (unhide HM) (by omega) (fun i => Nat.le_trans (unhide HMl i) (by omega))).mono ?_
  rintro e w3 ⟨⟨G, gs, rfl, rd3, rg3⟩, HB3⟩
  have B3 : Below b w w3 := B2.trans (HB3.mono (Nat.le_of_lt hlt))
  have blk3 := (HB3.block b hlt).trans (unhide Hb2)
  have Hb3 := hide blk3
  obtain ⟨AG, cG, ng, eG⟩ : ∃ A c n, G = .slice A n c := by
    obtain ⟨A, c, h, _⟩ := rg3
    exact ⟨A, c, _, h⟩
  subst eG
  have Hrd3 := hide rd3
  have Hrg3 := hide rg3
  clear blk3 HB3 rd3 rg3
  go_wp2_with fail
  refine (grow0Spans b _ (blk_cell (unhide Hb3) 4 _ rfl)).mono ?_
  rintro e w' ⟨rfl, hw⟩; obtain rfl := hw.symm
  go_wp2_with fail
  refine (grow0Extents b _ (blk_cell (unhide Hb3) 6 _ rfl)).mono ?_
  rintro e w' ⟨rfl, hw⟩; obtain rfl := hw.symm
  go_wp2_with fail
  refine (grow0Shelves b _ (blk_cell (unhide Hb3) 8 _ rfl)).mono ?_
  rintro e w' ⟨rfl, hw⟩; obtain rfl := hw.symm
  go_wp2_with fail
  refine (grow0Pairs b _ (blk_cell (unhide Hb3) 10 _ rfl)).mono ?_
  rintro e w' ⟨rfl, hw⟩; obtain rfl := hw.symm
  go_wp2_with fail
  refine (grow0Points b _ (blk_cell (unhide Hb3) 12 _ rfl)).mono ?_
  rintro e w' ⟨rfl, hw⟩; obtain rfl := hw.symm
  have r0 := blk_cell (unhide Hb3) 0 _ rfl
  go_wp2_with fail
  refine (marked0Texts _).mono ?_
  rintro e w' ⟨rfl, hw⟩; obtain rfl := hw.symm
  go_wp2_with fail
  refine (marked0Texts _).mono ?_
  rintro e w' ⟨rfl, hw⟩; obtain rfl := hw.symm
  go_wp2_with fail
  have hg6 : ∀ i (h : i < (grownInts Ms).length), (grownInts Ms)[i].length ≤ 1000000 := fun i h => by
    have h' : i < Ms.length := by rw [grownInts_len] at h; exact h
    rw [grownInts_at h' h, marks_len]
    have := unhide HMl i
    rw [getD_at h'] at this
    omega
  have hm6 : ∀ i (h : i < Ms.length), Ms[i].length ≤ 1000000 := fun i h => by
    have := unhide HMl i
    rw [getD_at h] at this
    omega
  have Hg6 := hide hg6
  have Hm6 := hide hm6
  clear hg6 hm6
  have hgl : (grownInts Ms).length ≤ 1000 := by rw [grownInts_len]; omega
  have hmi := marked_ints (.slice AG ng cG) gs (grownInts Ms) w3 (unhide Hrg3) grownInts_marked hgl (unhide Hg6)
  have Hmi := hide hmi
  clear hmi hgl
  refine (unhide Hmi).mono ?_
  rintro e w4 ⟨rfl, HB4⟩
  have B4 : Below b w w4 := B3.trans (HB4.mono (by have := B3.size; omega))
  have hb3 : b < w3.heap.size := by have := B3.size; omega
  have blk4 := (HB4.block b hb3).trans (unhide Hb3)
  have Hb4 := hide blk4
  have r2 := blk_cell blk4 2 _ rfl
  have Hrd4 := hide ((unhide Hrd3).below HB4)
  clear blk4 HB4
  go_wp2_with fail
  refine (marked_ints _ vs Ms _ (unhide Hrd4) (unhide HM) (by omega) (unhide Hm6)).mono ?_
  rintro e w5 ⟨rfl, HB5⟩
  have B5 : Below b w w5 := B4.trans (HB5.mono (by have := B4.size; omega))
  have blk5 := (HB5.block b (by have := B4.size; omega)).trans (unhide Hb4)
  have r4 := blk_cell blk5 4 _ rfl
  have r6 := blk_cell blk5 6 _ rfl
  have r8 := blk_cell blk5 8 _ rfl
  have r10 := blk_cell blk5 10 _ rfl
  have r12 := blk_cell blk5 12 _ rfl
  clear blk5 HB5
  go_wp2_with fail
  refine (marked0Spans _).mono ?_
  rintro e w' ⟨rfl, hw⟩; obtain rfl := hw.symm
  go_wp2_with fail
  refine (marked0Spans _).mono ?_
  rintro e w' ⟨rfl, hw⟩; obtain rfl := hw.symm
  go_wp2_with fail
  refine (marked0Extents _).mono ?_
  rintro e w' ⟨rfl, hw⟩; obtain rfl := hw.symm
  go_wp2_with fail
  refine (marked0Extents _).mono ?_
  rintro e w' ⟨rfl, hw⟩; obtain rfl := hw.symm
  go_wp2_with fail
  refine (marked0Shelves _).mono ?_
  rintro e w' ⟨rfl, hw⟩; obtain rfl := hw.symm
  go_wp2_with fail
  refine (marked0Shelves _).mono ?_
  rintro e w' ⟨rfl, hw⟩; obtain rfl := hw.symm
  go_wp2_with fail
  refine (marked0Pairs _).mono ?_
  rintro e w' ⟨rfl, hw⟩; obtain rfl := hw.symm
  go_wp2_with fail
  refine (marked0Pairs _).mono ?_
  rintro e w' ⟨rfl, hw⟩; obtain rfl := hw.symm
  go_wp2_with fail
  refine (marked0Points _).mono ?_
  rintro e w' ⟨rfl, hw⟩; obtain rfl := hw.symm
  go_wp2_with fail
  refine (marked0Points _).mono ?_
  rintro e w' ⟨rfl, hw⟩; obtain rfl := hw.symm
  go_wp2
  go_ret
  exact ⟨rfl, B5⟩
end Go.Proofs.Ytdpbjigdihajjaa
