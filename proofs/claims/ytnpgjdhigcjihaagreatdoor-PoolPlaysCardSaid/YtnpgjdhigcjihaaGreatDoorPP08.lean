/- Joined texts: ShelfA, ShelfB. -/
import Derived.Test.YtnpgjdhigcjihaaGreatDoorPP07
import Derived.Deep.RegionHeld3
/- Walks of package shelf: the bucket, none, where a thing stands. -/
namespace Go.Proofs.YtnpgjdhigcjihaaGreatDoor
open Go.RowKit

theorem bucket_any (x n : Int) (w : World) (h0 : 0 ≤ x) (h1 : x < 4294967296) (h2 : 1 ≤ n) (h3 : n ≤ 100) :
    Calls Tryz.prog 83 #[.int .u32 x, .int .i64 n] w fun e w' => e = .returned (.int .i64 (x % n)) ∧ w' = w := by
  have b0 : 0 ≤ x % n := Int.emod_nonneg _ (by omega)
  have b1 : x % n < n := Int.emod_lt_of_pos _ (by omega)
  go_enter Tryz.func83, Tryz.ntmps83
  go_wp2
  go_ret
  refine ⟨ret_int ?_, rfl⟩
  simp

theorem none_any {F : Nat → Prop} {s : Value} {bs : List (List (Int × Int))} (w : World) (h : ShelfIs w F s bs) :
    Calls Tryz.prog 82 #[s] w fun e w' => e = .returned (.bool false) ∧ w' = w := by
  obtain ⟨p, g, vs, rfl, h2, h3, h4, h5, h6, h7, h8, _⟩ := h
  have q1 : ((bs.length : Int) == 0) = false := beq_eq_false_iff_ne.2 (by omega)
  go_enter Tryz.func82, Tryz.ntmps82
  go_wp2
  go_ret
  exact ⟨rfl, rfl⟩

/-- The first place of t; -1: none. -/
def ix (L : List (Int × Int)) (t : Int × Int) : Int := if t ∈ L then (L.idxOf t : Int) else -1
theorem ix_at {L : List (Int × Int)} {t : Int × Int} {k : Nat} (hk : k < L.length) (h : L[k] = t) (hn : ∀ j (hj : j < L.length), j < k → L[j] ≠ t) : ix L t = k := by
  have hm : t ∈ L := h ▸ List.getElem_mem hk
  unfold ix
  rw [if_pos hm]
  have h1 : L.idxOf t < L.length := List.idxOf_lt_length_of_mem hm
  have h2 : L[L.idxOf t] = t := List.getElem_idxOf h1
  rcases Nat.lt_trichotomy (L.idxOf t) k with h3 | h3 | h3
  · exact absurd h2 (hn _ h1 h3)
  · rw [h3]
  · exfalso
    have := List.not_of_lt_findIdx (p := (· == t)) (xs := L) (i := k) h3
    simp [h] at this
theorem ix_none {L : List (Int × Int)} {t : Int × Int} (hn : ∀ j (hj : j < L.length), L[j] ≠ t) : ix L t = -1 := by
  unfold ix
  rw [if_neg]
  intro hm
  obtain ⟨j, hj, e⟩ := List.mem_iff_getElem.1 hm
  exact hn j hj e

set_option maxHeartbeats 1000000 in
theorem index_any (A : Option Addr) (n c : Nat) (L : List (Int × Int)) (x id : Int) (w : World) (hs : Sl eTh w A n c L) :
    Calls Tryz.prog 121 #[.slice A n c, .agg #[.int .u32 x, .int .i64 id]] w
      fun e w' => e = .returned (.int .i64 (ix L (x, id))) ∧ Below w.heap.size w w' := by
  obtain rfl := hs.1
  have hc1 := hs.2.1
  have hc2 := hs.2.2.1
  have B0 : Below w.heap.size w (w.alloc (.cells #[.int .u32 x, .int .i64 id] 122)) := (Below.refl _ _).alloc (Nat.le_refl _) _
  have c0 : (w.alloc (.cells #[.int .u32 x, .int .i64 id] 122)).cell? ⟨w.heap.size, 0, none⟩ = some (.int .u32 x) := World.cell?_alloc_at _ _ _ _ rfl
  have c1 : (w.alloc (.cells #[.int .u32 x, .int .i64 id] 122)).cell? ⟨w.heap.size, 1, none⟩ = some (.int .i64 id) := World.cell?_alloc_at _ _ _ _ rfl
  have s0 : w.heap.size < (w.alloc (.cells #[.int .u32 x, .int .i64 id] 122)).heap.size := by simp
  go_enter Tryz.func121, Tryz.ntmps121
  go_wp2
  go_loopw [8] (fun i wr => ∃ k : Nat, k ≤ L.length ∧ i = .int .i64 k ∧ (∀ j (hj : j < L.length), j < k → L[j] ≠ (x, id)) ∧ Below w.heap.size w wr ∧ w.heap.size < wr.heap.size ∧
      wr.cell? ⟨w.heap.size, 0, none⟩ = some (.int .u32 x) ∧ wr.cell? ⟨w.heap.size, 1, none⟩ = some (.int .i64 id))
    (fun i _ => L.length - (intOf i).toNat)
  case atStart => exact ⟨0, Nat.zero_le _, rfl, fun j _ hj => by omega, B0, s0, c0, c1⟩
  case round =>
    obtain ⟨k, hk, rfl, hne, HB, hsz, d0, d1⟩ := hrel
    by_cases hlt : k < L.length
    · obtain ⟨b, off, hA', hb, hrd⟩ := hs.2.2.2 (by omega)
      subst hA'
      have x0 : wr.cell? ⟨b, off + k * 2, none⟩ = some (.int .u32 L[k].1) := by rw [(bcell HB).1 _ _ hb]; simpa [eTh] using hrd k hlt 0 (by decide)
      have x1 : wr.cell? ⟨b, off + k * 2 + 1, none⟩ = some (.int .i64 L[k].2) := by rw [(bcell HB).1 _ _ hb]; simpa [eTh] using hrd k hlt 1 (by decide)
      have Hne := hide hne
      clear hne
      by_cases he : L[k] = (x, id)
      · have e1 : L[k].1 = x := by rw [he]
        have e2 : L[k].2 = id := by rw [he]
        rw [e1] at x0
        rw [e2] at x1
        have He := hide he
        clear he e1 e2
        go_wp2
        go_quiet (fail)
        go_wp2
        go_ret
        refine ⟨ret_int (ix_at hlt (unhide He) (unhide Hne)).symm, below_drewN HB _⟩
      · obtain ⟨y, hy⟩ : ∃ y, y = L[k] := ⟨_, rfl⟩
        rw [← hy] at x0 x1 he
        have Hy := hide hy
        have He := hide he
        clear he hy
        by_cases e1 : x = y.1
        · have e2 : (id == y.2) = false := beq_eq_false_iff_ne.2 fun e => unhide He (Prod.ext e1.symm e.symm)
          have E1 := hide e1
          rw [← e1] at x0
          clear e1
          go_wp2
          go_quiet (fail)
          go_wp2
          go_roundw
          case rel =>
            refine ⟨k + 1, by omega, by go_num, fun j hj hjk => ?_, below_drewN HB _, by simpa using hsz, d0, d1⟩
            rcases Nat.lt_or_ge j k with h | h
            · exact unhide Hne j hj h
            · obtain rfl : j = k := by omega
              rw [← unhide Hy]; exact unhide He
          case measure => simp [intOf]; omega
        · have e2 : (x == y.1) = false := beq_eq_false_iff_ne.2 e1
          have E1 := hide e1
          clear e1
          go_wp2
          go_quiet (fail)
          go_wp2
          go_roundw
          case rel =>
            refine ⟨k + 1, by omega, by go_num, fun j hj hjk => ?_, below_drewN HB _, by simpa using hsz, d0, d1⟩
            rcases Nat.lt_or_ge j k with h | h
            · exact unhide Hne j hj h
            · obtain rfl : j = k := by omega
              rw [← unhide Hy]; exact unhide He
          case measure => simp [intOf]; omega
    · have HN := hide (ix_none (L := L) (t := (x, id)) fun j hj => hne j hj (by omega))
      clear hne
      go_wp2
      go_ret
      exact ⟨ret_int (unhide HN).symm, HB⟩
end Go.Proofs.YtnpgjdhigcjihaaGreatDoor
/- Walks of package shelf: at. -/
namespace Go.Proofs.YtnpgjdhigcjihaaGreatDoor
open Go.RowKit

/-- The number of the bucket. -/
def bk (bs : List (List (Int × Int))) (x : Int) : Nat := (x % (bs.length : Int)).toNat
theorem bk_lt {bs : List (List (Int × Int))} {x : Int} (h : 0 < bs.length) : bk bs x < bs.length := by
  have b0 : 0 ≤ x % (bs.length : Int) := Int.emod_nonneg _ (by omega)
  have b1 : x % (bs.length : Int) < bs.length := Int.emod_lt_of_pos _ (by omega)
  unfold bk; omega
theorem bk_eq {bs : List (List (Int × Int))} {x : Int} (h : 0 < bs.length) : x % (bs.length : Int) = (bk bs x : Int) := by
  have b0 : 0 ≤ x % (bs.length : Int) := Int.emod_nonneg _ (by omega)
  unfold bk; omega

theorem Sl.drewN {α : Type} {E : Enc α} {w : World} {A : Option Addr} {n c : Nat} {xs : List α} (h : Sl E w A n c xs) (m : Nat) : Sl E (w.drewN m) A n c xs := h

set_option maxHeartbeats 1000000 in
theorem at_any {F : Nat → Prop} {s : Value} {bs : List (List (Int × Int))} (x id : Int) (w : World) (h : ShelfIs w F s bs) (h0 : 0 ≤ x) (h1 : x < 4294967296) :
    Calls Tryz.prog 105 #[s, .agg #[.int .u32 x, .int .i64 id]] w
      fun e w' => e = .returned (.tuple #[.int .i64 (bk bs x), .int .i64 (ix (bs.getD (bk bs x) []) (x, id))]) ∧ Below w.heap.size w w' := by
  obtain ⟨p, g, vs, rfl, h2, h3, h4, h5, h6, h7, h8, h9, h10, h11, h12, h13, h14⟩ := h
  obtain ⟨k, hk⟩ : ∃ k, k = bk bs x := ⟨_, rfl⟩
  have hkb : k < bs.length := by rw [hk]; exact bk_lt h8
  have hkv : k < vs.length := by omega
  have hxk : x % (bs.length : Int) = (k : Int) := by rw [hk]; exact bk_eq h8
  rw [← hk, List.getD_eq_getElem?_getD, List.getElem?_eq_getElem hkb, Option.getD_some]
  obtain ⟨A, c, hv, hsl, _⟩ := (h12 k hkb hkv).sl
  obtain ⟨W0, hW0⟩ : ∃ W0, W0 = w.alloc (.cells #[.int .u32 x, .int .i64 id] 122) := ⟨_, rfl⟩
  have B0 : Below w.heap.size w W0 := by rw [hW0]; exact (Below.refl _ _).alloc (Nat.le_refl _) _
  have c0 : W0.cell? ⟨w.heap.size, 0, none⟩ = some (.int .u32 x) := by rw [hW0]; exact World.cell?_alloc_at _ _ _ _ rfl
  have c1 : W0.cell? ⟨w.heap.size, 1, none⟩ = some (.int .i64 id) := by rw [hW0]; exact World.cell?_alloc_at _ _ _ _ rfl
  have c2 : W0.cell? ⟨p, 0, none⟩ = some (.slice (some ⟨g, 0, none⟩) bs.length bs.length) := ((bcell B0).1 p 0 h2).trans h7
  have c3 : W0.cell? ⟨g, k, none⟩ = some (.slice A bs[k].length c) := by
    rw [(bcell B0).1 g k h3, ← hv]
    simp [World.cell?, h11, hkv]
  have hsl0 : Sl eTh W0 A bs[k].length c bs[k] := hsl.below B0
  have s0 : w.heap.size < W0.heap.size := by rw [hW0]; simp
  have Hxk := hide hxk
  have Hk := hide hk
  clear hk hxk h12 h13 h14 h11 h7 hv hsl
  go_enter Tryz.func105, Tryz.ntmps105
  go_wp2
  rw [← hW0]
  clear hW0
  go_quiet ((go_at_call 83; refine Calls.quiet_of_same (bucket_any _ _ _ (by omega) (by omega) (by omega) (by omega))))
  rw [unhide Hxk]
  go_wp2
  go_region_held3 (fun w' => w'.cell? ⟨w.heap.size, 0, none⟩ = some (.int .u32 x) ∧ w'.cell? ⟨w.heap.size, 1, none⟩ = some (.int .i64 id) ∧ w'.cell? ⟨p, 0, none⟩ = some (.slice (some ⟨g, 0, none⟩) bs.length bs.length) ∧ w'.cell? ⟨g, k, none⟩ = some (.slice A bs[k].length c))
    (first | go_keep | exact ⟨((bcell HB).1 w.heap.size 0 s0).trans c0, ((bcell HB).1 w.heap.size 1 s0).trans c1, ((bcell HB).1 p 0 (Nat.lt_trans h2 s0)).trans c2, ((bcell HB).1 g k (Nat.lt_trans h3 s0)).trans c3⟩)
    ((go_at_call 121; refine (index_any A _ c bs[k] x id _ (Sl.drewN hsl0 _)).mono ?_; rintro e w1 ⟨rfl, HB⟩))
  go_wp2
  go_ret2
  exact ⟨rfl, (below_drewN B0 _).trans (HB.mono (Nat.le_of_lt s0))⟩
end Go.Proofs.YtnpgjdhigcjihaaGreatDoor
