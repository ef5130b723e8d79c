/- Walks of package shelf: at. -/
import Derived.Test.YtdpbjigdihajjaaDoorShelfA
namespace Go.Proofs.YtdpbjigdihajjaaDoor
open Go.RowKit

/-- The number of the bucket. -/
def bk (bs : List (List (Int × Int))) (x : Int) : Nat := (x % (bs.length : Int)).toNat
theorem bk_lt {bs : List (List (Int × Int))} {x : Int} (h : 0 < bs.length) : bk bs x < bs.length := by
  have b0 : 0 ≤ x % (bs.length : Int) := Int.emod_nonneg _ (by omega)
  have b1 : x % (bs.length : Int) < bs.length := Int.emod_lt_of_pos _ (by omega)
  unfold bk; omega
theorem bk_eq {bs : List (List (Int × Int))} {x : Int} (h : 0 < bs.length) : x % (bs.length : Int) = (bk bs x : Int) := by
  have b0 : 0 ≤ x % (bs.length : Int) := Int.emod_nonneg _ (by omega)
  unfold bk; omega

theorem Sl.drewN {α : Type} {E : Enc α} {w : World} {A : Option Addr} {n c : Nat} {xs : List α} (h : Sl E w A n c xs) (m : Nat) : Sl E (w.drewN m) A n c xs := h

set_option maxHeartbeats 1000000 in
theorem at_any {F : Nat → Prop} {s : Value} {bs : List (List (Int × Int))} (x id : Int) (w : World) (h : ShelfIs w F s bs) (h0 : 0 ≤ x) (h1 : x < 4294967296) :
    Calls Tryd.prog 79 #[s, .agg #[.int .u32 x, .int .i64 id]] w
      fun e w' => e = .returned (.tuple #[.int .i64 (bk bs x), .int .i64 (ix (bs.getD (bk bs x) []) (x, id))]) ∧ Below w.heap.size w w' := by
  obtain ⟨p, g, vs, rfl, h2, h3, h4, h5, h6, h7, h8, h9, h10, h11, h12, h13, h14⟩ := h
  obtain ⟨k, hk⟩ : ∃ k, k = bk bs x := ⟨_, rfl⟩
  have hkb : k < bs.length := by rw [hk]; exact bk_lt h8
  have hkv : k < vs.length := by omega
  have hxk : x % (bs.length : Int) = (k : Int) := by rw [hk]; exact bk_eq h8
  rw [← hk, List.getD_eq_getElem?_getD, List.getElem?_eq_getElem hkb, Option.getD_some]
  obtain ⟨A, c, hv, hsl, _⟩ := (h12 k hkb hkv).sl
  obtain ⟨W0, hW0⟩ : ∃ W0, W0 = w.alloc (.cells #[.int .u32 x, .int .i64 id] 122) := ⟨_, rfl⟩
  have B0 : Below w.heap.size w W0 := by rw [hW0]; exact (Below.refl _ _).alloc (Nat.le_refl _) _
  have c0 : W0.cell? ⟨w.heap.size, 0, none⟩ = some (.int .u32 x) := by rw [hW0]; exact World.cell?_alloc_at _ _ _ _ rfl
  have c1 : W0.cell? ⟨w.heap.size, 1, none⟩ = some (.int .i64 id) := by rw [hW0]; exact World.cell?_alloc_at _ _ _ _ rfl
  have c2 : W0.cell? ⟨p, 0, none⟩ = some (.slice (some ⟨g, 0, none⟩) bs.length bs.length) := ((bcell B0).1 p 0 h2).trans h7
  have c3 : W0.cell? ⟨g, k, none⟩ = some (.slice A bs[k].length c) := by
    rw [(bcell B0).1 g k h3, ← hv]
    simp [World.cell?, h11, hkv]
  have hsl0 : Sl eTh W0 A bs[k].length c bs[k] := hsl.below B0
  have s0 : w.heap.size < W0.heap.size := by rw [hW0]; simp
  have Hxk := hide hxk
  have Hk := hide hk
  clear hk hxk h12 h13 h14 h11 h7 hv hsl
  go_enter Tryd.func79, Tryd.ntmps79
  go_wp2
  rw [← hW0]
  clear hW0
  go_quiet ((go_at_call 60; refine Calls.quiet_of_same (bucket_any _ _ _ (by omega) (by omega) (by omega) (by omega))))
  rw [unhide Hxk]
  go_wp2
  go_region_held3 (fun w' => w'.cell? ⟨w.heap.size, 0, none⟩ = some (.int .u32 x) ∧ w'.cell? ⟨w.heap.size, 1, none⟩ = some (.int .i64 id) ∧ w'.cell? ⟨p, 0, none⟩ = some (.slice (some ⟨g, 0, none⟩) bs.length bs.length) ∧ w'.cell? ⟨g, k, none⟩ = some (.slice A bs[k].length c))
    (first | go_keep | exact ⟨((bcell HB).1 w.heap.size 0 s0).trans c0, ((bcell HB).1 w.heap.size 1 s0).trans c1, ((bcell HB).1 p 0 (Nat.lt_trans h2 s0)).trans c2, ((bcell HB).1 g k (Nat.lt_trans h3 s0)).trans c3⟩)
    ((go_at_call 106; refine (index_any A _ c bs[k] x id _ (Sl.drewN hsl0 _)).mono ?_; rintro e w1 ⟨rfl, HB⟩))
  go_wp2
  go_ret2
  exact ⟨rfl, (below_drewN B0 _).trans (HB.mono (Nat.le_of_lt s0))⟩
end Go.Proofs.YtdpbjigdihajjaaDoor
