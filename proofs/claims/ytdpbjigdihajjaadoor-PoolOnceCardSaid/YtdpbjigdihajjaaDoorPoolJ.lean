/- Walk of package pool: Put. -/
import Derived.Test.YtdpbjigdihajjaaDoorPoolI
namespace Go.Proofs.YtdpbjigdihajjaaDoor
open Go.RowKit

section
variable {w : World} {G : Nat → Prop} {s : Value} {most : Int} {es : List (Int × Blk)} {bs : List (List (Int × Int))}
set_option maxRecDepth 100000 in
theorem pput_bad (b : ByteArray) (h : PoolIs w G s most es bs) (hb : b.size ≠ 8) :
    Calls Tryd.prog 10 #[s, .string b] w fun e w' => e = .returned (.tuple #[.int .i64 0, .int .i64 1]) ∧ w' = w := by
  have HP := hide h
  obtain ⟨p, rfl⟩ := h.ptr
  have q1 : ((b.size : Int) != 8) = true := by simp; omega
  have q2 : ((b.size : Int) == 8) = false := beq_eq_false_iff_ne.2 (by omega)
  clear h hb
  go_enter Tryd.func10, Tryd.ntmps10
  go_wp2_with (go_at_call 28; refine (pnone_any (unhide HP)).mono ?_; rintro e w' ⟨he, hw⟩; subst he; subst hw)
  go_ret2
  exact ⟨rfl, rfl⟩
set_option maxRecDepth 100000 in
theorem pput_zero (b : ByteArray) (h : PoolIs w G s most es bs) (hb : b.size = 8) (hz : zeroB b = true) :
    Calls Tryd.prog 10 #[s, .string b] w fun e w' => e = .returned (.tuple #[.int .i64 0, .int .i64 0]) ∧ PoolIs w' G s most es bs ∧ Below w.heap.size w w' := by
  have HP := hide h
  obtain ⟨p, rfl⟩ := h.ptr
  have q1 : ((b.size : Int) != 8) = false := by simp; omega
  have q2 : ((b.size : Int) == 8) = true := beq_iff_eq.2 (by omega)
  have Hz := hide hz
  have hb8 : b.size ≤ 1000000 := by omega
  clear h hb hz
  go_enter Tryd.func10, Tryd.ntmps10
  go_wp2_with (first | (go_at_call 28; refine (pnone_any (unhide HP)).mono ?_; rintro e w' ⟨he, hw⟩; subst he; subst hw) | (go_at_call 29; refine (zero_yes b _ hb8 (unhide Hz)).mono ?_; rintro e w1 ⟨he, q, hw⟩; subst he; subst hw))
  go_ret2
  exact ⟨rfl, (unhide HP).drewN q, below_drewN (Below.refl _ _) q⟩

set_option maxHeartbeats 1000000 in
set_option maxRecDepth 100000 in
theorem pput_had (b : ByteArray) (R r : Int) (h : PoolIs w G s most es bs) (hG : ∀ k, w.heap.size ≤ k → G k) (hi : PInv es bs) (hl : lenB bs < 1000000) (hb : b.size = 8) (hz : zeroB b = false) (hR : IsAt es b R) (h0 : 0 < R) (hn : lkE es R = some (b, r)) (hr : 1 ≤ r) (hr2 : r ≤ 100000) :
    Calls Tryd.prog 10 #[s, .string b] w fun e w' => e = .returned (.tuple #[.int .i64 R, .int .i64 0]) ∧ PoolIs w' G s most (putE es R (b, r + 1)) bs ∧ Chg G w w' := by
  have HP := hide h
  obtain ⟨p, rfl⟩ := h.ptr
  have q1 : ((b.size : Int) != 8) = false := by simp; omega
  have q2 : ((b.size : Int) == 8) = true := beq_iff_eq.2 (by omega)
  have hb8 : b.size ≤ 1000000 := by omega
  have HG := hide hG
  have HI := hide hi
  have Hz := hide hz
  have HR := hide hR
  have Hn := hide hn
  clear h hb hz hR hG hi hn
  go_enter Tryd.func10, Tryd.ntmps10
  go_wp2_with (first | (go_at_call 28; refine (pnone_any (unhide HP)).mono ?_; rintro e w' ⟨he, hw⟩; subst he; subst hw) | (go_at_call 29; refine (zero_no b _ hb8 (unhide Hz)).mono ?_; rintro e w1 ⟨he, q, hw⟩; subst he; subst hw) | (go_at_call 18; refine (pfind_any b ((unhide HP).drewN q) (unhide HI) hl hb8 R (unhide HR)).mono ?_; rintro e w1 ⟨he, HB⟩; subst he))
  have B1 : Below w'.heap.size w' w1 := (below_drewN (Below.refl _ _) q).trans HB
  have HP1 := hide ((unhide HP).below B1)
  have sz := B1.size
  clear HB
  refine (hold_of R 0 p (fun w2 => PoolIs w2 G (.pointer (some ⟨p, 0, none⟩)) most (putE es R (b, r + 1)) bs ∧ Chg G w1 w2) (turn_up R 1 b r (unhide HP1) (fun k hk => unhide HG k (by omega)) (by omega) (unhide Hn) (by omega) (by omega) (by omega) (by omega) (by omega) (by omega))).mono ?_
  rintro e w2 ⟨rfl, hP2, hC2⟩
  have HP2 := hide hP2
  clear hP2
  go_wp2
  go_ret2
  exact ⟨rfl, unhide HP2, Chg.below_trans B1 hC2⟩

theorem isAt_none {es : List (Int × Blk)} {b : ByteArray} (h : ∀ id r, lkE es id ≠ some (b, r)) : IsAt es b 0 := .inr ⟨rfl, h⟩
set_option maxHeartbeats 1000000 in
set_option maxRecDepth 100000 in
theorem pput_full (b : ByteArray) (h : PoolIs w G s most es bs) (hi : PInv es bs) (hl : lenB bs < 1000000) (hb : b.size = 8) (hz : zeroB b = false) (hno : ∀ id r, lkE es id ≠ some (b, r)) (hm0 : 0 ≤ most) (hm1 : most ≤ 1000) (hful : (es.length : Int) = most) :
    Calls Tryd.prog 10 #[s, .string b] w fun e w' => e = .returned (.tuple #[.int .i64 0, .int .i64 5]) ∧ PoolIs w' G s most es bs ∧ Below w.heap.size w w' := by
  have HP := hide h
  obtain ⟨p, rfl⟩ := h.ptr
  have q1 : ((b.size : Int) != 8) = false := by simp; omega
  have q2 : ((b.size : Int) == 8) = true := beq_iff_eq.2 (by omega)
  have q3 : (most - (es.length : Int) == 0) = true := beq_iff_eq.2 (by omega)
  have hb8 : b.size ≤ 1000000 := by omega
  have hl2 : es.length ≤ 1000 := by omega
  have HI := hide hi
  have Hz := hide hz
  have HR := hide (isAt_none hno)
  clear h hb hz hi hno hful
  go_enter Tryd.func10, Tryd.ntmps10
  go_wp2_with (first | (go_at_call 28; refine (pnone_any (unhide HP)).mono ?_; rintro e w' ⟨he, hw⟩; subst he; subst hw) | (go_at_call 29; refine (zero_no b _ hb8 (unhide Hz)).mono ?_; rintro e w1 ⟨he, q, hw⟩; subst he; subst hw) | (go_at_call 18; refine (pfind_any b ((unhide HP).drewN q) (unhide HI) hl hb8 0 (unhide HR)).mono ?_; rintro e w1 ⟨he, HB⟩; subst he))
  have B1 : Below w'.heap.size w' w1 := (below_drewN (Below.refl _ _) q).trans HB
  have HP1 := hide ((unhide HP).below B1)
  clear HB
  go_wp2_with (go_at_call 12; refine (room_any (unhide HP1) hm0 hm1 hl2).mono ?_; rintro e w2 ⟨he, q2, hw⟩; subst he; subst hw)
  go_ret2
  exact ⟨rfl, (unhide HP1).drewN q2, below_drewN B1 q2⟩
set_option maxHeartbeats 1000000 in
set_option maxRecDepth 100000 in
theorem pput_new (b : ByteArray) (R : Int) (h : PoolIs w G s most es bs) (hG : ∀ k, w.heap.size ≤ k → G k) (hi : PInv es bs) (hl : lenB bs < 1000000) (hb : b.size = 8) (hz : zeroB b = false) (hno : ∀ id r, lkE es id ≠ some (b, r)) (hm0 : 0 ≤ most) (hm1 : most ≤ 1000) (hful : (es.length : Int) < most)
    (hR : Least es R) (hR2 : R ≤ 1000000) :
    Calls Tryd.prog 10 #[s, .string b] w fun e w' => e = .returned (.tuple #[.int .i64 R, .int .i64 0]) ∧ PoolIs w' G s most (putE es R (b, 1)) (putB bs (ofI b) R) ∧ Chg G w w' := by
  have HP := hide h
  obtain ⟨p, rfl⟩ := h.ptr
  have q1 : ((b.size : Int) != 8) = false := by simp; omega
  have q2 : ((b.size : Int) == 8) = true := beq_iff_eq.2 (by omega)
  have q3 : (most - (es.length : Int) == 0) = false := beq_eq_false_iff_ne.2 (by omega)
  have hb8 : b.size ≤ 1000000 := by omega
  have hl2 : es.length ≤ 1000 := by omega
  have HG := hide hG
  have hnh : ¬ hasB bs (ofI b) R := fun h => by
    obtain ⟨t, r, h1, _⟩ := (hi _ _).1 h
    rw [hR.2.1] at h1
    cases h1
  have Hnh := hide hnh
  have HI := hide hi
  have Hz := hide hz
  have HA := hide (isAt_none hno)
  have HL := hide hR
  clear h hb hz hi hno hful hG hR hnh
  go_enter Tryd.func10, Tryd.ntmps10
  go_wp2_with (first | (go_at_call 28; refine (pnone_any (unhide HP)).mono ?_; rintro e w' ⟨he, hw⟩; subst he; subst hw) | (go_at_call 29; refine (zero_no b _ hb8 (unhide Hz)).mono ?_; rintro e w1 ⟨he, q, hw⟩; subst he; subst hw) | (go_at_call 18; refine (pfind_any b ((unhide HP).drewN q) (unhide HI) hl hb8 0 (unhide HA)).mono ?_; rintro e w1 ⟨he, HB⟩; subst he))
  have B1 : Below w'.heap.size w' w1 := (below_drewN (Below.refl _ _) q).trans HB
  have HP1 := hide ((unhide HP).below B1)
  clear HB
  go_wp2_with (first | (go_at_call 12; refine (room_any (unhide HP1) hm0 hm1 hl2).mono ?_; rintro e w2 ⟨he, q2, hw⟩; subst he; subst hw) | (go_at_call 31; refine (least_any R ((unhide HP1).drewN q2) (unhide HL) hR2).mono ?_; rintro e w3 ⟨he, hw⟩; subst he; subst hw) | (go_at_call 33; refine (clone_any b _ hb8).mono ?_; rintro e w4 ⟨he, HB4⟩; subst he))
  have B4 : Below w'.heap.size w' w4 := (below_drewN B1 q2).trans (HB4.mono B1.size)
  have HP4 := hide ((unhide HP).below B4)
  have sz := B4.size
  clear HB4
  refine (add_any R b 1 (unhide HP4) (fun k hk => unhide HG k (by omega)) hl hb8 (unhide Hnh)).mono ?_
  rintro e w5 ⟨rfl, hP5, hC5⟩
  have HP5 := hide hP5
  clear hP5
  go_wp2
  go_ret2
  exact ⟨rfl, unhide HP5, Chg.below_trans B4 hC5⟩
end
end Go.Proofs.YtdpbjigdihajjaaDoor
