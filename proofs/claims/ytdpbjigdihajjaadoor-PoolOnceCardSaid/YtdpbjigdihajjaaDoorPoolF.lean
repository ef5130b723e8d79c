/- Walks of package pool: there, least, turn. -/
import Derived.Test.YtdpbjigdihajjaaDoorPoolE
namespace Go.Proofs.YtdpbjigdihajjaaDoor
open Go.RowKit

section
variable {w : World} {G : Nat → Prop} {s : Value} {most : Int} {es : List (Int × Blk)} {bs : List (List (Int × Int))}
set_option maxRecDepth 100000 in
theorem there_zero (h : PoolIs w G s most es bs) :
    Calls Tryd.prog 35 #[s, .int .i64 0] w fun e w' => e = .returned (.int .i64 0) ∧ w' = w := by
  have HP := hide h
  obtain ⟨p, rfl⟩ := h.ptr
  clear h
  go_enter Tryd.func35, Tryd.ntmps35
  go_wp2_with (go_at_call 28; refine (pnone_any (unhide HP)).mono ?_; rintro e w' ⟨he, hw⟩; subst he; subst hw)
  go_ret
  exact ⟨rfl, rfl⟩
set_option maxRecDepth 100000 in
theorem there_no (id : Int) (h : PoolIs w G s most es bs) (h0 : id ≠ 0) (hn : lkE es id = none) :
    Calls Tryd.prog 35 #[s, .int .i64 id] w fun e w' => e = .returned (.int .i64 2) ∧ w' = w := by
  have HP := hide h
  obtain ⟨p, rfl⟩ := h.ptr
  have q1 : (id != 0) = true := by simpa using h0
  have q2 : (id == 0) = false := beq_eq_false_iff_ne.2 h0
  have Hr := hide (show (lkE es id).getD (⟨#[]⟩, 0) = (⟨#[]⟩, 0) by rw [hn]; rfl)
  clear h h0 hn
  go_enter Tryd.func35, Tryd.ntmps35
  go_wp2_with (first | (go_at_call 28; refine (pnone_any (unhide HP)).mono ?_; rintro e w' ⟨he, hw⟩; subst he; subst hw) | (go_at_call 17; refine (refs_any id (unhide HP) _ _ (unhide Hr)).mono ?_; rintro e w' ⟨he, hw⟩; subst he; subst hw))
  go_ret
  exact ⟨rfl, rfl⟩
set_option maxRecDepth 100000 in
theorem there_yes (id : Int) (h : PoolIs w G s most es bs) (h0 : id ≠ 0) (t : ByteArray) (r : Int) (hn : lkE es id = some (t, r)) (hr : r ≠ 0) :
    Calls Tryd.prog 35 #[s, .int .i64 id] w fun e w' => e = .returned (.int .i64 0) ∧ w' = w := by
  have HP := hide h
  obtain ⟨p, rfl⟩ := h.ptr
  have q1 : (id != 0) = true := by simpa using h0
  have q2 : (id == 0) = false := beq_eq_false_iff_ne.2 h0
  have q3 : (r == 0) = false := beq_eq_false_iff_ne.2 hr
  have Hr := hide (show (lkE es id).getD (⟨#[]⟩, 0) = (t, r) by rw [hn]; rfl)
  clear h h0 hn hr
  go_enter Tryd.func35, Tryd.ntmps35
  go_wp2_with (first | (go_at_call 28; refine (pnone_any (unhide HP)).mono ?_; rintro e w' ⟨he, hw⟩; subst he; subst hw) | (go_at_call 17; refine (refs_any id (unhide HP) _ _ (unhide Hr)).mono ?_; rintro e w' ⟨he, hw⟩; subst he; subst hw))
  go_ret
  exact ⟨rfl, rfl⟩

/-- The least number that no block has. -/
def Least (es : List (Int × Blk)) (R : Int) : Prop := 1 ≤ R ∧ lkE es R = none ∧ ∀ j, 1 ≤ j → j < R → ∃ t r, lkE es j = some (t, r) ∧ 0 < r
set_option maxRecDepth 100000 in
theorem least_any (R : Int) (h : PoolIs w G s most es bs) (hR : Least es R) (hb : R ≤ 1000000) :
    Calls Tryd.prog 31 #[s] w fun e w' => e = .returned (.int .i64 R) ∧ w' = w := by
  have HP := hide h
  obtain ⟨p, rfl⟩ := h.ptr
  obtain ⟨h1, hn, hy⟩ := hR
  have Hr := hide (show (lkE es R).getD (⟨#[]⟩, 0) = (⟨#[]⟩, 0) by rw [hn]; rfl)
  have Hy := hide hy
  clear h hn hy
  go_enter Tryd.func31, Tryd.ntmps31
  go_wp2_with fail
  go_loop [3] (fun i => ∃ k : Int, 1 ≤ k ∧ k ≤ R ∧ i = .int .i64 k) (fun i => (R - intOf i).toNat)
  case atStart => exact ⟨1, by omega, h1, rfl⟩
  case round =>
    obtain ⟨k, hk1, hk2, rfl⟩ := hrel
    by_cases hlt : k < R
    · obtain ⟨t, r, htr, hr⟩ := unhide Hy k hk1 hlt
      have Htr := hide (show (lkE es k).getD (⟨#[]⟩, 0) = (t, r) by rw [htr]; rfl)
      clear htr
      go_wp2_with (go_at_call 17; refine (refs_any k (unhide HP) t r (unhide Htr)).mono ?_; rintro e w' ⟨he, hw⟩; subst he; subst hw)
      go_round
      case rel => exact ⟨k + 1, by omega, by omega, rfl⟩
      case measure => simp [intOf]; omega
    · obtain rfl : k = R := by omega
      go_wp2_with (go_at_call 17; refine (refs_any k (unhide HP) _ _ (unhide Hr)).mono ?_; rintro e w' ⟨he, hw⟩; subst he; subst hw)
      go_ret
      exact ⟨rfl, rfl⟩
end
end Go.Proofs.YtdpbjigdihajjaaDoor
