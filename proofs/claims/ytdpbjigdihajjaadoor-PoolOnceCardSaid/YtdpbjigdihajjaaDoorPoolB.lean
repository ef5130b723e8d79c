/- Walks of package pool: none, Room, Len, Refs. -/
import Derived.Test.YtdpbjigdihajjaaDoorPoolD
namespace Go.Proofs.YtdpbjigdihajjaaDoor
open Go.RowKit

section
variable {w : World} {G : Nat → Prop} {s : Value} {most : Int} {es : List (Int × Blk)} {bs : List (List (Int × Int))}
theorem pnone_any (h : PoolIs w G s most es bs) :
    Calls Tryd.prog 28 #[s] w fun e w' => e = .returned (.bool false) ∧ w' = w := by
  obtain ⟨p, m, q, rfl, h2, h3, h4, h5, h6, h7, h8, h9, h10, h11⟩ := h
  have q0 := fun w1 => run_eql_map_nil (P := Tryd.prog) w1 62 _ _ (some m) Tryd.underlying62
  clear h11 h10
  go_enter Tryd.func28, Tryd.ntmps28
  go_wp2
  go_ret
  exact ⟨rfl, rfl⟩
theorem plen_any (h : PoolIs w G s most es bs) :
    Calls Tryd.prog 14 #[s] w fun e w' => e = .returned (.int .i64 es.length) ∧ w' = w := by
  have HP := hide h
  obtain ⟨p, m, q, rfl, h2, h3, h4, h5, h6, h7, h8, h9, h10, h11⟩ := h
  have hlen := fun ty => run_len_is (P := Tryd.prog) h10 Tryd.underlying62 ty
  rw [esV_len] at hlen
  clear h11 h10
  go_enter Tryd.func14, Tryd.ntmps14
  go_wp2_with (go_at_call 28; refine (pnone_any (unhide HP)).mono ?_; rintro e w' ⟨he, hw⟩; subst he; subst hw)
  go_ret
  exact ⟨rfl, rfl⟩
theorem room_any (h : PoolIs w G s most es bs) (h0 : 0 ≤ most) (h1 : most ≤ 1000) (hl : es.length ≤ 1000) :
    Calls Tryd.prog 12 #[s] w fun e w' => e = .returned (.int .i64 (most - es.length)) ∧ ∃ n, w' = w.drewN n := by
  have HP := hide h
  obtain ⟨p, m, q, rfl, h2, h3, h4, h5, h6, h7, h8, h9, h10, h11⟩ := h
  have hlen := fun w1 (hh : MapIs kInt w1 m (esV es)) ty => run_len_is (P := Tryd.prog) hh Tryd.underlying62 ty
  rw [esV_len] at hlen
  have hlen0 := fun n => hlen (w.drewN n) (h10.drewN n)
  clear hlen
  clear h11
  go_enter Tryd.func12, Tryd.ntmps12
  go_wp2_with (go_at_call 28; refine (pnone_any (unhide HP)).mono ?_; rintro e w' ⟨he, hw⟩; subst he; subst hw)
  go_quiet (fail)
  go_wp2
  go_ret
  exact ⟨rfl, _, rfl⟩
set_option maxRecDepth 100000 in
theorem refs_any (id : Int) (h : PoolIs w G s most es bs) (t : ByteArray) (r : Int) (htr : (lkE es id).getD (⟨#[]⟩, 0) = (t, r)) :
    Calls Tryd.prog 17 #[s, .int .i64 id] w fun e w' => e = .returned (.int .i64 r) ∧ w' = w := by
  have HP := hide h
  obtain ⟨p, m, q, rfl, h2, h3, h4, h5, h6, h7, h8, h9, h10, h11⟩ := h
  have Htr := hide htr
  have hf1 := field1
  clear h11 htr
  go_enter Tryd.func17, Tryd.ntmps17
  go_wp2_with (first | (go_at_call 28; refine (pnone_any (unhide HP)).mono ?_; rintro e w' ⟨he, hw⟩; subst he; subst hw) | (at_lookup; refine wpList_lookup_blk rfl _ _ rfl es m rfl h10 id rfl t r (unhide Htr) ?_))
  go_ret
  exact ⟨rfl, rfl⟩
end
end Go.Proofs.YtdpbjigdihajjaaDoor
