/- Walks of package shelf: Cut. -/
import Derived.Test.YtdpbjigdihajjaaDoorShelfE
import Derived.Deep.RegionWith
namespace Go.Proofs.YtdpbjigdihajjaaDoor
open Go.RowKit
attribute [local go_sem ↓] Go.wp_at_zero Go.wp_at_succ

/-- The buckets behind a Cut that was done. -/
def cutB (bs : List (List (Int × Int))) (x id : Int) : List (List (Int × Int)) := bs.set (bk bs x) ((bs.getD (bk bs x) []).erase (x, id))
theorem ix_pos {L : List (Int × Int)} {t : Int × Int} (h : t ∈ L) : ix L t = (L.idxOf t : Int) := by unfold ix; rw [if_pos h]
theorem erase_idx {L : List (Int × Int)} {t : Int × Int} : L.erase t = L.eraseIdx (L.idxOf t) := List.erase_eq_eraseIdx_of_idxOf rfl

set_option maxHeartbeats 400000 in
set_option maxRecDepth 100000 in
theorem cut_any {F : Nat → Prop} {s : Value} {bs : List (List (Int × Int))} (x id : Int) (w : World) (h : ShelfIs w F s bs) (h0 : 0 ≤ x) (h1 : x < 4294967296) :
    Calls Tryd.prog 52 #[s, .int .u32 x, .int .i64 id] w
      fun e w' => e = .returned (.bool (decide (hasB bs x id))) ∧ Chg F w w' ∧ (¬ hasB bs x id → Below w.heap.size w w') ∧
        ShelfIs w' (fun k => F k ∨ w.heap.size ≤ k) s (if hasB bs x id then cutB bs x id else bs) := by
  have hS := h
  obtain ⟨i0, hi, hz0, hz1, hz2⟩ := info_parts Tryd.infoTh
  obtain ⟨p, g, vs, rfl, h2, h3, h4, h5, h6, h7, h8, h9, h10, h11, h12, h13, h14⟩ := h
  obtain ⟨k, hk⟩ : ∃ k, k = bk bs x := ⟨_, rfl⟩
  have hkb : k < bs.length := by rw [hk]; exact bk_lt h8
  have hkv : k < vs.length := by omega
  have hgd : bs.getD (bk bs x) [] = bs[k] := by rw [← hk, List.getD_eq_getElem?_getD, List.getElem?_eq_getElem hkb, Option.getD_some]
  obtain ⟨L, hL⟩ : ∃ L, L = bs[k] := ⟨_, rfl⟩
  rw [← hL] at hgd
  have hat : ∀ w1 : World, ShelfIs w1 F (.pointer (some ⟨p, 0, none⟩)) bs → ∀ q : Int, q = ix L (x, id) → Calls Tryd.prog 79 #[.pointer (some ⟨p, 0, none⟩), .agg #[.int .u32 x, .int .i64 id]] w1
      fun e w' => e = .returned (.tuple #[.int .i64 k, .int .i64 q]) ∧ Below w1.heap.size w1 w' := by
    intro w1 hS1 q hq
    have := at_any x id w1 hS1 h0 h1
    rw [hgd, ← hk, ← hq] at this
    exact this
  have Hat := hide hat
  have HS := hide hS
  by_cases hm : (x, id) ∈ L
  case neg =>
    have hb : ¬ hasB bs x id := by unfold hasB; rw [hgd]; exact hm
    rw [if_neg hb, decide_eq_false hb]
    obtain ⟨q, hq⟩ : ∃ q, q = ix L (x, id) := ⟨_, rfl⟩
    have hx1 : q < 0 := by rw [hq]; exact ix_neg.2 hm
    have Hq := hide hq
    clear h12 h13 h14 h11 h7 hS hm hb hq hat hgd hk h10 hkv hL hkb h8 h9 h6 h5 h4 h3 h2
    go_enter Tryd.func52, Tryd.ntmps52
    go_wp2_with (first | (go_at_call 59; refine (none_any _ (unhide HS)).mono ?_; rintro e w' ⟨he, hw⟩; subst he; subst hw) | (go_at_call 79; refine (unhide Hat _ (unhide HS) q (unhide Hq)).mono ?_; rintro e w1 ⟨he, HB⟩; subst he))
    go_ret
    exact ⟨rfl, Chg.of_below HB, fun _ => HB, ((unhide HS).below HB).mono fun _ h => .inl h⟩
  case pos =>
    have hb : hasB bs x id := by unfold hasB; rw [hgd]; exact hm
    rw [if_pos hb, decide_eq_true hb]
    obtain ⟨i, hi'⟩ : ∃ i, i = L.idxOf (x, id) := ⟨_, rfl⟩
    have hil : i < L.length := by rw [hi']; exact List.idxOf_lt_length_of_mem hm
    have Hq := hide (show (i : Int) = ix L (x, id) by rw [hi']; exact (ix_pos hm).symm)
    have hpb : cutB bs x id = bs.set k (L.eraseIdx i) := by unfold cutB; rw [hgd, ← hk, hi', erase_idx]
    rw [hpb]
    have h12k := h12 k hkb hkv
    rw [← hL] at h12k
    obtain ⟨A, c, hv, hsl, _⟩ := h12k.sl
    rw [hv] at h12k
    have c3 : w.cell? ⟨g, k, none⟩ = some (.slice A L.length c) := by
      rw [← hv]
      simp [World.cell?, h11, hkv]
    have hfz : w.frozen? ⟨g, k, none⟩ = false := by simp [World.frozen?, h11]
    have h13k := h13 _ (List.getElem_mem hkv)
    rw [hv] at h13k
    obtain ⟨gb, hA⟩ : ∃ gb, A = some ⟨gb, 0, none⟩ := by
      rcases h12k.shape with ⟨_, h0⟩ | ⟨gb, cap, hv', _⟩
      · rw [h0] at hil; simp at hil
      · injection hv' with hv' _ _
        exact ⟨gb, hv'⟩
    subst hA
    have HL := hide hL
    have H10 := hide h10
    have H11 := hide h11
    have H12 := hide h12
    have H13 := hide h13
    have H14 := hide h14
    have Hv := hide hv
    have Hb := hide hb
    have Hi' := hide hi'
    have hlb : L.length ≤ 9223372036854775807 := by
      have h1 := hsl.2.1
      have h2 := hsl.2.2.1
      omega
    clear hS hm hb hsl hpb hv h11 h12 h13 h14 hk hat hgd h10 hL hi'
    go_enter Tryd.func52, Tryd.ntmps52
    go_wp2_with (first | (go_at_call 59; refine (none_any _ (unhide HS)).mono ?_; rintro e w' ⟨he, hw⟩; subst he; subst hw) | (go_at_call 79; refine (unhide Hat _ (unhide HS) i (unhide Hq)).mono ?_; rintro e w1 ⟨he, HB⟩; subst he))
    have hown := h12k.below HB
    have ag : some g ≠ some gb := fun e => (h13k g (by rw [e]; rfl)).2.2 rfl
    have ap : some p ≠ some gb := fun e => (h13k p (by rw [e]; rfl)).2.1 rfl
    have cp := ((bcell HB).1 p 0 h2).trans h7
    have cg := ((bcell HB).1 g k h3).trans c3
    have fg := ((bcell HB).2 g k h3).trans hfz
    have sp := Nat.lt_of_lt_of_le h2 HB.size
    have sg := Nat.lt_of_lt_of_le h3 HB.size
    have H7 := hide h7
    clear c3 h7 hfz h12k
    have HA := hide h13k
    clear h13k
    have hdel : ∀ w1 : World, Own eTh 122 w1 0 (.slice (some ⟨gb, 0, none⟩) L.length c) L → Calls Tryd.prog 80 #[.slice (some ⟨gb, 0, none⟩) L.length c, .int .i64 (i : Int), .int .i64 ((i : Int) + 1)] w1
        fun e w' => e = .returned (.slice (some ⟨gb, 0, none⟩) (L.length - 1) c) ∧ Own eTh 122 w' 0 (.slice (some ⟨gb, 0, none⟩) (L.length - 1) c) (L.eraseIdx i) ∧ w1.grownBy w' (some gb) := by
      intro w1 ho
      have := delete_any gb c 0 i (i + 1) L w1 ho hil rfl
      rw [show ((i + 1 : Nat) : Int) = (i : Int) + 1 by omega] at this
      exact this
    have hwr := hide (show IntKind.i64.wrap ((i : Int) + 1) = (i : Int) + 1 from by rw [IntKind.wrap_i64]; omega)
    have Hdel := hide hdel
    clear hdel
    go_region_with ((go_at_call 80; rw [unhide hwr]; refine (unhide Hdel w1.drew hown).mono ?_; rintro e w2 ⟨he, hown2, hgrow⟩; subst he; have cg2 := (hgrow.cell_far ⟨g, k, none⟩ sg ag).trans cg; have fg2 := (hgrow.frozen_far ⟨g, k, none⟩ sg ag).trans fg; have cp2 := (hgrow.cell_far ⟨p, 0, none⟩ sp ap).trans cp))
    all_goals
      go_wp2
      go_ret
      have hfin := put_fin h2 h3 h4 h5 h6 (unhide H7) h8 h9 (unhide H10) (unhide H11) (unhide H12) (unhide H13) (unhide H14) hkv (unhide Hv) HB (Below.refl w1.heap.size w1).drew hgrow
        (L := L.eraseIdx i) (v' := .slice (some ⟨gb, 0, none⟩) (L.length - 1) c) hown2
        (fun j hj => .inl hj)
      exact ⟨rfl, hfin.1, fun h => absurd (unhide Hb) h, hfin.2⟩
end Go.Proofs.YtdpbjigdihajjaaDoor
