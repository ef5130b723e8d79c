/- Joined texts: ShelfC. -/
import Derived.Test.YtnpgjdhigcjihaaGreatDoorPP08
import Derived.Deep.AppendLies
import Derived.Deep.RegionLaw
import Derived.Deep.DrawnRows
/- Walks of package shelf: Put. -/
namespace Go.Proofs.YtnpgjdhigcjihaaGreatDoor
open Go.RowKit
attribute [local go_sem ↓] Go.wp_at_zero Go.wp_at_succ

theorem ix_neg {L : List (Int × Int)} {t : Int × Int} : ix L t < 0 ↔ t ∉ L := by
  unfold ix
  by_cases h : t ∈ L
  · simp [h]
  · simp [h]
/-- The buckets behind a Put that was done. -/
def putB (bs : List (List (Int × Int))) (x id : Int) : List (List (Int × Int)) := bs.set (bk bs x) (bs.getD (bk bs x) [] ++ [(x, id)])
/-- Is it there? -/
def hasB (bs : List (List (Int × Int))) (x id : Int) : Prop := (x, id) ∈ bs.getD (bk bs x) []
instance (bs : List (List (Int × Int))) (x id : Int) : Decidable (hasB bs x id) := by unfold hasB; infer_instance
theorem Tryz.infoTh : (Tryz.prog.info? 122).map (fun i => (i.zero, i.size, i.bytes)) = some (some (.agg #[.int .u32 0, .int .i64 0]), 2, 16) := by kernel_rfl

theorem Chg.set {F : Nat → Prop} {w : World} {a : Addr} (h : F a.block) (u : Value) : Chg F w (w.setCell a u) :=
  ⟨rfl, rfl, rfl, by simp, fun k _ hf => Below.heap_setCell w a u k fun e => hf (e ▸ h)⟩

theorem put_fin {w w1 wa w2 : World} {F : Nat → Prop} {p g k : Nat} {vs : List Value} {bs : List (List (Int × Int))} {L : List (Int × Int)} {v v' : Value}
    (h2 : p < w.heap.size) (h3 : g < w.heap.size) (h4 : F p) (h5 : F g) (h6 : p ≠ g) (h7 : w.cell? ⟨p, 0, none⟩ = some (.slice (some ⟨g, 0, none⟩) bs.length bs.length)) (h8 : 0 < bs.length) (h9 : bs.length ≤ 100)
    (h10 : vs.length = bs.length) (h11 : w.heap[g]? = some (.cells vs.toArray 119 (0, 0)))
    (h12 : ∀ i (h : i < bs.length) (h' : i < vs.length), Own eTh 122 w 0 vs[i] bs[i])
    (h13 : ∀ v ∈ vs, ∀ k, v.ownBlock = some k → F k ∧ k ≠ p ∧ k ≠ g)
    (h14 : ∀ i j (h : i < vs.length) (h' : j < vs.length), i ≠ j → ∀ k, vs[i].ownBlock = some k → vs[j].ownBlock ≠ some k)
    (hk : k < vs.length) (hv : vs[k] = v) (HB : Below w.heap.size w w1) (Ha : Below w1.heap.size w1 wa) (hg : wa.grownBy w2 v.ownBlock)
    (hown : Own eTh 122 w2 0 v' L) (hb : ∀ j, v'.ownBlock = some j → v.ownBlock = some j ∨ w.heap.size ≤ j) :
    Chg F w (w2.setCell ⟨g, k, none⟩ v') ∧ ShelfIs (w2.setCell ⟨g, k, none⟩ v') (fun j => F j ∨ w.heap.size ≤ j) (.pointer (some ⟨p, 0, none⟩)) (bs.set k L) := by
  have hm : v ∈ vs := hv ▸ List.getElem_mem hk
  have h1a : w.heap.size ≤ wa.heap.size := Nat.le_trans HB.size Ha.size
  refine ⟨((Chg.of_below HB).trans (Chg.of_below Ha)).trans ((Chg.of_grown hg hg.size fun j hj => (h13 v hm j hj).1).trans (Chg.set h5 _)), ?_⟩
  refine ShelfIs.set h2 h3 h4 h5 h6 h7 h8 h9 h10 h11 h12 h13 h14 hk (fun j h => .inl h) (Nat.le_trans h1a hg.size) (fun j hj hne => ?_) hown (fun j hj => ?_) rfl
  · rw [hg.block j (by omega) (fun e => hne (by rw [hv]; exact e.symm)), Ha.block j (Nat.lt_of_lt_of_le hj HB.size), HB.block j hj]
  · rcases hb j hj with h | h
    · exact ⟨.inl (h13 v hm j h).1, .inl (by rw [hv]; exact h)⟩
    · exact ⟨.inr h, .inr h⟩

set_option maxHeartbeats 2000000 in
set_option maxRecDepth 100000 in
theorem put_any {F : Nat → Prop} {s : Value} {bs : List (List (Int × Int))} (x id : Int) (w : World) (h : ShelfIs w F s bs) (h0 : 0 ≤ x) (h1 : x < 4294967296) (hlen : (bs.getD (bk bs x) []).length < 1000000) :
    Calls Tryz.prog 70 #[s, .int .u32 x, .int .i64 id] w
      fun e w' => e = .returned (.bool (!decide (hasB bs x id))) ∧ Chg F w w' ∧ (hasB bs x id → Below w.heap.size w w') ∧
        ShelfIs w' (fun k => F k ∨ w.heap.size ≤ k) s (if hasB bs x id then bs else putB bs x id) := by
  have hS := h
  obtain ⟨i0, hi, hz0, hz1, hz2⟩ := info_parts Tryz.infoTh
  obtain ⟨p, g, vs, rfl, h2, h3, h4, h5, h6, h7, h8, h9, h10, h11, h12, h13, h14⟩ := h
  obtain ⟨k, hk⟩ : ∃ k, k = bk bs x := ⟨_, rfl⟩
  have hkb : k < bs.length := by rw [hk]; exact bk_lt h8
  have hkv : k < vs.length := by omega
  have hgd : bs.getD (bk bs x) [] = bs[k] := by rw [← hk, List.getD_eq_getElem?_getD, List.getElem?_eq_getElem hkb, Option.getD_some]
  rw [hgd] at hlen
  obtain ⟨L, hL⟩ : ∃ L, L = bs[k] := ⟨_, rfl⟩
  rw [← hL] at hgd hlen
  have hat : ∀ w1 : World, ShelfIs w1 F (.pointer (some ⟨p, 0, none⟩)) bs → ∀ q : Int, q = ix L (x, id) → Calls Tryz.prog 105 #[.pointer (some ⟨p, 0, none⟩), .agg #[.int .u32 x, .int .i64 id]] w1
      fun e w' => e = .returned (.tuple #[.int .i64 k, .int .i64 q]) ∧ Below w1.heap.size w1 w' := by
    intro w1 hS1 q hq
    have := at_any x id w1 hS1 h0 h1
    rw [hgd, ← hk, ← hq] at this
    exact this
  have Hat := hide hat
  have HS := hide hS
  by_cases hm : (x, id) ∈ L
  · have hb : hasB bs x id := by unfold hasB; rw [hgd]; exact hm
    rw [if_pos hb, decide_eq_true hb]
    obtain ⟨q, hq⟩ : ∃ q, q = ix L (x, id) := ⟨_, rfl⟩
    have hx1 : 0 ≤ q := by rw [hq]; exact Int.not_lt.1 fun h => ix_neg.1 h hm
    have Hq := hide hq
    clear h12 h13 h14 h11 h7 hS hm hb hq hat hgd hk h10 hkv hlen hL hkb h8 h9 h6 h5 h4 h3 h2
    go_enter Tryz.func70, Tryz.ntmps70
    go_wp2_with (first | (go_at_call 82; refine (none_any _ (unhide HS)).mono ?_; rintro e w' ⟨he, hw⟩; subst he; subst hw) | (go_at_call 105; refine (unhide Hat _ (unhide HS) q (unhide Hq)).mono ?_; rintro e w1 ⟨he, HB⟩; subst he))
    go_ret
    exact ⟨rfl, Chg.of_below HB, fun _ => HB, ((unhide HS).below HB).mono fun _ h => .inl h⟩
  · have hb : ¬ hasB bs x id := by unfold hasB; rw [hgd]; exact hm
    rw [if_neg hb, decide_eq_false hb]
    obtain ⟨q, hq⟩ : ∃ q, q = ix L (x, id) := ⟨_, rfl⟩
    have hx1 : q < 0 := by rw [hq]; exact ix_neg.2 hm
    have Hq := hide hq
    have hpb : putB bs x id = bs.set k (L ++ [(x, id)]) := by unfold putB; rw [hgd, ← hk]
    rw [hpb]
    obtain ⟨A, c, hv, hsl, _⟩ := (h12 k hkb hkv).sl
    have c3 : w.cell? ⟨g, k, none⟩ = some (.slice A L.length c) := by
      rw [hL, ← hv]
      simp [World.cell?, h11, hkv]
    have hfz : w.frozen? ⟨g, k, none⟩ = false := by simp [World.frozen?, h11]
    have HL := hide hL
    have H10 := hide h10
    have H11 := hide h11
    have H12 := hide h12
    have H13 := hide h13
    have H14 := hide h14
    have h12k := h12 k hkb hkv
    rw [hv, ← hL] at h12k
    have h13k := h13 _ (List.getElem_mem hkv)
    rw [hv, ← hL] at h13k
    rw [← hL] at hv
    have Hv := hide hv
    have Hb := hide hb
    clear hS hm hb hsl hpb hv h11 h12 h13 h14 hk hat hgd hq h10 hL
    go_enter Tryz.func70, Tryz.ntmps70
    go_wp2_with (first | (go_at_call 82; refine (none_any _ (unhide HS)).mono ?_; rintro e w' ⟨he, hw⟩; subst he; subst hw) | (go_at_call 105; refine (unhide Hat _ (unhide HS) q (unhide Hq)).mono ?_; rintro e w1 ⟨he, HB⟩; subst he))
    have hown := h12k.below HB
    have ag : (Value.slice A L.length c).ownBlock ≠ some g := fun e => (h13k g e).2.2 rfl
    have ap : (Value.slice A L.length c).ownBlock ≠ some p := fun e => (h13k p e).2.1 rfl
    have cp := ((bcell HB).1 p 0 h2).trans h7
    have cg := ((bcell HB).1 g k h3).trans c3
    have fg := ((bcell HB).2 g k h3).trans hfz
    have sp := Nat.lt_of_lt_of_le h2 HB.size
    have sg := Nat.lt_of_lt_of_le h3 HB.size
    have H7 := hide h7
    clear c3 h7 hfz h12k
    have HA := hide h13k
    clear h13k
    obtain ⟨cA, fA⟩ : (w1.alloc (.cells #[.int .u32 x, .int .i64 id] 122)).drew.cell? ⟨g, k, none⟩ = some (.slice A L.length c) ∧ (w1.alloc (.cells #[.int .u32 x, .int .i64 id] 122)).drew.frozen? ⟨g, k, none⟩ = false :=
      ⟨(World.cell?_of_block (a := ⟨g, k, none⟩) (Below.heap_alloc w1 _ g sg)).trans cg, (World.frozen?_of_block (a := ⟨g, k, none⟩) (Below.heap_alloc w1 _ g sg)).trans fg⟩
    have pA : (w1.alloc (.cells #[.int .u32 x, .int .i64 id] 122)).drew.cell? ⟨p, 0, none⟩ = some (.slice (some ⟨g, 0, none⟩) bs.length bs.length) := (World.cell?_of_block (a := ⟨p, 0, none⟩) (Below.heap_alloc w1 _ p sp)).trans cp
    go_region_law
      ((refine step_append_lies _ (by rfl) _ _ _ (by rfl) 0 122 i0 _ 2 16 Tryz.underlying119 hi hz0 hz1 hz2 rfl (by omega) (.slice A L.length c) L.length (eTh.flat L) (by rfl) ((hown.alloc _).drewN 1)
          ⟨w1.heap.size, 0, none⟩ 1 1 [.int .u32 x, .int .i64 id] (by rfl) (by rfl) (World.news_of_block (cs := #[.int .u32 x, .int .i64 id]) (t := 122) (fr := (0, 0)) (heap_alloc_new w1 _)) (by simp [Value.oneCell'])
          (by omega) (by unfold maxLen; omega) (by omega) (by omega) (w1.heap.size + 1) (by simp) ?_; intro gg cap w2 hown2 hgrow hat hlt; have cg2 := (hgrow.cell_far ⟨g, k, none⟩ (Nat.lt_of_lt_of_le sg (by simp)) (Ne.symm ag)).trans cA; have fg2 := (hgrow.frozen_far ⟨g, k, none⟩ (Nat.lt_of_lt_of_le sg (by simp)) (Ne.symm ag)).trans fA; have cp2 := (hgrow.cell_far ⟨p, 0, none⟩ (Nat.lt_of_lt_of_le sp (by simp)) (Ne.symm ap)).trans pA))
    all_goals
      go_wp2
      go_ret
      have hfin := put_fin h2 h3 h4 h5 h6 (unhide H7) h8 h9 (unhide H10) (unhide H11) (unhide H12) (unhide H13) (unhide H14) hkv (unhide Hv) HB ((Below.refl w1.heap.size w1).alloc (Nat.le_refl _) (.cells #[.int .u32 x, .int .i64 id] 122)).drew hgrow
        (L := L ++ [(x, id)]) (v' := .slice (some ⟨gg, 0, none⟩) (L.length + 1) cap)
        (by unfold Own; rw [List.length_append, Enc.flat_app, Enc.flat_one]; exact hown2)
        (fun j hj => by injection hj with hj; subst hj; rcases hat with h | h; exact .inl h; exact .inr (show w'.heap.size ≤ gg by have := HB.size; omega))
      exact ⟨rfl, hfin.1, fun h => absurd h (unhide Hb), hfin.2⟩
end Go.Proofs.YtnpgjdhigcjihaaGreatDoor
