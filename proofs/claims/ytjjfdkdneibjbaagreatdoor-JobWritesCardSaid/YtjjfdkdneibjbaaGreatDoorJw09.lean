/- Joined texts: ShelfB, ShelfC, ShelfE, ShelfF. -/
import Derived.Test.YtjjfdkdneibjbaaGreatDoorJw08
import Derived.Deep.AppendLies
import Derived.Deep.RegionLaw
import Derived.Deep.DrawnRows
import Derived.Shelf.RegionOpenPlain
import Derived.Lib.SliceRun
import Derived.Deep.RegionWith
/- Walks of package shelf: at. -/
namespace Go.Proofs.YtjjfdkdneibjbaaGreatDoor
open Go.RowKit

/-- The number of the bucket. -/
def bk (bs : List (List (Int × Int))) (x : Int) : Nat := (x % (bs.length : Int)).toNat
theorem bk_lt {bs : List (List (Int × Int))} {x : Int} (h : 0 < bs.length) : bk bs x < bs.length := by
  have b0 : 0 ≤ x % (bs.length : Int) := Int.emod_nonneg _ (by omega)
  have b1 : x % (bs.length : Int) < bs.length := Int.emod_lt_of_pos _ (by omega)
  unfold bk; omega
theorem bk_eq {bs : List (List (Int × Int))} {x : Int} (h : 0 < bs.length) : x % (bs.length : Int) = (bk bs x : Int) := by
  have b0 : 0 ≤ x % (bs.length : Int) := Int.emod_nonneg _ (by omega)
  unfold bk; omega

theorem Sl.drewN {α : Type} {E : Enc α} {w : World} {A : Option Addr} {n c : Nat} {xs : List α} (h : Sl E w A n c xs) (m : Nat) : Sl E (w.drewN m) A n c xs := h

set_option maxHeartbeats 1000000 in
theorem at_any {F : Nat → Prop} {s : Value} {bs : List (List (Int × Int))} (x id : Int) (w : World) (h : ShelfIs w F s bs) (h0 : 0 ≤ x) (h1 : x < 4294967296) :
    Calls Tryz.prog 186 #[s, .agg #[.int .u32 x, .int .i64 id]] w
      fun e w' => e = .returned (.tuple #[.int .i64 (bk bs x), .int .i64 (ix (bs.getD (bk bs x) []) (x, id))]) ∧ Below w.heap.size w w' := by
  obtain ⟨p, g, vs, rfl, h2, h3, h4, h5, h6, h7, h8, h9, h10, h11, h12, h13, h14⟩ := h
  obtain ⟨k, hk⟩ : ∃ k, k = bk bs x := ⟨_, rfl⟩
  have hkb : k < bs.length := by rw [hk]; exact bk_lt h8
  have hkv : k < vs.length := by omega
  have hxk : x % (bs.length : Int) = (k : Int) := by rw [hk]; exact bk_eq h8
  rw [← hk, List.getD_eq_getElem?_getD, List.getElem?_eq_getElem hkb, Option.getD_some]
  obtain ⟨A, c, hv, hsl, _⟩ := (h12 k hkb hkv).sl
  obtain ⟨W0, hW0⟩ : ∃ W0, W0 = w.alloc (.cells #[.int .u32 x, .int .i64 id] 234) := ⟨_, rfl⟩
  have B0 : Below w.heap.size w W0 := by rw [hW0]; exact (Below.refl _ _).alloc (Nat.le_refl _) _
  have c0 : W0.cell? ⟨w.heap.size, 0, none⟩ = some (.int .u32 x) := by rw [hW0]; exact World.cell?_alloc_at _ _ _ _ rfl
  have c1 : W0.cell? ⟨w.heap.size, 1, none⟩ = some (.int .i64 id) := by rw [hW0]; exact World.cell?_alloc_at _ _ _ _ rfl
  have c2 : W0.cell? ⟨p, 0, none⟩ = some (.slice (some ⟨g, 0, none⟩) bs.length bs.length) := ((bcell B0).1 p 0 h2).trans h7
  have c3 : W0.cell? ⟨g, k, none⟩ = some (.slice A bs[k].length c) := by
    rw [(bcell B0).1 g k h3, ← hv]
    simp [World.cell?, h11, hkv]
  have hsl0 : Sl eTh W0 A bs[k].length c bs[k] := hsl.below B0
  have s0 : w.heap.size < W0.heap.size := by rw [hW0]; simp
  have Hxk := hide hxk
  have Hk := hide hk
  clear hk hxk h12 h13 h14 h11 h7 hv hsl
  go_enter Tryz.func186, Tryz.ntmps186
  go_wp2
  rw [← hW0]
  clear hW0
  go_quiet ((go_at_call 184; refine Calls.quiet_of_same (bucket_any _ _ _ (by omega) (by omega) (by omega) (by omega))))
  rw [unhide Hxk]
  go_wp2
  go_region_held3 (fun w' => w'.cell? ⟨w.heap.size, 0, none⟩ = some (.int .u32 x) ∧ w'.cell? ⟨w.heap.size, 1, none⟩ = some (.int .i64 id) ∧ w'.cell? ⟨p, 0, none⟩ = some (.slice (some ⟨g, 0, none⟩) bs.length bs.length) ∧ w'.cell? ⟨g, k, none⟩ = some (.slice A bs[k].length c))
    (first | go_keep | exact ⟨((bcell HB).1 w.heap.size 0 s0).trans c0, ((bcell HB).1 w.heap.size 1 s0).trans c1, ((bcell HB).1 p 0 (Nat.lt_trans h2 s0)).trans c2, ((bcell HB).1 g k (Nat.lt_trans h3 s0)).trans c3⟩)
    ((go_at_call 210; refine (index_any A _ c bs[k] x id _ (Sl.drewN hsl0 _)).mono ?_; rintro e w1 ⟨rfl, HB⟩))
  go_wp2
  go_ret2
  exact ⟨rfl, (below_drewN B0 _).trans (HB.mono (Nat.le_of_lt s0))⟩
end Go.Proofs.YtjjfdkdneibjbaaGreatDoor
/- Walks of package shelf: Put. -/
namespace Go.Proofs.YtjjfdkdneibjbaaGreatDoor
open Go.RowKit
attribute [local go_sem ↓] Go.wp_at_zero Go.wp_at_succ

theorem ix_neg {L : List (Int × Int)} {t : Int × Int} : ix L t < 0 ↔ t ∉ L := by
  unfold ix
  by_cases h : t ∈ L
  · simp [h]
  · simp [h]
/-- The buckets behind a Put that was done. -/
def putB (bs : List (List (Int × Int))) (x id : Int) : List (List (Int × Int)) := bs.set (bk bs x) (bs.getD (bk bs x) [] ++ [(x, id)])
/-- Is it there? -/
def hasB (bs : List (List (Int × Int))) (x id : Int) : Prop := (x, id) ∈ bs.getD (bk bs x) []
instance (bs : List (List (Int × Int))) (x id : Int) : Decidable (hasB bs x id) := by unfold hasB; infer_instance
theorem Tryz.infoTh : (Tryz.prog.info? 234).map (fun i => (i.zero, i.size, i.bytes)) = some (some (.agg #[.int .u32 0, .int .i64 0]), 2, 16) := by kernel_rfl

theorem Chg.set {F : Nat → Prop} {w : World} {a : Addr} (h : F a.block) (u : Value) : Chg F w (w.setCell a u) :=
  ⟨rfl, rfl, rfl, by simp, fun k _ hf => Below.heap_setCell w a u k fun e => hf (e ▸ h)⟩

theorem put_fin {w w1 wa w2 : World} {F : Nat → Prop} {p g k : Nat} {vs : List Value} {bs : List (List (Int × Int))} {L : List (Int × Int)} {v v' : Value}
    (h2 : p < w.heap.size) (h3 : g < w.heap.size) (h4 : F p) (h5 : F g) (h6 : p ≠ g) (h7 : w.cell? ⟨p, 0, none⟩ = some (.slice (some ⟨g, 0, none⟩) bs.length bs.length)) (h8 : 0 < bs.length) (h9 : bs.length ≤ 100)
    (h10 : vs.length = bs.length) (h11 : w.heap[g]? = some (.cells vs.toArray 231 (0, 0)))
    (h12 : ∀ i (h : i < bs.length) (h' : i < vs.length), Own eTh 234 w 0 vs[i] bs[i])
    (h13 : ∀ v ∈ vs, ∀ k, v.ownBlock = some k → F k ∧ k ≠ p ∧ k ≠ g)
    (h14 : ∀ i j (h : i < vs.length) (h' : j < vs.length), i ≠ j → ∀ k, vs[i].ownBlock = some k → vs[j].ownBlock ≠ some k)
    (hk : k < vs.length) (hv : vs[k] = v) (HB : Below w.heap.size w w1) (Ha : Below w1.heap.size w1 wa) (hg : wa.grownBy w2 v.ownBlock)
    (hown : Own eTh 234 w2 0 v' L) (hb : ∀ j, v'.ownBlock = some j → v.ownBlock = some j ∨ w.heap.size ≤ j) :
    Chg F w (w2.setCell ⟨g, k, none⟩ v') ∧ ShelfIs (w2.setCell ⟨g, k, none⟩ v') (fun j => F j ∨ w.heap.size ≤ j) (.pointer (some ⟨p, 0, none⟩)) (bs.set k L) := by
  have hm : v ∈ vs := hv ▸ List.getElem_mem hk
  have h1a : w.heap.size ≤ wa.heap.size := Nat.le_trans HB.size Ha.size
  refine ⟨((Chg.of_below HB).trans (Chg.of_below Ha)).trans ((Chg.of_grown hg hg.size fun j hj => (h13 v hm j hj).1).trans (Chg.set h5 _)), ?_⟩
  refine ShelfIs.set h2 h3 h4 h5 h6 h7 h8 h9 h10 h11 h12 h13 h14 hk (fun j h => .inl h) (Nat.le_trans h1a hg.size) (fun j hj hne => ?_) hown (fun j hj => ?_) rfl
  · rw [hg.block j (by omega) (fun e => hne (by rw [hv]; exact e.symm)), Ha.block j (Nat.lt_of_lt_of_le hj HB.size), HB.block j hj]
  · rcases hb j hj with h | h
    · exact ⟨.inl (h13 v hm j h).1, .inl (by rw [hv]; exact h)⟩
    · exact ⟨.inr h, .inr h⟩

set_option maxHeartbeats 2000000 in
set_option maxRecDepth 100000 in
theorem put_any {F : Nat → Prop} {s : Value} {bs : List (List (Int × Int))} (x id : Int) (w : World) (h : ShelfIs w F s bs) (h0 : 0 ≤ x) (h1 : x < 4294967296) (hlen : (bs.getD (bk bs x) []).length < 1000000) :
    Calls Tryz.prog 144 #[s, .int .u32 x, .int .i64 id] w
      fun e w' => e = .returned (.bool (!decide (hasB bs x id))) ∧ Chg F w w' ∧ (hasB bs x id → Below w.heap.size w w') ∧
        ShelfIs w' (fun k => F k ∨ w.heap.size ≤ k) s (if hasB bs x id then bs else putB bs x id) := by
  have hS := h
  obtain ⟨i0, hi, hz0, hz1, hz2⟩ := info_parts Tryz.infoTh
  obtain ⟨p, g, vs, rfl, h2, h3, h4, h5, h6, h7, h8, h9, h10, h11, h12, h13, h14⟩ := h
  obtain ⟨k, hk⟩ : ∃ k, k = bk bs x := ⟨_, rfl⟩
  have hkb : k < bs.length := by rw [hk]; exact bk_lt h8
  have hkv : k < vs.length := by omega
  have hgd : bs.getD (bk bs x) [] = bs[k] := by rw [← hk, List.getD_eq_getElem?_getD, List.getElem?_eq_getElem hkb, Option.getD_some]
  rw [hgd] at hlen
  obtain ⟨L, hL⟩ : ∃ L, L = bs[k] := ⟨_, rfl⟩
  rw [← hL] at hgd hlen
  have hat : ∀ w1 : World, ShelfIs w1 F (.pointer (some ⟨p, 0, none⟩)) bs → ∀ q : Int, q = ix L (x, id) → Calls Tryz.prog 186 #[.pointer (some ⟨p, 0, none⟩), .agg #[.int .u32 x, .int .i64 id]] w1
      fun e w' => e = .returned (.tuple #[.int .i64 k, .int .i64 q]) ∧ Below w1.heap.size w1 w' := by
    intro w1 hS1 q hq
    have := at_any x id w1 hS1 h0 h1
    rw [hgd, ← hk, ← hq] at this
    exact this
  have Hat := hide hat
  have HS := hide hS
  by_cases hm : (x, id) ∈ L
  · have hb : hasB bs x id := by unfold hasB; rw [hgd]; exact hm
    rw [if_pos hb, decide_eq_true hb]
    obtain ⟨q, hq⟩ : ∃ q, q = ix L (x, id) := ⟨_, rfl⟩
    have hx1 : 0 ≤ q := by rw [hq]; exact Int.not_lt.1 fun h => ix_neg.1 h hm
    have Hq := hide hq
    clear h12 h13 h14 h11 h7 hS hm hb hq hat hgd hk h10 hkv hlen hL hkb h8 h9 h6 h5 h4 h3 h2
    go_enter Tryz.func144, Tryz.ntmps144
    go_wp2_with (first | (go_at_call 183; refine (none_any _ (unhide HS)).mono ?_; rintro e w' ⟨he, hw⟩; subst he; subst hw) | (go_at_call 186; refine (unhide Hat _ (unhide HS) q (unhide Hq)).mono ?_; rintro e w1 ⟨he, HB⟩; subst he))
    go_ret
    exact ⟨rfl, Chg.of_below HB, fun _ => HB, ((unhide HS).below HB).mono fun _ h => .inl h⟩
  · have hb : ¬ hasB bs x id := by unfold hasB; rw [hgd]; exact hm
    rw [if_neg hb, decide_eq_false hb]
    obtain ⟨q, hq⟩ : ∃ q, q = ix L (x, id) := ⟨_, rfl⟩
    have hx1 : q < 0 := by rw [hq]; exact ix_neg.2 hm
    have Hq := hide hq
    have hpb : putB bs x id = bs.set k (L ++ [(x, id)]) := by unfold putB; rw [hgd, ← hk]
    rw [hpb]
    obtain ⟨A, c, hv, hsl, _⟩ := (h12 k hkb hkv).sl
    have c3 : w.cell? ⟨g, k, none⟩ = some (.slice A L.length c) := by
      rw [hL, ← hv]
      simp [World.cell?, h11, hkv]
    have hfz : w.frozen? ⟨g, k, none⟩ = false := by simp [World.frozen?, h11]
    have HL := hide hL
    have H10 := hide h10
    have H11 := hide h11
    have H12 := hide h12
    have H13 := hide h13
    have H14 := hide h14
    have h12k := h12 k hkb hkv
    rw [hv, ← hL] at h12k
    have h13k := h13 _ (List.getElem_mem hkv)
    rw [hv, ← hL] at h13k
    rw [← hL] at hv
    have Hv := hide hv
    have Hb := hide hb
    clear hS hm hb hsl hpb hv h11 h12 h13 h14 hk hat hgd hq h10 hL
    go_enter Tryz.func144, Tryz.ntmps144
    go_wp2_with (first | (go_at_call 183; refine (none_any _ (unhide HS)).mono ?_; rintro e w' ⟨he, hw⟩; subst he; subst hw) | (go_at_call 186; refine (unhide Hat _ (unhide HS) q (unhide Hq)).mono ?_; rintro e w1 ⟨he, HB⟩; subst he))
    have hown := h12k.below HB
    have ag : (Value.slice A L.length c).ownBlock ≠ some g := fun e => (h13k g e).2.2 rfl
    have ap : (Value.slice A L.length c).ownBlock ≠ some p := fun e => (h13k p e).2.1 rfl
    have cp := ((bcell HB).1 p 0 h2).trans h7
    have cg := ((bcell HB).1 g k h3).trans c3
    have fg := ((bcell HB).2 g k h3).trans hfz
    have sp := Nat.lt_of_lt_of_le h2 HB.size
    have sg := Nat.lt_of_lt_of_le h3 HB.size
    have H7 := hide h7
    clear c3 h7 hfz h12k
    have HA := hide h13k
    clear h13k
    obtain ⟨cA, fA⟩ : (w1.alloc (.cells #[.int .u32 x, .int .i64 id] 234)).drew.cell? ⟨g, k, none⟩ = some (.slice A L.length c) ∧ (w1.alloc (.cells #[.int .u32 x, .int .i64 id] 234)).drew.frozen? ⟨g, k, none⟩ = false :=
      ⟨(World.cell?_of_block (a := ⟨g, k, none⟩) (Below.heap_alloc w1 _ g sg)).trans cg, (World.frozen?_of_block (a := ⟨g, k, none⟩) (Below.heap_alloc w1 _ g sg)).trans fg⟩
    have pA : (w1.alloc (.cells #[.int .u32 x, .int .i64 id] 234)).drew.cell? ⟨p, 0, none⟩ = some (.slice (some ⟨g, 0, none⟩) bs.length bs.length) := (World.cell?_of_block (a := ⟨p, 0, none⟩) (Below.heap_alloc w1 _ p sp)).trans cp
    go_region_law
      ((refine step_append_lies _ (by rfl) _ _ _ (by rfl) 0 234 i0 _ 2 16 Tryz.underlying231 hi hz0 hz1 hz2 rfl (by omega) (.slice A L.length c) L.length (eTh.flat L) (by rfl) ((hown.alloc _).drewN 1)
          ⟨w1.heap.size, 0, none⟩ 1 1 [.int .u32 x, .int .i64 id] (by rfl) (by rfl) (World.news_of_block (cs := #[.int .u32 x, .int .i64 id]) (t := 234) (fr := (0, 0)) (heap_alloc_new w1 _)) (by simp [Value.oneCell'])
          (by omega) (by unfold maxLen; omega) (by omega) (by omega) (w1.heap.size + 1) (by simp) ?_; intro gg cap w2 hown2 hgrow hat hlt; have cg2 := (hgrow.cell_far ⟨g, k, none⟩ (Nat.lt_of_lt_of_le sg (by simp)) (Ne.symm ag)).trans cA; have fg2 := (hgrow.frozen_far ⟨g, k, none⟩ (Nat.lt_of_lt_of_le sg (by simp)) (Ne.symm ag)).trans fA; have cp2 := (hgrow.cell_far ⟨p, 0, none⟩ (Nat.lt_of_lt_of_le sp (by simp)) (Ne.symm ap)).trans pA))
    all_goals
      go_wp2
      go_ret
      have hfin := put_fin h2 h3 h4 h5 h6 (unhide H7) h8 h9 (unhide H10) (unhide H11) (unhide H12) (unhide H13) (unhide H14) hkv (unhide Hv) HB ((Below.refl w1.heap.size w1).alloc (Nat.le_refl _) (.cells #[.int .u32 x, .int .i64 id] 234)).drew hgrow
        (L := L ++ [(x, id)]) (v' := .slice (some ⟨gg, 0, none⟩) (L.length + 1) cap)
        (by unfold Own; rw [List.length_append, Enc.flat_app, Enc.flat_one]; exact hown2)
        (fun j hj => by injection hj with hj; subst hj; rcases hat with h | h; exact .inl h; exact .inr (show w'.heap.size ≤ gg by have := HB.size; omega))
      exact ⟨rfl, hfin.1, fun h => absurd h (unhide Hb), hfin.2⟩
end Go.Proofs.YtjjfdkdneibjbaaGreatDoor
/- Walk of slices.Delete at things: one element is taken out of a row of the call's own. -/
namespace Go.Proofs.YtjjfdkdneibjbaaGreatDoor
open Go.RowKit

theorem shSetCells_block {b : Nat} {T : TypeId} {fr : Nat × Nat} : ∀ (vs : List Value) (o : Nat) (w : World) (cur : Array Value), w.heap[b]? = some (.cells cur T fr) →
    ∃ cur' : Array Value, (w.setCells b o vs).heap[b]? = some (.cells cur' T fr) ∧ cur'.size = cur.size ∧ ∀ i : Nat, cur'[i]? = if o ≤ i ∧ i < o + vs.length ∧ i < cur.size then vs[i - o]? else cur[i]?
  | [], o, w, cur, h => ⟨cur, h, rfl, fun i => by rw [if_neg (by simp; omega)]⟩
  | v :: r, o, w, cur, h => by
    have h1 : (w.setCell ⟨b, o, none⟩ v).heap[b]? = some (.cells (cur.setIfInBounds o v) T fr) := by simp [World.setCell, Array.getElem?_modify, h]
    obtain ⟨cur', h2, h3, h4⟩ := shSetCells_block r (o + 1) _ _ h1
    refine ⟨cur', h2, by rw [h3]; simp, fun i => ?_⟩
    rw [h4 i]
    simp only [Array.size_setIfInBounds, List.length_cons]
    by_cases c1 : o + 1 ≤ i ∧ i < o + 1 + r.length ∧ i < cur.size
    · rw [if_pos c1, if_pos (by omega), show i - o = (i - (o + 1)) + 1 by omega, List.getElem?_cons_succ]
    · rw [if_neg c1]
      by_cases c2 : i = o
      · subst c2
        by_cases c3 : i < cur.size
        · rw [if_pos (by omega)]; simp [c3]
        · rw [if_neg (by omega)]; simp [c3]
      · rw [if_neg (by omega), Array.getElem?_setIfInBounds_ne (by omega)]
theorem setCells_kept (g : Nat) : ∀ (vs : List Value) (o : Nat) (w : World), (w.setCells g o vs).os = w.os ∧ (w.setCells g o vs).tape = w.tape ∧ (w.setCells g o vs).output = w.output ∧ (w.setCells g o vs).heap.size = w.heap.size ∧
    ∀ k, k ≠ g → (w.setCells g o vs).heap[k]? = w.heap[k]?
  | [], _, _ => ⟨rfl, rfl, rfl, rfl, fun _ _ => rfl⟩
  | v :: r, o, w => by
    obtain ⟨h1, h2, h3, h4, h5⟩ := setCells_kept g r (o + 1) (w.setCell ⟨g, o, none⟩ v)
    exact ⟨h1, h2, h3, h4.trans (by simp), fun k hk => (h5 k hk).trans (Below.heap_setCell w ⟨g, o, none⟩ v k hk)⟩
theorem zeroTh (w : World) : (zeroValue 234).run Tryz.prog w = .ok (.agg #[.int .u32 0, .int .i64 0]) w := by kernel_rfl

theorem own_delete {w w1 : World} {base g cap i : Nat} {L : List (Int × Int)} (h : Own eTh 234 w base (.slice (some ⟨g, 0, none⟩) L.length cap) L) (hi : i < L.length)
    (hw : w1 = (w.setCells g (i * 2) (eTh.flat (L.drop (i + 1)))).setCells g ((L.length - 1) * 2) [.int .u32 0, .int .i64 0]) :
    Own eTh 234 w1 base (.slice (some ⟨g, 0, none⟩) (L.length - 1) cap) (L.eraseIdx i) := by
  subst hw
  obtain ⟨_, h2⟩ := h
  rcases h2 with ⟨h2, _⟩ | ⟨g', cap', cur, hv, hg, hh, hnc, hm, hs, ht⟩
  · cases h2
  cases hv
  obtain ⟨cu1, a1, a2, a3⟩ := shSetCells_block (eTh.flat (L.drop (i + 1))) (i * 2) w cur hh
  obtain ⟨cu2, b1, b2, b3⟩ := shSetCells_block [.int .u32 0, .int .i64 0] ((L.length - 1) * 2) _ cu1 a1
  have hl : (L.eraseIdx i).length = L.length - 1 := by rw [List.length_eraseIdx, if_pos hi]
  have hz : eTh.sz = 2 := rfl
  refine ⟨by rw [Enc.flat_len], .inr ⟨g, cap, cu2, by rw [hl], hg, b1, by rw [hl]; omega, hm, by rw [b2, a2, hs], ?_⟩⟩
  rw [hl, hz]
  have hfl : (eTh.flat (L.eraseIdx i)).length = (L.length - 1) * 2 := by rw [Enc.flat_len, hl, hz]
  have hsz : cur.size = cap * 2 := hs
  apply List.ext_getElem?
  intro k
  by_cases hk : k < (L.length - 1) * 2
  · rw [List.getElem?_take_of_lt hk, Array.getElem?_toList, b3, if_neg (by omega), a3]
    simp only [Enc.flat_len, List.length_drop, hz]
    have hcur : ∀ q, q < L.length * 2 → cur[q]? = (eTh.flat L)[q]? := fun q hq => by
      rw [← ht, List.getElem?_take_of_lt (by rw [hz]; exact hq), Array.getElem?_toList]
    rw [List.eraseIdx_eq_take_drop_succ, Enc.flat_app]
    have hft : (eTh.flat (L.take i)).length = i * 2 := by rw [Enc.flat_len, List.length_take, hz]; omega
    by_cases c : k < i * 2
    · rw [if_neg (by omega), hcur k (by omega), List.getElem?_append_left (by omega)]
      conv => lhs; rw [← List.take_append_drop i L, Enc.flat_app]
      rw [List.getElem?_append_left (by omega)]
    · rw [if_pos (by omega), List.getElem?_append_right (by omega), hft]
  · rw [List.getElem?_eq_none (by simp; omega), List.getElem?_eq_none (by omega)]

set_option maxHeartbeats 4000000 in
set_option maxRecDepth 100000 in
theorem delete_any (g cap base i j : Nat) (L : List (Int × Int)) (w : World) (h : Own eTh 234 w base (.slice (some ⟨g, 0, none⟩) L.length cap) L) (hi : i < L.length) (hij : j = i + 1) :
    Calls Tryz.prog 187 #[.slice (some ⟨g, 0, none⟩) L.length cap, .int .i64 i, .int .i64 j] w
      fun e w' => e = .returned (.slice (some ⟨g, 0, none⟩) (L.length - 1) cap) ∧ Own eTh 234 w' base (.slice (some ⟨g, 0, none⟩) (L.length - 1) cap) (L.eraseIdx i) ∧ w.grownBy w' (some g) := by
  obtain ⟨i0, hi0, hz0, hz1, hz2⟩ := info_parts Tryz.infoTh
  obtain ⟨hcap, hm⟩ : L.length ≤ cap ∧ cap ≤ 9223372036854775807 := by
    obtain ⟨A, c, hv, hs, _⟩ := h.sl
    injection hv with _ _ hc
    subst hc
    exact ⟨hs.2.1, hs.2.2.1⟩
  have hcell : ∀ q, q < L.length * 2 → ∃ v, (eTh.flat L)[q]? = some v ∧ w.cell? ⟨g, q, none⟩ = some v := by
    intro q hq
    have hl : (eTh.flat L).length = L.length * 2 := Enc.flat_len L
    refine ⟨_, List.getElem?_eq_getElem (by omega), ?_⟩
    have h0 := World.ownsRow.cellAt h q (by rw [show eTh.sz = 2 from rfl]; omega)
    rw [List.getElem?_eq_getElem (by omega)] at h0
    exact h0
  have hfro : ∀ q, w.frozen? ⟨g, q, none⟩ = false := fun q => h.frozen q
  obtain ⟨news, hnews⟩ : ∃ news, news = eTh.flat (L.drop j) := ⟨_, rfl⟩
  have hlen : news.length = (L.length - j) * 2 := by rw [hnews, Enc.flat_len, List.length_drop]; rfl
  obtain ⟨A, hA, hsrc⟩ : ∃ A : Addr, (if cap = j then some (⟨g, 0, none⟩ : Addr) else some ⟨g, j * 2, none⟩) = some A ∧ Hid (∀ t u, news[t]? = some u → w.drew.cell? (A.add t) = some u) := by
    by_cases hc : cap = j
    · refine ⟨⟨g, 0, none⟩, by simp [hc], fun t u hu => ?_⟩
      have h0 : news.length = 0 := by rw [hlen]; omega
      rw [List.length_eq_zero_iff.1 h0] at hu
      simp at hu
    · refine ⟨⟨g, j * 2, none⟩, by simp [hc], fun t u hu => ?_⟩
      have ht : t < (L.length - j) * 2 := by
        have := (List.getElem?_eq_some_iff.1 hu).1
        rwa [hlen] at this
      obtain ⟨v, h1, h2⟩ := hcell (j * 2 + t) (by omega)
      rw [Go.WideShapes.add_plain]
      refine (show w.drew.cell? ⟨g, j * 2 + t, none⟩ = some v from h2).trans ?_
      rw [← h1, ← hu, hnews]
      conv => lhs; rw [← List.take_append_drop j L, Enc.flat_app]
      have hlt : (eTh.flat (L.take j)).length = j * 2 := by rw [Enc.flat_len, List.length_take, show eTh.sz = 2 from rfl]; omega
      rw [List.getElem?_append_right (by omega), hlt, Nat.add_sub_cancel_left]
  have s1 : Hid (news.length = (L.length - j) * 2) := hlen
  have s2 : Hid (∀ u ∈ news, u.oneCell' = true) := by rw [hnews]; exact eTh_one _
  have s3 : Hid (∀ t, t < news.length → (w.drew.cell? ⟨g, 0 + i * 2 + t, none⟩).isSome = true ∧ w.drew.frozen? ⟨g, 0 + i * 2 + t, none⟩ = false) := by
    intro t ht
    rw [hlen] at ht
    obtain ⟨v, _, h2⟩ := hcell (0 + i * 2 + t) (by omega)
    exact ⟨by show (w.cell? _).isSome = true; rw [h2]; rfl, hfro _⟩
  obtain ⟨W1, hW1⟩ : ∃ W1, W1 = w.drew.setCells g (0 + i * 2) news := ⟨_, rfl⟩
  have hiso : ∀ q, q < L.length * 2 → (W1.cell? ⟨g, q, none⟩).isSome = true ∧ W1.frozen? ⟨g, q, none⟩ = false := by
    intro q hq
    obtain ⟨v, _, h2⟩ := hcell q hq
    rw [hW1]
    refine ⟨World.isSome_setCells g news _ _ _ (by show (w.cell? _).isSome = true; rw [h2]; rfl), ?_⟩
    rw [World.frozen?_setCells]
    exact hfro q
  have hcl : ∀ ty, (Builtin.clear_ #[231] ty #[.slice (some ⟨g, (i + (L.length - j)) * 2, none⟩) (L.length - (i + (L.length - j))) (cap - (i + (L.length - j)))]).run Tryz.prog W1 =
      .ok (.tuple #[]) (W1.setCells g ((L.length - 1) * 2) [.int .u32 0, .int .i64 0]) := by
    intro ty
    have e1 : L.length - (i + (L.length - j)) = 1 := by omega
    have e2 : i + (L.length - j) = L.length - 1 := by omega
    rw [e1, e2]
    have hst := run_storeCells_cells (P := Tryz.prog) g ((L.length - 1) * 2) [.int .u32 0, .int .i64 0] 0 W1 (fun t ht => by rw [Nat.add_zero]; exact (hiso _ (by simp at ht; omega)).1) (fun t ht => by rw [Nat.add_zero]; exact (hiso _ (by simp at ht; omega)).2) (by simp [Value.oneCell'])
    simp only [Nat.add_zero] at hst
    have hzc : (Builtin.zeroCells (Value.agg #[.int .u32 0, .int .i64 0]).cells 1).toList = [.int .u32 0, .int .i64 0] := by kernel_rfl
    simp [Builtin.clear_, run_underlying Tryz.underlying231, hzc, hst]
  have hW : Hid (W1 = w.drew.setCells g (0 + i * 2) news) := hW1
  have hic : i ≤ cap := by omega
  have hjc : j ≤ cap := by omega
  have hlt : i < j := by omega
  have hjl : j ≤ L.length := by omega
  have Hij := hide hij
  have Hn := hide hnews
  have H := hide h
  clear hW1 h hcell hfro hnews hlen hiso hij
  go_enter Tryz.func187, Tryz.ntmps187
  go_wp2_with fail
  go_region_law (refine step_append_room rfl (.tmp 22) (.tmp 25) 231 rfl 234 i0 2 Tryz.underlying231 hi0 hz1 g 0 i cap (by simp [Act.eval, Act.put]) A (L.length - j) (cap - j) news (by simp [Act.eval, Act.put]) s1.out hsrc.out s2.out (by omega) s3.out ?_; rw [← hW.out])
  go_wp2
  go_ret
  have e1 : i + (L.length - j) = L.length - 1 := by have := unhide Hij; omega
  rw [e1]
  have hw' : W1.setCells g ((L.length - 1) * 2) [.int .u32 0, .int .i64 0] = (w.drew.setCells g (i * 2) (eTh.flat (L.drop (i + 1)))).setCells g ((L.length - 1) * 2) [.int .u32 0, .int .i64 0] := by
    rw [unhide hW, unhide Hn, unhide Hij, Nat.zero_add]
  refine ⟨rfl, own_delete (w := w.drew) ((unhide H).drewN 1) hi hw', ?_⟩
  rw [hw']
  have k1 := setCells_kept g (eTh.flat (L.drop (i + 1))) (i * 2) w.drew
  have k2 := setCells_kept g [.int .u32 0, .int .i64 0] ((L.length - 1) * 2) (w.drew.setCells g (i * 2) (eTh.flat (L.drop (i + 1))))
  exact ⟨k2.1.trans k1.1, k2.2.1.trans k1.2.1, k2.2.2.1.trans k1.2.2.1, by rw [k2.2.2.2.1, k1.2.2.2.1]; exact Nat.le_refl _, fun k hk hne => (k2.2.2.2.2 k (fun e => hne (by rw [e]))).trans (k1.2.2.2.2 k (fun e => hne (by rw [e])))⟩
end Go.Proofs.YtjjfdkdneibjbaaGreatDoor
/- Walks of package shelf: Cut. -/
namespace Go.Proofs.YtjjfdkdneibjbaaGreatDoor
open Go.RowKit
attribute [local go_sem ↓] Go.wp_at_zero Go.wp_at_succ

/-- The buckets behind a Cut that was done. -/
def cutB (bs : List (List (Int × Int))) (x id : Int) : List (List (Int × Int)) := bs.set (bk bs x) ((bs.getD (bk bs x) []).erase (x, id))
theorem ix_pos {L : List (Int × Int)} {t : Int × Int} (h : t ∈ L) : ix L t = (L.idxOf t : Int) := by unfold ix; rw [if_pos h]
theorem erase_idx {L : List (Int × Int)} {t : Int × Int} : L.erase t = L.eraseIdx (L.idxOf t) := List.erase_eq_eraseIdx_of_idxOf rfl

set_option maxHeartbeats 400000 in
set_option maxRecDepth 100000 in
theorem cut_any {F : Nat → Prop} {s : Value} {bs : List (List (Int × Int))} (x id : Int) (w : World) (h : ShelfIs w F s bs) (h0 : 0 ≤ x) (h1 : x < 4294967296) :
    Calls Tryz.prog 149 #[s, .int .u32 x, .int .i64 id] w
      fun e w' => e = .returned (.bool (decide (hasB bs x id))) ∧ Chg F w w' ∧ (¬ hasB bs x id → Below w.heap.size w w') ∧
        ShelfIs w' (fun k => F k ∨ w.heap.size ≤ k) s (if hasB bs x id then cutB bs x id else bs) := by
  have hS := h
  obtain ⟨i0, hi, hz0, hz1, hz2⟩ := info_parts Tryz.infoTh
  obtain ⟨p, g, vs, rfl, h2, h3, h4, h5, h6, h7, h8, h9, h10, h11, h12, h13, h14⟩ := h
  obtain ⟨k, hk⟩ : ∃ k, k = bk bs x := ⟨_, rfl⟩
  have hkb : k < bs.length := by rw [hk]; exact bk_lt h8
  have hkv : k < vs.length := by omega
  have hgd : bs.getD (bk bs x) [] = bs[k] := by rw [← hk, List.getD_eq_getElem?_getD, List.getElem?_eq_getElem hkb, Option.getD_some]
  obtain ⟨L, hL⟩ : ∃ L, L = bs[k] := ⟨_, rfl⟩
  rw [← hL] at hgd
  have hat : ∀ w1 : World, ShelfIs w1 F (.pointer (some ⟨p, 0, none⟩)) bs → ∀ q : Int, q = ix L (x, id) → Calls Tryz.prog 186 #[.pointer (some ⟨p, 0, none⟩), .agg #[.int .u32 x, .int .i64 id]] w1
      fun e w' => e = .returned (.tuple #[.int .i64 k, .int .i64 q]) ∧ Below w1.heap.size w1 w' := by
    intro w1 hS1 q hq
    have := at_any x id w1 hS1 h0 h1
    rw [hgd, ← hk, ← hq] at this
    exact this
  have Hat := hide hat
  have HS := hide hS
  by_cases hm : (x, id) ∈ L
  case neg =>
    have hb : ¬ hasB bs x id := by unfold hasB; rw [hgd]; exact hm
    rw [if_neg hb, decide_eq_false hb]
    obtain ⟨q, hq⟩ : ∃ q, q = ix L (x, id) := ⟨_, rfl⟩
    have hx1 : q < 0 := by rw [hq]; exact ix_neg.2 hm
    have Hq := hide hq
    clear h12 h13 h14 h11 h7 hS hm hb hq hat hgd hk h10 hkv hL hkb h8 h9 h6 h5 h4 h3 h2
    go_enter Tryz.func149, Tryz.ntmps149
    go_wp2_with (first | (go_at_call 183; refine (none_any _ (unhide HS)).mono ?_; rintro e w' ⟨he, hw⟩; subst he; subst hw) | (go_at_call 186; refine (unhide Hat _ (unhide HS) q (unhide Hq)).mono ?_; rintro e w1 ⟨he, HB⟩; subst he))
    go_ret
    exact ⟨rfl, Chg.of_below HB, fun _ => HB, ((unhide HS).below HB).mono fun _ h => .inl h⟩
  case pos =>
    have hb : hasB bs x id := by unfold hasB; rw [hgd]; exact hm
    rw [if_pos hb, decide_eq_true hb]
    obtain ⟨i, hi'⟩ : ∃ i, i = L.idxOf (x, id) := ⟨_, rfl⟩
    have hil : i < L.length := by rw [hi']; exact List.idxOf_lt_length_of_mem hm
    have Hq := hide (show (i : Int) = ix L (x, id) by rw [hi']; exact (ix_pos hm).symm)
    have hpb : cutB bs x id = bs.set k (L.eraseIdx i) := by unfold cutB; rw [hgd, ← hk, hi', erase_idx]
    rw [hpb]
    have h12k := h12 k hkb hkv
    rw [← hL] at h12k
    obtain ⟨A, c, hv, hsl, _⟩ := h12k.sl
    rw [hv] at h12k
    have c3 : w.cell? ⟨g, k, none⟩ = some (.slice A L.length c) := by
      rw [← hv]
      simp [World.cell?, h11, hkv]
    have hfz : w.frozen? ⟨g, k, none⟩ = false := by simp [World.frozen?, h11]
    have h13k := h13 _ (List.getElem_mem hkv)
    rw [hv] at h13k
    obtain ⟨gb, hA⟩ : ∃ gb, A = some ⟨gb, 0, none⟩ := by
      rcases h12k.shape with ⟨_, h0⟩ | ⟨gb, cap, hv', _⟩
      · rw [h0] at hil; simp at hil
      · injection hv' with hv' _ _
        exact ⟨gb, hv'⟩
    subst hA
    have HL := hide hL
    have H10 := hide h10
    have H11 := hide h11
    have H12 := hide h12
    have H13 := hide h13
    have H14 := hide h14
    have Hv := hide hv
    have Hb := hide hb
    have Hi' := hide hi'
    have hlb : L.length ≤ 9223372036854775807 := by
      have h1 := hsl.2.1
      have h2 := hsl.2.2.1
      omega
    clear hS hm hb hsl hpb hv h11 h12 h13 h14 hk hat hgd h10 hL hi'
    go_enter Tryz.func149, Tryz.ntmps149
    go_wp2_with (first | (go_at_call 183; refine (none_any _ (unhide HS)).mono ?_; rintro e w' ⟨he, hw⟩; subst he; subst hw) | (go_at_call 186; refine (unhide Hat _ (unhide HS) i (unhide Hq)).mono ?_; rintro e w1 ⟨he, HB⟩; subst he))
    have hown := h12k.below HB
    have ag : some g ≠ some gb := fun e => (h13k g (by rw [e]; rfl)).2.2 rfl
    have ap : some p ≠ some gb := fun e => (h13k p (by rw [e]; rfl)).2.1 rfl
    have cp := ((bcell HB).1 p 0 h2).trans h7
    have cg := ((bcell HB).1 g k h3).trans c3
    have fg := ((bcell HB).2 g k h3).trans hfz
    have sp := Nat.lt_of_lt_of_le h2 HB.size
    have sg := Nat.lt_of_lt_of_le h3 HB.size
    have H7 := hide h7
    clear c3 h7 hfz h12k
    have HA := hide h13k
    clear h13k
    have hdel : ∀ w1 : World, Own eTh 234 w1 0 (.slice (some ⟨gb, 0, none⟩) L.length c) L → Calls Tryz.prog 187 #[.slice (some ⟨gb, 0, none⟩) L.length c, .int .i64 (i : Int), .int .i64 ((i : Int) + 1)] w1
        fun e w' => e = .returned (.slice (some ⟨gb, 0, none⟩) (L.length - 1) c) ∧ Own eTh 234 w' 0 (.slice (some ⟨gb, 0, none⟩) (L.length - 1) c) (L.eraseIdx i) ∧ w1.grownBy w' (some gb) := by
      intro w1 ho
      have := delete_any gb c 0 i (i + 1) L w1 ho hil rfl
      rw [show ((i + 1 : Nat) : Int) = (i : Int) + 1 by omega] at this
      exact this
    have hwr := hide (show IntKind.i64.wrap ((i : Int) + 1) = (i : Int) + 1 from by rw [IntKind.wrap_i64]; omega)
    have Hdel := hide hdel
    clear hdel
    go_region_with ((go_at_call 187; rw [unhide hwr]; refine (unhide Hdel w1.drew hown).mono ?_; rintro e w2 ⟨he, hown2, hgrow⟩; subst he; have cg2 := (hgrow.cell_far ⟨g, k, none⟩ sg ag).trans cg; have fg2 := (hgrow.frozen_far ⟨g, k, none⟩ sg ag).trans fg; have cp2 := (hgrow.cell_far ⟨p, 0, none⟩ sp ap).trans cp))
    all_goals
      go_wp2
      go_ret
      have hfin := put_fin h2 h3 h4 h5 h6 (unhide H7) h8 h9 (unhide H10) (unhide H11) (unhide H12) (unhide H13) (unhide H14) hkv (unhide Hv) HB (Below.refl w1.heap.size w1).drew hgrow
        (L := L.eraseIdx i) (v' := .slice (some ⟨gb, 0, none⟩) (L.length - 1) c) hown2
        (fun j hj => .inl hj)
      exact ⟨rfl, hfin.1, fun h => absurd (unhide Hb) h, hfin.2⟩
end Go.Proofs.YtjjfdkdneibjbaaGreatDoor
