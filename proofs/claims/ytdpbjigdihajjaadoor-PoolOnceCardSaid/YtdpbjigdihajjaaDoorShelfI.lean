/- Walk of package shelf: Find. -/
import Derived.Test.YtdpbjigdihajjaaDoorShelfP
import Derived.Test.YtdpbjigdihajjaaDoorSort
namespace Go.Proofs.YtdpbjigdihajjaaDoor
open Go.RowKit

/-- The numbers of a bucket under a fingerprint, as they stand. -/
def foundL (L : List (Int × Int)) (x : Int) : List Int := (L.filter fun t => t.1 == x).map fun t => t.2
theorem foundL_len (L : List (Int × Int)) (x : Int) : (foundL L x).length ≤ L.length := by
  unfold foundL
  rw [List.length_map]
  exact List.length_filter_le _ _
theorem foundL_hit {L : List (Int × Int)} {x : Int} {k : Nat} (h : k < L.length) (hx : L[k].1 = x) : foundL (L.take (k + 1)) x = foundL (L.take k) x ++ [L[k].2] := by
  unfold foundL
  rw [List.take_succ_eq_append_getElem h, List.filter_append, List.map_append]
  simp [hx]
theorem foundL_miss {L : List (Int × Int)} {x : Int} {k : Nat} (h : k < L.length) (hx : L[k].1 ≠ x) : foundL (L.take (k + 1)) x = foundL (L.take k) x := by
  unfold foundL
  rw [List.take_succ_eq_append_getElem h, List.filter_append, List.map_append]
  simp [hx]

set_option maxHeartbeats 2000000 in
set_option maxRecDepth 100000 in
theorem find_any {F : Nat → Prop} {s : Value} {bs : List (List (Int × Int))} (x : Int) (w : World) (h : ShelfIs w F s bs) (h0 : 0 ≤ x) (h1 : x < 4294967296) (hlen : (bs.getD (bk bs x) []).length ≤ 1000000000) :
    Calls Tryd.prog 37 #[s, .int .u32 x] w
      fun e w' => ∃ v, e = .returned v ∧ Own eI 3 w' w.heap.size v (findL bs x) ∧ Below w.heap.size w w' := by
  have hS := h
  obtain ⟨i0, hi, hz0, hz1, hz2⟩ := info_parts Tryd.infoIn
  obtain ⟨p, g, vs, rfl, h2, h3, h4, h5, h6, h7, h8, h9, h10, h11, h12, h13, h14⟩ := h
  obtain ⟨k, hk⟩ : ∃ k, k = bk bs x := ⟨_, rfl⟩
  have hkb : k < bs.length := by rw [hk]; exact bk_lt h8
  have hkv : k < vs.length := by omega
  have hxk : x % (bs.length : Int) = (k : Int) := by rw [hk]; exact bk_eq h8
  have hgd : bs.getD (bk bs x) [] = bs[k] := by rw [← hk, List.getD_eq_getElem?_getD, List.getElem?_eq_getElem hkb, Option.getD_some]
  obtain ⟨L, hL⟩ : ∃ L, L = bs[k] := ⟨_, rfl⟩
  rw [hgd, ← hL] at hlen
  have hfl : findL bs x = (foundL L x).mergeSort fun a b => decide (a ≤ b) := by unfold findL foundL; rw [hgd, hL]
  rw [hfl]
  obtain ⟨A, c, hv, hsl, _⟩ := (h12 k hkb hkv).sl
  rw [← hL] at hv hsl
  have c3 : w.cell? ⟨g, k, none⟩ = some (.slice A L.length c) := by
    rw [← hv]
    simp [World.cell?, h11, hkv]
  have hc1 := hsl.2.1
  have hc2 := hsl.2.2.1
  have HR := hide hsl.2.2.2
  have HS := hide hS
  have hbk : ∀ w1 : World, Calls Tryd.prog 60 #[.int .u32 x, .int .i64 bs.length] w1 fun e w' => e = .returned (.int .i64 (k : Int)) ∧ w' = w1 := by
    intro w1
    have := bucket_any x bs.length w1 h0 h1 (by omega) (by omega)
    rw [hxk] at this
    exact this
  have Hbk := hide hbk
  clear hbk h12 h13 h14 h11 h10 hS hk hxk hgd hfl hv hsl hL
  go_enter Tryd.func37, Tryd.ntmps37
  go_wp2_with (go_at_call 59; refine (none_any _ (unhide HS)).mono ?_; rintro e w' ⟨he, hw⟩; subst he; subst hw)
  go_quiet ((go_at_call 60; refine Calls.quiet_of_same (unhide Hbk _)))
  go_wp2_with fail
  go_loopw [5, 24] (fun v i wr => ∃ j : Nat, j ≤ L.length ∧ i = .int .i64 j ∧ (∃ A n c, v = .slice A n c ∧ Own eI 3 wr w'.heap.size (.slice A n c) (foundL (L.take j) x)) ∧ Below w'.heap.size w' wr)
    (fun _ i _ => L.length - (intOf i).toNat)
  case atStart => exact ⟨0, Nat.zero_le _, rfl, ⟨none, 0, 0, rfl, Own.nil _ _ _ _⟩, below_drewN (Below.refl _ _) _⟩
  case round =>
    obtain ⟨j, hj, rfl, ⟨Av, nv, cv, rfl, hown⟩, HB⟩ := hrel
    by_cases hlt : j < L.length
    · obtain ⟨b, off, hA', hb, hr⟩ := unhide HR (by omega)
      subst hA'
      have x0 : wr.cell? ⟨b, off + j * 2, none⟩ = some (.int .u32 L[j].1) := by rw [(bcell HB).1 _ _ hb]; simpa [eTh] using hr j hlt 0 (by decide)
      have x1 : wr.cell? ⟨b, off + j * 2 + 1, none⟩ = some (.int .i64 L[j].2) := by rw [(bcell HB).1 _ _ hb]; simpa [eTh] using hr j hlt 1 (by decide)
      have hfle : (foundL (L.take j) x).length ≤ j := Nat.le_trans (foundL_len _ _) (by rw [List.length_take]; omega)
      have Hfle := hide hfle
      clear hr hfle
      by_cases he : L[j].1 = x
      · have Hhit := hide (foundL_hit hlt he)
        obtain ⟨y, hy⟩ : ∃ y, y = L[j].2 := ⟨_, rfl⟩
        rw [he] at x0
        rw [← hy] at x1
        have Hy := hide hy
        have q1 : (x == x) = true := beq_self_eq_true x
        clear he hy
        go_wp2_with (at_builtin; go_loud (refine wpList_append_one eI rfl _ _ _ rfl w'.heap.size 3 i0 (.int .i64 0) 8 Tryd.underlying73 hi hz0 hz1 hz2 rfl (by decide) _ (foundL (L.take j) x) rfl _ (hown.alloc _) y #[.int .i64 y] rfl (by simp [Act.eval]) (one_int _) ?c3 ?c4 ?c5 ?_))
        case c3 => have := unhide Hfle; unfold maxLen; omega
        case c4 => have := unhide Hfle; omega
        case c5 => have := HB.size; simp; omega
        intro v1 w1 hown1 hgr hloc
        have hb1 := (HB.alloc HB.size (.cells #[.int .u32 x, .int .i64 y] 122)).alloc (by have := HB.size; simp; omega) (.cells #[.int .i64 y] 3)
        have B2 : Below w'.heap.size w' w1 := hb1.grown hgr hb1.size fun j hj => (hown.lt j hj).1
        obtain ⟨A1, c1, hv1, _, _⟩ := hown1.sl
        subst hv1
        have Hown1 := hide hown1
        clear hgr hloc hb1 hown HB x0 x1 hown1
        go_wp2
        go_roundw
        case rel => exact ⟨j + 1, by omega, by go_num, ⟨A1, _, c1, rfl, by rw [unhide Hhit, ← unhide Hy]; exact unhide Hown1⟩, B2⟩
        case measure => simp [intOf]; omega
      · have Hmiss := hide (foundL_miss hlt he)
        obtain ⟨z, hz⟩ : ∃ z, z = L[j].1 := ⟨_, rfl⟩
        rw [← hz] at x0 he
        have q1 : (z == x) = false := beq_eq_false_iff_ne.2 he
        have Hz := hide hz
        clear hz
        go_wp2
        go_roundw
        case rel => exact ⟨j + 1, by omega, by go_num, ⟨Av, nv, cv, rfl, by rw [unhide Hmiss]; exact hown.alloc _⟩, HB.alloc HB.size _⟩
        case measure => simp [intOf]; omega
    · obtain rfl : j = L.length := by omega
      rw [List.take_length] at hown
      have hfle := foundL_len L x
      go_wp2_with fail
      refine (sort_any hown (by omega)).mono ?_
      rintro e w1 ⟨rfl, hown1, hgr⟩
      have B2 : Below w'.heap.size w' w1 := HB.grown hgr HB.size fun j hj => (hown.lt j hj).1
      go_wp2
      go_ret
      exact ⟨_, rfl, hown1, B2⟩
end Go.Proofs.YtdpbjigdihajjaaDoor
