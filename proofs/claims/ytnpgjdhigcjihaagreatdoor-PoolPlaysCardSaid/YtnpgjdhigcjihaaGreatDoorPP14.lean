/- Joined texts: ShelfI, ShelfJ, PoolD, PoolB. -/
import Derived.Test.YtnpgjdhigcjihaaGreatDoorPP12
import Derived.Test.YtnpgjdhigcjihaaGreatDoorPP13
import Derived.Test.YtnpgjdhigcjihaaGreatDoorPP02
import Derived.Test.YtnpgjdhigcjihaaGreatDoorPP01
/- Walk of package shelf: Find. -/
namespace Go.Proofs.YtnpgjdhigcjihaaGreatDoor
open Go.RowKit

/-- The numbers of a bucket under a fingerprint, as they stand. -/
def foundL (L : List (Int × Int)) (x : Int) : List Int := (L.filter fun t => t.1 == x).map fun t => t.2
theorem foundL_len (L : List (Int × Int)) (x : Int) : (foundL L x).length ≤ L.length := by
  unfold foundL
  rw [List.length_map]
  exact List.length_filter_le _ _
theorem foundL_hit {L : List (Int × Int)} {x : Int} {k : Nat} (h : k < L.length) (hx : L[k].1 = x) : foundL (L.take (k + 1)) x = foundL (L.take k) x ++ [L[k].2] := by
  unfold foundL
  rw [List.take_succ_eq_append_getElem h, List.filter_append, List.map_append]
  simp [hx]
theorem foundL_miss {L : List (Int × Int)} {x : Int} {k : Nat} (h : k < L.length) (hx : L[k].1 ≠ x) : foundL (L.take (k + 1)) x = foundL (L.take k) x := by
  unfold foundL
  rw [List.take_succ_eq_append_getElem h, List.filter_append, List.map_append]
  simp [hx]

set_option maxHeartbeats 2000000 in
set_option maxRecDepth 100000 in
theorem find_any {F : Nat → Prop} {s : Value} {bs : List (List (Int × Int))} (x : Int) (w : World) (h : ShelfIs w F s bs) (h0 : 0 ≤ x) (h1 : x < 4294967296) (hlen : (bs.getD (bk bs x) []).length ≤ 1000000000) :
    Calls Tryz.prog 39 #[s, .int .u32 x] w
      fun e w' => ∃ v, e = .returned v ∧ Own eI 3 w' w.heap.size v (findL bs x) ∧ Below w.heap.size w w' := by
  have hS := h
  obtain ⟨i0, hi, hz0, hz1, hz2⟩ := info_parts Tryz.infoIn
  obtain ⟨p, g, vs, rfl, h2, h3, h4, h5, h6, h7, h8, h9, h10, h11, h12, h13, h14⟩ := h
  obtain ⟨k, hk⟩ : ∃ k, k = bk bs x := ⟨_, rfl⟩
  have hkb : k < bs.length := by rw [hk]; exact bk_lt h8
  have hkv : k < vs.length := by omega
  have hxk : x % (bs.length : Int) = (k : Int) := by rw [hk]; exact bk_eq h8
  have hgd : bs.getD (bk bs x) [] = bs[k] := by rw [← hk, List.getD_eq_getElem?_getD, List.getElem?_eq_getElem hkb, Option.getD_some]
  obtain ⟨L, hL⟩ : ∃ L, L = bs[k] := ⟨_, rfl⟩
  rw [hgd, ← hL] at hlen
  have hfl : findL bs x = (foundL L x).mergeSort fun a b => decide (a ≤ b) := by unfold findL foundL; rw [hgd, hL]
  rw [hfl]
  obtain ⟨A, c, hv, hsl, _⟩ := (h12 k hkb hkv).sl
  rw [← hL] at hv hsl
  have c3 : w.cell? ⟨g, k, none⟩ = some (.slice A L.length c) := by
    rw [← hv]
    simp [World.cell?, h11, hkv]
  have hc1 := hsl.2.1
  have hc2 := hsl.2.2.1
  have HR := hide hsl.2.2.2
  have HS := hide hS
  have hbk : ∀ w1 : World, Calls Tryz.prog 83 #[.int .u32 x, .int .i64 bs.length] w1 fun e w' => e = .returned (.int .i64 (k : Int)) ∧ w' = w1 := by
    intro w1
    have := bucket_any x bs.length w1 h0 h1 (by omega) (by omega)
    rw [hxk] at this
    exact this
  have Hbk := hide hbk
  clear hbk h12 h13 h14 h11 h10 hS hk hxk hgd hfl hv hsl hL
  go_enter Tryz.func39, Tryz.ntmps39
  go_wp2_with (go_at_call 82; refine (none_any _ (unhide HS)).mono ?_; rintro e w' ⟨he, hw⟩; subst he; subst hw)
  go_quiet ((go_at_call 83; refine Calls.quiet_of_same (unhide Hbk _)))
  go_wp2_with fail
  go_loopw [5, 24] (fun v i wr => ∃ j : Nat, j ≤ L.length ∧ i = .int .i64 j ∧ (∃ A n c, v = .slice A n c ∧ Own eI 3 wr w'.heap.size (.slice A n c) (foundL (L.take j) x)) ∧ Below w'.heap.size w' wr)
    (fun _ i _ => L.length - (intOf i).toNat)
  case atStart => exact ⟨0, Nat.zero_le _, rfl, ⟨none, 0, 0, rfl, Own.nil _ _ _ _⟩, below_drewN (Below.refl _ _) _⟩
  case round =>
    obtain ⟨j, hj, rfl, ⟨Av, nv, cv, rfl, hown⟩, HB⟩ := hrel
    by_cases hlt : j < L.length
    · obtain ⟨b, off, hA', hb, hr⟩ := unhide HR (by omega)
      subst hA'
      have x0 : wr.cell? ⟨b, off + j * 2, none⟩ = some (.int .u32 L[j].1) := by rw [(bcell HB).1 _ _ hb]; simpa [eTh] using hr j hlt 0 (by decide)
      have x1 : wr.cell? ⟨b, off + j * 2 + 1, none⟩ = some (.int .i64 L[j].2) := by rw [(bcell HB).1 _ _ hb]; simpa [eTh] using hr j hlt 1 (by decide)
      have hfle : (foundL (L.take j) x).length ≤ j := Nat.le_trans (foundL_len _ _) (by rw [List.length_take]; omega)
      have Hfle := hide hfle
      clear hr hfle
      by_cases he : L[j].1 = x
      · have Hhit := hide (foundL_hit hlt he)
        obtain ⟨y, hy⟩ : ∃ y, y = L[j].2 := ⟨_, rfl⟩
        rw [he] at x0
        rw [← hy] at x1
        have Hy := hide hy
        have q1 : (x == x) = true := beq_self_eq_true x
        clear he hy
        go_wp2_with (at_builtin; go_loud (refine wpList_append_one eI rfl _ _ _ rfl w'.heap.size 3 i0 (.int .i64 0) 8 Tryz.underlying73 hi hz0 hz1 hz2 rfl (by decide) _ (foundL (L.take j) x) rfl _ (hown.alloc _) y #[.int .i64 y] rfl (by simp [Act.eval]) (one_int _) ?c3 ?c4 ?c5 ?_))
        case c3 => have := unhide Hfle; unfold maxLen; omega
        case c4 => have := unhide Hfle; omega
        case c5 => have := HB.size; simp; omega
        intro v1 w1 hown1 hgr hloc
        have hb1 := (HB.alloc HB.size (.cells #[.int .u32 x, .int .i64 y] 122)).alloc (by have := HB.size; simp; omega) (.cells #[.int .i64 y] 3)
        have B2 : Below w'.heap.size w' w1 := hb1.grown hgr hb1.size fun j hj => (hown.lt j hj).1
        obtain ⟨A1, c1, hv1, _, _⟩ := hown1.sl
        subst hv1
        have Hown1 := hide hown1
        clear hgr hloc hb1 hown HB x0 x1 hown1
        go_wp2
        go_roundw
        case rel => exact ⟨j + 1, by omega, by go_num, ⟨A1, _, c1, rfl, by rw [unhide Hhit, ← unhide Hy]; exact unhide Hown1⟩, B2⟩
        case measure => simp [intOf]; omega
      · have Hmiss := hide (foundL_miss hlt he)
        obtain ⟨z, hz⟩ : ∃ z, z = L[j].1 := ⟨_, rfl⟩
        rw [← hz] at x0 he
        have q1 : (z == x) = false := beq_eq_false_iff_ne.2 he
        have Hz := hide hz
        clear hz
        go_wp2
        go_roundw
        case rel => exact ⟨j + 1, by omega, by go_num, ⟨Av, nv, cv, rfl, by rw [unhide Hmiss]; exact hown.alloc _⟩, HB.alloc HB.size _⟩
        case measure => simp [intOf]; omega
    · obtain rfl : j = L.length := by omega
      rw [List.take_length] at hown
      have hfle := foundL_len L x
      go_wp2_with fail
      refine (sort_any hown (by omega)).mono ?_
      rintro e w1 ⟨rfl, hown1, hgr⟩
      have B2 : Below w'.heap.size w' w1 := HB.grown hgr HB.size fun j hj => (hown.lt j hj).1
      go_wp2
      go_ret
      exact ⟨_, rfl, hown1, B2⟩
end Go.Proofs.YtnpgjdhigcjihaaGreatDoor
/- Package shelf, all its blocks behind a bound: Put, Cut, Find, Len, one contract for each answer. -/
namespace Go.Proofs.YtnpgjdhigcjihaaGreatDoor
open Go.RowKit

/-- A shelf all of whose blocks are from B on. -/
def ShB (w : World) (B : Nat) (s : Value) (bs : List (List (Int × Int))) : Prop := ShelfIs w (fun k => B ≤ k) s bs
section
variable {w w' : World} {B : Nat} {s : Value} {bs : List (List (Int × Int))}
theorem ShB.below (h : ShB w B s bs) (hb : Below w.heap.size w w') : ShB w' B s bs := ShelfIs.below h hb
theorem ShB.ptr (h : ShB w B s bs) : ∃ p, s = .pointer (some ⟨p, 0, none⟩) := by
  obtain ⟨p, g, vs, h1, _⟩ := h
  exact ⟨p, h1⟩
theorem ShB.pos (h : ShB w B s bs) : 0 < bs.length := by
  obtain ⟨p, g, vs, h1, h2, h3, h4, h5, h6, h7, h8, _⟩ := h
  exact h8
theorem newB (b : Int) (w : World) (hB : B ≤ w.heap.size) :
    Calls Tryz.prog 24 #[.int .i64 b] w fun e w' => ∃ p, e = .returned (.pointer (some ⟨p, 0, none⟩)) ∧ ShB w' B (.pointer (some ⟨p, 0, none⟩)) (List.replicate (nB b) []) ∧ Below w.heap.size w w' :=
  (new_any b w).mono fun e w' ⟨v, h1, h2, h3⟩ => by
    have h4 : ShB w' B v (List.replicate (nB b) []) := ShelfIs.mono h2 fun k hk => Nat.le_trans hB hk
    obtain ⟨p, rfl⟩ := h4.ptr
    exact ⟨p, h1, h4, h3⟩
theorem put_yes (x id : Int) (h : ShB w B s bs) (hB : B ≤ w.heap.size) (h0 : 0 ≤ x) (h1 : x < 4294967296) (hlen : lenB bs < 1000000) (hb : ¬ hasB bs x id) :
    Calls Tryz.prog 70 #[s, .int .u32 x, .int .i64 id] w fun e w' => e = .returned (.bool true) ∧ ShB w' B s (putB bs x id) ∧ Below B w w' :=
  (put_any x id w h h0 h1 (Nat.lt_of_le_of_lt (le_lenB _) hlen)).mono fun e w' ⟨h2, h3, _, h5⟩ => by
    rw [decide_eq_false hb] at h2
    rw [if_neg hb] at h5
    exact ⟨h2, h5.mono fun k hk => by rcases hk with hk | hk <;> omega, h3.to_below hB fun k hk => hk⟩
theorem put_no (x id : Int) (h : ShB w B s bs) (h0 : 0 ≤ x) (h1 : x < 4294967296) (hlen : lenB bs < 1000000) (hb : hasB bs x id) :
    Calls Tryz.prog 70 #[s, .int .u32 x, .int .i64 id] w fun e w' => e = .returned (.bool false) ∧ ShB w' B s bs ∧ Below w.heap.size w w' :=
  (put_any x id w h h0 h1 (Nat.lt_of_le_of_lt (le_lenB _) hlen)).mono fun e w' ⟨h2, h3, h4, h5⟩ => by
    rw [decide_eq_true hb] at h2
    exact ⟨h2, ShB.below h (h4 hb), h4 hb⟩
theorem cut_yes (x id : Int) (h : ShB w B s bs) (hB : B ≤ w.heap.size) (h0 : 0 ≤ x) (h1 : x < 4294967296) (hb : hasB bs x id) :
    Calls Tryz.prog 72 #[s, .int .u32 x, .int .i64 id] w fun e w' => e = .returned (.bool true) ∧ ShB w' B s (cutB bs x id) ∧ Below B w w' :=
  (cut_any x id w h h0 h1).mono fun e w' ⟨h2, h3, _, h5⟩ => by
    rw [decide_eq_true hb] at h2
    rw [if_pos hb] at h5
    exact ⟨h2, h5.mono fun k hk => by rcases hk with hk | hk <;> omega, h3.to_below hB fun k hk => hk⟩
theorem cut_no (x id : Int) (h : ShB w B s bs) (h0 : 0 ≤ x) (h1 : x < 4294967296) (hb : ¬ hasB bs x id) :
    Calls Tryz.prog 72 #[s, .int .u32 x, .int .i64 id] w fun e w' => e = .returned (.bool false) ∧ ShB w' B s bs ∧ Below w.heap.size w w' :=
  (cut_any x id w h h0 h1).mono fun e w' ⟨h2, h3, h4, h5⟩ => by
    rw [decide_eq_false hb] at h2
    exact ⟨h2, ShB.below h (h4 hb), h4 hb⟩
theorem findB (x : Int) (h : ShB w B s bs) (h0 : 0 ≤ x) (h1 : x < 4294967296) (hlen : lenB bs < 1000000) (L : List Int) (hL : findL bs x = L) :
    Calls Tryz.prog 39 #[s, .int .u32 x] w fun e w' => ∃ A c, e = .returned (.slice A L.length c) ∧ Own eI 3 w' w.heap.size (.slice A L.length c) L ∧ ShB w' B s bs ∧ Below w.heap.size w w' := by
  subst hL
  refine (find_any x w h h0 h1 (by have := le_lenB (bs := bs) (bk bs x); omega)).mono fun e w' ⟨v, h2, h3, h4⟩ => ?_
  obtain ⟨A, c, rfl, _⟩ := h3.sl
  exact ⟨A, c, h2, h3, h.below h4, h4⟩
end
/-- The blocks of a shelf that was there when blocks m to m' came. -/
def Gap (B m m' : Nat) : Nat → Prop := fun k => B ≤ k ∧ (k < m ∨ m' ≤ k)
section
variable {w w' : World} {G : Nat → Prop} {s : Value} {bs : List (List (Int × Int))}
theorem ShelfIs.gap {B m m' : Nat} (h : ShelfIs w (fun k => B ≤ k) s bs) (hb : Below w.heap.size w w') (hm : m = w.heap.size) : ShelfIs w' (Gap B m m') s bs := by
  have h0 := h.below hb
  obtain ⟨p, g, vs, h1, h2, h3, h4, h5, h6, h7, h8, h9, h10, h11, h12, h13, h14⟩ := h
  obtain ⟨p', g', vs', k1, k2, k3, k4, k5, k6, k7, k8, k9, k10, k11, k12, k13, k14⟩ := h0
  subst h1
  injection k1 with k1
  injection k1 with k1
  injection k1 with k1 _
  subst k1
  have e7 := (hb.cell (p := ⟨p, 0, none⟩) h2).symm.trans k7
  rw [h7] at e7
  injection e7 with e7
  injection e7 with e7 _ _
  injection e7 with e7
  injection e7 with e7 _
  subst e7
  have e11 := (hb.block g h3).symm.trans k11
  rw [h11] at e11
  injection e11 with e11
  injection e11 with e11 _ _
  have e11' : vs = vs' := by
    have := congrArg Array.toList e11
    simpa using this
  subst e11'
  refine ⟨p, g, vs, rfl, k2, k3, ⟨h4, .inl (by omega)⟩, ⟨h5, .inl (by omega)⟩, k6, k7, k8, k9, k10, k11, k12, fun v hv k hk => ?_, k14⟩
  obtain ⟨i, hi, rfl⟩ := List.mem_iff_getElem.1 hv
  exact ⟨⟨(h13 _ hv k hk).1, .inl (by have := ((h12 i (by omega) hi).lt k hk).2; omega)⟩, (h13 _ hv k hk).2⟩
theorem put_yesG (x id : Int) (h : ShelfIs w G s bs) (hG : ∀ k, w.heap.size ≤ k → G k) (h0 : 0 ≤ x) (h1 : x < 4294967296) (hlen : lenB bs < 1000000) (hb : ¬ hasB bs x id) :
    Calls Tryz.prog 70 #[s, .int .u32 x, .int .i64 id] w fun e w' => e = .returned (.bool true) ∧ ShelfIs w' G s (putB bs x id) ∧ Chg G w w' :=
  (put_any x id w h h0 h1 (Nat.lt_of_le_of_lt (le_lenB _) hlen)).mono fun e w' ⟨h2, h3, _, h5⟩ => by
    rw [decide_eq_false hb] at h2
    rw [if_neg hb] at h5
    exact ⟨h2, h5.mono fun k hk => by rcases hk with hk | hk; exact hk; exact hG k hk, h3⟩
theorem put_noG (x id : Int) (h : ShelfIs w G s bs) (h0 : 0 ≤ x) (h1 : x < 4294967296) (hlen : lenB bs < 1000000) (hb : hasB bs x id) :
    Calls Tryz.prog 70 #[s, .int .u32 x, .int .i64 id] w fun e w' => e = .returned (.bool false) ∧ ShelfIs w' G s bs ∧ Below w.heap.size w w' :=
  (put_any x id w h h0 h1 (Nat.lt_of_le_of_lt (le_lenB _) hlen)).mono fun e w' ⟨h2, h3, h4, h5⟩ => by
    rw [decide_eq_true hb] at h2
    exact ⟨h2, h.below (h4 hb), h4 hb⟩
theorem cut_yesG (x id : Int) (h : ShelfIs w G s bs) (hG : ∀ k, w.heap.size ≤ k → G k) (h0 : 0 ≤ x) (h1 : x < 4294967296) (hb : hasB bs x id) :
    Calls Tryz.prog 72 #[s, .int .u32 x, .int .i64 id] w fun e w' => e = .returned (.bool true) ∧ ShelfIs w' G s (cutB bs x id) ∧ Chg G w w' :=
  (cut_any x id w h h0 h1).mono fun e w' ⟨h2, h3, _, h5⟩ => by
    rw [decide_eq_true hb] at h2
    rw [if_pos hb] at h5
    exact ⟨h2, h5.mono fun k hk => by rcases hk with hk | hk; exact hk; exact hG k hk, h3⟩
theorem cut_noG (x id : Int) (h : ShelfIs w G s bs) (h0 : 0 ≤ x) (h1 : x < 4294967296) (hb : ¬ hasB bs x id) :
    Calls Tryz.prog 72 #[s, .int .u32 x, .int .i64 id] w fun e w' => e = .returned (.bool false) ∧ ShelfIs w' G s bs ∧ Below w.heap.size w w' :=
  (cut_any x id w h h0 h1).mono fun e w' ⟨h2, h3, h4, h5⟩ => by
    rw [decide_eq_false hb] at h2
    exact ⟨h2, h.below (h4 hb), h4 hb⟩
theorem findG (x : Int) (h : ShelfIs w G s bs) (h0 : 0 ≤ x) (h1 : x < 4294967296) (hlen : lenB bs < 1000000) (L : List Int) (hL : findL bs x = L) :
    Calls Tryz.prog 39 #[s, .int .u32 x] w fun e w' => ∃ A c, e = .returned (.slice A L.length c) ∧ Own eI 3 w' w.heap.size (.slice A L.length c) L ∧ ShelfIs w' G s bs ∧ Below w.heap.size w w' := by
  subst hL
  refine (find_any x w h h0 h1 (by have := le_lenB (bs := bs) (bk bs x); omega)).mono fun e w' ⟨v, h2, h3, h4⟩ => ?_
  obtain ⟨A, c, rfl, _⟩ := h3.sl
  exact ⟨A, c, h2, h3, h.below h4, h4⟩
end

end Go.Proofs.YtnpgjdhigcjihaaGreatDoor
/- What a pool is: its map, its shelf. -/
namespace Go.Proofs.YtnpgjdhigcjihaaGreatDoor
open Go.RowKit

/-- A block, how often it is held. -/
abbrev Blk := ByteArray × Int
def blkV (x : Blk) : Value := .agg #[.string x.1, .int .i64 x.2]
def esV (es : List (Int × Blk)) : List (Int × Value) := es.map fun e => (e.1, blkV e.2)
def lkE : List (Int × Blk) → Int → Option Blk
  | [], _ => none
  | p :: es, k => if p.1 = k then some p.2 else lkE es k
def putE : List (Int × Blk) → Int → Blk → List (Int × Blk)
  | [], k, v => [(k, v)]
  | p :: es, k, v => if p.1 = k then (k, v) :: es else p :: putE es k v
def delE (es : List (Int × Blk)) (k : Int) : List (Int × Blk) := es.filter fun p => p.1 ≠ k
theorem lk_esV (es : List (Int × Blk)) (k : Int) : lk (esV es) k = (lkE es k).map blkV := by
  induction es with
  | nil => rfl
  | cons p es ih =>
    unfold esV at ih ⊢
    rw [List.map_cons]
    unfold lk lkE
    by_cases h : p.1 = k
    · rw [if_pos h, if_pos h]; rfl
    · rw [if_neg h, if_neg h, ih]
theorem put_esV (es : List (Int × Blk)) (k : Int) (x : Blk) : put (esV es) k (blkV x) = esV (putE es k x) := by
  induction es with
  | nil => rfl
  | cons p es ih =>
    unfold esV at ih ⊢
    rw [List.map_cons]
    unfold put putE
    by_cases h : p.1 = k
    · rw [if_pos h, if_pos h]; rfl
    · rw [if_neg h, if_neg h, List.map_cons, ih]
theorem del_esV (es : List (Int × Blk)) (k : Int) : del (esV es) k = esV (delE es k) := by
  unfold del esV delE
  rw [List.filter_map]
  rfl
theorem esV_keys (es : List (Int × Blk)) : (esV es).map (·.1) = es.map (·.1) := by simp [esV]
theorem esV_len (es : List (Int × Blk)) : (esV es).length = es.length := by simp [esV]

/-- The pool s has room for so many, has these blocks; its shelf has these buckets. -/
def PoolIs (w : World) (G : Nat → Prop) (s : Value) (most : Int) (es : List (Int × Blk)) (bs : List (List (Int × Int))) : Prop :=
  ∃ (p m : Nat) (q : Nat), s = .pointer (some ⟨p, 0, none⟩) ∧ p < w.heap.size ∧ m < w.heap.size ∧ G p ∧ G m ∧ p ≠ m ∧
    w.cell? ⟨p, 0, none⟩ = some (.int .i64 most) ∧ w.cell? ⟨p, 1, none⟩ = some (.map (some m)) ∧ w.cell? ⟨p, 2, none⟩ = some (.pointer (some ⟨q, 0, none⟩)) ∧
    MapIs kInt w m (esV es) ∧ ShelfIs w (fun k => G k ∧ k ≠ p ∧ k ≠ m) (.pointer (some ⟨q, 0, none⟩)) bs
section
variable {w w' : World} {G : Nat → Prop} {s : Value} {most : Int} {es : List (Int × Blk)} {bs : List (List (Int × Int))}
theorem PoolIs.keep (h : PoolIs w G s most es bs) (hs : w.heap.size ≤ w'.heap.size) (hb : ∀ k, k < w.heap.size → G k → w'.heap[k]? = w.heap[k]?) : PoolIs w' G s most es bs := by
  obtain ⟨p, m, q, h1, h2, h3, h4, h5, h6, h7, h8, h9, h10, h11⟩ := h
  have hp := hb p h2 h4
  exact ⟨p, m, q, h1, by omega, by omega, h4, h5, h6, (World.cell?_of_block (a := ⟨p, 0, none⟩) hp).trans h7, (World.cell?_of_block (a := ⟨p, 1, none⟩) hp).trans h8, (World.cell?_of_block (a := ⟨p, 2, none⟩) hp).trans h9,
    h10.kept (hb m h3 h5), h11.keep hs fun k hk hf => hb k hk hf.1⟩
theorem PoolIs.below (h : PoolIs w G s most es bs) (hb : Below w.heap.size w w') : PoolIs w' G s most es bs := h.keep hb.size fun k hk _ => hb.block k hk
theorem PoolIs.drewN (h : PoolIs w G s most es bs) (n : Nat) : PoolIs (w.drewN n) G s most es bs := h
theorem PoolIs.mono {G' : Nat → Prop} (h : PoolIs w G s most es bs) (hG : ∀ k, G k → G' k) : PoolIs w G' s most es bs := by
  obtain ⟨p, m, q, h1, h2, h3, h4, h5, h6, h7, h8, h9, h10, h11⟩ := h
  exact ⟨p, m, q, h1, h2, h3, hG _ h4, hG _ h5, h6, h7, h8, h9, h10, h11.mono fun k hk => ⟨hG _ hk.1, hk.2⟩⟩
theorem PoolIs.ptr (h : PoolIs w G s most es bs) : ∃ p, s = .pointer (some ⟨p, 0, none⟩) := by
  obtain ⟨p, m, q, h1, _⟩ := h
  exact ⟨p, h1⟩
theorem PoolIs.nodup (h : PoolIs w G s most es bs) : (es.map (·.1)).Nodup := by
  obtain ⟨p, m, q, h1, h2, h3, h4, h5, h6, h7, h8, h9, h10, h11⟩ := h
  rw [← esV_keys]
  exact h10.nodup
end
theorem field1 (t : ByteArray) (r : Int) (w : World) : (Instr.field 71 (.agg #[.string t, .int .i64 r]) 1).run Tryz.prog w = .ok (.int .i64 r) w := by kernel_rfl
theorem field0 (t : ByteArray) (r : Int) (w : World) : (Instr.field 71 (.agg #[.string t, .int .i64 r]) 0).run Tryz.prog w = .ok (.string t) w := by kernel_rfl
theorem zeroBlk (w : World) : (zeroValue 71).run Tryz.prog w = .ok (.agg #[.string ⟨#[]⟩, .int .i64 0]) w := by kernel_rfl

section
variable {ops : Array Oper} {rest : List Oper} {o : Oper} {a : Act} {Q : Exit → Act → World → Prop} {w : World}
theorem wpList_lookup_blk (hg : o.guard = none) (m x : Operand) (hop : o.op = Op.lookup 61 m x false) (es : List (Int × Blk))
    (b : Nat) (hm : a.eval m = .map (some b)) (h : MapIs kInt w b (esV es)) (k : Int) (hx : a.eval x = .int .i64 k) (t : ByteArray) (r : Int) (htr : (lkE es k).getD (⟨#[]⟩, 0) = (t, r))
    (hK : wpList Tryz.prog ops Q rest (a.put o.dst (.agg #[.string t, .int .i64 r])) w) : wpList Tryz.prog ops Q (o :: rest) a w := by
  refine wpList_lookup_is hg m x _ false hop kInt (esV es) 3 71 Tryz.underlying61 Tryz.underlying3 _ (zeroBlk w) b hm h k hx ?_
  have e : (lk (esV es) k).getD (.agg #[.string ⟨#[]⟩, .int .i64 0]) = .agg #[.string t, .int .i64 r] := by
    rw [lk_esV]
    cases hl : lkE es k with
    | none => rw [hl] at htr; cases htr; rfl
    | some y => rw [hl] at htr; simp only [Option.getD_some] at htr; subst htr; rfl
  rw [e]
  exact hK
end
end Go.Proofs.YtnpgjdhigcjihaaGreatDoor
/- Walks of package pool: none, Room, Len, Refs. -/
namespace Go.Proofs.YtnpgjdhigcjihaaGreatDoor
open Go.RowKit

section
variable {w : World} {G : Nat → Prop} {s : Value} {most : Int} {es : List (Int × Blk)} {bs : List (List (Int × Int))}
theorem pnone_any (h : PoolIs w G s most es bs) :
    Calls Tryz.prog 27 #[s] w fun e w' => e = .returned (.bool false) ∧ w' = w := by
  obtain ⟨p, m, q, rfl, h2, h3, h4, h5, h6, h7, h8, h9, h10, h11⟩ := h
  have q0 := fun w1 => run_eql_map_nil (P := Tryz.prog) w1 61 _ _ (some m) Tryz.underlying61
  clear h11 h10
  go_enter Tryz.func27, Tryz.ntmps27
  go_wp2
  go_ret
  exact ⟨rfl, rfl⟩
theorem room_any (h : PoolIs w G s most es bs) (h0 : 0 ≤ most) (h1 : most ≤ 1000) (hl : es.length ≤ 1000) :
    Calls Tryz.prog 22 #[s] w fun e w' => e = .returned (.int .i64 (most - es.length)) ∧ ∃ n, w' = w.drewN n := by
  have HP := hide h
  obtain ⟨p, m, q, rfl, h2, h3, h4, h5, h6, h7, h8, h9, h10, h11⟩ := h
  have hlen := fun w1 (hh : MapIs kInt w1 m (esV es)) ty => run_len_is (P := Tryz.prog) hh Tryz.underlying61 ty
  rw [esV_len] at hlen
  have hlen0 := fun n => hlen (w.drewN n) (h10.drewN n)
  clear hlen
  clear h11
  go_enter Tryz.func22, Tryz.ntmps22
  go_wp2_with (go_at_call 27; refine (pnone_any (unhide HP)).mono ?_; rintro e w' ⟨he, hw⟩; subst he; subst hw)
  go_quiet (fail)
  go_wp2
  go_ret
  exact ⟨rfl, _, rfl⟩
set_option maxRecDepth 100000 in
theorem refs_any (id : Int) (h : PoolIs w G s most es bs) (t : ByteArray) (r : Int) (htr : (lkE es id).getD (⟨#[]⟩, 0) = (t, r)) :
    Calls Tryz.prog 18 #[s, .int .i64 id] w fun e w' => e = .returned (.int .i64 r) ∧ w' = w := by
  have HP := hide h
  obtain ⟨p, m, q, rfl, h2, h3, h4, h5, h6, h7, h8, h9, h10, h11⟩ := h
  have Htr := hide htr
  have hf1 := field1
  clear h11 htr
  go_enter Tryz.func18, Tryz.ntmps18
  go_wp2_with (first | (go_at_call 27; refine (pnone_any (unhide HP)).mono ?_; rintro e w' ⟨he, hw⟩; subst he; subst hw) | (at_lookup; refine wpList_lookup_blk rfl _ _ rfl es m rfl h10 id rfl t r (unhide Htr) ?_))
  go_ret
  exact ⟨rfl, rfl⟩
end
end Go.Proofs.YtnpgjdhigcjihaaGreatDoor
