/- Package shelf, all its blocks behind a bound: Put, Cut, Find, Len, one contract for each answer. -/
import Derived.Test.YtdpbjigdihajjaaDoorShelfI
import Derived.Test.YtdpbjigdihajjaaDoorShelfG
namespace Go.Proofs.YtdpbjigdihajjaaDoor
open Go.RowKit

/-- A shelf all of whose blocks are from B on. -/
def ShB (w : World) (B : Nat) (s : Value) (bs : List (List (Int × Int))) : Prop := ShelfIs w (fun k => B ≤ k) s bs
section
variable {w w' : World} {B : Nat} {s : Value} {bs : List (List (Int × Int))}
theorem ShB.below (h : ShB w B s bs) (hb : Below w.heap.size w w') : ShB w' B s bs := ShelfIs.below h hb
theorem ShB.ptr (h : ShB w B s bs) : ∃ p, s = .pointer (some ⟨p, 0, none⟩) := by
  obtain ⟨p, g, vs, h1, _⟩ := h
  exact ⟨p, h1⟩
theorem ShB.pos (h : ShB w B s bs) : 0 < bs.length := by
  obtain ⟨p, g, vs, h1, h2, h3, h4, h5, h6, h7, h8, _⟩ := h
  exact h8
theorem newB (b : Int) (w : World) (hB : B ≤ w.heap.size) :
    Calls Tryd.prog 27 #[.int .i64 b] w fun e w' => ∃ p, e = .returned (.pointer (some ⟨p, 0, none⟩)) ∧ ShB w' B (.pointer (some ⟨p, 0, none⟩)) (List.replicate (nB b) []) ∧ Below w.heap.size w w' :=
  (new_any b w).mono fun e w' ⟨v, h1, h2, h3⟩ => by
    have h4 : ShB w' B v (List.replicate (nB b) []) := ShelfIs.mono h2 fun k hk => Nat.le_trans hB hk
    obtain ⟨p, rfl⟩ := h4.ptr
    exact ⟨p, h1, h4, h3⟩
theorem put_yes (x id : Int) (h : ShB w B s bs) (hB : B ≤ w.heap.size) (h0 : 0 ≤ x) (h1 : x < 4294967296) (hlen : lenB bs < 1000000) (hb : ¬ hasB bs x id) :
    Calls Tryd.prog 50 #[s, .int .u32 x, .int .i64 id] w fun e w' => e = .returned (.bool true) ∧ ShB w' B s (putB bs x id) ∧ Below B w w' :=
  (put_any x id w h h0 h1 (Nat.lt_of_le_of_lt (le_lenB _) hlen)).mono fun e w' ⟨h2, h3, _, h5⟩ => by
    rw [decide_eq_false hb] at h2
    rw [if_neg hb] at h5
    exact ⟨h2, h5.mono fun k hk => by rcases hk with hk | hk <;> omega, h3.to_below hB fun k hk => hk⟩
theorem put_no (x id : Int) (h : ShB w B s bs) (h0 : 0 ≤ x) (h1 : x < 4294967296) (hlen : lenB bs < 1000000) (hb : hasB bs x id) :
    Calls Tryd.prog 50 #[s, .int .u32 x, .int .i64 id] w fun e w' => e = .returned (.bool false) ∧ ShB w' B s bs ∧ Below w.heap.size w w' :=
  (put_any x id w h h0 h1 (Nat.lt_of_le_of_lt (le_lenB _) hlen)).mono fun e w' ⟨h2, h3, h4, h5⟩ => by
    rw [decide_eq_true hb] at h2
    exact ⟨h2, ShB.below h (h4 hb), h4 hb⟩
theorem cut_yes (x id : Int) (h : ShB w B s bs) (hB : B ≤ w.heap.size) (h0 : 0 ≤ x) (h1 : x < 4294967296) (hb : hasB bs x id) :
    Calls Tryd.prog 52 #[s, .int .u32 x, .int .i64 id] w fun e w' => e = .returned (.bool true) ∧ ShB w' B s (cutB bs x id) ∧ Below B w w' :=
  (cut_any x id w h h0 h1).mono fun e w' ⟨h2, h3, _, h5⟩ => by
    rw [decide_eq_true hb] at h2
    rw [if_pos hb] at h5
    exact ⟨h2, h5.mono fun k hk => by rcases hk with hk | hk <;> omega, h3.to_below hB fun k hk => hk⟩
theorem cut_no (x id : Int) (h : ShB w B s bs) (h0 : 0 ≤ x) (h1 : x < 4294967296) (hb : ¬ hasB bs x id) :
    Calls Tryd.prog 52 #[s, .int .u32 x, .int .i64 id] w fun e w' => e = .returned (.bool false) ∧ ShB w' B s bs ∧ Below w.heap.size w w' :=
  (cut_any x id w h h0 h1).mono fun e w' ⟨h2, h3, h4, h5⟩ => by
    rw [decide_eq_false hb] at h2
    exact ⟨h2, ShB.below h (h4 hb), h4 hb⟩
theorem findB (x : Int) (h : ShB w B s bs) (h0 : 0 ≤ x) (h1 : x < 4294967296) (hlen : lenB bs < 1000000) (L : List Int) (hL : findL bs x = L) :
    Calls Tryd.prog 37 #[s, .int .u32 x] w fun e w' => ∃ A c, e = .returned (.slice A L.length c) ∧ Own eI 3 w' w.heap.size (.slice A L.length c) L ∧ ShB w' B s bs ∧ Below w.heap.size w w' := by
  subst hL
  refine (find_any x w h h0 h1 (by have := le_lenB (bs := bs) (bk bs x); omega)).mono fun e w' ⟨v, h2, h3, h4⟩ => ?_
  obtain ⟨A, c, rfl, _⟩ := h3.sl
  exact ⟨A, c, h2, h3, h.below h4, h4⟩
end
/-- The blocks of a shelf that was there when blocks m to m' came. -/
def Gap (B m m' : Nat) : Nat → Prop := fun k => B ≤ k ∧ (k < m ∨ m' ≤ k)
section
variable {w w' : World} {G : Nat → Prop} {s : Value} {bs : List (List (Int × Int))}
theorem ShelfIs.gap {B m m' : Nat} (h : ShelfIs w (fun k => B ≤ k) s bs) (hb : Below w.heap.size w w') (hm : m = w.heap.size) : ShelfIs w' (Gap B m m') s bs := by
  have h0 := h.below hb
  obtain ⟨p, g, vs, h1, h2, h3, h4, h5, h6, h7, h8, h9, h10, h11, h12, h13, h14⟩ := h
  obtain ⟨p', g', vs', k1, k2, k3, k4, k5, k6, k7, k8, k9, k10, k11, k12, k13, k14⟩ := h0
  subst h1
  injection k1 with k1
  injection k1 with k1
  injection k1 with k1 _
  subst k1
  have e7 := (hb.cell (p := ⟨p, 0, none⟩) h2).symm.trans k7
  rw [h7] at e7
  injection e7 with e7
  injection e7 with e7 _ _
  injection e7 with e7
  injection e7 with e7 _
  subst e7
  have e11 := (hb.block g h3).symm.trans k11
  rw [h11] at e11
  injection e11 with e11
  injection e11 with e11 _ _
  have e11' : vs = vs' := by
    have := congrArg Array.toList e11
    simpa using this
  subst e11'
  refine ⟨p, g, vs, rfl, k2, k3, ⟨h4, .inl (by omega)⟩, ⟨h5, .inl (by omega)⟩, k6, k7, k8, k9, k10, k11, k12, fun v hv k hk => ?_, k14⟩
  obtain ⟨i, hi, rfl⟩ := List.mem_iff_getElem.1 hv
  exact ⟨⟨(h13 _ hv k hk).1, .inl (by have := ((h12 i (by omega) hi).lt k hk).2; omega)⟩, (h13 _ hv k hk).2⟩
theorem put_yesG (x id : Int) (h : ShelfIs w G s bs) (hG : ∀ k, w.heap.size ≤ k → G k) (h0 : 0 ≤ x) (h1 : x < 4294967296) (hlen : lenB bs < 1000000) (hb : ¬ hasB bs x id) :
    Calls Tryd.prog 50 #[s, .int .u32 x, .int .i64 id] w fun e w' => e = .returned (.bool true) ∧ ShelfIs w' G s (putB bs x id) ∧ Chg G w w' :=
  (put_any x id w h h0 h1 (Nat.lt_of_le_of_lt (le_lenB _) hlen)).mono fun e w' ⟨h2, h3, _, h5⟩ => by
    rw [decide_eq_false hb] at h2
    rw [if_neg hb] at h5
    exact ⟨h2, h5.mono fun k hk => by rcases hk with hk | hk; exact hk; exact hG k hk, h3⟩
theorem put_noG (x id : Int) (h : ShelfIs w G s bs) (h0 : 0 ≤ x) (h1 : x < 4294967296) (hlen : lenB bs < 1000000) (hb : hasB bs x id) :
    Calls Tryd.prog 50 #[s, .int .u32 x, .int .i64 id] w fun e w' => e = .returned (.bool false) ∧ ShelfIs w' G s bs ∧ Below w.heap.size w w' :=
  (put_any x id w h h0 h1 (Nat.lt_of_le_of_lt (le_lenB _) hlen)).mono fun e w' ⟨h2, h3, h4, h5⟩ => by
    rw [decide_eq_true hb] at h2
    exact ⟨h2, h.below (h4 hb), h4 hb⟩
theorem cut_yesG (x id : Int) (h : ShelfIs w G s bs) (hG : ∀ k, w.heap.size ≤ k → G k) (h0 : 0 ≤ x) (h1 : x < 4294967296) (hb : hasB bs x id) :
    Calls Tryd.prog 52 #[s, .int .u32 x, .int .i64 id] w fun e w' => e = .returned (.bool true) ∧ ShelfIs w' G s (cutB bs x id) ∧ Chg G w w' :=
  (cut_any x id w h h0 h1).mono fun e w' ⟨h2, h3, _, h5⟩ => by
    rw [decide_eq_true hb] at h2
    rw [if_pos hb] at h5
    exact ⟨h2, h5.mono fun k hk => by rcases hk with hk | hk; exact hk; exact hG k hk, h3⟩
theorem cut_noG (x id : Int) (h : ShelfIs w G s bs) (h0 : 0 ≤ x) (h1 : x < 4294967296) (hb : ¬ hasB bs x id) :
    Calls Tryd.prog 52 #[s, .int .u32 x, .int .i64 id] w fun e w' => e = .returned (.bool false) ∧ ShelfIs w' G s bs ∧ Below w.heap.size w w' :=
  (cut_any x id w h h0 h1).mono fun e w' ⟨h2, h3, h4, h5⟩ => by
    rw [decide_eq_false hb] at h2
    exact ⟨h2, h.below (h4 hb), h4 hb⟩
theorem findG (x : Int) (h : ShelfIs w G s bs) (h0 : 0 ≤ x) (h1 : x < 4294967296) (hlen : lenB bs < 1000000) (L : List Int) (hL : findL bs x = L) :
    Calls Tryd.prog 37 #[s, .int .u32 x] w fun e w' => ∃ A c, e = .returned (.slice A L.length c) ∧ Own eI 3 w' w.heap.size (.slice A L.length c) L ∧ ShelfIs w' G s bs ∧ Below w.heap.size w w' := by
  subst hL
  refine (find_any x w h h0 h1 (by have := le_lenB (bs := bs) (bk bs x); omega)).mono fun e w' ⟨v, h2, h3, h4⟩ => ?_
  obtain ⟨A, c, rfl, _⟩ := h3.sl
  exact ⟨A, c, h2, h3, h.below h4, h4⟩
end

end Go.Proofs.YtdpbjigdihajjaaDoor
