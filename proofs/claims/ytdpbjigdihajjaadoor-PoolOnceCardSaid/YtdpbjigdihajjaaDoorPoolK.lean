/- Package pool by its blocks alone: one contract for each answer. -/
import Derived.Test.YtdpbjigdihajjaaDoorPoolP
namespace Go.Proofs.YtdpbjigdihajjaaDoor
open Go.RowKit

/-- The pool s has room for so many, and has these blocks. -/
def Pl (w : World) (G : Nat → Prop) (s : Value) (most : Int) (es : List (Int × Blk)) : Prop := ∃ bs, PoolIs w G s most es bs ∧ POk es bs
section
variable {w w' : World} {G : Nat → Prop} {s : Value} {most : Int} {es : List (Int × Blk)}
theorem Pl.below (h : Pl w G s most es) (hb : Below w.heap.size w w') : Pl w' G s most es := by
  obtain ⟨bs, h1, h2⟩ := h
  exact ⟨bs, h1.below hb, h2⟩
theorem Pl.drewN (h : Pl w G s most es) (n : Nat) : Pl (w.drewN n) G s most es := h
theorem Pl.ptr (h : Pl w G s most es) : ∃ p, s = .pointer (some ⟨p, 0, none⟩) := by
  obtain ⟨bs, h1, _⟩ := h
  exact h1.ptr
theorem Pl.good (h : Pl w G s most es) {id : Int} {t : ByteArray} {r : Int} (hl : lkE es id = some (t, r)) : 1 ≤ id ∧ 1 ≤ r ∧ t.size = 8 ∧ zeroB t = false := by
  obtain ⟨bs, _, h2⟩ := h
  exact h2.good _ _ _ hl
theorem Pl.uniq (h : Pl w G s most es) {id id' : Int} {t : ByteArray} {r r' : Int} (hl : lkE es id = some (t, r)) (hl' : lkE es id' = some (t, r')) : id' = id := by
  obtain ⟨bs, _, h2⟩ := h
  exact h2.uniq _ _ _ _ _ hl hl'
theorem Pl.nodup (h : Pl w G s most es) : (es.map (·.1)).Nodup := by
  obtain ⟨bs, h1, _⟩ := h
  exact h1.nodup
theorem pl_new (most : Int) (w : World) (hG : ∀ k, w.heap.size ≤ k → G k) :
    Calls Tryd.prog 9 #[.int .i64 most] w fun e w' => ∃ p, e = .returned (.pointer (some ⟨p, 0, none⟩)) ∧ Pl w' G (.pointer (some ⟨p, 0, none⟩)) (min (max most 0) 60) [] ∧ Below w.heap.size w w' :=
  (pnew_any most w hG).mono fun _ _ ⟨p, h1, h2, h3⟩ => ⟨p, h1, ⟨_, h2, POk.made⟩, h3⟩
theorem pl_put_bad (b : ByteArray) (h : Pl w G s most es) (hb : b.size ≠ 8) :
    Calls Tryd.prog 10 #[s, .string b] w fun e w' => e = .returned (.tuple #[.int .i64 0, .int .i64 1]) ∧ w' = w := by
  obtain ⟨bs, h1, h2⟩ := h
  exact pput_bad b h1 hb
theorem pl_put_zero (b : ByteArray) (h : Pl w G s most es) (hb : b.size = 8) (hz : zeroB b = true) :
    Calls Tryd.prog 10 #[s, .string b] w fun e w' => e = .returned (.tuple #[.int .i64 0, .int .i64 0]) ∧ Pl w' G s most es ∧ Below w.heap.size w w' := by
  obtain ⟨bs, h1, h2⟩ := h
  exact (pput_zero b h1 hb hz).mono fun _ _ ⟨a, b, c⟩ => ⟨a, ⟨bs, b, h2⟩, c⟩
theorem pl_put_had (b : ByteArray) (R r : Int) (h : Pl w G s most es) (hG : ∀ k, w.heap.size ≤ k → G k) (hl : es.length ≤ 1000) (hn : lkE es R = some (b, r)) (hr : r ≤ 100000) :
    Calls Tryd.prog 10 #[s, .string b] w fun e w' => e = .returned (.tuple #[.int .i64 R, .int .i64 0]) ∧ Pl w' G s most (putE es R (b, r + 1)) ∧ Chg G w w' := by
  obtain ⟨bs, h1, h2⟩ := h
  obtain ⟨g1, g2, g3, g4⟩ := h2.good _ _ _ hn
  exact (pput_had b R r h1 hG h2.inv (by rw [h2.len]; omega) g3 g4 (h2.isAt hn) (by omega) hn g2 hr).mono fun _ _ ⟨a, b, c⟩ => ⟨a, ⟨bs, b, h2.old hn (by omega)⟩, c⟩
theorem pl_put_full (b : ByteArray) (h : Pl w G s most es) (hb : b.size = 8) (hz : zeroB b = false) (hno : ∀ id r, lkE es id ≠ some (b, r)) (hm0 : 0 ≤ most) (hm1 : most ≤ 1000) (hful : (es.length : Int) = most) :
    Calls Tryd.prog 10 #[s, .string b] w fun e w' => e = .returned (.tuple #[.int .i64 0, .int .i64 5]) ∧ Pl w' G s most es ∧ Below w.heap.size w w' := by
  obtain ⟨bs, h1, h2⟩ := h
  exact (pput_full b h1 h2.inv (by rw [h2.len]; omega) hb hz hno hm0 hm1 hful).mono fun _ _ ⟨a, b, c⟩ => ⟨a, ⟨bs, b, h2⟩, c⟩
theorem pl_put_new (b : ByteArray) (R : Int) (h : Pl w G s most es) (hG : ∀ k, w.heap.size ≤ k → G k) (hb : b.size = 8) (hz : zeroB b = false) (hno : ∀ id r, lkE es id ≠ some (b, r)) (hm0 : 0 ≤ most) (hm1 : most ≤ 1000) (hful : (es.length : Int) < most)
    (hR : Least es R) (hR2 : R ≤ 1000000) :
    Calls Tryd.prog 10 #[s, .string b] w fun e w' => e = .returned (.tuple #[.int .i64 R, .int .i64 0]) ∧ Pl w' G s most (putE es R (b, 1)) ∧ Chg G w w' := by
  obtain ⟨bs, h1, h2⟩ := h
  exact (pput_new b R h1 hG h2.inv (by rw [h2.len]; omega) hb hz hno hm0 hm1 hful hR hR2).mono fun _ _ ⟨a, b, c⟩ => ⟨a, ⟨_, b, h2.new hR.1 hR.2.1 hb hz hno⟩, c⟩
theorem pl_drop_none (id : Int) (h : Pl w G s most es) (h0 : id ≠ 0) (hn : lkE es id = none) :
    Calls Tryd.prog 13 #[s, .int .i64 id] w fun e w' => e = .returned (.int .i64 2) ∧ w' = w := by
  obtain ⟨bs, h1, h2⟩ := h
  obtain ⟨p, rfl⟩ := h1.ptr
  exact drop_of id 2 p (fun w' => w' = w) (turn_none id (-1) h1 h0 hn)
theorem pl_drop_down (id : Int) (t : ByteArray) (r : Int) (h : Pl w G s most es) (hG : ∀ k, w.heap.size ≤ k → G k) (hn : lkE es id = some (t, r)) (hr : 2 ≤ r) (hr2 : r ≤ 100000) :
    Calls Tryd.prog 13 #[s, .int .i64 id] w fun e w' => e = .returned (.int .i64 0) ∧ Pl w' G s most (putE es id (t, r - 1)) ∧ Chg G w w' := by
  obtain ⟨bs, h1, h2⟩ := h
  obtain ⟨p, rfl⟩ := h1.ptr
  have hg := h2.good _ _ _ hn
  exact (drop_of id 0 p _ (turn_up id (-1) t r h1 hG (by omega) hn (by omega) (by omega) (by omega) (by omega) (by omega) (by omega))).mono fun _ _ ⟨a, b, c⟩ => ⟨a, ⟨bs, b, h2.old hn (by omega)⟩, c⟩
theorem pl_drop_last (id : Int) (t : ByteArray) (h : Pl w G s most es) (hG : ∀ k, w.heap.size ≤ k → G k) (hn : lkE es id = some (t, 1)) :
    Calls Tryd.prog 13 #[s, .int .i64 id] w fun e w' => e = .returned (.int .i64 0) ∧ Pl w' G s most (delE es id) ∧ Chg G w w' := by
  obtain ⟨bs, h1, h2⟩ := h
  obtain ⟨p, rfl⟩ := h1.ptr
  have hg := h2.good _ _ _ hn
  exact (drop_of id 0 p _ (turn_drop id t h1 hG (by omega) hn (by omega) ((h2.inv _ _).2 ⟨t, 1, hn, rfl⟩))).mono fun _ _ ⟨a, b, c⟩ => ⟨a, ⟨_, b, h2.gone h1.nodup hn⟩, c⟩
theorem pl_refs (id : Int) (h : Pl w G s most es) (t : ByteArray) (r : Int) (hn : (lkE es id).getD (⟨#[]⟩, 0) = (t, r)) :
    Calls Tryd.prog 17 #[s, .int .i64 id] w fun e w' => e = .returned (.int .i64 r) ∧ w' = w := by
  obtain ⟨bs, h1, h2⟩ := h
  exact refs_any id h1 t r hn
theorem pl_len (h : Pl w G s most es) (n : Int) (hn : (es.length : Int) = n) :
    Calls Tryd.prog 14 #[s] w fun e w' => e = .returned (.int .i64 n) ∧ w' = w := by
  obtain ⟨bs, h1, h2⟩ := h
  subst hn
  exact plen_any h1
theorem pl_room (h : Pl w G s most es) (h0 : 0 ≤ most) (h1 : most ≤ 1000) (hl : es.length ≤ 1000) (n : Int) (hn : most - (es.length : Int) = n) :
    Calls Tryd.prog 12 #[s] w fun e w' => e = .returned (.int .i64 n) ∧ ∃ q, w' = w.drewN q := by
  obtain ⟨bs, h2, h3⟩ := h
  subst hn
  exact room_any h2 h0 h1 hl
theorem pl_find (b : ByteArray) (R : Int) (h : Pl w G s most es) (hl : es.length ≤ 1000) (hb : b.size ≤ 1000000) (hR : IsAt es b R) :
    Calls Tryd.prog 18 #[s, .string b] w fun e w' => e = .returned (.int .i64 R) ∧ Pl w' G s most es ∧ Below w.heap.size w w' := by
  obtain ⟨bs, h1, h2⟩ := h
  exact (pfind_any b h1 h2.inv (by rw [h2.len]; omega) hb R hR).mono fun _ _ ⟨a, c⟩ => ⟨a, ⟨bs, h1.below c, h2⟩, c⟩
end
end Go.Proofs.YtdpbjigdihajjaaDoor
