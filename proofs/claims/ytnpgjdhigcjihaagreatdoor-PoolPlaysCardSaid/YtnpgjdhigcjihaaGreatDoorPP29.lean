/- Joined texts: RqS. -/
import Derived.Test.YtnpgjdhigcjihaaGreatDoorPP21
import Derived.Test.YtnpgjdhigcjihaaGreatDoorPP28
/- The law PoolPlays: what the world holds between its steps: the pool, the document's pool, the book; none shares memory with another one. -/
namespace Go.Proofs.YtnpgjdhigcjihaaGreatDoor
open Go.RowKit

/-- A list that neither the pool nor the book has. -/
structure Pend (wr : World) (b : Nat) (G H : Nat → Prop) (v : Value) (L : List Shv) : Prop where
  own : Own eSh 56 wr (b + 1) v L
  g : ∀ q, v.ownBlock = some q → ¬ G q ∧ ¬ H q
structure PSt (w0 wr : World) (P b kb : Nat) (G H : Nat → Prop) (s : Value) (most : Int) (es : List (Int × Blk)) (L : List Shv) (A : Option Addr) (n c : Nat) : Prop where
  pool : Plt wr G s most es
  rp : wr.heap[P]? = some (.cells #[.int .i64 most, .slice A n c] 28)
  pend : Pend wr b G H (.slice A n c) L
  bok : Bok wr H b kb
  gh : ∀ q, G q → ¬ H q
  gl : ∀ q, G q → w0.heap.size ≤ q ∧ q ≠ P
  pl : w0.heap.size ≤ P ∧ P < b ∧ b + 1 ≤ wr.heap.size
  below : Below w0.heap.size w0 wr
section
variable {w0 wr w' : World} {P b kb : Nat} {G H G' H' : Nat → Prop} {s s' v : Value} {most : Int} {es es' : List (Int × Blk)} {L L' : List Shv} {A A' : Option Addr} {n c n' c' : Nat}
theorem Pend.below (h : Pend wr b G H v L) (hb : Below wr.heap.size wr w') : Pend w' b G H v L := ⟨h.own.below hb, h.g⟩
theorem Pend.chgG (h : Pend wr b G H v L) (hw : Went G G' wr) (hc : Chg G wr w') : Pend w' b G' H v L :=
  ⟨h.own.same_block fun q hq => hc.block q (h.own.lt q hq).2 (h.g q hq).1, fun q hq => ⟨fun hg => (hw.from' q hg).elim (h.g q hq).1 fun h2 => by have := (h.own.lt q hq).2; omega, (h.g q hq).2⟩⟩
/-- A list that a call has made, or that was there. -/
theorem Pend.made (h : Pend wr b G H (.slice A n c) L) (hG : ∀ q, G q → q < wr.heap.size) (hH : ∀ q, H q → q < wr.heap.size) (ho : Own eSh 56 w' (b + 1) v L') (hq : ∀ q, v.ownBlock = some q → (Value.slice A n c).ownBlock = some q ∨ wr.heap.size ≤ q) : Pend w' b G H v L' :=
  ⟨ho, fun q hv => (hq q hv).elim (fun h2 => h.g q h2) fun h2 => ⟨fun hg => by have := hG q hg; omega, fun hg => by have := hH q hg; omega⟩⟩
theorem PSt.gLt (h : PSt w0 wr P b kb G H s most es L A n c) : ∀ q, G q → q < wr.heap.size := h.pool.lt
theorem PSt.hLt (h : PSt w0 wr P b kb G H s most es L A n c) : ∀ q, H q → q < wr.heap.size := fun q hq => (h.bok.lt q hq).2
theorem PSt.below' (h : PSt w0 wr P b kb G H s most es L A n c) (hb : Below wr.heap.size wr w') : PSt w0 w' P b kb G H s most es L A n c := by
  obtain ⟨l1, l2, l3⟩ := h.pl
  have hs := hb.size
  exact ⟨h.pool.below hb, (hb.block P (by omega)).trans h.rp, h.pend.below hb, h.bok.below hb, h.gh, h.gl, ⟨l1, l2, by omega⟩, h.below.trans (hb.mono (by omega))⟩
theorem PSt.drewN (h : PSt w0 wr P b kb G H s most es L A n c) (k : Nat) : PSt w0 (wr.drewN k) P b kb G H s most es L A n c := by
  obtain ⟨l1, l2, l3⟩ := h.pl
  exact ⟨h.pool.drewN k, h.rp, ⟨h.pend.own.drewN k, h.pend.g⟩, h.bok.drewN k, h.gh, h.gl, ⟨l1, l2, l3⟩, below_drewN h.below k⟩
theorem PSt.chgG (h : PSt w0 wr P b kb G H s most es L A n c) (hp : Plt w' G' s' most es') (hw : Went G G' wr) (hc : Chg G wr w') : PSt w0 w' P b kb G' H s' most es' L A n c := by
  obtain ⟨l1, l2, l3⟩ := h.pl
  have hs := hc.size
  refine ⟨hp, (hc.block P (by omega) fun hg => (h.gl P hg).2 rfl).trans h.rp, h.pend.chgG hw hc, h.bok.chg hc fun q h1 h2 => h.gh q h2 h1, fun q hg hh => ?_, fun q hg => ?_, ⟨l1, l2, by omega⟩, h.below.trans (hc.to_below (by omega) fun q hq => (h.gl q hq).1)⟩
  · rcases hw.from' q hg with h1 | h1
    · exact h.gh q h1 hh
    · have := h.hLt q hh; omega
  · rcases hw.from' q hg with h1 | h1
    · exact h.gl q h1
    · omega
/-- The document's pool is stored. -/
theorem PSt.store (h : PSt w0 wr P b kb G H s most es L A n c) (hp : Pend wr b G H (.slice A' n' c') L') : PSt w0 (stR wr P most (.slice A' n' c')) P b kb G H s most es L' A' n' c' := by
  obtain ⟨l1, l2, l3⟩ := h.pl
  have hk : ∀ q, q ≠ P → (stR wr P most (.slice A' n' c')).heap[q]? = wr.heap[q]? := fun q hq => (Below.heap_setCell _ ⟨P, 1, none⟩ _ q hq).trans (Below.heap_setCell wr ⟨P, 0, none⟩ _ q hq)
  have hsz : (stR wr P most (.slice A' n' c')).heap.size = wr.heap.size := by simp [stR, World.setCell]
  have hc : Chg (fun q => q = P) wr (stR wr P most (.slice A' n' c')) := ⟨rfl, rfl, rfl, Nat.le_of_eq hsz.symm, fun q _ hq => hk q hq⟩
  refine ⟨h.pool.chg hc fun q hg hq => (h.gl q hg).2 hq, kblk_set (kblk_set h.rp _) _, ⟨hp.own.same_block fun q hq => hk q fun e => by have := (hp.own.lt q hq).1; omega, hp.g⟩, h.bok.chg hc fun q hg hq => by have := (h.bok.lt q hg).1; omega, h.gh, h.gl, ⟨l1, l2, by omega⟩, h.below.trans (hc.to_below (by omega) fun q hq => by omega)⟩
/-- The book has taken a list. -/
theorem PSt.book (h : PSt w0 wr P b kb G H s most es L A n c) (hb : Bok w' H' b (kb + 1)) (hc : Chg H wr w') (hH : ∀ q, H' q → H q ∨ v.ownBlock = some q ∨ wr.heap.size ≤ q) (hv : ∀ q, v.ownBlock = some q → ¬ G q ∧ (Value.slice A n c).ownBlock ≠ some q) : PSt w0 w' P b (kb + 1) G H' s most es L A n c := by
  obtain ⟨l1, l2, l3⟩ := h.pl
  have hs := hc.size
  refine ⟨h.pool.chg hc fun q hg hh => h.gh q hg hh, (hc.block P (by omega) fun hg => by have := (h.bok.lt P hg).1; omega).trans h.rp, ⟨h.pend.own.same_block fun q hq => hc.block q (h.pend.own.lt q hq).2 (h.pend.g q hq).2, fun q hq => ⟨(h.pend.g q hq).1, fun hg => ?_⟩⟩, hb, fun q hg hh => ?_, h.gl, ⟨l1, l2, by omega⟩, h.below.trans (hc.to_below (by omega) fun q hq => by have := (h.bok.lt q hq).1; omega)⟩
  · rcases hH q hg with h1 | h1 | h1
    · exact (h.pend.g q hq).2 h1
    · exact (hv q h1).2 hq
    · have := (h.pend.own.lt q hq).2; omega
  · rcases hH q hh with h1 | h1 | h1
    · exact h.gh q hg h1
    · exact (hv q h1).1 hg
    · have := h.gLt q hg; omega
/-- A copy that has been made aside takes the pool's place. -/
theorem PSt.swap (h : PSt w0 wr P b kb G H s most es L A n c) {Z : Nat} (hp : Plt wr G' s' most es') (hG : ∀ q, G' q → Z ≤ q) (hH : ∀ q, H q → q < Z) (hP : P < Z) (hL : ∀ q, (Value.slice A n c).ownBlock = some q → q < Z) (h0 : w0.heap.size ≤ Z) : PSt w0 wr P b kb G' H s' most es' L A n c :=
  ⟨hp, h.rp, ⟨h.pend.own, fun q hq => ⟨fun hg => by have := hG q hg; have := hL q hq; omega, (h.pend.g q hq).2⟩⟩, h.bok, fun q hg hh => by have := hG q hg; have := hH q hh; omega, fun q hg => by have := hG q hg; omega, h.pl, h.below⟩
theorem PSt.new {p : Nat} (hp : Plt wr G (.pointer (some ⟨p, 0, none⟩)) most []) (hG : ∀ q, G q → w0.heap.size ≤ q) (hb : Below w0.heap.size w0 wr) :
    PSt w0 ((wr.alloc (.cells #[.int .i64 most, .slice none 0 0] 28)).alloc (.cells #[.slice none 0 0, .slice none 0 0, .slice none 0 0, .slice none 0 0, .slice none 0 0, .slice none 0 0, .slice none 0 0, .slice none 0 0, .slice none 0 0, .slice none 0 0, .slice none 0 0, .slice none 0 0, .slice none 0 0, .slice none 0 0] 38)) wr.heap.size (wr.heap.size + 1) 0 G (fun q => q = wr.heap.size + 1) (.pointer (some ⟨p, 0, none⟩)) most [] [] none 0 0 := by
  have hal (w : World) (o : Obj) : (w.alloc o).heap.size = w.heap.size + 1 := by show (w.heap.push o).size = _; simp
  have B1 : Below wr.heap.size wr ((wr.alloc (.cells #[.int .i64 most, .slice none 0 0] 28)).alloc (.cells #[.slice none 0 0, .slice none 0 0, .slice none 0 0, .slice none 0 0, .slice none 0 0, .slice none 0 0, .slice none 0 0, .slice none 0 0, .slice none 0 0, .slice none 0 0, .slice none 0 0, .slice none 0 0, .slice none 0 0, .slice none 0 0] 38)) := ((Below.refl _ _).alloc (Nat.le_refl _) _).alloc (by rw [hal]; omega) _
  have hs := hb.size
  have hlt := hp.lt
  refine ⟨hp.below B1, (Below.heap_alloc _ _ _ (by rw [hal]; omega)).trans (rheap_new _ _), ⟨Own.nil _ _ _ _, fun q h => by simp [Value.ownBlock] at h⟩, Bok.new ?_ (by rw [hal, hal]; omega), fun q hg hh => by have := hlt q hg; omega, fun q hg => ⟨hG q hg, by have := hlt q hg; omega⟩, ⟨by omega, by omega, by rw [hal, hal]; omega⟩, hb.trans (B1.mono (by omega))⟩
  have := rheap_new (wr.alloc (.cells #[.int .i64 most, .slice none 0 0] 28)) (.cells #[.slice none 0 0, .slice none 0 0, .slice none 0 0, .slice none 0 0, .slice none 0 0, .slice none 0 0, .slice none 0 0, .slice none 0 0, .slice none 0 0, .slice none 0 0, .slice none 0 0, .slice none 0 0, .slice none 0 0, .slice none 0 0] 38)
  rw [hal] at this
  exact this
/-- What a store into the document's pool asks for. -/
theorem PSt.facts (h : PSt w0 wr P b kb G H s most es L A n c) : wr.frozen? ⟨P, 0, none⟩ = false ∧ wr.frozen? ⟨P, 1, none⟩ = false ∧ wr.cell? ⟨P, 0, none⟩ = some (.int .i64 most) ∧ wr.cell? ⟨P, 1, none⟩ = some (.slice A n c) ∧ P < wr.heap.size := by
  obtain ⟨l1, l2, l3⟩ := h.pl
  exact ⟨by simp [World.frozen?, h.rp], by simp [World.frozen?, h.rp], kblk_cell h.rp 0 _ rfl, kblk_cell h.rp 1 _ rfl, by omega⟩
end
end Go.Proofs.YtnpgjdhigcjihaaGreatDoor
