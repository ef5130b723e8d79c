/- Joined texts: PoolL. -/
import Derived.Test.YtjjfdkdneibjbaaGreatDoorJa26
import Derived.Test.YtjjfdkdneibjbaaGreatDoorJa27
/- Package pool: its blocks are among those that there are; what a Put does, as one function of the blocks. -/
namespace Go.Proofs.YtjjfdkdneibjbaaGreatDoor
open Go.RowKit

theorem ShelfIs.tight {w : World} {F : Nat → Prop} {s : Value} {bs : List (List (Int × Int))} (h : ShelfIs w F s bs) : ShelfIs w (fun k => F k ∧ k < w.heap.size) s bs := by
  obtain ⟨p, g, vs, h1, h2, h3, h4, h5, h6, h7, h8, h9, h10, h11, h12, h13, h14⟩ := h
  refine ⟨p, g, vs, h1, h2, h3, ⟨h4, h2⟩, ⟨h5, h3⟩, h6, h7, h8, h9, h10, h11, h12, fun v hv k hk => ?_, h14⟩
  obtain ⟨a, b, c⟩ := h13 v hv k hk
  obtain ⟨i, hi, rfl⟩ := List.getElem_of_mem hv
  exact ⟨⟨a, ((h12 i (by omega) hi).lt k hk).2⟩, b, c⟩
section
variable {w w' : World} {G F : Nat → Prop} {s : Value} {most : Int} {es : List (Int × Blk)} {bs : List (List (Int × Int))}
theorem PoolIs.tight (h : PoolIs w G s most es bs) : PoolIs w (fun k => G k ∧ k < w.heap.size) s most es bs := by
  obtain ⟨p, m, q, h1, h2, h3, h4, h5, h6, h7, h8, h9, h10, h11⟩ := h
  exact ⟨p, m, q, h1, h2, h3, ⟨h4, h2⟩, ⟨h5, h3⟩, h6, h7, h8, h9, h10, h11.tight.mono fun k hk => ⟨⟨hk.1.1, hk.2⟩, hk.1.2⟩⟩
/-- The pool by its blocks; those of the heap that are its own. -/
structure Plt (w : World) (G : Nat → Prop) (s : Value) (most : Int) (es : List (Int × Blk)) : Prop where
  pl : Pl w G s most es
  lt : ∀ k, G k → k < w.heap.size
theorem Plt.below (h : Plt w G s most es) (hb : Below w.heap.size w w') : Plt w' G s most es := ⟨h.pl.below hb, fun k hk => Nat.lt_of_lt_of_le (h.lt k hk) hb.size⟩
theorem Plt.drewN (h : Plt w G s most es) (n : Nat) : Plt (w.drewN n) G s most es := ⟨h.pl.drewN n, h.lt⟩
theorem Plt.chg (h : Plt w G s most es) (hc : Chg F w w') (hd : ∀ k, G k → ¬ F k) : Plt w' G s most es := by
  obtain ⟨⟨bs, h1, h2⟩, h3⟩ := h
  exact ⟨⟨bs, h1.keep hc.size fun k hk hg => hc.block k hk (hd k hg), h2⟩, fun k hk => Nat.lt_of_lt_of_le (h3 k hk) hc.size⟩
theorem Pl.tight (h : Pl w G s most es) : Plt w (fun k => G k ∧ k < w.heap.size) s most es := by
  obtain ⟨bs, h1, h2⟩ := h
  exact ⟨⟨bs, h1.tight, h2⟩, fun k hk => hk.2⟩
theorem Pl.mono {G' : Nat → Prop} (h : Pl w G s most es) (hG : ∀ k, G k → G' k) : Pl w G' s most es := by
  obtain ⟨bs, h1, h2⟩ := h
  exact ⟨bs, h1.mono hG, h2⟩
/-- The own blocks of a pool that has gone on: its own of before, or new ones. -/
structure Went (G G' : Nat → Prop) (w : World) : Prop where
  from' : ∀ k, G' k → G k ∨ w.heap.size ≤ k
theorem Went.refl (G : Nat → Prop) (w : World) : Went G G w := ⟨fun _ h => .inl h⟩
theorem Went.trans {G1 G2 : Nat → Prop} {w1 : World} (h : Went G G1 w) (k : Went G1 G2 w1) (hs : w.heap.size ≤ w1.heap.size) : Went G G2 w := ⟨fun i hi => by
  rcases k.from' i hi with h1 | h1
  · exact h.from' i h1
  · exact .inr (Nat.le_trans hs h1)⟩
/-- A call on a pool whose own may be all new blocks. -/
theorem Plt.call {es' : List (Int × Blk)} {f : Nat} {args : Array Value} {R : Ending → Prop} (h : Plt w G s most es)
    (hc : Pl w (fun k => G k ∨ w.heap.size ≤ k) s most es → (∀ k, w.heap.size ≤ k → G k ∨ w.heap.size ≤ k) → Calls Tryz.prog f args w fun e w' => R e ∧ Pl w' (fun k => G k ∨ w.heap.size ≤ k) s most es' ∧ Chg (fun k => G k ∨ w.heap.size ≤ k) w w') :
    Calls Tryz.prog f args w fun e w' => R e ∧ ∃ G', Plt w' G' s most es' ∧ Went G G' w ∧ Chg G w w' :=
  (hc (h.pl.mono fun k hk => .inl hk) fun k hk => .inr hk).mono fun _ _ ⟨a, b, c⟩ => ⟨a, _, b.tight, ⟨fun k hk => hk.1⟩, c.mono fun k hk hf => hf.elim id fun h => absurd hk (by omega)⟩

/-- There is a least number that no block has. -/
theorem least_has (es : List (Int × Blk)) (hg : ∀ id t r, lkE es id = some (t, r) → 1 ≤ r) : ∃ R, Least es R ∧ R ≤ (es.length : Int) + 1 := by
  have key : ∀ m : Nat, (∃ R, Least es R ∧ R ≤ (m : Int)) ∨ ∀ j : Int, 1 ≤ j → j ≤ m → ∃ t r, lkE es j = some (t, r) ∧ 0 < r := by
    intro m
    induction m with
    | zero => exact .inr fun j h1 h2 => by omega
    | succ m ih =>
      rcases ih with ⟨R, h1, h2⟩ | h
      · exact .inl ⟨R, h1, by omega⟩
      · cases hl : lkE es ((m : Int) + 1) with
        | none => exact .inl ⟨(m : Int) + 1, ⟨by omega, hl, fun j h1 h2 => h j h1 (by omega)⟩, by omega⟩
        | some x =>
          right
          intro j h1 h2
          by_cases e : j = (m : Int) + 1
          · subst e
            exact ⟨x.1, x.2, hl, by have := hg _ x.1 x.2 hl; omega⟩
          · exact h j h1 (by omega)
  rcases key (es.length + 1) with ⟨R, h1, h2⟩ | h
  · exact ⟨R, h1, by omega⟩
  · exfalso
    have hn : ((List.range (es.length + 1)).map fun i : Nat => (i : Int) + 1).Nodup := by
      rw [List.nodup_iff_pairwise_ne, List.pairwise_map]
      exact List.nodup_range.imp (fun h e => h (by omega))
    have := length_of_subset hn (m := es.map (·.1)) fun x hx => by
      obtain ⟨i, hi, rfl⟩ := List.mem_map.1 hx
      have hi' := List.mem_range.1 hi
      obtain ⟨t, r, h1, _⟩ := h ((i : Int) + 1) (by omega) (by omega)
      by_cases hm : ((i : Int) + 1) ∈ es.map (·.1)
      · exact hm
      · rw [lkE_none.2 hm] at h1; cases h1
    simp at this
    omega
theorem Least.uniq {es : List (Int × Blk)} {R S : Int} (h : Least es R) (k : Least es S) : R = S := by
  rcases Int.lt_trichotomy R S with h1 | h1 | h1
  · obtain ⟨t, r, h2, _⟩ := k.2.2 R h.1 h1
    rw [h.2.1] at h2; cases h2
  · exact h1
  · obtain ⟨t, r, h2, _⟩ := h.2.2 S k.1 h1
    rw [k.2.1] at h2; cases h2
open Classical in
/-- The least number that no block has. -/
noncomputable def leastE (es : List (Int × Blk)) : Int := if h : ∃ R, Least es R then h.choose else 0
theorem leastE_is {es : List (Int × Blk)} (h : ∃ R, Least es R) : Least es (leastE es) := by
  unfold leastE
  rw [dif_pos h]
  exact h.choose_spec
/-- The number of the block of some bytes, and the blocks, when it is held once more. -/
noncomputable def putF (es : List (Int × Blk)) (b : ByteArray) : Int × List (Int × Blk) :=
  if zeroB b = true then (0, es) else match es.find? (fun e => decide (e.2.1 = b)) with
    | some e => (e.1, putE es e.1 (b, e.2.2 + 1))
    | none => (leastE es, putE es (leastE es) (b, 1))
theorem putF_zero {es : List (Int × Blk)} {b : ByteArray} (h : zeroB b = true) : putF es b = (0, es) := by rw [putF, if_pos h]
theorem lkE_mem {es : List (Int × Blk)} (hn : (es.map (·.1)).Nodup) {e : Int × Blk} (he : e ∈ es) : lkE es e.1 = some e.2 := by
  induction es with
  | nil => simp at he
  | cons p es ih =>
    rw [List.map_cons, List.nodup_cons] at hn
    unfold lkE
    rcases List.mem_cons.1 he with rfl | h
    · rw [if_pos rfl]
    · rw [if_neg (fun (e1 : p.1 = e.1) => hn.1 (by rw [e1]; exact List.mem_map.2 ⟨e, h, rfl⟩)), ih hn.2 h]
theorem mem_lkE {es : List (Int × Blk)} {id : Int} {x : Blk} (h : lkE es id = some x) : (id, x) ∈ es := by
  induction es with
  | nil => cases h
  | cons p es ih =>
    unfold lkE at h
    split at h
    · rename_i h1
      injection h with h
      subst h1; subst h
      exact List.mem_cons_self
    · exact List.mem_cons_of_mem _ (ih h)
theorem putF_had {es : List (Int × Blk)} (hn : (es.map (·.1)).Nodup) (hu : ∀ id id' t r r', lkE es id = some (t, r) → lkE es id' = some (t, r') → id' = id) {b : ByteArray} (hz : zeroB b = false) {id r : Int} (h : lkE es id = some (b, r)) : putF es b = (id, putE es id (b, r + 1)) := by
  rw [putF, if_neg (by simp [hz])]
  have hm := mem_lkE h
  cases he : es.find? (fun e => decide (e.2.1 = b)) with
  | none =>
    have := List.find?_eq_none.1 he _ hm
    simp at this
  | some e =>
    have h1 := List.find?_some he
    have h2 := List.mem_of_find?_eq_some he
    simp only [decide_eq_true_eq] at h1
    have h3 := lkE_mem hn h2
    obtain ⟨i, t, q⟩ := e
    subst h1
    have h4 := hu _ _ _ _ _ h h3
    subst h4
    have h5 := h3.symm.trans h
    injection h5 with h5
    injection h5 with _ h5
    subst h5
    rfl
theorem putF_new {es : List (Int × Blk)} {b : ByteArray} (hz : zeroB b = false) (hn : (es.map (·.1)).Nodup) (h : ∀ id r, lkE es id ≠ some (b, r)) : putF es b = (leastE es, putE es (leastE es) (b, 1)) := by
  rw [putF, if_neg (by simp [hz])]
  cases he : es.find? (fun e => decide (e.2.1 = b)) with
  | none => rfl
  | some e =>
    have h1 := List.find?_some he
    have h2 := List.mem_of_find?_eq_some he
    simp only [decide_eq_true_eq] at h1
    obtain ⟨i, t, q⟩ := e
    subst h1
    exact absurd (lkE_mem hn h2) (h _ _)
theorem putE_keys (es : List (Int × Blk)) (k : Int) (x : Blk) : (putE es k x).length ≤ es.length + 1 := by
  induction es with
  | nil => exact Nat.le_refl _
  | cons p es ih =>
    unfold putE
    split
    · simp
    · simpa using ih
theorem putF_len (es : List (Int × Blk)) (b : ByteArray) : (putF es b).2.length ≤ es.length + 1 := by
  unfold putF
  split
  · simp
  · split
    · exact putE_keys _ _ _
    · exact putE_keys _ _ _
theorem plt_put (b : ByteArray) (h : Plt w G s most es) (hb : b.size = 8) (h0 : 0 ≤ most) (h1 : most ≤ 1000) (hroom : (es.length : Int) < most) (hr : ∀ id t r, lkE es id = some (t, r) → r ≤ 100000) :
    Calls Tryz.prog 30 #[s, .string b] w fun e w' => e = .returned (.tuple #[.int .i64 (putF es b).1, .int .i64 0]) ∧ ∃ G', Plt w' G' s most (putF es b).2 ∧ Went G G' w ∧ Chg G w w' := by
  cases hz : zeroB b with
  | true =>
    rw [putF_zero hz]
    exact (pl_put_zero b h.pl hb hz).mono fun _ _ ⟨a, c, d⟩ => ⟨a, G, ⟨c, fun k hk => Nat.lt_of_lt_of_le (h.lt k hk) d.size⟩, Went.refl _ _, Chg.of_below d⟩
  | false =>
    by_cases hx : ∃ id r, lkE es id = some (b, r)
    · obtain ⟨id, r, hx⟩ := hx
      rw [putF_had h.pl.nodup (fun _ _ _ _ _ a b => h.pl.uniq a b) hz hx]
      exact h.call fun hp hG => pl_put_had b id r hp hG (by omega) hx (hr _ _ _ hx)
    · have hno : ∀ id r, lkE es id ≠ some (b, r) := fun id r e => hx ⟨id, r, e⟩
      rw [putF_new hz h.pl.nodup hno]
      obtain ⟨R, hR, hR2⟩ := least_has es fun id t r e => (h.pl.good e).2.1
      have hR' := leastE_is ⟨R, hR⟩
      have e := hR.uniq hR'
      exact h.call fun hp hG => pl_put_new b (leastE es) hp hG hb hz hno h0 h1 hroom hR' (by omega)
end
end Go.Proofs.YtjjfdkdneibjbaaGreatDoor
