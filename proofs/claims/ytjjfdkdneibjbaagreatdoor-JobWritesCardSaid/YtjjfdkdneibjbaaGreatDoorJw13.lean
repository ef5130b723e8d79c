/- Joined texts: PoolL, JobP, JobB. -/
import Derived.Test.YtjjfdkdneibjbaaGreatDoorJw12
import Derived.Test.YtjjfdkdneibjbaaGreatDoorJw07
import Derived.Test.YtjjfdkdneibjbaaGreatDoorJw04
import Derived.Test.YtjjfdkdneibjbaaGreatDoorJw08
/- Package pool: its blocks are among those that there are; what a Put does, as one function of the blocks. -/
namespace Go.Proofs.YtjjfdkdneibjbaaGreatDoor
open Go.RowKit

theorem ShelfIs.tight {w : World} {F : Nat → Prop} {s : Value} {bs : List (List (Int × Int))} (h : ShelfIs w F s bs) : ShelfIs w (fun k => F k ∧ k < w.heap.size) s bs := by
  obtain ⟨p, g, vs, h1, h2, h3, h4, h5, h6, h7, h8, h9, h10, h11, h12, h13, h14⟩ := h
  refine ⟨p, g, vs, h1, h2, h3, ⟨h4, h2⟩, ⟨h5, h3⟩, h6, h7, h8, h9, h10, h11, h12, fun v hv k hk => ?_, h14⟩
  obtain ⟨a, b, c⟩ := h13 v hv k hk
  obtain ⟨i, hi, rfl⟩ := List.getElem_of_mem hv
  exact ⟨⟨a, ((h12 i (by omega) hi).lt k hk).2⟩, b, c⟩
section
variable {w w' : World} {G F : Nat → Prop} {s : Value} {most : Int} {es : List (Int × Blk)} {bs : List (List (Int × Int))}
theorem PoolIs.tight (h : PoolIs w G s most es bs) : PoolIs w (fun k => G k ∧ k < w.heap.size) s most es bs := by
  obtain ⟨p, m, q, h1, h2, h3, h4, h5, h6, h7, h8, h9, h10, h11⟩ := h
  exact ⟨p, m, q, h1, h2, h3, ⟨h4, h2⟩, ⟨h5, h3⟩, h6, h7, h8, h9, h10, h11.tight.mono fun k hk => ⟨⟨hk.1.1, hk.2⟩, hk.1.2⟩⟩
/-- The pool by its blocks; those of the heap that are its own. -/
structure Plt (w : World) (G : Nat → Prop) (s : Value) (most : Int) (es : List (Int × Blk)) : Prop where
  pl : Pl w G s most es
  lt : ∀ k, G k → k < w.heap.size
theorem Plt.below (h : Plt w G s most es) (hb : Below w.heap.size w w') : Plt w' G s most es := ⟨h.pl.below hb, fun k hk => Nat.lt_of_lt_of_le (h.lt k hk) hb.size⟩
theorem Plt.drewN (h : Plt w G s most es) (n : Nat) : Plt (w.drewN n) G s most es := ⟨h.pl.drewN n, h.lt⟩
theorem Plt.chg (h : Plt w G s most es) (hc : Chg F w w') (hd : ∀ k, G k → ¬ F k) : Plt w' G s most es := by
  obtain ⟨⟨bs, h1, h2⟩, h3⟩ := h
  exact ⟨⟨bs, h1.keep hc.size fun k hk hg => hc.block k hk (hd k hg), h2⟩, fun k hk => Nat.lt_of_lt_of_le (h3 k hk) hc.size⟩
theorem Pl.tight (h : Pl w G s most es) : Plt w (fun k => G k ∧ k < w.heap.size) s most es := by
  obtain ⟨bs, h1, h2⟩ := h
  exact ⟨⟨bs, h1.tight, h2⟩, fun k hk => hk.2⟩
theorem Pl.mono {G' : Nat → Prop} (h : Pl w G s most es) (hG : ∀ k, G k → G' k) : Pl w G' s most es := by
  obtain ⟨bs, h1, h2⟩ := h
  exact ⟨bs, h1.mono hG, h2⟩
/-- The own blocks of a pool that has gone on: its own of before, or new ones. -/
structure Went (G G' : Nat → Prop) (w : World) : Prop where
  from' : ∀ k, G' k → G k ∨ w.heap.size ≤ k
theorem Went.refl (G : Nat → Prop) (w : World) : Went G G w := ⟨fun _ h => .inl h⟩
theorem Went.trans {G1 G2 : Nat → Prop} {w1 : World} (h : Went G G1 w) (k : Went G1 G2 w1) (hs : w.heap.size ≤ w1.heap.size) : Went G G2 w := ⟨fun i hi => by
  rcases k.from' i hi with h1 | h1
  · exact h.from' i h1
  · exact .inr (Nat.le_trans hs h1)⟩
/-- A call on a pool whose own may be all new blocks. -/
theorem Plt.call {es' : List (Int × Blk)} {f : Nat} {args : Array Value} {R : Ending → Prop} (h : Plt w G s most es)
    (hc : Pl w (fun k => G k ∨ w.heap.size ≤ k) s most es → (∀ k, w.heap.size ≤ k → G k ∨ w.heap.size ≤ k) → Calls Tryz.prog f args w fun e w' => R e ∧ Pl w' (fun k => G k ∨ w.heap.size ≤ k) s most es' ∧ Chg (fun k => G k ∨ w.heap.size ≤ k) w w') :
    Calls Tryz.prog f args w fun e w' => R e ∧ ∃ G', Plt w' G' s most es' ∧ Went G G' w ∧ Chg G w w' :=
  (hc (h.pl.mono fun k hk => .inl hk) fun k hk => .inr hk).mono fun _ _ ⟨a, b, c⟩ => ⟨a, _, b.tight, ⟨fun k hk => hk.1⟩, c.mono fun k hk hf => hf.elim id fun h => absurd hk (by omega)⟩

/-- There is a least number that no block has. -/
theorem least_has (es : List (Int × Blk)) (hg : ∀ id t r, lkE es id = some (t, r) → 1 ≤ r) : ∃ R, Least es R ∧ R ≤ (es.length : Int) + 1 := by
  have key : ∀ m : Nat, (∃ R, Least es R ∧ R ≤ (m : Int)) ∨ ∀ j : Int, 1 ≤ j → j ≤ m → ∃ t r, lkE es j = some (t, r) ∧ 0 < r := by
    intro m
    induction m with
    | zero => exact .inr fun j h1 h2 => by omega
    | succ m ih =>
      rcases ih with ⟨R, h1, h2⟩ | h
      · exact .inl ⟨R, h1, by omega⟩
      · cases hl : lkE es ((m : Int) + 1) with
        | none => exact .inl ⟨(m : Int) + 1, ⟨by omega, hl, fun j h1 h2 => h j h1 (by omega)⟩, by omega⟩
        | some x =>
          right
          intro j h1 h2
          by_cases e : j = (m : Int) + 1
          · subst e
            exact ⟨x.1, x.2, hl, by have := hg _ x.1 x.2 hl; omega⟩
          · exact h j h1 (by omega)
  rcases key (es.length + 1) with ⟨R, h1, h2⟩ | h
  · exact ⟨R, h1, by omega⟩
  · exfalso
    have hn : ((List.range (es.length + 1)).map fun i : Nat => (i : Int) + 1).Nodup := by
      rw [List.nodup_iff_pairwise_ne, List.pairwise_map]
      exact List.nodup_range.imp (fun h e => h (by omega))
    have := length_of_subset hn (m := es.map (·.1)) fun x hx => by
      obtain ⟨i, hi, rfl⟩ := List.mem_map.1 hx
      have hi' := List.mem_range.1 hi
      obtain ⟨t, r, h1, _⟩ := h ((i : Int) + 1) (by omega) (by omega)
      by_cases hm : ((i : Int) + 1) ∈ es.map (·.1)
      · exact hm
      · rw [lkE_none.2 hm] at h1; cases h1
    simp at this
    omega
theorem Least.uniq {es : List (Int × Blk)} {R S : Int} (h : Least es R) (k : Least es S) : R = S := by
  rcases Int.lt_trichotomy R S with h1 | h1 | h1
  · obtain ⟨t, r, h2, _⟩ := k.2.2 R h.1 h1
    rw [h.2.1] at h2; cases h2
  · exact h1
  · obtain ⟨t, r, h2, _⟩ := h.2.2 S k.1 h1
    rw [k.2.1] at h2; cases h2
open Classical in
/-- The least number that no block has. -/
noncomputable def leastE (es : List (Int × Blk)) : Int := if h : ∃ R, Least es R then h.choose else 0
theorem leastE_is {es : List (Int × Blk)} (h : ∃ R, Least es R) : Least es (leastE es) := by
  unfold leastE
  rw [dif_pos h]
  exact h.choose_spec
/-- The number of the block of some bytes, and the blocks, when it is held once more. -/
noncomputable def putF (es : List (Int × Blk)) (b : ByteArray) : Int × List (Int × Blk) :=
  if zeroB b = true then (0, es) else match es.find? (fun e => decide (e.2.1 = b)) with
    | some e => (e.1, putE es e.1 (b, e.2.2 + 1))
    | none => (leastE es, putE es (leastE es) (b, 1))
theorem putF_zero {es : List (Int × Blk)} {b : ByteArray} (h : zeroB b = true) : putF es b = (0, es) := by rw [putF, if_pos h]
theorem lkE_mem {es : List (Int × Blk)} (hn : (es.map (·.1)).Nodup) {e : Int × Blk} (he : e ∈ es) : lkE es e.1 = some e.2 := by
  induction es with
  | nil => simp at he
  | cons p es ih =>
    rw [List.map_cons, List.nodup_cons] at hn
    unfold lkE
    rcases List.mem_cons.1 he with rfl | h
    · rw [if_pos rfl]
    · rw [if_neg (fun (e1 : p.1 = e.1) => hn.1 (by rw [e1]; exact List.mem_map.2 ⟨e, h, rfl⟩)), ih hn.2 h]
theorem mem_lkE {es : List (Int × Blk)} {id : Int} {x : Blk} (h : lkE es id = some x) : (id, x) ∈ es := by
  induction es with
  | nil => cases h
  | cons p es ih =>
    unfold lkE at h
    split at h
    · rename_i h1
      injection h with h
      subst h1; subst h
      exact List.mem_cons_self
    · exact List.mem_cons_of_mem _ (ih h)
theorem putF_had {es : List (Int × Blk)} (hn : (es.map (·.1)).Nodup) (hu : ∀ id id' t r r', lkE es id = some (t, r) → lkE es id' = some (t, r') → id' = id) {b : ByteArray} (hz : zeroB b = false) {id r : Int} (h : lkE es id = some (b, r)) : putF es b = (id, putE es id (b, r + 1)) := by
  rw [putF, if_neg (by simp [hz])]
  have hm := mem_lkE h
  cases he : es.find? (fun e => decide (e.2.1 = b)) with
  | none =>
    have := List.find?_eq_none.1 he _ hm
    simp at this
  | some e =>
    have h1 := List.find?_some he
    have h2 := List.mem_of_find?_eq_some he
    simp only [decide_eq_true_eq] at h1
    have h3 := lkE_mem hn h2
    obtain ⟨i, t, q⟩ := e
    subst h1
    have h4 := hu _ _ _ _ _ h h3
    subst h4
    have h5 := h3.symm.trans h
    injection h5 with h5
    injection h5 with _ h5
    subst h5
    rfl
theorem putF_new {es : List (Int × Blk)} {b : ByteArray} (hz : zeroB b = false) (hn : (es.map (·.1)).Nodup) (h : ∀ id r, lkE es id ≠ some (b, r)) : putF es b = (leastE es, putE es (leastE es) (b, 1)) := by
  rw [putF, if_neg (by simp [hz])]
  cases he : es.find? (fun e => decide (e.2.1 = b)) with
  | none => rfl
  | some e =>
    have h1 := List.find?_some he
    have h2 := List.mem_of_find?_eq_some he
    simp only [decide_eq_true_eq] at h1
    obtain ⟨i, t, q⟩ := e
    subst h1
    exact absurd (lkE_mem hn h2) (h _ _)
theorem putE_keys (es : List (Int × Blk)) (k : Int) (x : Blk) : (putE es k x).length ≤ es.length + 1 := by
  induction es with
  | nil => exact Nat.le_refl _
  | cons p es ih =>
    unfold putE
    split
    · simp
    · simpa using ih
theorem putF_len (es : List (Int × Blk)) (b : ByteArray) : (putF es b).2.length ≤ es.length + 1 := by
  unfold putF
  split
  · simp
  · split
    · exact putE_keys _ _ _
    · exact putE_keys _ _ _
theorem plt_put (b : ByteArray) (h : Plt w G s most es) (hb : b.size = 8) (h0 : 0 ≤ most) (h1 : most ≤ 1000) (hroom : (es.length : Int) < most) (hr : ∀ id t r, lkE es id = some (t, r) → r ≤ 100000) :
    Calls Tryz.prog 30 #[s, .string b] w fun e w' => e = .returned (.tuple #[.int .i64 (putF es b).1, .int .i64 0]) ∧ ∃ G', Plt w' G' s most (putF es b).2 ∧ Went G G' w ∧ Chg G w w' := by
  cases hz : zeroB b with
  | true =>
    rw [putF_zero hz]
    exact (pl_put_zero b h.pl hb hz).mono fun _ _ ⟨a, c, d⟩ => ⟨a, G, ⟨c, fun k hk => Nat.lt_of_lt_of_le (h.lt k hk) d.size⟩, Went.refl _ _, Chg.of_below d⟩
  | false =>
    by_cases hx : ∃ id r, lkE es id = some (b, r)
    · obtain ⟨id, r, hx⟩ := hx
      rw [putF_had h.pl.nodup (fun _ _ _ _ _ a b => h.pl.uniq a b) hz hx]
      exact h.call fun hp hG => pl_put_had b id r hp hG (by omega) hx (hr _ _ _ hx)
    · have hno : ∀ id r, lkE es id ≠ some (b, r) := fun id r e => hx ⟨id, r, e⟩
      rw [putF_new hz h.pl.nodup hno]
      obtain ⟨R, hR, hR2⟩ := least_has es fun id t r e => (h.pl.good e).2.1
      have hR' := leastE_is ⟨R, hR⟩
      have e := hR.uniq hR'
      exact h.call fun hp hG => pl_put_new b (leastE es) hp hG hb hz hno h0 h1 hroom hR' (by omega)
end
end Go.Proofs.YtjjfdkdneibjbaaGreatDoor
/- What a job does, block by block: the plain law. -/
namespace Go.Proofs.YtjjfdkdneibjbaaGreatDoor
open Go.RowKit

theorem putE_nodup {es : List (Int × Blk)} (h : (es.map (·.1)).Nodup) (k : Int) (x : Blk) : ((putE es k x).map (·.1)).Nodup := by
  have hm : ∀ (es : List (Int × Blk)), (putE es k x).map (·.1) = if k ∈ es.map (·.1) then es.map (·.1) else es.map (·.1) ++ [k] := by
    intro es
    induction es with
    | nil => simp [putE]
    | cons p es ih =>
      unfold putE
      by_cases e : p.1 = k
      · rw [if_pos e, if_pos (by simp [e])]; simp [e]
      · rw [if_neg e, List.map_cons, ih]
        by_cases h : k ∈ es.map (·.1)
        · rw [if_pos h, if_pos (by rw [List.map_cons]; exact List.mem_cons_of_mem _ h)]; rfl
        · rw [if_neg h, if_neg (by rw [List.map_cons, List.mem_cons]; exact fun h1 => h1.elim (fun h2 => e h2.symm) h)]; rfl
  rw [hm]
  split
  · exact h
  · rename_i hk
    rw [List.nodup_append]
    refine ⟨h, by simp, fun a ha b hb => ?_⟩
    rw [List.mem_singleton] at hb
    subst hb
    exact fun e => hk (e ▸ ha)
/-- The blocks of a pool, as they may be. -/
structure EOk (es : List (Int × Blk)) : Prop where
  ok : ∃ bs, POk es bs
  nd : (es.map (·.1)).Nodup
  le : ∀ id x, lkE es id = some x → id ≤ 60
/-- A block of this number has these bytes; 0 is the zeros. -/
def GetE (es : List (Int × Blk)) (id : Int) (t : ByteArray) : Prop := (id = 0 ∧ zeroB t = true ∧ t.size = 8) ∨ (0 < id ∧ ∃ r, lkE es id = some (t, r))
theorem EOk.nil : EOk [] := ⟨⟨_, POk.made⟩, List.nodup_nil, fun _ _ h => by cases h⟩
/-- What one more block does: each that is there has its bytes still. -/
structure PutIs (es : List (Int × Blk)) (b : ByteArray) (id : Int) (es' : List (Int × Blk)) : Prop where
  ok : EOk es'
  id0 : 0 ≤ id
  id1 : id ≤ 60
  here : GetE es' id b
  old : ∀ i t, GetE es i t → GetE es' i t
  refs : ∀ m : Int, 0 ≤ m → (∀ i t r, lkE es i = some (t, r) → r ≤ m) → ∀ i t r, lkE es' i = some (t, r) → r ≤ m + 1
  len : es'.length ≤ es.length + 1
theorem EOk.put {es : List (Int × Blk)} (h : EOk es) {b : ByteArray} (hb : b.size = 8) (hl : es.length < 60) : PutIs es b (putF es b).1 (putF es b).2 := by
  have hlen := putF_len es b
  obtain ⟨⟨bs, ho⟩, hn, hle⟩ := h
  cases hz : zeroB b with
  | true =>
    rw [putF_zero hz]
    exact ⟨⟨⟨bs, ho⟩, hn, hle⟩, Int.le_refl _, by omega, .inl ⟨rfl, hz, hb⟩, fun _ _ h => h, fun m _ hm i t r e => by have := hm i t r e; omega, by simp⟩
  | false =>
    by_cases hx : ∃ id r, lkE es id = some (b, r)
    · obtain ⟨id, r, hx⟩ := hx
      have e := putF_had hn ho.uniq hz hx
      rw [e] at hlen ⊢
      obtain ⟨g1, g2, _⟩ := ho.good _ _ _ hx
      refine ⟨⟨⟨bs, ho.old hx (by omega)⟩, putE_nodup hn _ _, fun i x hi => ?_⟩, by omega, hle _ _ hx, .inr ⟨by omega, _, lkE_put_same _ _ _⟩, fun i t hi => ?_, fun m h0 hm i t q hi => ?_, hlen⟩
      · by_cases e : i = id
        · subst e; exact hle _ _ hx
        · rw [lkE_put_other _ _ e] at hi; exact hle _ _ hi
      · rcases hi with hi | ⟨h1, q, hi⟩
        · exact .inl hi
        · by_cases e : i = id
          · subst e
            rw [hx] at hi
            injection hi with hi
            injection hi with hi _
            subst hi
            exact .inr ⟨h1, _, lkE_put_same _ _ _⟩
          · exact .inr ⟨h1, q, by rw [lkE_put_other _ _ e]; exact hi⟩
      · by_cases e : i = id
        · subst e
          rw [lkE_put_same] at hi
          injection hi with hi
          injection hi with _ hi
          have := hm _ _ _ hx
          omega
        · rw [lkE_put_other _ _ e] at hi
          have := hm _ _ _ hi
          omega
    · have hno : ∀ id r, lkE es id ≠ some (b, r) := fun id r e => hx ⟨id, r, e⟩
      obtain ⟨R, hR, hR2⟩ := least_has es fun id t r e => (ho.good _ _ _ e).2.1
      have hR' := leastE_is ⟨R, hR⟩
      have e := hR.uniq hR'
      have e2 := putF_new hz hn hno
      rw [e2] at hlen ⊢
      rw [← e] at hlen ⊢
      refine ⟨⟨⟨_, ho.new hR.1 hR.2.1 hb hz hno⟩, putE_nodup hn _ _, fun i x hi => ?_⟩, by have := hR.1; show 0 ≤ R; omega, by show R ≤ 60; omega, .inr ⟨by have := hR.1; show 0 < R; omega, _, lkE_put_same _ _ _⟩, fun i t hi => ?_, fun m h0 hm i t q hi => ?_, hlen⟩
      · by_cases e : i = R
        · omega
        · rw [lkE_put_other _ _ e] at hi; exact hle _ _ hi
      · rcases hi with hi | ⟨h1, q, hi⟩
        · exact .inl hi
        · by_cases e : i = R
          · subst e
            rw [hR.2.1] at hi; cases hi
          · exact .inr ⟨h1, q, by rw [lkE_put_other _ _ e]; exact hi⟩
      · by_cases e : i = R
        · subst e
          rw [lkE_put_same] at hi
          injection hi with hi
          injection hi with _ hi
          omega
        · rw [lkE_put_other _ _ e] at hi
          have := hm _ _ _ hi
          omega
/-- What is set, and the blocks. -/
abbrev JS := List Int × List (Int × Blk)
/-- One block is taken. -/
noncomputable def takeF (was : ByteArray) (s : JS) (k : Nat) : JS := (s.1.set k (putF s.2 (blkB was k)).1, (putF s.2 (blkB was k)).2)
noncomputable def runT (was : ByteArray) (T : List Nat) (s : JS) : JS := T.foldl (takeF was) s
theorem runT_snoc (was : ByteArray) (T : List Nat) (k : Nat) (s : JS) : runT was (T ++ [k]) s = takeF was (runT was T s) k := by simp [runT]
theorem runT_app (was : ByteArray) (T U : List Nat) (s : JS) : runT was (T ++ U) s = runT was U (runT was T s) := by simp [runT]
theorem runT_cons (was : ByteArray) (T : List Nat) (k : Nat) (s : JS) : runT was (k :: T) s = runT was T (takeF was s k) := rfl
/-- What holds of a job with these blocks left, when so many were taken into the pool. -/
structure JInv (n : Nat) (was : ByteArray) (m : Nat) (T : List Nat) (s : JS) : Prop where
  n64 : n ≤ 64
  was : was.size = 8 * n
  len : s.1.length = 64
  inp : InPool s.1
  ok : EOk s.2
  few : s.2.length ≤ m
  refs : ∀ i t r, lkE s.2 i = some (t, r) → r ≤ (m : Int)
  lt : ∀ k ∈ T, k < n
  ord : T.Pairwise (· < ·)
  rest : ∀ k ∈ T, ∀ j, k ≤ j → j < 64 → s.1.getD j 0 < 0
theorem getD_set_ne {L : List Int} {i j : Nat} (h : j ≠ i) (x : Int) : (L.set i x).getD j 0 = L.getD j 0 := by
  rw [List.getD_eq_getElem?_getD, List.getElem?_set_ne (fun e => h e.symm), ← List.getD_eq_getElem?_getD]
theorem getD_set_eq {L : List Int} {i : Nat} (h : i < L.length) (x : Int) : (L.set i x).getD i 0 = x := by
  rw [List.getD_eq_getElem?_getD, List.getElem?_set_self h, Option.getD_some]
section
variable {n m : Nat} {was : ByteArray} {T : List Nat} {s : JS} {k : Nat}
theorem JInv.blk (h : JInv n was m (k :: T) s) : (blkB was k).size = 8 := blkB_size (by have := h.lt k List.mem_cons_self; have := h.was; omega)
theorem JInv.putIs (h : JInv n was m (k :: T) s) (hm : m < 60) : PutIs s.2 (blkB was k) (takeF was s k).1[k]! (takeF was s k).2 ∧ (takeF was s k).1[k]! = (putF s.2 (blkB was k)).1 := by
  have hk := h.lt k List.mem_cons_self
  have e : (takeF was s k).1[k]! = (putF s.2 (blkB was k)).1 := by
    unfold takeF
    have := h.len
    have := h.n64
    simp only []
    rw [List.getElem!_eq_getElem?_getD, List.getElem?_set_self (by omega), Option.getD_some]
  exact ⟨by rw [e]; exact h.ok.put h.blk (by have := h.few; omega), e⟩
theorem JInv.next (h : JInv n was m (k :: T) s) (hm : m < 60) : JInv n was (m + 1) T (takeF was s k) := by
  have hk := h.lt k List.mem_cons_self
  have hp := h.ok.put (b := blkB was k) h.blk (by have := h.few; omega)
  have hlen := h.len
  have hn := h.n64
  have ho := List.pairwise_cons.1 h.ord
  refine ⟨h.n64, h.was, by show (s.1.set k _).length = 64; rw [List.length_set]; exact h.len, h.inp.set k _ ⟨by have := hp.id0; omega, hp.id1⟩, hp.ok, ?_, ?_, fun j hj => h.lt j (List.mem_cons_of_mem _ hj), ho.2, fun j hj i hi hi64 => ?_⟩
  · have := hp.len; have := h.few
    show (putF s.2 (blkB was k)).2.length ≤ m + 1
    omega
  · intro i t r e
    have := hp.refs m (by omega) h.refs i t r e
    omega
  · have h1 := ho.1 j hj
    show (s.1.set k _).getD i 0 < 0
    rw [getD_set_ne (by omega)]
    exact h.rest j (List.mem_cons_of_mem _ hj) i hi hi64
/-- The extents with one block more. -/
theorem JInv.set (h : JInv n was m (k :: T) s) (hm : m < 60) : addE (extsL s.1 64) ⟨k, 1, (putF s.2 (blkB was k)).1⟩ = extsL (takeF was s k).1 64 := by
  have hp := h.ok.put (b := blkB was k) h.blk (by have := h.few; omega)
  have hk := h.lt k List.mem_cons_self
  exact extsL_set s.1 h.inp h.len k (by have := h.n64; omega) _ ⟨hp.id0, hp.id1⟩ (fun j h1 h2 => h.rest k List.mem_cons_self j h1 h2)
end
/-- The extents end ahead of the next block. -/
theorem JInv.ends {n m : Nat} {was : ByteArray} {T : List Nat} {s : JS} {k : Nat} (h : JInv n was m (k :: T) s) : ∀ y ∈ extsL s.1 64, y.from_ + y.n ≤ (k : Int) := by
  have hk := h.lt k List.mem_cons_self
  have hn := h.n64
  have e1 : extsL s.1 64 = extsL s.1 k := by
    have := extsL_rest (L := s.1) (k := k) (fun j h1 h2 => h.rest k List.mem_cons_self j h1 h2) (64 - k) (by omega)
    rw [show k + (64 - k) = 64 by omega] at this
    exact this
  intro y hy
  rw [e1] at hy
  exact ((tidy_ext s.1 h.inp k (by omega)).good y hy).2.2.1
/-- Every block that was taken stands with its bytes. -/
structure Told (was : ByteArray) (D : List Nat) (s : JS) : Prop where
  get : ∀ k ∈ D, GetE s.2 (s.1.getD k 0) (blkB was k)
  nn : ∀ k ∈ D, 0 ≤ s.1.getD k 0
theorem Told.nil (was : ByteArray) (s : JS) : Told was [] s := ⟨fun k h => by simp at h, fun k h => by simp at h⟩
theorem Told.next {n m : Nat} {was : ByteArray} {T D : List Nat} {s : JS} {k : Nat} (h : Told was D s) (hi : JInv n was m (k :: T) s) (hm : m < 60) (hD : k ∉ D) : Told was (D ++ [k]) (takeF was s k) := by
  have hp := hi.ok.put (b := blkB was k) hi.blk (by have := hi.few; omega)
  have hk := hi.lt k List.mem_cons_self
  have hlen := hi.len
  have hn := hi.n64
  have e : (takeF was s k).1.getD k 0 = (putF s.2 (blkB was k)).1 := getD_set_eq (by omega) _
  refine ⟨fun j hj => ?_, fun j hj => ?_⟩
  · rcases List.mem_append.1 hj with hj | hj
    · rw [show (takeF was s k).1.getD j 0 = s.1.getD j 0 from getD_set_ne (fun (e : j = k) => hD (by rw [← e]; exact hj)) _]
      exact hp.old _ _ (h.get j hj)
    · rw [List.mem_singleton] at hj
      subst hj
      rw [e]
      exact hp.here
  · rcases List.mem_append.1 hj with hj | hj
    · rw [show (takeF was s k).1.getD j 0 = s.1.getD j 0 from getD_set_ne (fun (e : j = k) => hD (by rw [← e]; exact hj)) _]
      exact h.nn j hj
    · rw [List.mem_singleton] at hj
      subst hj
      rw [e]
      exact hp.id0
/-- Blocks of zeros are alike. -/
theorem zeroB_eq {t : ByteArray} (h : zeroB t = true) (h8 : t.size = 8) : t = ⟨#[0, 0, 0, 0, 0, 0, 0, 0]⟩ := by
  unfold zeroB at h
  rw [List.all_eq_true] at h
  apply ByteArray.ext
  apply Array.toList_inj.1
  have hl : t.data.toList.length = 8 := by rw [← sizeB]; exact h8
  have : t.data.toList = List.replicate 8 0 := List.eq_replicate_iff.2 ⟨hl, fun b hb => by have := h b hb; simpa using this⟩
  rw [this]; rfl
end Go.Proofs.YtjjfdkdneibjbaaGreatDoor
/- Walk of package job: a block is looked at, and taken. -/
namespace Go.Proofs.YtjjfdkdneibjbaaGreatDoor
open Go.RowKit

/-- The own blocks of a pool, a still, a job, and those of the volume have nothing in common. -/
structure Dj (G F H I : Nat → Prop) : Prop where
  gf : ∀ k, G k → ¬ F k
  gh : ∀ k, G k → ¬ H k
  fh : ∀ k, F k → ¬ H k
  gi : ∀ k, G k → ¬ I k
  fi : ∀ k, F k → ¬ I k
  hi : ∀ k, H k → ¬ I k
theorem Dj.went {w : World} {G G' F H I : Nat → Prop} (h : Dj G F H I) (hG : Went G G' w) (hF : ∀ k, F k → k < w.heap.size) (hH : ∀ k, H k → k < w.heap.size) (hI : ∀ k, I k → k < w.heap.size) : Dj G' F H I :=
  ⟨fun k hk hf => (hG.from' k hk).elim (fun h1 => h.gf k h1 hf) fun h1 => absurd (hF k hf) (by omega), fun k hk hf => (hG.from' k hk).elim (fun h1 => h.gh k h1 hf) fun h1 => absurd (hH k hf) (by omega), h.fh,
    fun k hk hf => (hG.from' k hk).elim (fun h1 => h.gi k h1 hf) fun h1 => absurd (hI k hf) (by omega), h.fi, h.hi⟩
theorem Dj.wentH {w : World} {G F H H' I : Nat → Prop} (h : Dj G F H I) (hH : Went H H' w) (hG : ∀ k, G k → k < w.heap.size) (hF : ∀ k, F k → k < w.heap.size) (hI : ∀ k, I k → k < w.heap.size) : Dj G F H' I :=
  ⟨h.gf, fun k hk hf => (hH.from' k hf).elim (fun h1 => h.gh k hk h1) fun h1 => absurd (hG k hk) (by omega), fun k hk hf => (hH.from' k hf).elim (fun h1 => h.fh k hk h1) fun h1 => absurd (hF k hk) (by omega),
    h.gi, h.fi, fun k hk hf => (hH.from' k hk).elim (fun h1 => h.hi k h1 hf) fun h1 => absurd (hI k hf) (by omega)⟩
/-- A job, its still, its pool. -/
structure Trio (w : World) (sp : Value) (most : Int) (G : Nat → Prop) (J : Nat) (H : Nat → Prop) (kd day : Int) (T : List Nat) (old : List Ext) (q : Nat) (F I : Nat → Prop) (n : Nat) (was : ByteArray) (gone : Nat → Bool) (s : JS) : Prop where
  job : JobIs w J H kd day T q old (extsL s.1 64)
  still : Stl w q F I n was gone
  pool : Plt w G sp most s.2
  dj : Dj G F H I
theorem setCell_chg (a : Addr) (v : Value) (w : World) : Chg (fun b => b = a.block) w (w.setCell a v) :=
  ⟨rfl, rfl, rfl, by simp [World.setCell], fun _ _ hb => Below.heap_setCell _ _ _ _ hb⟩
theorem Went.back {w w1 : World} {G G' : Nat → Prop} (h : Went G G' w1) (hs : w.heap.size ≤ w1.heap.size) : Went G G' w := ⟨fun k hk => (h.from' k hk).elim .inl fun e => .inr (Nat.le_trans hs e)⟩
section
variable {w w' : World} {sp : Value} {most : Int} {G : Nat → Prop} {J : Nat} {H X : Nat → Prop} {kd day : Int} {T : List Nat} {old : List Ext} {q : Nat} {F I : Nat → Prop} {n : Nat} {was : ByteArray} {gone : Nat → Bool} {s : JS}
theorem Stl.lt (h : Stl w q F I n was gone) : ∀ b, F b → b < w.heap.size := by
  obtain ⟨m, p, g, c, cur, K, G, h1, h2, h3, h4, h5, h6, h7, h8, h9, h10, h11⟩ := h
  exact h10
theorem Stl.ltI (h : Stl w q F I n was gone) : ∀ b, I b → b < w.heap.size := by
  obtain ⟨m, p, g, c, cur, K, G, h1, h2, h3, h4, h5, h6, h7, h8, h9, h10, h11⟩ := h
  exact h11
theorem Trio.below (h : Trio w sp most G J H kd day T old q F I n was gone s) (hb : Below w.heap.size w w') : Trio w' sp most G J H kd day T old q F I n was gone s :=
  ⟨h.job.below hb, h.still.below hb, h.pool.below hb, h.dj⟩
theorem Trio.chg (h : Trio w sp most G J H kd day T old q F I n was gone s) (hc : Chg X w w') (hG : ∀ k, G k → ¬ X k) (hF : ∀ k, F k → ¬ X k) (hH : ∀ k, H k → ¬ X k) (hI : ∀ k, I k → ¬ X k) : Trio w' sp most G J H kd day T old q F I n was gone s :=
  ⟨h.job.chg hc hH, h.still.chg hc hF hI, h.pool.chg hc hG, h.dj⟩
set_option maxHeartbeats 4000000 in
set_option maxRecDepth 100000 in
theorem look_take (k m : Nat) (h : Trio w sp most G J H kd day (k :: T) old q F I n was gone s) (hi : JInv n was m (k :: T) s) (hmm : (m : Int) < most) (hm60 : most ≤ 60) (hg : gone k = false)
    (hal : kd = 2 → ∀ w', Below w.heap.size w w' → Calls Tryz.prog 126 #[.pointer (some ⟨J, 0, none⟩), sp, .int .i64 (k : Int), .string (blkB was k)] w' fun e w'' => e = .returned (.bool false) ∧ Below w'.heap.size w' w'') :
    Calls Tryz.prog 62 #[.pointer (some ⟨J, 0, none⟩), sp, .int .i64 (k : Int)] w fun e w' => e = .returned (.int .i64 0) ∧ ∃ G' H', Trio w' sp most G' J H' kd day (k :: T) old q F I n was gone (takeF was s k) ∧ Went G G' w ∧ Went H H' w ∧ Chg (fun b => G b ∨ b = J) w w' := by
  have hm : m < 60 := by omega
  have hk := hi.lt k List.mem_cons_self
  have c0 := h.job.c0
  have c3 := h.job.c3
  have Hb := hide (stl_block k h.still hk hg)
  have h8 := hi.blk
  have few := hi.few
  have Hr := hide hi.refs
  have HI := hide hi
  have n64 := hi.n64
  have key : ∀ w1, Below w.heap.size w w1 → Calls Tryz.prog 30 #[sp, .string (blkB was k)] w1 fun e w' => e = .returned (.tuple #[.int .i64 (putF s.2 (blkB was k)).1, .int .i64 0]) ∧ ∃ G', Plt w' G' sp most (putF s.2 (blkB was k)).2 ∧ Went G G' w1 ∧ Chg G w1 w' := fun w1 hb =>
    plt_put _ (h.pool.below hb) h8 (by omega) (by omega) (by omega) (fun i t r e => by have := hi.refs i t r e; omega)
  have Key := hide key
  have Hal := hide hal
  have HT := hide h
  obtain ⟨sp', rfl⟩ : ∃ p, sp = .pointer (some ⟨p, 0, none⟩) := h.pool.pl.ptr
  obtain ⟨B, hB⟩ : ∃ B, B = blkB was k := ⟨_, rfl⟩
  obtain ⟨P, hP⟩ : ∃ P, P = putF s.2 B := ⟨_, rfl⟩
  have Hset := hide (hi.set hm)
  have Hp := hide (hi.ok.put (b := blkB was k) h8 (by omega))
  have hta : takeF was s k = (s.1.set k P.1, P.2) := by rw [hP, hB]; rfl
  rw [hta] at Hset ⊢
  rw [← hB] at Hb Key Hal h8 Hset Hp
  rw [← hP] at Key Hset Hp
  obtain ⟨id, es'⟩ := P
  have HBk := hide hB
  clear h hi key hal hta hP hB
  have fin : ∀ w1, Below w.heap.size w w1 → Calls Tryz.prog 30 #[.pointer (some ⟨sp', 0, none⟩), .string B] w1 fun e w' => e = .returned (.tuple #[.int .i64 id, .int .i64 0]) ∧ ∃ G', Plt w' G' (.pointer (some ⟨sp', 0, none⟩)) most es' ∧ Went G G' w1 ∧ Chg G w1 w' := unhide Key
  have Fin := hide fin
  clear fin Key
  rcases Decidable.em (kd = 2) with hkd | hkd
  · subst hkd
    have Hal2 := hide (unhide Hal rfl)
    clear Hal
    go_enter Tryz.func62, Tryz.ntmps62
    go_wp2_with fail
    refine (unhide Hb).mono ?_
    rintro e w2 ⟨rfl, hw2⟩
    subst hw2
    go_wp2_with fail
    refine (unhide Hal2 w2 (Below.refl _ _)).mono ?_
    rintro e wA ⟨rfl, HBA⟩
    have c3 := ((bcell HBA).1 _ 3 (unhide HT).job.lt).trans c3
    go_wp2_with fail
    refine (unhide Fin wA HBA).mono ?_
    rintro e w3 ⟨rfl, G', hP', hW, hC⟩
    have C3 := (Chg.of_below (F := G) HBA).trans hC
    have hW := hW.back HBA.size
    have hJ3 := (unhide HT).job.chg C3 (fun b hb hg => (unhide HT).dj.gh b hg hb)
    have hS3 := hide ((unhide HT).still.chg C3 (fun b hb hg => (unhide HT).dj.gf b hg hb) (fun b hb hg => (unhide HT).dj.gi b hg hb))
    obtain ⟨v, c5, ho, hA5⟩ := hJ3.set
    obtain ⟨A5, d5, rfl, hs5, _⟩ := ho.sl
    have HJ3 := hide hJ3
    have HP3 := hide hP'
    have HC3 := hide C3
    have HI := unhide HI
    have hFi := exts_fine s.1 HI.inp
    have Hset4 : Calls Tryz.prog 127 #[.slice A5 (extsL s.1 64).length d5, .agg #[.int .i64 (k : Int), .int .i64 1, .int .i64 id]] w3 fun e w' => (∃ v', e = .returned v' ∧ Own eE 107 w' w3.heap.size v' (extsL (s.1.set k id) 64)) ∧ Below w3.heap.size w3 w' := by
      rw [← unhide Hset]
      exact set_ex A5 (extsL s.1 64).length d5 (extsL s.1 64) ⟨k, 1, id⟩ w3 hs5 hFi.1 hFi.2 (extsL_noone s.1 HI.inp 64 (Nat.le_refl _)) ⟨by simp, by simp, by show (k : Int) + 1 ≤ 64; omega, (unhide Hp).id0, fun _ => by have := (unhide Hp).id1; show id + 1 ≤ 61; omega⟩ HI.ends
    obtain ⟨N, hN⟩ : ∃ N, N = (extsL s.1 64).length := ⟨_, rfl⟩
    rw [← hN] at Hset4 c5
    have Hset4 := hide Hset4
    clear hJ3 ho hs5 hP' hC C3 hN hFi Hset
    go_wp2_with fail
    refine (unhide Hset4).mono ?_
    rintro e w4 ⟨⟨v4, rfl, ho4⟩, HB4⟩
    obtain ⟨A4, d4, rfl, _, hA4⟩ := ho4.sl
    have lJ3 := (unhide HJ3).lt
    have d5' := ((bcell HB4).1 _ 5 lJ3).trans c5
    have z5 := ((bcell HB4).2 _ 5 lJ3).trans (unhide HJ3).z5
    have HO4 := hide ho4
    have HBB := hide HB4
    obtain ⟨N4, hN4⟩ : ∃ N, N = (extsL (s.1.set k id) 64).length := ⟨_, rfl⟩
    rw [← hN4] at HO4 ⊢
    clear ho4 HB4 hN4 c5 Hset4
    go_wp2_with fail
    go_ret
    have ho4 := unhide HO4
    have HB4 := unhide HBB
    have hT := unhide HT
    have hJ := hT.job.lt
    have CJ := setCell_chg ⟨J, 5, none⟩ (Value.slice A4 N4 d4) w4
    have hnJ : ∀ b, (Value.slice A4 N4 d4).ownBlock = some b → w3.heap.size ≤ b := fun b e => (ho4.lt b e).1
    refine ⟨rfl, G', fun b => H b ∨ (Value.slice A4 N4 d4).ownBlock = some b, ⟨?_, ?_, ?_, ?_⟩, hW, ⟨fun b hb => hb.elim .inl fun e => .inr ?_⟩, ((unhide HC3).mono fun b _ hb => .inl hb).trans ((Chg.of_below HB4).trans (CJ.mono fun b _ hb => .inr hb))⟩
    · exact ((unhide HJ3).below HB4).setSet (ho4.lower (Nat.zero_le _)) fun b e he => by have := hnJ b e; omega
    · exact ((unhide hS3).below HB4).chg CJ (fun b hb e => hT.dj.fh b hb (by rw [show b = J from e]; exact hT.job.hJ)) (fun b hb e => hT.dj.hi b (by rw [show b = J from e]; exact hT.job.hJ) hb)
    · refine ((unhide HP3).below HB4).chg CJ fun b hb e => ?_
      obtain rfl : b = J := e
      exact (hW.from' b hb).elim (fun h => hT.dj.gh b h hT.job.hJ) fun h => by omega
    · exact (hT.dj.went hW hT.still.lt hT.job.hlt hT.still.ltI).wentH (w := w3) ⟨fun b hb => hb.elim .inl fun e => .inr (hnJ b e)⟩ (unhide HP3).lt (fun b hb => (unhide hS3).lt b hb) (fun b hb => (unhide hS3).ltI b hb)
    · have := hnJ b e
      have := (unhide HC3).size
      omega
  · have qk : (kd == 2) = false := beq_eq_false_iff_ne.2 hkd
    go_enter Tryz.func62, Tryz.ntmps62
    go_wp2_with fail
    refine (unhide Hb).mono ?_
    rintro e w2 ⟨rfl, hw2⟩
    subst hw2
    go_wp2_with fail
    have HBA : Below w2.heap.size w2 w2 := Below.refl _ _
    refine (unhide Fin w2 HBA).mono ?_
    rintro e w3 ⟨rfl, G', hP', hW, hC⟩
    have C3 := (Chg.of_below (F := G) HBA).trans hC
    have hW := hW.back HBA.size
    have hJ3 := (unhide HT).job.chg C3 (fun b hb hg => (unhide HT).dj.gh b hg hb)
    have hS3 := hide ((unhide HT).still.chg C3 (fun b hb hg => (unhide HT).dj.gf b hg hb) (fun b hb hg => (unhide HT).dj.gi b hg hb))
    obtain ⟨v, c5, ho, hA5⟩ := hJ3.set
    obtain ⟨A5, d5, rfl, hs5, _⟩ := ho.sl
    have HJ3 := hide hJ3
    have HP3 := hide hP'
    have HC3 := hide C3
    have HI := unhide HI
    have hFi := exts_fine s.1 HI.inp
    have Hset4 : Calls Tryz.prog 127 #[.slice A5 (extsL s.1 64).length d5, .agg #[.int .i64 (k : Int), .int .i64 1, .int .i64 id]] w3 fun e w' => (∃ v', e = .returned v' ∧ Own eE 107 w' w3.heap.size v' (extsL (s.1.set k id) 64)) ∧ Below w3.heap.size w3 w' := by
      rw [← unhide Hset]
      exact set_ex A5 (extsL s.1 64).length d5 (extsL s.1 64) ⟨k, 1, id⟩ w3 hs5 hFi.1 hFi.2 (extsL_noone s.1 HI.inp 64 (Nat.le_refl _)) ⟨by simp, by simp, by show (k : Int) + 1 ≤ 64; omega, (unhide Hp).id0, fun _ => by have := (unhide Hp).id1; show id + 1 ≤ 61; omega⟩ HI.ends
    obtain ⟨N, hN⟩ : ∃ N, N = (extsL s.1 64).length := ⟨_, rfl⟩
    rw [← hN] at Hset4 c5
    have Hset4 := hide Hset4
    clear hJ3 ho hs5 hP' hC C3 hN hFi Hset
    go_wp2_with fail
    refine (unhide Hset4).mono ?_
    rintro e w4 ⟨⟨v4, rfl, ho4⟩, HB4⟩
    obtain ⟨A4, d4, rfl, _, hA4⟩ := ho4.sl
    have lJ3 := (unhide HJ3).lt
    have d5' := ((bcell HB4).1 _ 5 lJ3).trans c5
    have z5 := ((bcell HB4).2 _ 5 lJ3).trans (unhide HJ3).z5
    have HO4 := hide ho4
    have HBB := hide HB4
    obtain ⟨N4, hN4⟩ : ∃ N, N = (extsL (s.1.set k id) 64).length := ⟨_, rfl⟩
    rw [← hN4] at HO4 ⊢
    clear ho4 HB4 hN4 c5 Hset4
    go_wp2_with fail
    go_ret
    have ho4 := unhide HO4
    have HB4 := unhide HBB
    have hT := unhide HT
    have hJ := hT.job.lt
    have CJ := setCell_chg ⟨J, 5, none⟩ (Value.slice A4 N4 d4) w4
    have hnJ : ∀ b, (Value.slice A4 N4 d4).ownBlock = some b → w3.heap.size ≤ b := fun b e => (ho4.lt b e).1
    refine ⟨rfl, G', fun b => H b ∨ (Value.slice A4 N4 d4).ownBlock = some b, ⟨?_, ?_, ?_, ?_⟩, hW, ⟨fun b hb => hb.elim .inl fun e => .inr ?_⟩, ((unhide HC3).mono fun b _ hb => .inl hb).trans ((Chg.of_below HB4).trans (CJ.mono fun b _ hb => .inr hb))⟩
    · exact ((unhide HJ3).below HB4).setSet (ho4.lower (Nat.zero_le _)) fun b e he => by have := hnJ b e; omega
    · exact ((unhide hS3).below HB4).chg CJ (fun b hb e => hT.dj.fh b hb (by rw [show b = J from e]; exact hT.job.hJ)) (fun b hb e => hT.dj.hi b (by rw [show b = J from e]; exact hT.job.hJ) hb)
    · refine ((unhide HP3).below HB4).chg CJ fun b hb e => ?_
      obtain rfl : b = J := e
      exact (hW.from' b hb).elim (fun h => hT.dj.gh b h hT.job.hJ) fun h => by omega
    · exact (hT.dj.went hW hT.still.lt hT.job.hlt hT.still.ltI).wentH (w := w3) ⟨fun b hb => hb.elim .inl fun e => .inr (hnJ b e)⟩ (unhide HP3).lt (fun b hb => (unhide hS3).lt b hb) (fun b hb => (unhide hS3).ltI b hb)
    · have := hnJ b e
      have := (unhide HC3).size
      omega
end
end Go.Proofs.YtjjfdkdneibjbaaGreatDoor
