/- Joined texts: JobP, PoolN. -/
import Derived.Test.YtjjfdkdneibjbaaGreatDoorJa28
import Derived.Test.YtjjfdkdneibjbaaGreatDoorJa14
import Derived.Test.YtjjfdkdneibjbaaGreatDoorJa06
/- What a job does, block by block: the plain law. -/
namespace Go.Proofs.YtjjfdkdneibjbaaGreatDoor
open Go.RowKit

theorem putE_nodup {es : List (Int × Blk)} (h : (es.map (·.1)).Nodup) (k : Int) (x : Blk) : ((putE es k x).map (·.1)).Nodup := by
  have hm : ∀ (es : List (Int × Blk)), (putE es k x).map (·.1) = if k ∈ es.map (·.1) then es.map (·.1) else es.map (·.1) ++ [k] := by
    intro es
    induction es with
    | nil => simp [putE]
    | cons p es ih =>
      unfold putE
      by_cases e : p.1 = k
      · rw [if_pos e, if_pos (by simp [e])]; simp [e]
      · rw [if_neg e, List.map_cons, ih]
        by_cases h : k ∈ es.map (·.1)
        · rw [if_pos h, if_pos (by rw [List.map_cons]; exact List.mem_cons_of_mem _ h)]; rfl
        · rw [if_neg h, if_neg (by rw [List.map_cons, List.mem_cons]; exact fun h1 => h1.elim (fun h2 => e h2.symm) h)]; rfl
  rw [hm]
  split
  · exact h
  · rename_i hk
    rw [List.nodup_append]
    refine ⟨h, by simp, fun a ha b hb => ?_⟩
    rw [List.mem_singleton] at hb
    subst hb
    exact fun e => hk (e ▸ ha)
/-- The blocks of a pool, as they may be. -/
structure EOk (es : List (Int × Blk)) : Prop where
  ok : ∃ bs, POk es bs
  nd : (es.map (·.1)).Nodup
  le : ∀ id x, lkE es id = some x → id ≤ 60
/-- A block of this number has these bytes; 0 is the zeros. -/
def GetE (es : List (Int × Blk)) (id : Int) (t : ByteArray) : Prop := (id = 0 ∧ zeroB t = true ∧ t.size = 8) ∨ (0 < id ∧ ∃ r, lkE es id = some (t, r))
theorem EOk.nil : EOk [] := ⟨⟨_, POk.made⟩, List.nodup_nil, fun _ _ h => by cases h⟩
/-- What one more block does: each that is there has its bytes still. -/
structure PutIs (es : List (Int × Blk)) (b : ByteArray) (id : Int) (es' : List (Int × Blk)) : Prop where
  ok : EOk es'
  id0 : 0 ≤ id
  id1 : id ≤ 60
  here : GetE es' id b
  old : ∀ i t, GetE es i t → GetE es' i t
  refs : ∀ m : Int, 0 ≤ m → (∀ i t r, lkE es i = some (t, r) → r ≤ m) → ∀ i t r, lkE es' i = some (t, r) → r ≤ m + 1
  len : es'.length ≤ es.length + 1
theorem EOk.put {es : List (Int × Blk)} (h : EOk es) {b : ByteArray} (hb : b.size = 8) (hl : es.length < 60) : PutIs es b (putF es b).1 (putF es b).2 := by
  have hlen := putF_len es b
  obtain ⟨⟨bs, ho⟩, hn, hle⟩ := h
  cases hz : zeroB b with
  | true =>
    rw [putF_zero hz]
    exact ⟨⟨⟨bs, ho⟩, hn, hle⟩, Int.le_refl _, by omega, .inl ⟨rfl, hz, hb⟩, fun _ _ h => h, fun m _ hm i t r e => by have := hm i t r e; omega, by simp⟩
  | false =>
    by_cases hx : ∃ id r, lkE es id = some (b, r)
    · obtain ⟨id, r, hx⟩ := hx
      have e := putF_had hn ho.uniq hz hx
      rw [e] at hlen ⊢
      obtain ⟨g1, g2, _⟩ := ho.good _ _ _ hx
      refine ⟨⟨⟨bs, ho.old hx (by omega)⟩, putE_nodup hn _ _, fun i x hi => ?_⟩, by omega, hle _ _ hx, .inr ⟨by omega, _, lkE_put_same _ _ _⟩, fun i t hi => ?_, fun m h0 hm i t q hi => ?_, hlen⟩
      · by_cases e : i = id
        · subst e; exact hle _ _ hx
        · rw [lkE_put_other _ _ e] at hi; exact hle _ _ hi
      · rcases hi with hi | ⟨h1, q, hi⟩
        · exact .inl hi
        · by_cases e : i = id
          · subst e
            rw [hx] at hi
            injection hi with hi
            injection hi with hi _
            subst hi
            exact .inr ⟨h1, _, lkE_put_same _ _ _⟩
          · exact .inr ⟨h1, q, by rw [lkE_put_other _ _ e]; exact hi⟩
      · by_cases e : i = id
        · subst e
          rw [lkE_put_same] at hi
          injection hi with hi
          injection hi with _ hi
          have := hm _ _ _ hx
          omega
        · rw [lkE_put_other _ _ e] at hi
          have := hm _ _ _ hi
          omega
    · have hno : ∀ id r, lkE es id ≠ some (b, r) := fun id r e => hx ⟨id, r, e⟩
      obtain ⟨R, hR, hR2⟩ := least_has es fun id t r e => (ho.good _ _ _ e).2.1
      have hR' := leastE_is ⟨R, hR⟩
      have e := hR.uniq hR'
      have e2 := putF_new hz hn hno
      rw [e2] at hlen ⊢
      rw [← e] at hlen ⊢
      refine ⟨⟨⟨_, ho.new hR.1 hR.2.1 hb hz hno⟩, putE_nodup hn _ _, fun i x hi => ?_⟩, by have := hR.1; show 0 ≤ R; omega, by show R ≤ 60; omega, .inr ⟨by have := hR.1; show 0 < R; omega, _, lkE_put_same _ _ _⟩, fun i t hi => ?_, fun m h0 hm i t q hi => ?_, hlen⟩
      · by_cases e : i = R
        · omega
        · rw [lkE_put_other _ _ e] at hi; exact hle _ _ hi
      · rcases hi with hi | ⟨h1, q, hi⟩
        · exact .inl hi
        · by_cases e : i = R
          · subst e
            rw [hR.2.1] at hi; cases hi
          · exact .inr ⟨h1, q, by rw [lkE_put_other _ _ e]; exact hi⟩
      · by_cases e : i = R
        · subst e
          rw [lkE_put_same] at hi
          injection hi with hi
          injection hi with _ hi
          omega
        · rw [lkE_put_other _ _ e] at hi
          have := hm _ _ _ hi
          omega
/-- What is set, and the blocks. -/
abbrev JS := List Int × List (Int × Blk)
/-- One block is taken. -/
noncomputable def takeF (was : ByteArray) (s : JS) (k : Nat) : JS := (s.1.set k (putF s.2 (blkB was k)).1, (putF s.2 (blkB was k)).2)
noncomputable def runT (was : ByteArray) (T : List Nat) (s : JS) : JS := T.foldl (takeF was) s
theorem runT_snoc (was : ByteArray) (T : List Nat) (k : Nat) (s : JS) : runT was (T ++ [k]) s = takeF was (runT was T s) k := by simp [runT]
theorem runT_app (was : ByteArray) (T U : List Nat) (s : JS) : runT was (T ++ U) s = runT was U (runT was T s) := by simp [runT]
theorem runT_cons (was : ByteArray) (T : List Nat) (k : Nat) (s : JS) : runT was (k :: T) s = runT was T (takeF was s k) := rfl
/-- What holds of a job with these blocks left, when so many were taken into the pool. -/
structure JInv (n : Nat) (was : ByteArray) (m : Nat) (T : List Nat) (s : JS) : Prop where
  n64 : n ≤ 64
  was : was.size = 8 * n
  len : s.1.length = 64
  inp : InPool s.1
  ok : EOk s.2
  few : s.2.length ≤ m
  refs : ∀ i t r, lkE s.2 i = some (t, r) → r ≤ (m : Int)
  lt : ∀ k ∈ T, k < n
  ord : T.Pairwise (· < ·)
  rest : ∀ k ∈ T, ∀ j, k ≤ j → j < 64 → s.1.getD j 0 < 0
theorem getD_set_ne {L : List Int} {i j : Nat} (h : j ≠ i) (x : Int) : (L.set i x).getD j 0 = L.getD j 0 := by
  rw [List.getD_eq_getElem?_getD, List.getElem?_set_ne (fun e => h e.symm), ← List.getD_eq_getElem?_getD]
theorem getD_set_eq {L : List Int} {i : Nat} (h : i < L.length) (x : Int) : (L.set i x).getD i 0 = x := by
  rw [List.getD_eq_getElem?_getD, List.getElem?_set_self h, Option.getD_some]
section
variable {n m : Nat} {was : ByteArray} {T : List Nat} {s : JS} {k : Nat}
theorem JInv.blk (h : JInv n was m (k :: T) s) : (blkB was k).size = 8 := blkB_size (by have := h.lt k List.mem_cons_self; have := h.was; omega)
theorem JInv.putIs (h : JInv n was m (k :: T) s) (hm : m < 60) : PutIs s.2 (blkB was k) (takeF was s k).1[k]! (takeF was s k).2 ∧ (takeF was s k).1[k]! = (putF s.2 (blkB was k)).1 := by
  have hk := h.lt k List.mem_cons_self
  have e : (takeF was s k).1[k]! = (putF s.2 (blkB was k)).1 := by
    unfold takeF
    have := h.len
    have := h.n64
    simp only []
    rw [List.getElem!_eq_getElem?_getD, List.getElem?_set_self (by omega), Option.getD_some]
  exact ⟨by rw [e]; exact h.ok.put h.blk (by have := h.few; omega), e⟩
theorem JInv.next (h : JInv n was m (k :: T) s) (hm : m < 60) : JInv n was (m + 1) T (takeF was s k) := by
  have hk := h.lt k List.mem_cons_self
  have hp := h.ok.put (b := blkB was k) h.blk (by have := h.few; omega)
  have hlen := h.len
  have hn := h.n64
  have ho := List.pairwise_cons.1 h.ord
  refine ⟨h.n64, h.was, by show (s.1.set k _).length = 64; rw [List.length_set]; exact h.len, h.inp.set k _ ⟨by have := hp.id0; omega, hp.id1⟩, hp.ok, ?_, ?_, fun j hj => h.lt j (List.mem_cons_of_mem _ hj), ho.2, fun j hj i hi hi64 => ?_⟩
  · have := hp.len; have := h.few
    show (putF s.2 (blkB was k)).2.length ≤ m + 1
    omega
  · intro i t r e
    have := hp.refs m (by omega) h.refs i t r e
    omega
  · have h1 := ho.1 j hj
    show (s.1.set k _).getD i 0 < 0
    rw [getD_set_ne (by omega)]
    exact h.rest j (List.mem_cons_of_mem _ hj) i hi hi64
/-- The extents with one block more. -/
theorem JInv.set (h : JInv n was m (k :: T) s) (hm : m < 60) : addE (extsL s.1 64) ⟨k, 1, (putF s.2 (blkB was k)).1⟩ = extsL (takeF was s k).1 64 := by
  have hp := h.ok.put (b := blkB was k) h.blk (by have := h.few; omega)
  have hk := h.lt k List.mem_cons_self
  exact extsL_set s.1 h.inp h.len k (by have := h.n64; omega) _ ⟨hp.id0, hp.id1⟩ (fun j h1 h2 => h.rest k List.mem_cons_self j h1 h2)
end
/-- The extents end ahead of the next block. -/
theorem JInv.ends {n m : Nat} {was : ByteArray} {T : List Nat} {s : JS} {k : Nat} (h : JInv n was m (k :: T) s) : ∀ y ∈ extsL s.1 64, y.from_ + y.n ≤ (k : Int) := by
  have hk := h.lt k List.mem_cons_self
  have hn := h.n64
  have e1 : extsL s.1 64 = extsL s.1 k := by
    have := extsL_rest (L := s.1) (k := k) (fun j h1 h2 => h.rest k List.mem_cons_self j h1 h2) (64 - k) (by omega)
    rw [show k + (64 - k) = 64 by omega] at this
    exact this
  intro y hy
  rw [e1] at hy
  exact ((tidy_ext s.1 h.inp k (by omega)).good y hy).2.2.1
/-- Every block that was taken stands with its bytes. -/
structure Told (was : ByteArray) (D : List Nat) (s : JS) : Prop where
  get : ∀ k ∈ D, GetE s.2 (s.1.getD k 0) (blkB was k)
  nn : ∀ k ∈ D, 0 ≤ s.1.getD k 0
theorem Told.nil (was : ByteArray) (s : JS) : Told was [] s := ⟨fun k h => by simp at h, fun k h => by simp at h⟩
theorem Told.next {n m : Nat} {was : ByteArray} {T D : List Nat} {s : JS} {k : Nat} (h : Told was D s) (hi : JInv n was m (k :: T) s) (hm : m < 60) (hD : k ∉ D) : Told was (D ++ [k]) (takeF was s k) := by
  have hp := hi.ok.put (b := blkB was k) hi.blk (by have := hi.few; omega)
  have hk := hi.lt k List.mem_cons_self
  have hlen := hi.len
  have hn := hi.n64
  have e : (takeF was s k).1.getD k 0 = (putF s.2 (blkB was k)).1 := getD_set_eq (by omega) _
  refine ⟨fun j hj => ?_, fun j hj => ?_⟩
  · rcases List.mem_append.1 hj with hj | hj
    · rw [show (takeF was s k).1.getD j 0 = s.1.getD j 0 from getD_set_ne (fun (e : j = k) => hD (by rw [← e]; exact hj)) _]
      exact hp.old _ _ (h.get j hj)
    · rw [List.mem_singleton] at hj
      subst hj
      rw [e]
      exact hp.here
  · rcases List.mem_append.1 hj with hj | hj
    · rw [show (takeF was s k).1.getD j 0 = s.1.getD j 0 from getD_set_ne (fun (e : j = k) => hD (by rw [← e]; exact hj)) _]
      exact h.nn j hj
    · rw [List.mem_singleton] at hj
      subst hj
      rw [e]
      exact hp.id0
/-- Blocks of zeros are alike. -/
theorem zeroB_eq {t : ByteArray} (h : zeroB t = true) (h8 : t.size = 8) : t = ⟨#[0, 0, 0, 0, 0, 0, 0, 0]⟩ := by
  unfold zeroB at h
  rw [List.all_eq_true] at h
  apply ByteArray.ext
  apply Array.toList_inj.1
  have hl : t.data.toList.length = 8 := by rw [← sizeB]; exact h8
  have : t.data.toList = List.replicate 8 0 := List.eq_replicate_iff.2 ⟨hl, fun b hb => by have := h b hb; simpa using this⟩
  rw [this]; rfl
end Go.Proofs.YtjjfdkdneibjbaaGreatDoor
/- Walk of package pool: a block's bytes. -/
namespace Go.Proofs.YtjjfdkdneibjbaaGreatDoor
open Go.RowKit

section
variable {w : World} {G : Nat → Prop} {s : Value} {most : Int} {es : List (Int × Blk)} {bs : List (List (Int × Int))}
set_option maxHeartbeats 1000000 in
theorem pget_zero (h : PoolIs w G s most es bs) :
    Calls Tryz.prog 18 #[s, .int .i64 0] w fun e w' => e = .returned (.tuple #[.string ⟨#[0, 0, 0, 0, 0, 0, 0, 0]⟩, .int .i64 0]) ∧ Below w.heap.size w w' := by
  have HT := hide (there_zero h)
  have hr : Calls Tryz.prog 66 #[.string ⟨#[0]⟩, .int .i64 8] w fun e w' => e = .returned (.string ⟨#[0, 0, 0, 0, 0, 0, 0, 0]⟩) ∧ Below w.heap.size w w' := Tryz.strings_Repeat_main ⟨#[0]⟩ 8 w (by decide) (by decide) (by decide) (by decide)
  have HR := hide hr
  obtain ⟨p, rfl⟩ := h.ptr
  clear h hr
  go_enter Tryz.func18, Tryz.ntmps18
  go_wp2_with fail
  refine (unhide HT).mono ?_
  rintro e w2 ⟨rfl, hw2⟩
  subst hw2
  go_wp2_with fail
  refine (unhide HR).mono ?_
  rintro e w3 ⟨rfl, HB⟩
  go_wp2_with fail
  go_ret2
  exact ⟨rfl, HB⟩
set_option maxHeartbeats 1000000 in
theorem pget_there (id : Int) (h : PoolIs w G s most es bs) (h0 : id ≠ 0) (t : ByteArray) (r : Int) (hn : lkE es id = some (t, r)) (hr : r ≠ 0) :
    Calls Tryz.prog 18 #[s, .int .i64 id] w fun e w' => e = .returned (.tuple #[.string t, .int .i64 0]) ∧ w' = w := by
  have HT := hide (there_yes id h h0 t r hn hr)
  have htr : (lkE es id).getD (⟨#[]⟩, 0) = (t, r) := by rw [hn]; rfl
  have Htr := hide htr
  have q0 : (id == 0) = false := beq_eq_false_iff_ne.2 h0
  obtain ⟨p, m, q, rfl, h2, h3, h4, h5, h6, h7, h8, h9, h10, h11⟩ := h
  clear h11 hn htr h0
  have f0 := field0 t r
  go_enter Tryz.func18, Tryz.ntmps18
  go_wp2_with fail
  refine (unhide HT).mono ?_
  rintro e w2 ⟨rfl, hw2⟩
  subst hw2
  go_wp2_with (at_lookup; refine wpList_lookup_blk rfl _ _ rfl es m rfl h10 id rfl t r (unhide Htr) ?_)
  go_ret2
  exact ⟨rfl, rfl⟩
set_option maxHeartbeats 1000000 in
theorem pget_no (id : Int) (h : PoolIs w G s most es bs) (h0 : id ≠ 0) (hn : lkE es id = none) :
    Calls Tryz.prog 18 #[s, .int .i64 id] w fun e w' => e = .returned (.tuple #[.string ⟨#[]⟩, .int .i64 2]) ∧ w' = w := by
  have HT := hide (there_no id h h0 hn)
  obtain ⟨p, rfl⟩ := h.ptr
  clear h hn
  go_enter Tryz.func18, Tryz.ntmps18
  go_wp2_with fail
  refine (unhide HT).mono ?_
  rintro e w2 ⟨rfl, hw2⟩
  subst hw2
  go_wp2_with fail
  go_ret2
  exact ⟨rfl, rfl⟩
theorem plt_get (id : Int) (t : ByteArray) (h : Plt w G s most es) (hg : GetE es id t) :
    Calls Tryz.prog 18 #[s, .int .i64 id] w fun e w' => e = .returned (.tuple #[.string t, .int .i64 0]) ∧ Below w.heap.size w w' := by
  obtain ⟨⟨bs, h1, h2⟩, _⟩ := h
  rcases hg with ⟨rfl, hz, h8⟩ | ⟨h0, r, hl⟩
  · rw [zeroB_eq hz h8]
    exact pget_zero h1
  · exact (pget_there id h1 (by omega) t r hl (by have := (h2.good _ _ _ hl).2.1; omega)).mono fun _ _ ⟨a, b⟩ => ⟨a, by rw [b]; exact Below.refl _ _⟩
end
end Go.Proofs.YtjjfdkdneibjbaaGreatDoor
