/- Joined texts: PoolJ, PoolP, PoolK, Range. -/
import Derived.Test.YtjjfdkdneibjbaaGreatDoorJw11
import Derived.Test.YtjjfdkdneibjbaaGreatDoorJw02
import Derived.Maps.RangeWalk
/- Walk of package pool: Put. -/
namespace Go.Proofs.YtjjfdkdneibjbaaGreatDoor
open Go.RowKit

section
variable {w : World} {G : Nat → Prop} {s : Value} {most : Int} {es : List (Int × Blk)} {bs : List (List (Int × Int))}
set_option maxRecDepth 100000 in
theorem pput_bad (b : ByteArray) (h : PoolIs w G s most es bs) (hb : b.size ≠ 8) :
    Calls Tryz.prog 30 #[s, .string b] w fun e w' => e = .returned (.tuple #[.int .i64 0, .int .i64 1]) ∧ w' = w := by
  have HP := hide h
  obtain ⟨p, rfl⟩ := h.ptr
  have q1 : ((b.size : Int) != 8) = true := by simp; omega
  have q2 : ((b.size : Int) == 8) = false := beq_eq_false_iff_ne.2 (by omega)
  clear h hb
  go_enter Tryz.func30, Tryz.ntmps30
  go_wp2_with (go_at_call 68; refine (pnone_any (unhide HP)).mono ?_; rintro e w' ⟨he, hw⟩; subst he; subst hw)
  go_ret2
  exact ⟨rfl, rfl⟩
set_option maxRecDepth 100000 in
theorem pput_zero (b : ByteArray) (h : PoolIs w G s most es bs) (hb : b.size = 8) (hz : zeroB b = true) :
    Calls Tryz.prog 30 #[s, .string b] w fun e w' => e = .returned (.tuple #[.int .i64 0, .int .i64 0]) ∧ PoolIs w' G s most es bs ∧ Below w.heap.size w w' := by
  have HP := hide h
  obtain ⟨p, rfl⟩ := h.ptr
  have q1 : ((b.size : Int) != 8) = false := by simp; omega
  have q2 : ((b.size : Int) == 8) = true := beq_iff_eq.2 (by omega)
  have Hz := hide hz
  have hb8 : b.size ≤ 1000000 := by omega
  clear h hb hz
  go_enter Tryz.func30, Tryz.ntmps30
  go_wp2_with (first | (go_at_call 68; refine (pnone_any (unhide HP)).mono ?_; rintro e w' ⟨he, hw⟩; subst he; subst hw) | (go_at_call 71; refine (zero_yes b _ hb8 (unhide Hz)).mono ?_; rintro e w1 ⟨he, q, hw⟩; subst he; subst hw))
  go_ret2
  exact ⟨rfl, (unhide HP).drewN q, below_drewN (Below.refl _ _) q⟩

set_option maxHeartbeats 1000000 in
set_option maxRecDepth 100000 in
theorem pput_had (b : ByteArray) (R r : Int) (h : PoolIs w G s most es bs) (hG : ∀ k, w.heap.size ≤ k → G k) (hi : PInv es bs) (hl : lenB bs < 1000000) (hb : b.size = 8) (hz : zeroB b = false) (hR : IsAt es b R) (h0 : 0 < R) (hn : lkE es R = some (b, r)) (hr : 1 ≤ r) (hr2 : r ≤ 100000) :
    Calls Tryz.prog 30 #[s, .string b] w fun e w' => e = .returned (.tuple #[.int .i64 R, .int .i64 0]) ∧ PoolIs w' G s most (putE es R (b, r + 1)) bs ∧ Chg G w w' := by
  have HP := hide h
  obtain ⟨p, rfl⟩ := h.ptr
  have q1 : ((b.size : Int) != 8) = false := by simp; omega
  have q2 : ((b.size : Int) == 8) = true := beq_iff_eq.2 (by omega)
  have hb8 : b.size ≤ 1000000 := by omega
  have HG := hide hG
  have HI := hide hi
  have Hz := hide hz
  have HR := hide hR
  have Hn := hide hn
  clear h hb hz hR hG hi hn
  go_enter Tryz.func30, Tryz.ntmps30
  go_wp2_with (first | (go_at_call 68; refine (pnone_any (unhide HP)).mono ?_; rintro e w' ⟨he, hw⟩; subst he; subst hw) | (go_at_call 71; refine (zero_no b _ hb8 (unhide Hz)).mono ?_; rintro e w1 ⟨he, q, hw⟩; subst he; subst hw) | (go_at_call 72; refine (pfind_any b ((unhide HP).drewN q) (unhide HI) hl hb8 R (unhide HR)).mono ?_; rintro e w1 ⟨he, HB⟩; subst he))
  have B1 : Below w'.heap.size w' w1 := (below_drewN (Below.refl _ _) q).trans HB
  have HP1 := hide ((unhide HP).below B1)
  have sz := B1.size
  clear HB
  refine (hold_of R 0 p (fun w2 => PoolIs w2 G (.pointer (some ⟨p, 0, none⟩)) most (putE es R (b, r + 1)) bs ∧ Chg G w1 w2) (turn_up R 1 b r (unhide HP1) (fun k hk => unhide HG k (by omega)) (by omega) (unhide Hn) (by omega) (by omega) (by omega) (by omega) (by omega) (by omega))).mono ?_
  rintro e w2 ⟨rfl, hP2, hC2⟩
  have HP2 := hide hP2
  clear hP2
  go_wp2
  go_ret2
  exact ⟨rfl, unhide HP2, Chg.below_trans B1 hC2⟩

theorem isAt_none {es : List (Int × Blk)} {b : ByteArray} (h : ∀ id r, lkE es id ≠ some (b, r)) : IsAt es b 0 := .inr ⟨rfl, h⟩
set_option maxHeartbeats 1000000 in
set_option maxRecDepth 100000 in
theorem pput_full (b : ByteArray) (h : PoolIs w G s most es bs) (hi : PInv es bs) (hl : lenB bs < 1000000) (hb : b.size = 8) (hz : zeroB b = false) (hno : ∀ id r, lkE es id ≠ some (b, r)) (hm0 : 0 ≤ most) (hm1 : most ≤ 1000) (hful : (es.length : Int) = most) :
    Calls Tryz.prog 30 #[s, .string b] w fun e w' => e = .returned (.tuple #[.int .i64 0, .int .i64 5]) ∧ PoolIs w' G s most es bs ∧ Below w.heap.size w w' := by
  have HP := hide h
  obtain ⟨p, rfl⟩ := h.ptr
  have q1 : ((b.size : Int) != 8) = false := by simp; omega
  have q2 : ((b.size : Int) == 8) = true := beq_iff_eq.2 (by omega)
  have q3 : (most - (es.length : Int) == 0) = true := beq_iff_eq.2 (by omega)
  have hb8 : b.size ≤ 1000000 := by omega
  have hl2 : es.length ≤ 1000 := by omega
  have HI := hide hi
  have Hz := hide hz
  have HR := hide (isAt_none hno)
  clear h hb hz hi hno hful
  go_enter Tryz.func30, Tryz.ntmps30
  go_wp2_with (first | (go_at_call 68; refine (pnone_any (unhide HP)).mono ?_; rintro e w' ⟨he, hw⟩; subst he; subst hw) | (go_at_call 71; refine (zero_no b _ hb8 (unhide Hz)).mono ?_; rintro e w1 ⟨he, q, hw⟩; subst he; subst hw) | (go_at_call 72; refine (pfind_any b ((unhide HP).drewN q) (unhide HI) hl hb8 0 (unhide HR)).mono ?_; rintro e w1 ⟨he, HB⟩; subst he))
  have B1 : Below w'.heap.size w' w1 := (below_drewN (Below.refl _ _) q).trans HB
  have HP1 := hide ((unhide HP).below B1)
  clear HB
  go_wp2_with (go_at_call 74; refine (room_any (unhide HP1) hm0 hm1 hl2).mono ?_; rintro e w2 ⟨he, q2, hw⟩; subst he; subst hw)
  go_ret2
  exact ⟨rfl, (unhide HP1).drewN q2, below_drewN B1 q2⟩
set_option maxHeartbeats 1000000 in
set_option maxRecDepth 100000 in
theorem pput_new (b : ByteArray) (R : Int) (h : PoolIs w G s most es bs) (hG : ∀ k, w.heap.size ≤ k → G k) (hi : PInv es bs) (hl : lenB bs < 1000000) (hb : b.size = 8) (hz : zeroB b = false) (hno : ∀ id r, lkE es id ≠ some (b, r)) (hm0 : 0 ≤ most) (hm1 : most ≤ 1000) (hful : (es.length : Int) < most)
    (hR : Least es R) (hR2 : R ≤ 1000000) :
    Calls Tryz.prog 30 #[s, .string b] w fun e w' => e = .returned (.tuple #[.int .i64 R, .int .i64 0]) ∧ PoolIs w' G s most (putE es R (b, 1)) (putB bs (ofI b) R) ∧ Chg G w w' := by
  have HP := hide h
  obtain ⟨p, rfl⟩ := h.ptr
  have q1 : ((b.size : Int) != 8) = false := by simp; omega
  have q2 : ((b.size : Int) == 8) = true := beq_iff_eq.2 (by omega)
  have q3 : (most - (es.length : Int) == 0) = false := beq_eq_false_iff_ne.2 (by omega)
  have hb8 : b.size ≤ 1000000 := by omega
  have hl2 : es.length ≤ 1000 := by omega
  have HG := hide hG
  have hnh : ¬ hasB bs (ofI b) R := fun h => by
    obtain ⟨t, r, h1, _⟩ := (hi _ _).1 h
    rw [hR.2.1] at h1
    cases h1
  have Hnh := hide hnh
  have HI := hide hi
  have Hz := hide hz
  have HA := hide (isAt_none hno)
  have HL := hide hR
  clear h hb hz hi hno hful hG hR hnh
  go_enter Tryz.func30, Tryz.ntmps30
  go_wp2_with (first | (go_at_call 68; refine (pnone_any (unhide HP)).mono ?_; rintro e w' ⟨he, hw⟩; subst he; subst hw) | (go_at_call 71; refine (zero_no b _ hb8 (unhide Hz)).mono ?_; rintro e w1 ⟨he, q, hw⟩; subst he; subst hw) | (go_at_call 72; refine (pfind_any b ((unhide HP).drewN q) (unhide HI) hl hb8 0 (unhide HA)).mono ?_; rintro e w1 ⟨he, HB⟩; subst he))
  have B1 : Below w'.heap.size w' w1 := (below_drewN (Below.refl _ _) q).trans HB
  have HP1 := hide ((unhide HP).below B1)
  clear HB
  go_wp2_with (first | (go_at_call 74; refine (room_any (unhide HP1) hm0 hm1 hl2).mono ?_; rintro e w2 ⟨he, q2, hw⟩; subst he; subst hw) | (go_at_call 75; refine (least_any R ((unhide HP1).drewN q2) (unhide HL) hR2).mono ?_; rintro e w3 ⟨he, hw⟩; subst he; subst hw) | (go_at_call 77; refine (clone_any b _ hb8).mono ?_; rintro e w4 ⟨he, HB4⟩; subst he))
  have B4 : Below w'.heap.size w' w4 := (below_drewN B1 q2).trans (HB4.mono B1.size)
  have HP4 := hide ((unhide HP).below B4)
  have sz := B4.size
  clear HB4
  refine (add_any R b 1 (unhide HP4) (fun k hk => unhide HG k (by omega)) hl hb8 (unhide Hnh)).mono ?_
  rintro e w5 ⟨rfl, hP5, hC5⟩
  have HP5 := hide hP5
  clear hP5
  go_wp2
  go_ret2
  exact ⟨rfl, unhide HP5, Chg.below_trans B4 hC5⟩
end
end Go.Proofs.YtjjfdkdneibjbaaGreatDoor
/- Pools as plain lists: what Put, Hold, Drop do to blocks and to buckets. -/
namespace Go.Proofs.YtjjfdkdneibjbaaGreatDoor

theorem lkE_put_same (es : List (Int × Blk)) (k : Int) (x : Blk) : lkE (putE es k x) k = some x := by
  induction es with
  | nil => simp [putE, lkE]
  | cons p es ih =>
    unfold putE
    by_cases h : p.1 = k
    · rw [if_pos h]; simp [lkE]
    · rw [if_neg h]; unfold lkE; rw [if_neg h]; exact ih
theorem lkE_put_other (es : List (Int × Blk)) {k j : Int} (x : Blk) (hj : j ≠ k) : lkE (putE es k x) j = lkE es j := by
  induction es with
  | nil => simp [putE, lkE, Ne.symm hj]
  | cons p es ih =>
    unfold putE
    by_cases h : p.1 = k
    · rw [if_pos h]
      have h2 : ¬ p.1 = j := fun e => hj (e.symm.trans h)
      unfold lkE
      rw [if_neg h2, if_neg (Ne.symm hj)]
    · rw [if_neg h]
      unfold lkE
      by_cases h2 : p.1 = j
      · rw [if_pos h2, if_pos h2]
      · rw [if_neg h2, if_neg h2]; exact ih
theorem lkE_del (es : List (Int × Blk)) (k j : Int) : lkE (delE es k) j = if j = k then none else lkE es j := by
  induction es with
  | nil => simp [delE, lkE]
  | cons p es ih =>
    unfold delE at ih ⊢
    rw [List.filter_cons]
    by_cases h : p.1 = k
    · rw [if_neg (by simp [h]), ih]
      by_cases h2 : j = k
      · rw [if_pos h2, if_pos h2]
      · rw [if_neg h2, if_neg h2]
        show lkE es j = if p.1 = j then some p.2 else lkE es j
        rw [if_neg (by omega)]
    · rw [if_pos (by simp [h])]
      unfold lkE
      by_cases h2 : p.1 = j
      · rw [if_pos h2, if_pos h2, if_neg (by omega)]
      · rw [if_neg h2, if_neg h2]; exact ih
theorem lkE_none {es : List (Int × Blk)} {k : Int} : lkE es k = none ↔ k ∉ es.map (·.1) := by
  induction es with
  | nil => simp [lkE]
  | cons p es ih =>
    unfold lkE
    by_cases h : p.1 = k
    · rw [if_pos h]; simp [h]
    · rw [if_neg h, ih]; simp; intro _ e; exact absurd e.symm h
theorem putE_new_len {es : List (Int × Blk)} {k : Int} (x : Blk) (h : lkE es k = none) : (putE es k x).length = es.length + 1 := by
  induction es with
  | nil => rfl
  | cons p es ih =>
    unfold lkE at h
    by_cases hp : p.1 = k
    · rw [if_pos hp] at h; cases h
    · rw [if_neg hp] at h
      unfold putE
      rw [if_neg hp, List.length_cons, ih h, List.length_cons]
theorem putE_old_len {es : List (Int × Blk)} {k : Int} (x y : Blk) (h : lkE es k = some y) : (putE es k x).length = es.length := by
  induction es with
  | nil => cases h
  | cons p es ih =>
    unfold putE
    by_cases hp : p.1 = k
    · rw [if_pos hp]; rfl
    · unfold lkE at h
      rw [if_neg hp] at h ⊢
      rw [List.length_cons, ih h, List.length_cons]
theorem delE_len {es : List (Int × Blk)} {k : Int} {y : Blk} (hn : (es.map (·.1)).Nodup) (h : lkE es k = some y) : (delE es k).length + 1 = es.length := by
  induction es with
  | nil => cases h
  | cons p es ih =>
    rw [List.map_cons, List.nodup_cons] at hn
    unfold delE at ih ⊢
    rw [List.filter_cons]
    by_cases hp : p.1 = k
    · rw [if_neg (by simp [hp])]
      have : es.filter (fun p => decide (p.1 ≠ k)) = es := List.filter_eq_self.2 fun q hq => by
        have : q.1 ≠ k := fun e => hn.1 (by rw [hp, ← e]; exact List.mem_map_of_mem hq)
        simpa using this
      rw [this, List.length_cons]
    · rw [if_pos (by simp [hp]), List.length_cons, List.length_cons]
      unfold lkE at h
      rw [if_neg hp] at h
      have := ih hn.2 h
      omega

theorem hasB_putB_iff {bs : List (List (Int × Int))} (x id y j : Int) (h : 0 < bs.length) : hasB (putB bs x id) y j ↔ hasB bs y j ∨ (y = x ∧ j = id) := by
  unfold hasB
  rw [bk_putB]
  unfold putB
  by_cases hk : bk bs y = bk bs x
  · rw [hk, getD_set_self (bk_lt h), List.mem_append, List.mem_singleton, Prod.mk.injEq]
  · rw [List.getD_eq_getElem?_getD, List.getElem?_set_ne (fun e => hk e.symm), ← List.getD_eq_getElem?_getD]
    constructor
    · exact .inl
    · rintro (h | ⟨rfl, rfl⟩)
      · exact h
      · exact absurd rfl hk
theorem hasB_cutB_iff {bs : List (List (Int × Int))} (x id y j : Int) (h : 0 < bs.length) (hn : NdB bs) : hasB (cutB bs x id) y j ↔ hasB bs y j ∧ ¬ (y = x ∧ j = id) := by
  unfold hasB
  rw [bk_cutB]
  unfold cutB
  by_cases hk : bk bs y = bk bs x
  · rw [hk, getD_set_self (bk_lt h), List.Nodup.mem_erase_iff (hn _), and_comm, ne_eq, Prod.mk.injEq]
  · rw [List.getD_eq_getElem?_getD, List.getElem?_set_ne (fun e => hk e.symm), ← List.getD_eq_getElem?_getD]
    constructor
    · exact fun h => ⟨h, fun e => hk (by rw [e.1])⟩
    · exact fun h => h.1

/-- A pool as it is behind whatever was done. -/
structure POk (es : List (Int × Blk)) (bs : List (List (Int × Int))) : Prop where
  inv : PInv es bs
  good : ∀ id t r, lkE es id = some (t, r) → 1 ≤ id ∧ 1 ≤ r ∧ t.size = 8 ∧ zeroB t = false
  uniq : ∀ id id' t r r', lkE es id = some (t, r) → lkE es id' = some (t, r') → id' = id
  len : lenB bs = es.length
  many : bs.length = 16
  nd : NdB bs
theorem POk.made : POk [] (List.replicate 16 []) where
  inv := fun x id => by
    constructor
    · intro h
      unfold hasB at h
      rw [List.getD_eq_getElem?_getD, List.getElem?_replicate] at h
      split at h <;> simp at h
    · rintro ⟨t, r, h, _⟩; cases h
  good := fun id t r h => by cases h
  uniq := fun id id' t r r' h => by cases h
  len := by decide
  many := by simp
  nd := NdB.nil 16
section
variable {es : List (Int × Blk)} {bs : List (List (Int × Int))}
theorem POk.isAt (h : POk es bs) {id : Int} {t : ByteArray} {r : Int} (hl : lkE es id = some (t, r)) : IsAt es t id := .inl ⟨r, hl, fun id' r' h' => h.uniq id id' t r r' hl h'⟩
theorem POk.pos (h : POk es bs) : 0 < bs.length := by rw [h.many]; omega
theorem POk.new (h : POk es bs) {R : Int} {b : ByteArray} (h1 : 1 ≤ R) (hR : lkE es R = none) (hb : b.size = 8) (hz : zeroB b = false) (hno : ∀ id r, lkE es id ≠ some (b, r)) : POk (putE es R (b, 1)) (putB bs (ofI b) R) where
  inv := fun x id => by
    rw [hasB_putB_iff _ _ _ _ h.pos, h.inv x id]
    by_cases e : id = R
    · subst e
      rw [lkE_put_same]
      constructor
      · rintro (⟨t, r, h1, _⟩ | ⟨rfl, _⟩)
        · rw [hR] at h1; cases h1
        · exact ⟨b, 1, rfl, rfl⟩
      · rintro ⟨t, r, h1, h2⟩
        cases h1
        exact .inr ⟨h2.symm, rfl⟩
    · rw [lkE_put_other _ _ e]
      constructor
      · rintro (h1 | ⟨_, h1⟩)
        · exact h1
        · exact absurd h1 e
      · exact .inl
  good := fun id t r hl => by
    by_cases e : id = R
    · subst e
      rw [lkE_put_same] at hl
      cases hl
      exact ⟨h1, by omega, hb, hz⟩
    · rw [lkE_put_other _ _ e] at hl
      exact h.good id t r hl
  uniq := fun id id' t r r' hl hl' => by
    by_cases e : id = R
    · subst e
      rw [lkE_put_same] at hl
      cases hl
      by_cases e' : id' = id
      · exact e'
      · rw [lkE_put_other _ _ e'] at hl'
        exact absurd hl' (hno _ _)
    · rw [lkE_put_other _ _ e] at hl
      by_cases e' : id' = R
      · subst e'
        rw [lkE_put_same] at hl'
        cases hl'
        exact absurd hl (hno _ _)
      · rw [lkE_put_other _ _ e'] at hl'
        exact h.uniq id id' t r r' hl hl'
  len := by rw [lenB_putB _ _ h.pos, putE_new_len _ hR, h.len]
  many := by unfold putB; rw [List.length_set, h.many]
  nd := h.nd.putB fun hb' => by
    obtain ⟨t, r, h1, _⟩ := (h.inv _ _).1 hb'
    rw [hR] at h1; cases h1
theorem POk.old (h : POk es bs) {R : Int} {b : ByteArray} {r r' : Int} (hR : lkE es R = some (b, r)) (hr : 1 ≤ r') : POk (putE es R (b, r')) bs where
  inv := fun x id => by
    rw [h.inv x id]
    by_cases e : id = R
    · subst e
      rw [lkE_put_same, hR]
      constructor
      · rintro ⟨t, r, h1, h2⟩; cases h1; exact ⟨_, _, rfl, h2⟩
      · rintro ⟨t, r, h1, h2⟩; cases h1; exact ⟨_, _, rfl, h2⟩
    · rw [lkE_put_other _ _ e]
  good := fun id t q hl => by
    by_cases e : id = R
    · subst e
      rw [lkE_put_same] at hl
      cases hl
      have := h.good _ _ _ hR
      exact ⟨this.1, hr, this.2.2⟩
    · rw [lkE_put_other _ _ e] at hl
      exact h.good id t q hl
  uniq := fun id id' t q q' hl hl' => by
    have key : ∀ i u v, lkE (putE es R (b, r')) i = some (u, v) → ∃ v', lkE es i = some (u, v') := fun i u v hi => by
      by_cases e : i = R
      · subst e
        rw [lkE_put_same] at hi
        cases hi
        exact ⟨r, hR⟩
      · rw [lkE_put_other _ _ e] at hi
        exact ⟨v, hi⟩
    obtain ⟨v1, h1⟩ := key _ _ _ hl
    obtain ⟨v2, h2⟩ := key _ _ _ hl'
    exact h.uniq _ _ _ _ _ h1 h2
  len := by rw [putE_old_len _ _ hR, h.len]
  many := h.many
  nd := h.nd
theorem POk.gone (h : POk es bs) (hnd : (es.map (·.1)).Nodup) {R : Int} {b : ByteArray} {r : Int} (hR : lkE es R = some (b, r)) : POk (delE es R) (cutB bs (ofI b) R) where
  inv := fun x id => by
    rw [hasB_cutB_iff _ _ _ _ h.pos h.nd, h.inv x id, lkE_del]
    by_cases e : id = R
    · subst e
      rw [if_pos rfl]
      constructor
      · rintro ⟨⟨t, r, h1, h2⟩, h3⟩
        rw [hR] at h1
        cases h1
        exact absurd ⟨h2.symm, rfl⟩ h3
      · rintro ⟨t, r, h1, _⟩; cases h1
    · rw [if_neg e]
      constructor
      · exact fun h => h.1
      · exact fun h => ⟨h, fun h' => e h'.2⟩
  good := fun id t q hl => by
    rw [lkE_del] at hl
    split at hl
    · cases hl
    · exact h.good id t q hl
  uniq := fun id id' t q q' hl hl' => by
    rw [lkE_del] at hl hl'
    split at hl
    · cases hl
    · split at hl'
      · cases hl'
      · exact h.uniq id id' t q q' hl hl'
  len := by
    have h1 := delE_len hnd hR
    have h2 := lenB_cutB (x := ofI b) (id := R) h.pos ((h.inv _ _).2 ⟨b, r, hR, rfl⟩)
    have := h.len
    omega
  many := by rw [cutB_length, h.many]
  nd := h.nd.set (List.Nodup.erase _ (h.nd _))
end
end Go.Proofs.YtjjfdkdneibjbaaGreatDoor
/- Package pool by its blocks alone: one contract for each answer. -/
namespace Go.Proofs.YtjjfdkdneibjbaaGreatDoor
open Go.RowKit

/-- The pool s has room for so many, and has these blocks. -/
def Pl (w : World) (G : Nat → Prop) (s : Value) (most : Int) (es : List (Int × Blk)) : Prop := ∃ bs, PoolIs w G s most es bs ∧ POk es bs
section
variable {w w' : World} {G : Nat → Prop} {s : Value} {most : Int} {es : List (Int × Blk)}
theorem Pl.below (h : Pl w G s most es) (hb : Below w.heap.size w w') : Pl w' G s most es := by
  obtain ⟨bs, h1, h2⟩ := h
  exact ⟨bs, h1.below hb, h2⟩
theorem Pl.drewN (h : Pl w G s most es) (n : Nat) : Pl (w.drewN n) G s most es := h
theorem Pl.ptr (h : Pl w G s most es) : ∃ p, s = .pointer (some ⟨p, 0, none⟩) := by
  obtain ⟨bs, h1, _⟩ := h
  exact h1.ptr
theorem Pl.good (h : Pl w G s most es) {id : Int} {t : ByteArray} {r : Int} (hl : lkE es id = some (t, r)) : 1 ≤ id ∧ 1 ≤ r ∧ t.size = 8 ∧ zeroB t = false := by
  obtain ⟨bs, _, h2⟩ := h
  exact h2.good _ _ _ hl
theorem Pl.uniq (h : Pl w G s most es) {id id' : Int} {t : ByteArray} {r r' : Int} (hl : lkE es id = some (t, r)) (hl' : lkE es id' = some (t, r')) : id' = id := by
  obtain ⟨bs, _, h2⟩ := h
  exact h2.uniq _ _ _ _ _ hl hl'
theorem Pl.nodup (h : Pl w G s most es) : (es.map (·.1)).Nodup := by
  obtain ⟨bs, h1, _⟩ := h
  exact h1.nodup
theorem pl_new (most : Int) (w : World) (hG : ∀ k, w.heap.size ≤ k → G k) :
    Calls Tryz.prog 9 #[.int .i64 most] w fun e w' => ∃ p, e = .returned (.pointer (some ⟨p, 0, none⟩)) ∧ Pl w' G (.pointer (some ⟨p, 0, none⟩)) (min (max most 0) 60) [] ∧ Below w.heap.size w w' :=
  (pnew_any most w hG).mono fun _ _ ⟨p, h1, h2, h3⟩ => ⟨p, h1, ⟨_, h2, POk.made⟩, h3⟩
theorem pl_put_bad (b : ByteArray) (h : Pl w G s most es) (hb : b.size ≠ 8) :
    Calls Tryz.prog 30 #[s, .string b] w fun e w' => e = .returned (.tuple #[.int .i64 0, .int .i64 1]) ∧ w' = w := by
  obtain ⟨bs, h1, h2⟩ := h
  exact pput_bad b h1 hb
theorem pl_put_zero (b : ByteArray) (h : Pl w G s most es) (hb : b.size = 8) (hz : zeroB b = true) :
    Calls Tryz.prog 30 #[s, .string b] w fun e w' => e = .returned (.tuple #[.int .i64 0, .int .i64 0]) ∧ Pl w' G s most es ∧ Below w.heap.size w w' := by
  obtain ⟨bs, h1, h2⟩ := h
  exact (pput_zero b h1 hb hz).mono fun _ _ ⟨a, b, c⟩ => ⟨a, ⟨bs, b, h2⟩, c⟩
theorem pl_put_had (b : ByteArray) (R r : Int) (h : Pl w G s most es) (hG : ∀ k, w.heap.size ≤ k → G k) (hl : es.length ≤ 1000) (hn : lkE es R = some (b, r)) (hr : r ≤ 100000) :
    Calls Tryz.prog 30 #[s, .string b] w fun e w' => e = .returned (.tuple #[.int .i64 R, .int .i64 0]) ∧ Pl w' G s most (putE es R (b, r + 1)) ∧ Chg G w w' := by
  obtain ⟨bs, h1, h2⟩ := h
  obtain ⟨g1, g2, g3, g4⟩ := h2.good _ _ _ hn
  exact (pput_had b R r h1 hG h2.inv (by rw [h2.len]; omega) g3 g4 (h2.isAt hn) (by omega) hn g2 hr).mono fun _ _ ⟨a, b, c⟩ => ⟨a, ⟨bs, b, h2.old hn (by omega)⟩, c⟩
theorem pl_put_full (b : ByteArray) (h : Pl w G s most es) (hb : b.size = 8) (hz : zeroB b = false) (hno : ∀ id r, lkE es id ≠ some (b, r)) (hm0 : 0 ≤ most) (hm1 : most ≤ 1000) (hful : (es.length : Int) = most) :
    Calls Tryz.prog 30 #[s, .string b] w fun e w' => e = .returned (.tuple #[.int .i64 0, .int .i64 5]) ∧ Pl w' G s most es ∧ Below w.heap.size w w' := by
  obtain ⟨bs, h1, h2⟩ := h
  exact (pput_full b h1 h2.inv (by rw [h2.len]; omega) hb hz hno hm0 hm1 hful).mono fun _ _ ⟨a, b, c⟩ => ⟨a, ⟨bs, b, h2⟩, c⟩
theorem pl_put_new (b : ByteArray) (R : Int) (h : Pl w G s most es) (hG : ∀ k, w.heap.size ≤ k → G k) (hb : b.size = 8) (hz : zeroB b = false) (hno : ∀ id r, lkE es id ≠ some (b, r)) (hm0 : 0 ≤ most) (hm1 : most ≤ 1000) (hful : (es.length : Int) < most)
    (hR : Least es R) (hR2 : R ≤ 1000000) :
    Calls Tryz.prog 30 #[s, .string b] w fun e w' => e = .returned (.tuple #[.int .i64 R, .int .i64 0]) ∧ Pl w' G s most (putE es R (b, 1)) ∧ Chg G w w' := by
  obtain ⟨bs, h1, h2⟩ := h
  exact (pput_new b R h1 hG h2.inv (by rw [h2.len]; omega) hb hz hno hm0 hm1 hful hR hR2).mono fun _ _ ⟨a, b, c⟩ => ⟨a, ⟨_, b, h2.new hR.1 hR.2.1 hb hz hno⟩, c⟩
theorem pl_drop_none (id : Int) (h : Pl w G s most es) (h0 : id ≠ 0) (hn : lkE es id = none) :
    Calls Tryz.prog 38 #[s, .int .i64 id] w fun e w' => e = .returned (.int .i64 2) ∧ w' = w := by
  obtain ⟨bs, h1, h2⟩ := h
  obtain ⟨p, rfl⟩ := h1.ptr
  exact drop_of id 2 p (fun w' => w' = w) (turn_none id (-1) h1 h0 hn)
theorem pl_drop_down (id : Int) (t : ByteArray) (r : Int) (h : Pl w G s most es) (hG : ∀ k, w.heap.size ≤ k → G k) (hn : lkE es id = some (t, r)) (hr : 2 ≤ r) (hr2 : r ≤ 100000) :
    Calls Tryz.prog 38 #[s, .int .i64 id] w fun e w' => e = .returned (.int .i64 0) ∧ Pl w' G s most (putE es id (t, r - 1)) ∧ Chg G w w' := by
  obtain ⟨bs, h1, h2⟩ := h
  obtain ⟨p, rfl⟩ := h1.ptr
  have hg := h2.good _ _ _ hn
  exact (drop_of id 0 p _ (turn_up id (-1) t r h1 hG (by omega) hn (by omega) (by omega) (by omega) (by omega) (by omega) (by omega))).mono fun _ _ ⟨a, b, c⟩ => ⟨a, ⟨bs, b, h2.old hn (by omega)⟩, c⟩
theorem pl_drop_last (id : Int) (t : ByteArray) (h : Pl w G s most es) (hG : ∀ k, w.heap.size ≤ k → G k) (hn : lkE es id = some (t, 1)) :
    Calls Tryz.prog 38 #[s, .int .i64 id] w fun e w' => e = .returned (.int .i64 0) ∧ Pl w' G s most (delE es id) ∧ Chg G w w' := by
  obtain ⟨bs, h1, h2⟩ := h
  obtain ⟨p, rfl⟩ := h1.ptr
  have hg := h2.good _ _ _ hn
  exact (drop_of id 0 p _ (turn_drop id t h1 hG (by omega) hn (by omega) ((h2.inv _ _).2 ⟨t, 1, hn, rfl⟩))).mono fun _ _ ⟨a, b, c⟩ => ⟨a, ⟨_, b, h2.gone h1.nodup hn⟩, c⟩
theorem pl_refs (id : Int) (h : Pl w G s most es) (t : ByteArray) (r : Int) (hn : (lkE es id).getD (⟨#[]⟩, 0) = (t, r)) :
    Calls Tryz.prog 130 #[s, .int .i64 id] w fun e w' => e = .returned (.int .i64 r) ∧ w' = w := by
  obtain ⟨bs, h1, h2⟩ := h
  exact refs_any id h1 t r hn
theorem pl_room (h : Pl w G s most es) (h0 : 0 ≤ most) (h1 : most ≤ 1000) (hl : es.length ≤ 1000) (n : Int) (hn : most - (es.length : Int) = n) :
    Calls Tryz.prog 74 #[s] w fun e w' => e = .returned (.int .i64 n) ∧ ∃ q, w' = w.drewN q := by
  obtain ⟨bs, h2, h3⟩ := h
  subst hn
  exact room_any h2 h0 h1 hl
theorem pl_find (b : ByteArray) (R : Int) (h : Pl w G s most es) (hl : es.length ≤ 1000) (hb : b.size ≤ 1000000) (hR : IsAt es b R) :
    Calls Tryz.prog 72 #[s, .string b] w fun e w' => e = .returned (.int .i64 R) ∧ Pl w' G s most es ∧ Below w.heap.size w w' := by
  obtain ⟨bs, h1, h2⟩ := h
  exact (pfind_any b h1 h2.inv (by rw [h2.len]; omega) hb R hR).mono fun _ _ ⟨a, c⟩ => ⟨a, ⟨bs, h1.below c, h2⟩, c⟩
end
end Go.Proofs.YtjjfdkdneibjbaaGreatDoor
/- Ranging over a map that the loop does not write, as a list of pairs: each key comes once, in whatever order. -/
namespace Go.Proofs.YtjjfdkdneibjbaaGreatDoor
open Go.RowKit Go.MapKept
open Go.ChangeMaps (setBlock)

section
variable {κ : Type} {E : KEnc κ}
theorem length_of_subset {α : Type} {l m : List α} (hn : l.Nodup) (hs : ∀ x ∈ l, x ∈ m) : l.length ≤ m.length := by
  classical
  induction l generalizing m with
  | nil => simp
  | cons a l ih =>
    rw [List.nodup_cons] at hn
    have ha := hs a List.mem_cons_self
    have h1 := ih hn.2 (m := m.erase a) fun x hx => (List.mem_erase_of_ne (fun e => hn.1 (by rw [← e]; exact hx) : x ≠ a)).2 (hs x (List.mem_cons_of_mem _ hx))
    rw [List.length_erase_of_mem ha] at h1
    have := List.length_pos_of_mem ha
    rw [List.length_cons]
    omega
theorem setBlock_at {w : World} {r : Nat} {o o' : Obj} (h : w.heap[r]? = some o) : (setBlock w r o').heap[r]? = some o' := by
  have hl := (Array.getElem?_eq_some_iff.1 h).1
  simp [setBlock, hl]
theorem setBlock_other {w : World} {r k : Nat} (o' : Obj) (h : k ≠ r) : (setBlock w r o').heap[k]? = w.heap[k]? := by
  simp [setBlock, Array.getElem?_setIfInBounds_ne (Ne.symm h)]
/-- Block r is an iterator over the map in block b, which reads as es; these keys have come. -/
def RangeIs (E : KEnc κ) (w : World) (b r : Nat) (es : List (κ × Value)) (done : List κ) : Prop :=
  ∃ arr clock c0 seen, w.heap[b]? = some (.map arr clock) ∧ Stamped arr clock ∧ arr.toList.map (fun e => (e.key, e.val)) = es.map (fun p => (E.enc p.1, p.2)) ∧
    w.heap[r]? = some (.mapIter (some b) clock seen c0) ∧ clock ≤ c0 ∧ (∀ x ∈ arr.toList, (seen.contains x.born = true ↔ ∃ k ∈ done, x.key = E.enc k)) ∧ done.Nodup ∧ ∀ k ∈ done, k ∈ es.map (·.1)
variable {P : Program} {w w' : World} {b r : Nat} {es : List (κ × Value)} {done : List κ}
theorem RangeIs.map (h : RangeIs E w b r es done) : MapIs E w b es := by
  obtain ⟨arr, clock, c0, seen, h1, h2, h3, _⟩ := h
  exact ⟨arr, clock, h1, h2, h3⟩
theorem RangeIs.kept (h : RangeIs E w b r es done) (hb : w'.heap[b]? = w.heap[b]?) (hr : w'.heap[r]? = w.heap[r]?) : RangeIs E w' b r es done := by
  obtain ⟨arr, clock, c0, seen, h1, h2, h3, h4, h5⟩ := h
  exact ⟨arr, clock, c0, seen, hb.trans h1, h2, h3, hr.trans h4, h5⟩
theorem RangeIs.lt (h : RangeIs E w b r es done) : r < w.heap.size := by
  obtain ⟨arr, clock, c0, seen, h1, h2, h3, h4, h5⟩ := h
  exact (Array.getElem?_eq_some_iff.1 h4).1
theorem RangeIs.below (h : RangeIs E w b r es done) (hb : Below w.heap.size w w') : RangeIs E w' b r es done := h.kept (hb.block b h.map.lt) (hb.block r h.lt)
theorem RangeIs.drewN (h : RangeIs E w b r es done) (n : Nat) : RangeIs E (w.drewN n) b r es done := h
theorem RangeIs.nodup (h : RangeIs E w b r es done) : done.Nodup := by
  obtain ⟨arr, clock, c0, seen, h1, h2, h3, h4, h5, h6, h7, h8⟩ := h
  exact h7
theorem RangeIs.keys (h : RangeIs E w b r es done) : ∀ k ∈ done, k ∈ es.map (·.1) := by
  obtain ⟨arr, clock, c0, seen, h1, h2, h3, h4, h5, h6, h7, h8⟩ := h
  exact h8
theorem RangeIs.count (h : RangeIs E w b r es done) : done.length ≤ es.length := by
  have := length_of_subset h.nodup h.keys
  simpa using this
open Classical in
theorem filter_count {α : Type} {K done : List α} (hK : K.Nodup) (hd : done.Nodup) (hs : ∀ k ∈ done, k ∈ K) : (K.filter fun k => decide (k ∉ done)).length + done.length = K.length := by
  have h1 : (K.filter fun k => decide (k ∈ done)).length = done.length := by
    apply Nat.le_antisymm
    · exact length_of_subset (hK.filter _) fun x hx => by simpa using (List.mem_filter.1 hx).2
    · exact length_of_subset hd fun x hx => List.mem_filter.2 ⟨hs x hx, by simpa using hx⟩
  have h2 : ∀ l : List α, (l.filter fun k => decide (k ∉ done)).length + (l.filter fun k => decide (k ∈ done)).length = l.length := by
    intro l
    induction l with
    | nil => rfl
    | cons a l ih =>
      rw [List.filter_cons, List.filter_cons]
      by_cases h : a ∈ done
      · rw [if_neg (by simpa using h), if_pos (by simpa using h), List.length_cons, List.length_cons]; omega
      · rw [if_pos (by simpa using h), if_neg (by simpa using h), List.length_cons, List.length_cons]; omega
  have := h2 K
  omega
open Classical in
theorem left_filter {seen : Array Nat} {done : List κ} : ∀ (A : List MapEntry) (es : List (κ × Value)), A.map (fun e => (e.key, e.val)) = es.map (fun p => (E.enc p.1, p.2)) → (∀ x ∈ A, (seen.contains x.born = true ↔ ∃ k ∈ done, x.key = E.enc k)) →
    (A.filter fun e => !seen.contains e.born).length = ((es.map (·.1)).filter fun k => decide (k ∉ done)).length
  | [], [], _, _ => rfl
  | [], _ :: _, h, _ => by simp at h
  | _ :: _, [], h, _ => by simp at h
  | x :: A, p :: es, h, hx => by
    simp only [List.map_cons, List.cons.injEq, Prod.mk.injEq] at h
    have ih := left_filter A es h.2 fun y hy => hx y (List.mem_cons_of_mem _ hy)
    rw [List.filter_cons, List.map_cons, List.filter_cons]
    have hc := hx x List.mem_cons_self
    by_cases hd : p.1 ∈ done
    · have : seen.contains x.born = true := hc.2 ⟨p.1, hd, h.1.1⟩
      rw [if_neg (by rw [this]; simp), if_neg (by simpa using hd), ih]
    · have : seen.contains x.born = false := by
        rw [Bool.eq_false_iff]
        intro e
        obtain ⟨k, hk, hke⟩ := hc.1 e
        have : p.1 = k := E.inj _ _ (h.1.1.symm.trans hke)
        exact hd (this ▸ hk)
      rw [if_pos (by rw [this]; rfl), if_pos (by simpa using hd), List.length_cons, List.length_cons, ih]
theorem RangeIs.left (h : RangeIs E w b r es done) : w.rangeLeft b r + done.length = es.length := by
  have hK := h.map.nodup
  have hd := h.nodup
  have hs := h.keys
  obtain ⟨arr, clock, c0, seen, h1, h2, h3, h4, h5, h6, h7, h8⟩ := h
  have e := left_filter (E := E) (seen := seen) (done := done) arr.toList es h3 h6
  have e2 := filter_count hK hd hs
  have e3 : w.rangeLeft b r = (arr.toList.filter fun e => !seen.contains e.born).length := by
    simp only [World.rangeLeft, h1, h4]
    unfold leftOf
    rw [← Array.toList_filter, Array.length_toList]
  rw [e3, e]
  simpa using e2
variable {ops : Array Oper} {rest : List Oper} {o : Oper} {a : Act} {Q : Exit → Act → World → Prop}
theorem wpList_range_is (hg : o.guard = none) (m : Operand) (t : TypeId) (hop : o.op = Op.range t m) (E : KEnc κ) (es : List (κ × Value)) (ke el : TypeId) (ht : P.underlying t = some (.map ke el))
    (b : Nat) (hm : a.eval m = .map (some b)) (h : MapIs E w b es)
    (hK : ∀ w', RangeIs E w' b w.heap.size es [] → Below w.heap.size w w' → w'.heap.size = w.heap.size + 1 → wpList P ops Q rest (a.put o.dst (.pointer (some ⟨w.heap.size, 0, none⟩))) w') : wpList P ops Q (o :: rest) a w := by
  refine wpList_plain hg fun K' hK' => ?_
  have hlt := h.lt
  obtain ⟨arr, clock, h1, h2, h3⟩ := h
  have hrun := run_range_map (P := P) w t ke el b arr clock ht h1
  unfold Oper.wp
  simp [execOp, hop, hm, hrun, Result.andThen]
  refine hK' _ _ (hK _ ⟨arr, clock, clock, #[], (Below.heap_alloc w _ b hlt).trans h1, h2, h3, heap_alloc_new w _, Nat.le_refl _, fun x _ => by simp, List.nodup_nil, fun k hk => by simp at hk⟩ ((Below.refl _ _).alloc (Nat.le_refl _) _) (by simp))
theorem wpList_next_is (hg : o.guard = none) (it : Operand) (hop : o.op = Op.next it false) (E : KEnc κ) (es : List (κ × Value)) (done : List κ) (b r : Nat) (hit : a.eval it = .pointer (some ⟨r, 0, none⟩)) (h : RangeIs E w b r es done)
    (hDone : (∀ p ∈ es, p.1 ∈ done) → wpList P ops Q rest (a.put o.dst (.tuple #[.bool false])) w)
    (hMore : ∀ (k : κ) (v : Value) (w' : World), (k, v) ∈ es → k ∉ done → RangeIs E w' b r es (k :: done) → w.grownBy w' (some r) → w'.heap.size = w.heap.size →
      (Instr.entry (.pointer (some ⟨r, 0, none⟩))).run P w' = .ok (.tuple #[E.enc k, v]) w' → wpList P ops Q rest (a.put o.dst (.tuple #[.bool true, E.enc k, v])) w') : wpList P ops Q (o :: rest) a w := by
  have hall := h
  obtain ⟨arr, clock, c0, seen, h1, h2, h3, h4, h5, h6, h7, h8⟩ := h
  refine wpList_plain hg fun K' hK' => ?_
  unfold Oper.wp
  have hbr : b ≠ r := fun e => by rw [e, h4] at h1; cases h1
  rcases run_next_at (P := P) w o.type r b clock c0 seen arr clock h4 h1 h2.1 h5 with ⟨h0, hrun⟩ | ⟨e, he, w1, hw1, hrun⟩
  · simp [execOp, hop, hit, hrun, Result.andThen]
    refine hK' _ _ (hDone fun p hp => ?_)
    obtain ⟨i, hi, rfl⟩ := List.mem_iff_getElem.1 hp
    have hla : arr.toList.length = es.length := by have := congrArg List.length h3; simpa using this
    have hi' : i < arr.toList.length := by omega
    have hpe := congrArg (fun l => l[i]?) h3
    simp only [List.getElem?_map, List.getElem?_eq_getElem hi', List.getElem?_eq_getElem hi, Option.map_some, Option.some.injEq, Prod.mk.injEq] at hpe
    have hc : seen.contains arr.toList[i].born = true := by
      cases hc : seen.contains arr.toList[i].born with
      | true => rfl
      | false =>
        have hmem : arr.toList[i] ∈ (leftOf arr seen).toList := by
          unfold leftOf
          rw [Array.toList_filter, List.mem_filter]
          exact ⟨List.getElem_mem hi', by rw [hc]; rfl⟩
        have : (leftOf arr seen).toList = [] := by
          have := Array.eq_empty_of_size_eq_zero h0
          rw [this]
        rw [this] at hmem
        cases hmem
    obtain ⟨k, hk, hkey⟩ := (h6 _ (List.getElem_mem hi')).1 hc
    have : es[i].1 = k := E.inj _ _ (hpe.1.symm.trans hkey)
    rw [this]; exact hk
  · unfold leftOf at he
    rw [Array.toList_filter, List.mem_filter] at he
    obtain ⟨hea, hes⟩ := he
    obtain ⟨i, hi⟩ := List.mem_iff_getElem?.1 hea
    obtain ⟨p, hp, hk, hv⟩ := entry_of h3 hi
    have hns : seen.contains e.born = false := by simpa using hes
    have hnd : p.1 ∉ done := fun hd => by
      have := (h6 e hea).2 ⟨p.1, hd, hk⟩
      rw [hns] at this; cases this
    simp [execOp, hop, hit, hrun, Result.andThen]
    have hr1 : w1.heap[r]? = some (.mapIter (some b) clock seen c0) := by rcases hw1 with rfl | rfl <;> exact h4
    have hb1 : w1.heap[b]? = some (.map arr clock) := by rcases hw1 with rfl | rfl <;> exact h1
    have hbn : (setBlock w1 r (.mapIter (some b) clock (seen.push e.born) clock)).heap[b]? = some (.map arr clock) := (setBlock_other _ hbr).trans hb1
    have hrn : (setBlock w1 r (.mapIter (some b) clock (seen.push e.born) clock)).heap[r]? = some (.mapIter (some b) clock (seen.push e.born) clock) := setBlock_at hr1
    have hent := run_entry_at (P := P) _ r b clock seen arr clock e hrn hbn hea h2.2.1
    rw [hk, hv] at hent ⊢
    refine hK' _ _ (hMore p.1 p.2 _ (List.mem_of_getElem? hp) hnd ⟨arr, clock, clock, seen.push e.born, hbn, h2, h3, hrn, Nat.le_refl _, fun x hx => ?_, List.nodup_cons.2 ⟨hnd, h7⟩, fun k hk => ?_⟩ ?_ ?_ hent)
    · rw [Array.contains_push, Bool.or_eq_true]
      constructor
      · rintro (hc | hc)
        · obtain ⟨k, hk, hke⟩ := (h6 x hx).1 hc
          exact ⟨k, List.mem_cons_of_mem _ hk, hke⟩
        · have hxe : x = e := by
            have hb : x.born = e.born := by simpa using hc
            have hn := h2.2.1
            obtain ⟨j, hj, rfl⟩ := List.mem_iff_getElem.1 hx
            obtain ⟨j', hj', rfl⟩ := List.mem_iff_getElem.1 hea
            have hjj : j = j' := by
              have := (List.getElem_inj (xs := arr.toList.map (·.born)) (i := j) (j := j') (h₀ := by simpa using hj) (h₁ := by simpa using hj') hn).1 (by simpa using hb)
              exact this
            subst hjj; rfl
          subst hxe
          exact ⟨p.1, List.mem_cons_self, hk⟩
      · rintro ⟨k, hk', hke⟩
        rcases List.mem_cons.1 hk' with rfl | hk'
        · right
          have : x = e := by
            have hn := h2.2.2
            obtain ⟨j, hj, rfl⟩ := List.mem_iff_getElem.1 hx
            obtain ⟨j', hj', rfl⟩ := List.mem_iff_getElem.1 hea
            have hjj : j = j' := by
              have := (List.getElem_inj (xs := arr.toList.map (·.key)) (i := j) (j := j') (h₀ := by simpa using hj) (h₁ := by simpa using hj') hn).1 (by simpa using hke.trans hk.symm)
              exact this
            subst hjj; rfl
          rw [this]; simp
        · left
          exact (h6 x hx).2 ⟨k, hk', hke⟩
    · rcases List.mem_cons.1 hk with rfl | hk
      · exact List.mem_map_of_mem (List.mem_of_getElem? hp)
      · exact h8 k hk
    · rcases hw1 with rfl | rfl
      · exact ⟨rfl, rfl, rfl, by simp [setBlock], fun k _ hk => setBlock_other _ fun e => hk (by rw [e])⟩
      · exact ⟨rfl, rfl, rfl, by simp [setBlock], fun k _ hk => setBlock_other (w := w.drew) _ fun e => hk (by rw [e])⟩
    · rcases hw1 with rfl | rfl <;> simp [setBlock]
end
end Go.Proofs.YtjjfdkdneibjbaaGreatDoor
