/- Pools as plain lists: what Put, Hold, Drop do to blocks and to buckets. -/
import Derived.Test.YtdpbjigdihajjaaDoorPoolJ
namespace Go.Proofs.YtdpbjigdihajjaaDoor

theorem lkE_put_same (es : List (Int × Blk)) (k : Int) (x : Blk) : lkE (putE es k x) k = some x := by
  induction es with
  | nil => simp [putE, lkE]
  | cons p es ih =>
    unfold putE
    by_cases h : p.1 = k
    · rw [if_pos h]; simp [lkE]
    · rw [if_neg h]; unfold lkE; rw [if_neg h]; exact ih
theorem lkE_put_other (es : List (Int × Blk)) {k j : Int} (x : Blk) (hj : j ≠ k) : lkE (putE es k x) j = lkE es j := by
  induction es with
  | nil => simp [putE, lkE, Ne.symm hj]
  | cons p es ih =>
    unfold putE
    by_cases h : p.1 = k
    · rw [if_pos h]
      have h2 : ¬ p.1 = j := fun e => hj (e.symm.trans h)
      unfold lkE
      rw [if_neg h2, if_neg (Ne.symm hj)]
    · rw [if_neg h]
      unfold lkE
      by_cases h2 : p.1 = j
      · rw [if_pos h2, if_pos h2]
      · rw [if_neg h2, if_neg h2]; exact ih
theorem lkE_del (es : List (Int × Blk)) (k j : Int) : lkE (delE es k) j = if j = k then none else lkE es j := by
  induction es with
  | nil => simp [delE, lkE]
  | cons p es ih =>
    unfold delE at ih ⊢
    rw [List.filter_cons]
    by_cases h : p.1 = k
    · rw [if_neg (by simp [h]), ih]
      by_cases h2 : j = k
      · rw [if_pos h2, if_pos h2]
      · rw [if_neg h2, if_neg h2]
        show lkE es j = if p.1 = j then some p.2 else lkE es j
        rw [if_neg (by omega)]
    · rw [if_pos (by simp [h])]
      unfold lkE
      by_cases h2 : p.1 = j
      · rw [if_pos h2, if_pos h2, if_neg (by omega)]
      · rw [if_neg h2, if_neg h2]; exact ih
theorem lkE_none {es : List (Int × Blk)} {k : Int} : lkE es k = none ↔ k ∉ es.map (·.1) := by
  induction es with
  | nil => simp [lkE]
  | cons p es ih =>
    unfold lkE
    by_cases h : p.1 = k
    · rw [if_pos h]; simp [h]
    · rw [if_neg h, ih]; simp; intro _ e; exact absurd e.symm h
theorem putE_new_len {es : List (Int × Blk)} {k : Int} (x : Blk) (h : lkE es k = none) : (putE es k x).length = es.length + 1 := by
  induction es with
  | nil => rfl
  | cons p es ih =>
    unfold lkE at h
    by_cases hp : p.1 = k
    · rw [if_pos hp] at h; cases h
    · rw [if_neg hp] at h
      unfold putE
      rw [if_neg hp, List.length_cons, ih h, List.length_cons]
theorem putE_old_len {es : List (Int × Blk)} {k : Int} (x y : Blk) (h : lkE es k = some y) : (putE es k x).length = es.length := by
  induction es with
  | nil => cases h
  | cons p es ih =>
    unfold putE
    by_cases hp : p.1 = k
    · rw [if_pos hp]; rfl
    · unfold lkE at h
      rw [if_neg hp] at h ⊢
      rw [List.length_cons, ih h, List.length_cons]
theorem delE_len {es : List (Int × Blk)} {k : Int} {y : Blk} (hn : (es.map (·.1)).Nodup) (h : lkE es k = some y) : (delE es k).length + 1 = es.length := by
  induction es with
  | nil => cases h
  | cons p es ih =>
    rw [List.map_cons, List.nodup_cons] at hn
    unfold delE at ih ⊢
    rw [List.filter_cons]
    by_cases hp : p.1 = k
    · rw [if_neg (by simp [hp])]
      have : es.filter (fun p => decide (p.1 ≠ k)) = es := List.filter_eq_self.2 fun q hq => by
        have : q.1 ≠ k := fun e => hn.1 (by rw [hp, ← e]; exact List.mem_map_of_mem hq)
        simpa using this
      rw [this, List.length_cons]
    · rw [if_pos (by simp [hp]), List.length_cons, List.length_cons]
      unfold lkE at h
      rw [if_neg hp] at h
      have := ih hn.2 h
      omega

theorem hasB_putB_iff {bs : List (List (Int × Int))} (x id y j : Int) (h : 0 < bs.length) : hasB (putB bs x id) y j ↔ hasB bs y j ∨ (y = x ∧ j = id) := by
  unfold hasB
  rw [bk_putB]
  unfold putB
  by_cases hk : bk bs y = bk bs x
  · rw [hk, getD_set_self (bk_lt h), List.mem_append, List.mem_singleton, Prod.mk.injEq]
  · rw [List.getD_eq_getElem?_getD, List.getElem?_set_ne (fun e => hk e.symm), ← List.getD_eq_getElem?_getD]
    constructor
    · exact .inl
    · rintro (h | ⟨rfl, rfl⟩)
      · exact h
      · exact absurd rfl hk
theorem hasB_cutB_iff {bs : List (List (Int × Int))} (x id y j : Int) (h : 0 < bs.length) (hn : NdB bs) : hasB (cutB bs x id) y j ↔ hasB bs y j ∧ ¬ (y = x ∧ j = id) := by
  unfold hasB
  rw [bk_cutB]
  unfold cutB
  by_cases hk : bk bs y = bk bs x
  · rw [hk, getD_set_self (bk_lt h), List.Nodup.mem_erase_iff (hn _), and_comm, ne_eq, Prod.mk.injEq]
  · rw [List.getD_eq_getElem?_getD, List.getElem?_set_ne (fun e => hk e.symm), ← List.getD_eq_getElem?_getD]
    constructor
    · exact fun h => ⟨h, fun e => hk (by rw [e.1])⟩
    · exact fun h => h.1

/-- A pool as it is behind whatever was done. -/
structure POk (es : List (Int × Blk)) (bs : List (List (Int × Int))) : Prop where
  inv : PInv es bs
  good : ∀ id t r, lkE es id = some (t, r) → 1 ≤ id ∧ 1 ≤ r ∧ t.size = 8 ∧ zeroB t = false
  uniq : ∀ id id' t r r', lkE es id = some (t, r) → lkE es id' = some (t, r') → id' = id
  len : lenB bs = es.length
  many : bs.length = 16
  nd : NdB bs
theorem POk.made : POk [] (List.replicate 16 []) where
  inv := fun x id => by
    constructor
    · intro h
      unfold hasB at h
      rw [List.getD_eq_getElem?_getD, List.getElem?_replicate] at h
      split at h <;> simp at h
    · rintro ⟨t, r, h, _⟩; cases h
  good := fun id t r h => by cases h
  uniq := fun id id' t r r' h => by cases h
  len := by decide
  many := by simp
  nd := NdB.nil 16
section
variable {es : List (Int × Blk)} {bs : List (List (Int × Int))}
theorem POk.isAt (h : POk es bs) {id : Int} {t : ByteArray} {r : Int} (hl : lkE es id = some (t, r)) : IsAt es t id := .inl ⟨r, hl, fun id' r' h' => h.uniq id id' t r r' hl h'⟩
theorem POk.pos (h : POk es bs) : 0 < bs.length := by rw [h.many]; omega
theorem POk.new (h : POk es bs) {R : Int} {b : ByteArray} (h1 : 1 ≤ R) (hR : lkE es R = none) (hb : b.size = 8) (hz : zeroB b = false) (hno : ∀ id r, lkE es id ≠ some (b, r)) : POk (putE es R (b, 1)) (putB bs (ofI b) R) where
  inv := fun x id => by
    rw [hasB_putB_iff _ _ _ _ h.pos, h.inv x id]
    by_cases e : id = R
    · subst e
      rw [lkE_put_same]
      constructor
      · rintro (⟨t, r, h1, _⟩ | ⟨rfl, _⟩)
        · rw [hR] at h1; cases h1
        · exact ⟨b, 1, rfl, rfl⟩
      · rintro ⟨t, r, h1, h2⟩
        cases h1
        exact .inr ⟨h2.symm, rfl⟩
    · rw [lkE_put_other _ _ e]
      constructor
      · rintro (h1 | ⟨_, h1⟩)
        · exact h1
        · exact absurd h1 e
      · exact .inl
  good := fun id t r hl => by
    by_cases e : id = R
    · subst e
      rw [lkE_put_same] at hl
      cases hl
      exact ⟨h1, by omega, hb, hz⟩
    · rw [lkE_put_other _ _ e] at hl
      exact h.good id t r hl
  uniq := fun id id' t r r' hl hl' => by
    by_cases e : id = R
    · subst e
      rw [lkE_put_same] at hl
      cases hl
      by_cases e' : id' = id
      · exact e'
      · rw [lkE_put_other _ _ e'] at hl'
        exact absurd hl' (hno _ _)
    · rw [lkE_put_other _ _ e] at hl
      by_cases e' : id' = R
      · subst e'
        rw [lkE_put_same] at hl'
        cases hl'
        exact absurd hl (hno _ _)
      · rw [lkE_put_other _ _ e'] at hl'
        exact h.uniq id id' t r r' hl hl'
  len := by rw [lenB_putB _ _ h.pos, putE_new_len _ hR, h.len]
  many := by unfold putB; rw [List.length_set, h.many]
  nd := h.nd.putB fun hb' => by
    obtain ⟨t, r, h1, _⟩ := (h.inv _ _).1 hb'
    rw [hR] at h1; cases h1
theorem POk.old (h : POk es bs) {R : Int} {b : ByteArray} {r r' : Int} (hR : lkE es R = some (b, r)) (hr : 1 ≤ r') : POk (putE es R (b, r')) bs where
  inv := fun x id => by
    rw [h.inv x id]
    by_cases e : id = R
    · subst e
      rw [lkE_put_same, hR]
      constructor
      · rintro ⟨t, r, h1, h2⟩; cases h1; exact ⟨_, _, rfl, h2⟩
      · rintro ⟨t, r, h1, h2⟩; cases h1; exact ⟨_, _, rfl, h2⟩
    · rw [lkE_put_other _ _ e]
  good := fun id t q hl => by
    by_cases e : id = R
    · subst e
      rw [lkE_put_same] at hl
      cases hl
      have := h.good _ _ _ hR
      exact ⟨this.1, hr, this.2.2⟩
    · rw [lkE_put_other _ _ e] at hl
      exact h.good id t q hl
  uniq := fun id id' t q q' hl hl' => by
    have key : ∀ i u v, lkE (putE es R (b, r')) i = some (u, v) → ∃ v', lkE es i = some (u, v') := fun i u v hi => by
      by_cases e : i = R
      · subst e
        rw [lkE_put_same] at hi
        cases hi
        exact ⟨r, hR⟩
      · rw [lkE_put_other _ _ e] at hi
        exact ⟨v, hi⟩
    obtain ⟨v1, h1⟩ := key _ _ _ hl
    obtain ⟨v2, h2⟩ := key _ _ _ hl'
    exact h.uniq _ _ _ _ _ h1 h2
  len := by rw [putE_old_len _ _ hR, h.len]
  many := h.many
  nd := h.nd
theorem POk.gone (h : POk es bs) (hnd : (es.map (·.1)).Nodup) {R : Int} {b : ByteArray} {r : Int} (hR : lkE es R = some (b, r)) : POk (delE es R) (cutB bs (ofI b) R) where
  inv := fun x id => by
    rw [hasB_cutB_iff _ _ _ _ h.pos h.nd, h.inv x id, lkE_del]
    by_cases e : id = R
    · subst e
      rw [if_pos rfl]
      constructor
      · rintro ⟨⟨t, r, h1, h2⟩, h3⟩
        rw [hR] at h1
        cases h1
        exact absurd ⟨h2.symm, rfl⟩ h3
      · rintro ⟨t, r, h1, _⟩; cases h1
    · rw [if_neg e]
      constructor
      · exact fun h => h.1
      · exact fun h => ⟨h, fun h' => e h'.2⟩
  good := fun id t q hl => by
    rw [lkE_del] at hl
    split at hl
    · cases hl
    · exact h.good id t q hl
  uniq := fun id id' t q q' hl hl' => by
    rw [lkE_del] at hl hl'
    split at hl
    · cases hl
    · split at hl'
      · cases hl'
      · exact h.uniq id id' t q q' hl hl'
  len := by
    have h1 := delE_len hnd hR
    have h2 := lenB_cutB (x := ofI b) (id := R) h.pos ((h.inv _ _).2 ⟨b, r, hR, rfl⟩)
    have := h.len
    omega
  many := by rw [cutB_length, h.many]
  nd := h.nd.set (List.Nodup.erase _ (h.nd _))
end
end Go.Proofs.YtdpbjigdihajjaaDoor
