/- The law PoolOnce as plain lists: ids, counts, blocks. -/
import Derived.Test.YtdpbjigdihajjaaDoorOnceA
namespace Go.Proofs.YtdpbjigdihajjaaDoor

theorem least_ex (es : List (Int × Blk)) (hg : ∀ id t r, lkE es id = some (t, r) → 1 ≤ r) : ∃ R, Least es R ∧ R ≤ (es.length : Int) + 1 := by
  have key : ∀ m : Nat, (∃ R, Least es R ∧ R ≤ (m : Int)) ∨ ∀ j : Int, 1 ≤ j → j ≤ m → ∃ t r, lkE es j = some (t, r) ∧ 0 < r := by
    intro m
    induction m with
    | zero => exact .inr fun j h1 h2 => by omega
    | succ m ih =>
      rcases ih with ⟨R, h1, h2⟩ | h
      · exact .inl ⟨R, h1, by omega⟩
      · cases hl : lkE es ((m : Int) + 1) with
        | none => exact .inl ⟨(m : Int) + 1, ⟨by omega, hl, fun j h1 h2 => h j h1 (by omega)⟩, by omega⟩
        | some x =>
          right
          intro j h1 h2
          by_cases e : j = (m : Int) + 1
          · subst e
            exact ⟨x.1, x.2, hl, by have := hg _ x.1 x.2 hl; omega⟩
          · exact h j h1 (by omega)
  rcases key (es.length + 1) with ⟨R, h1, h2⟩ | h
  · exact ⟨R, h1, by omega⟩
  · exfalso
    have hn : ((List.range (es.length + 1)).map fun i : Nat => (i : Int) + 1).Nodup := by
      rw [List.nodup_iff_pairwise_ne, List.pairwise_map]
      exact List.nodup_range.imp (fun h e => h (by omega))
    have := length_of_subset hn (m := es.map (·.1)) fun x hx => by
      obtain ⟨i, hi, rfl⟩ := List.mem_map.1 hx
      have hi' := List.mem_range.1 hi
      obtain ⟨t, r, h1, _⟩ := h ((i : Int) + 1) (by omega) (by omega)
      by_cases hm : ((i : Int) + 1) ∈ es.map (·.1)
      · exact hm
      · rw [lkE_none.2 hm] at h1; cases h1
    simp at this
    omega

/-- What is known when so many texts were put. -/
structure OnceInv (k : Nat) (es : List (Int × Blk)) (I C : TN) : Prop where
  ii : ∀ b id, lkT I b = some id → (zeroB b = true ∧ id = 0) ∨ (zeroB b = false ∧ ∃ c, lkT C b = some c ∧ lkE es id = some (b, c))
  ie : ∀ id b r, lkE es id = some (b, r) → lkT I b = some id
  ic : ∀ b, lkT C b = none ↔ lkT I b = none
  cc : ∀ b c, lkT C b = some c → 1 ≤ c ∧ c ≤ k
  len : es.length ≤ k
theorem OnceInv.made : OnceInv 0 [] [] [] :=
  ⟨(fun b id h => by cases h), (fun id b r h => by cases h), fun b => Iff.rfl, (fun b c h => by cases h), Nat.le_refl _⟩
section
variable {k : Nat} {es : List (Int × Blk)} {I C : TN}
theorem OnceInv.skip (h : OnceInv k es I C) : OnceInv (k + 1) es I C :=
  ⟨h.ii, h.ie, h.ic, fun b c hc => by have := h.cc b c hc; omega, by have := h.len; omega⟩
theorem OnceInv.zero (h : OnceInv k es I C) (hg : ∀ id b r, lkE es id = some (b, r) → zeroB b = false) {b : ByteArray} (hb : zeroB b = true) : OnceInv (k + 1) es (putT I b 0) (putT C b ((lkT C b).getD 0 + 1)) where
  ii := fun b' id hl => by
    rw [lkT_put] at hl
    by_cases e : b' = b
    · subst e
      rw [if_pos rfl] at hl
      cases hl
      exact .inl ⟨hb, rfl⟩
    · rw [if_neg e] at hl
      rcases h.ii b' id hl with h1 | ⟨h1, c, h2, h3⟩
      · exact .inl h1
      · exact .inr ⟨h1, c, by rw [lkT_put, if_neg e]; exact h2, h3⟩
  ie := fun id b' r hl => by
    rw [lkT_put, if_neg (fun e => by have := hg _ _ _ hl; rw [e, hb] at this; cases this)]
    exact h.ie id b' r hl
  ic := fun b' => by
    rw [lkT_put, lkT_put]
    by_cases e : b' = b
    · rw [if_pos e, if_pos e]; simp
    · rw [if_neg e, if_neg e]; exact h.ic b'
  cc := fun b' c hl => by
    rw [lkT_put] at hl
    by_cases e : b' = b
    · rw [if_pos e] at hl
      cases hl
      cases hc : lkT C b with
      | none => simp; omega
      | some c => have := h.cc b c hc; simp; omega
    · rw [if_neg e] at hl
      have := h.cc b' c hl
      omega
  len := by have := h.len; omega
theorem OnceInv.had (h : OnceInv k es I C) {b : ByteArray} {id c : Int} (hb : zeroB b = false) (hI : lkT I b = some id) (hC : lkT C b = some c) (hE : lkE es id = some (b, c)) : OnceInv (k + 1) (putE es id (b, c + 1)) (putT I b id) (putT C b (c + 1)) where
  ii := fun b' id' hl => by
    rw [lkT_put] at hl
    by_cases e : b' = b
    · subst e
      rw [if_pos rfl] at hl
      cases hl
      exact .inr ⟨hb, c + 1, by rw [lkT_put, if_pos rfl], lkE_put_same _ _ _⟩
    · rw [if_neg e] at hl
      rcases h.ii b' id' hl with h1 | ⟨h1, c', h2, h3⟩
      · exact .inl h1
      · refine .inr ⟨h1, c', by rw [lkT_put, if_neg e]; exact h2, ?_⟩
        rw [lkE_put_other]
        · exact h3
        · intro e'
          rw [e', hE] at h3
          cases h3
          exact e rfl
  ie := fun id' b' r hl => by
    rw [lkT_put]
    by_cases e : id' = id
    · subst e
      rw [lkE_put_same] at hl
      cases hl
      rw [if_pos rfl]
    · rw [lkE_put_other _ _ e] at hl
      rw [if_neg]
      · exact h.ie id' b' r hl
      · intro e'
        subst e'
        have := h.ie id' b' r hl
        rw [hI] at this
        cases this
        exact e rfl
  ic := fun b' => by
    rw [lkT_put, lkT_put]
    by_cases e : b' = b
    · rw [if_pos e, if_pos e]; simp
    · rw [if_neg e, if_neg e]; exact h.ic b'
  cc := fun b' c' hl => by
    rw [lkT_put] at hl
    by_cases e : b' = b
    · rw [if_pos e] at hl
      cases hl
      have := h.cc b c hC
      omega
    · rw [if_neg e] at hl
      have := h.cc b' c' hl
      omega
  len := by rw [putE_old_len _ _ hE]; have := h.len; omega
theorem OnceInv.no (h : OnceInv k es I C) {b : ByteArray} (hI : lkT I b = none) : ∀ id r, lkE es id ≠ some (b, r) := fun id r e => by
  have := h.ie id b r e
  rw [hI] at this
  cases this
theorem OnceInv.fresh (h : OnceInv k es I C) {b : ByteArray} {R : Int} (hb : zeroB b = false) (hI : lkT I b = none) (hR : lkE es R = none) : OnceInv (k + 1) (putE es R (b, 1)) (putT I b R) (putT C b 1) where
  ii := fun b' id' hl => by
    rw [lkT_put] at hl
    by_cases e : b' = b
    · subst e
      rw [if_pos rfl] at hl
      cases hl
      exact .inr ⟨hb, 1, by rw [lkT_put, if_pos rfl], lkE_put_same _ _ _⟩
    · rw [if_neg e] at hl
      rcases h.ii b' id' hl with h1 | ⟨h1, c', h2, h3⟩
      · exact .inl h1
      · refine .inr ⟨h1, c', by rw [lkT_put, if_neg e]; exact h2, ?_⟩
        rw [lkE_put_other]
        · exact h3
        · intro e'
          rw [e', hR] at h3
          cases h3
  ie := fun id' b' r hl => by
    rw [lkT_put]
    by_cases e : id' = R
    · subst e
      rw [lkE_put_same] at hl
      cases hl
      rw [if_pos rfl]
    · rw [lkE_put_other _ _ e] at hl
      rw [if_neg]
      · exact h.ie id' b' r hl
      · intro e'
        subst e'
        exact h.no hI _ _ hl
  ic := fun b' => by
    rw [lkT_put, lkT_put]
    by_cases e : b' = b
    · rw [if_pos e, if_pos e]; simp
    · rw [if_neg e, if_neg e]; exact h.ic b'
  cc := fun b' c' hl => by
    rw [lkT_put] at hl
    by_cases e : b' = b
    · rw [if_pos e] at hl
      cases hl
      omega
    · rw [if_neg e] at hl
      have := h.cc b' c' hl
      omega
  len := by rw [putE_new_len _ hR]; have := h.len; omega
end
end Go.Proofs.YtdpbjigdihajjaaDoor
