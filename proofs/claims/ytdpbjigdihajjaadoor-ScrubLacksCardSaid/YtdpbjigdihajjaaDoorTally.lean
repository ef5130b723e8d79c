/- Maps from keys to numbers, as lists of pairs. -/
import Derived.Test.YtdpbjigdihajjaaDoorMap
namespace Go.Proofs.YtdpbjigdihajjaaDoor
open Go.RowKit

section
variable {κ : Type}
def nV (l : List (κ × Int)) : List (κ × Value) := l.map fun e => (e.1, .int .i64 e.2)
theorem nV_keys (l : List (κ × Int)) : (nV l).map (·.1) = l.map (·.1) := by simp [nV]
theorem nV_len (l : List (κ × Int)) : (nV l).length = l.length := by simp [nV]
variable [DecidableEq κ]
def lkN : List (κ × Int) → κ → Option Int
  | [], _ => none
  | p :: es, k => if p.1 = k then some p.2 else lkN es k
def putN : List (κ × Int) → κ → Int → List (κ × Int)
  | [], k, v => [(k, v)]
  | p :: es, k, v => if p.1 = k then (k, v) :: es else p :: putN es k v
def atN (l : List (κ × Int)) (k : κ) : Int := (lkN l k).getD 0
theorem lk_nV (l : List (κ × Int)) (k : κ) : lk (nV l) k = (lkN l k).map fun x => .int .i64 x := by
  induction l with
  | nil => rfl
  | cons p es ih =>
    unfold nV at ih ⊢
    rw [List.map_cons]
    unfold lk lkN
    by_cases h : p.1 = k
    · rw [if_pos h, if_pos h]; rfl
    · rw [if_neg h, if_neg h, ih]
theorem put_nV (l : List (κ × Int)) (k : κ) (x : Int) : put (nV l) k (.int .i64 x) = nV (putN l k x) := by
  induction l with
  | nil => rfl
  | cons p es ih =>
    unfold nV at ih ⊢
    rw [List.map_cons]
    unfold put putN
    by_cases h : p.1 = k
    · rw [if_pos h, if_pos h]; rfl
    · rw [if_neg h, if_neg h, List.map_cons, ih]
theorem lkN_put (l : List (κ × Int)) (k j : κ) (x : Int) : lkN (putN l k x) j = if j = k then some x else lkN l j := by
  induction l with
  | nil => simp [putN, lkN, eq_comm]
  | cons p es ih =>
    unfold putN
    by_cases h : p.1 = k
    · rw [if_pos h]
      show (if k = j then some x else lkN es j) = _
      by_cases h2 : j = k
      · rw [if_pos h2, if_pos h2.symm]
      · rw [if_neg h2, if_neg (Ne.symm h2)]
        show _ = if p.1 = j then some p.2 else lkN es j
        rw [if_neg (fun e => h2 (e.symm.trans h))]
    · rw [if_neg h]
      show (if p.1 = j then some p.2 else lkN (putN es k x) j) = if j = k then some x else if p.1 = j then some p.2 else lkN es j
      by_cases h2 : p.1 = j
      · rw [if_pos h2, if_pos h2, if_neg (fun e => h (h2.trans e))]
      · rw [if_neg h2, if_neg h2, ih]
theorem atN_put (l : List (κ × Int)) (k j : κ) (x : Int) : atN (putN l k x) j = if j = k then x else atN l j := by
  unfold atN
  rw [lkN_put]
  split <;> rfl
theorem lkN_none {l : List (κ × Int)} {k : κ} : lkN l k = none ↔ k ∉ l.map (·.1) := by
  induction l with
  | nil => simp [lkN]
  | cons p es ih =>
    unfold lkN
    by_cases h : p.1 = k
    · simp [h]
    · rw [if_neg h, ih]
      simp [Ne.symm h]
theorem lkN_mem {l : List (κ × Int)} {k : κ} {x : Int} (h : lkN l k = some x) : (k, x) ∈ l := by
  induction l with
  | nil => cases h
  | cons p es ih =>
    unfold lkN at h
    by_cases e : p.1 = k
    · rw [if_pos e] at h
      injection h with h
      subst e h
      exact List.mem_cons_self
    · rw [if_neg e] at h
      exact List.mem_cons_of_mem _ (ih h)
theorem lkN_of_mem {l : List (κ × Int)} (hn : (l.map (·.1)).Nodup) {k : κ} {x : Int} (h : (k, x) ∈ l) : lkN l k = some x := by
  induction l with
  | nil => cases h
  | cons p es ih =>
    rw [List.map_cons, List.nodup_cons] at hn
    unfold lkN
    rcases List.mem_cons.1 h with rfl | he'
    · rw [if_pos rfl]
    · rw [if_neg, ih hn.2 he']
      intro e1
      exact hn.1 (e1 ▸ List.mem_map_of_mem he')
theorem putN_keys (l : List (κ × Int)) (k : κ) (x : Int) (j : κ) : j ∈ (putN l k x).map (·.1) ↔ j = k ∨ j ∈ l.map (·.1) := by
  have h1 := lkN_none (l := putN l k x) (k := j)
  have h2 := lkN_none (l := l) (k := j)
  rw [lkN_put] at h1
  by_cases e : j = k
  · rw [if_pos e] at h1
    constructor
    · intro _; exact .inl e
    · intro _
      by_cases hm : j ∈ (putN l k x).map (·.1)
      · exact hm
      · cases h1.2 hm
  · rw [if_neg e] at h1
    constructor
    · intro hm
      by_cases hm2 : j ∈ l.map (·.1)
      · exact .inr hm2
      · exact absurd hm (h1.1 (h2.2 hm2))
    · rintro (h | h)
      · exact absurd h e
      · by_cases hm : j ∈ (putN l k x).map (·.1)
        · exact hm
        · exact absurd h (h2.1 (h1.2 hm))
theorem mem_nV {l : List (κ × Int)} (hn : (l.map (·.1)).Nodup) {k : κ} {v : Value} (h : (k, v) ∈ nV l) : ∃ x, v = .int .i64 x ∧ lkN l k = some x := by
  unfold nV at h
  obtain ⟨e, he, hh⟩ := List.mem_map.1 h
  injection hh with h1 h2
  subst h1 h2
  exact ⟨e.2, rfl, lkN_of_mem hn he⟩
theorem nV_mem {l : List (κ × Int)} {k : κ} {x : Int} (h : lkN l k = some x) : (k, .int .i64 x) ∈ nV l := by
  unfold nV
  exact List.mem_map.2 ⟨(k, x), lkN_mem h, rfl⟩
theorem putN_len (l : List (κ × Int)) (k : κ) (x : Int) : (putN l k x).length ≤ l.length + 1 := by
  induction l with
  | nil => simp [putN]
  | cons p es ih =>
    unfold putN
    split
    · simp
    · simp only [List.length_cons]; omega

/-- How often each key comes. -/
def tally (ks : List κ) : List (κ × Int) := ks.foldl (fun m k => putN m k (atN m k + 1)) []
theorem tally_snoc (ks : List κ) (k : κ) : tally (ks ++ [k]) = putN (tally ks) k (atN (tally ks) k + 1) := by simp [tally]
theorem tally_at (ks : List κ) : ∀ k, atN (tally ks) k = ks.count k ∧ (k ∈ (tally ks).map (·.1) ↔ k ∈ ks) := by
  have key : ∀ n, ∀ k, atN (tally (ks.take n)) k = (ks.take n).count k ∧ (k ∈ (tally (ks.take n)).map (·.1) ↔ k ∈ ks.take n) := by
    intro n
    induction n with
    | zero => intro k; simp [tally, atN, lkN]
    | succ n ih =>
      intro k
      by_cases hn : n < ks.length
      · rw [← List.take_append_getElem hn, tally_snoc, atN_put, putN_keys, List.mem_append, List.mem_singleton, List.count_append]
        by_cases e : k = ks[n]
        · subst e
          rw [if_pos rfl, (ih _).1]
          simp
        · rw [if_neg e, (ih k).1, (ih k).2]
          simp [e, Ne.symm e]
      · rw [List.take_of_length_le (by omega)]
        have := ih k
        rw [List.take_of_length_le (by omega)] at this
        exact this
  have := key ks.length
  rw [List.take_length] at this
  exact this
theorem tally_pos (ks : List κ) (k : κ) : 0 < atN (tally ks) k ↔ k ∈ ks := by
  rw [(tally_at ks k).1]
  rw [← List.count_pos_iff (a := k) (l := ks)]
  omega
theorem tally_len (ks : List κ) : (tally ks).length ≤ ks.length := by
  have key : ∀ n, n ≤ ks.length → (tally (ks.take n)).length ≤ n := by
    intro n
    induction n with
    | zero => intro _; simp [tally]
    | succ n ih =>
      intro hn
      rw [← List.take_append_getElem (by omega : n < ks.length), tally_snoc]
      exact Nat.le_trans (putN_len _ _ _) (Nat.succ_le_succ (ih (by omega)))
  have := key ks.length (Nat.le_refl _)
  rw [List.take_length] at this
  exact this
theorem tally_nodup (ks : List κ) : ((tally ks).map (·.1)).Nodup := by
  have put_nodup : ∀ (l : List (κ × Int)) (k : κ) (x : Int), (l.map (·.1)).Nodup → ((putN l k x).map (·.1)).Nodup := by
    intro l k x
    induction l with
    | nil => intro _; simp [putN]
    | cons p es ih =>
      intro h
      rw [List.map_cons, List.nodup_cons] at h
      unfold putN
      by_cases e : p.1 = k
      · rw [if_pos e, List.map_cons, List.nodup_cons]
        exact ⟨e ▸ h.1, h.2⟩
      · rw [if_neg e, List.map_cons, List.nodup_cons]
        refine ⟨fun hm => ?_, ih h.2⟩
        rcases (putN_keys _ _ _ _).1 hm with h1 | h1
        · exact e h1
        · exact h.1 h1
  have key : ∀ n, n ≤ ks.length → ((tally (ks.take n)).map (·.1)).Nodup := by
    intro n
    induction n with
    | zero => intro _; simp [tally]
    | succ n ih =>
      intro hn
      rw [← List.take_append_getElem (by omega : n < ks.length), tally_snoc]
      exact put_nodup _ _ _ (ih (by omega))
  have := key ks.length (Nat.le_refl _)
  rw [List.take_length] at this
  exact this
end

section
variable {κ : Type} [DecidableEq κ] {P : Program} {ops : Array Oper} {rest : List Oper} {o : Oper} {a : Act} {Q : Exit → Act → World → Prop} {w : World} (E : KEnc κ)
theorem wpList_lookN (t ke el : TypeId) (ht : P.underlying t = some (.map ke el)) (hk : P.underlying ke = some E.d) (hz : (zeroValue el).run P w = .ok (.int .i64 0) w) (hg : o.guard = none) (m x : Operand) (hop : o.op = Op.lookup t m x false) (l : List (κ × Int)) (b : Nat) (hm : a.eval m = .map (some b)) (h : MapIs E w b (nV l)) (k : κ) (hx : a.eval x = E.enc k)
    (y : Int) (hy : atN l k = y) (hK : wpList P ops Q rest (a.put o.dst (.int .i64 y)) w) : wpList P ops Q (o :: rest) a w := by
  refine wpList_lookup_is hg m x _ false hop E (nV l) ke el ht hk _ hz b hm h k hx ?_
  have e : (lk (nV l) k).getD (.int .i64 0) = .int .i64 y := by
    rw [lk_nV, ← hy, atN]
    cases lkN l k <;> rfl
  rw [e]
  exact hK
theorem wpList_upN (t ke el : TypeId) (ht : P.underlying t = some (.map ke el)) (hk : P.underlying ke = some E.d) (hg : o.guard = none) (m x v : Operand) (hop : o.op = Op.mapUpdate t m x v) (l : List (κ × Int)) (b : Nat) (hm : a.eval m = .map (some b)) (h : MapIs E w b (nV l)) (k : κ) (hx : a.eval x = E.enc k) (y : Int) (hv : a.eval v = .int .i64 y)
    (hK : ∀ w', MapIs E w' b (nV (putN l k y)) → w.grownBy w' (some b) → wpList P ops Q rest (a.put o.dst undef) w') : wpList P ops Q (o :: rest) a w := by
  refine wpList_update_is hg m x v _ hop E (nV l) ke el ht hk b hm h k hx _ hv fun w' h1 h2 => hK w' ?_ h2
  rw [← put_nV]
  exact h1
end
end Go.Proofs.YtdpbjigdihajjaaDoor
