/- Joined texts: Map. -/
import Derived.Test.YtnpgjdhigcjihaaGreatDoorProg
import Derived.WalkKit
import Derived.Maps.OwnSet
import Derived.Deep.Draws
/- Maps with keys of a plain kind, as lists of pairs: look-up, store, delete, len, at the operation. -/
namespace Go.Proofs.YtnpgjdhigcjihaaGreatDoor
open Go.RowKit Go.MapKept

structure KEnc (κ : Type) where
  d : TypeDesc
  enc : κ → Value
  isKey : ∀ k, IsKey d (enc k)
  inj : ∀ k l, enc k = enc l → k = l

def kInt : KEnc Int := ⟨.int .i64, fun k => .int .i64 k, fun _ => rfl, fun _ _ h => by injection h⟩
def kStr : KEnc ByteArray := ⟨.string, fun k => .string k, fun _ => trivial, fun _ _ h => by injection h⟩

def MapIs {κ : Type} (E : KEnc κ) (w : World) (b : Nat) (es : List (κ × Value)) : Prop :=
  ∃ arr clock, w.heap[b]? = some (.map arr clock) ∧ Stamped arr clock ∧ arr.toList.map (fun e => (e.key, e.val)) = es.map fun p => (E.enc p.1, p.2)

theorem map_eraseIdx' {α β : Type} (f : α → β) : ∀ (l : List α) (j : Nat), (l.eraseIdx j).map f = (l.map f).eraseIdx j
  | [], _ => rfl
  | _ :: _, 0 => rfl
  | a :: l, j + 1 => by simp [map_eraseIdx' f l j]
section
variable {κ : Type} {E : KEnc κ}
theorem entry_of {es : List (κ × Value)} {arr : Array MapEntry} (he : arr.toList.map (fun e => (e.key, e.val)) = es.map fun p => (E.enc p.1, p.2)) {j : Nat} {e : MapEntry} (hj : arr.toList[j]? = some e) :
    ∃ p, es[j]? = some p ∧ e.key = E.enc p.1 ∧ e.val = p.2 := by
  have h := congrArg (fun l => l[j]?) he
  simp only [List.getElem?_map, hj, Option.map_some] at h
  cases hp : es[j]? with
  | none => rw [hp] at h; cases h
  | some p =>
    rw [hp] at h
    simp only [Option.map_some, Option.some.injEq, Prod.mk.injEq] at h
    exact ⟨p, rfl, h.1, h.2⟩
theorem keys_of {es : List (κ × Value)} {arr : Array MapEntry} (he : arr.toList.map (fun e => (e.key, e.val)) = es.map fun p => (E.enc p.1, p.2)) : ∀ x ∈ arr.toList, IsKey E.d x.key := by
  intro x hx
  obtain ⟨j, hj⟩ := List.mem_iff_getElem?.1 hx
  obtain ⟨p, _, h, _⟩ := entry_of he hj
  rw [h]; exact E.isKey _
theorem nodup_of {es : List (κ × Value)} {arr : Array MapEntry} {clock : Nat} (hs : Stamped arr clock) (he : arr.toList.map (fun e => (e.key, e.val)) = es.map fun p => (E.enc p.1, p.2)) : (es.map (·.1)).Nodup := by
  have h1 : (arr.toList.map (·.key)).Nodup := by
    have := ((stamped_iff arr clock).1 hs).2.2
    simpa [List.Nodup, List.pairwise_map] using this
  have h2 : arr.toList.map (·.key) = es.map (fun p => E.enc p.1) := by
    have := congrArg (List.map Prod.fst) he
    simpa [List.map_map, Function.comp_def] using this
  rw [h2] at h1
  have : es.map (fun p => E.enc p.1) = (es.map (·.1)).map E.enc := by simp
  rw [this] at h1
  rw [List.Nodup, List.pairwise_map] at h1 ⊢
  rw [List.pairwise_map] at h1
  exact h1.imp fun h e => h (by rw [e])
variable {w : World} {b : Nat} {es : List (κ × Value)}
theorem MapIs.lt (h : MapIs E w b es) : b < w.heap.size := by
  obtain ⟨_, _, hb, _⟩ := h
  exact (Array.getElem?_eq_some_iff.1 hb).1
theorem MapIs.kept {w' : World} (h : MapIs E w b es) (hb : w'.heap[b]? = w.heap[b]?) : MapIs E w' b es := by
  obtain ⟨arr, clock, h1, h2, h3⟩ := h
  exact ⟨arr, clock, hb.trans h1, h2, h3⟩
theorem MapIs.below {w' : World} (h : MapIs E w b es) (hb : Below w.heap.size w w') : MapIs E w' b es := h.kept (hb.block b h.lt)
theorem MapIs.grown {w' : World} {row : Option Nat} (h : MapIs E w b es) (hg : w.grownBy w' row) (hne : some b ≠ row) : MapIs E w' b es := h.kept (hg.block b h.lt hne)
theorem MapIs.alloc (h : MapIs E w b es) (o : Obj) : MapIs E (w.alloc o) b es := h.kept (Below.heap_alloc w o b h.lt)
theorem MapIs.drewN (h : MapIs E w b es) (n : Nat) : MapIs E (w.drewN n) b es := h
theorem MapIs.made (E : KEnc κ) (w : World) : MapIs E (w.alloc (.map #[] 0)) w.heap.size [] := ⟨#[], 0, (MapKept.heap_alloc w _).1, stamped_empty 0, rfl⟩
theorem MapIs.nodup (h : MapIs E w b es) : (es.map (·.1)).Nodup := by
  obtain ⟨_, _, _, h2, h3⟩ := h
  exact nodup_of h2 h3

end
section
variable {κ : Type} [DecidableEq κ] {E : KEnc κ}
def lk : List (κ × Value) → κ → Option Value
  | [], _ => none
  | p :: es, k => if p.1 = k then some p.2 else lk es k
def put : List (κ × Value) → κ → Value → List (κ × Value)
  | [], k, v => [(k, v)]
  | p :: es, k, v => if p.1 = k then (k, v) :: es else p :: put es k v
def del (es : List (κ × Value)) (k : κ) : List (κ × Value) := es.filter fun p => p.1 ≠ k

theorem lk_none {es : List (κ × Value)} {k : κ} : lk es k = none ↔ ∀ p ∈ es, p.1 ≠ k := by
  induction es with
  | nil => simp [lk]
  | cons p es ih =>
    unfold lk
    by_cases h : p.1 = k
    · simp only [h, if_true, List.mem_cons]
      constructor
      · intro h'; cases h'
      · intro h'; exact absurd h (h' p (.inl rfl))
    · simp only [h, if_false, List.mem_cons, ih]
      constructor
      · rintro h' q (rfl | hq)
        · exact h
        · exact h' q hq
      · exact fun h' q hq => h' q (.inr hq)
theorem lk_some_mem {es : List (κ × Value)} {k : κ} {v : Value} (h : lk es k = some v) : (k, v) ∈ es := by
  induction es with
  | nil => cases h
  | cons p es ih =>
    unfold lk at h
    by_cases hk : p.1 = k
    · rw [if_pos hk] at h
      cases h
      exact List.mem_cons.2 (.inl (by rw [← hk]))
    · rw [if_neg hk] at h
      exact List.mem_cons_of_mem _ (ih h)
theorem lk_put_same (es : List (κ × Value)) (k : κ) (v : Value) : lk (put es k v) k = some v := by
  induction es with
  | nil => simp [put, lk]
  | cons p es ih =>
    unfold put
    by_cases hk : p.1 = k
    · rw [if_pos hk]; simp [lk]
    · rw [if_neg hk]; simp [lk, hk, ih]
theorem lk_put_other (es : List (κ × Value)) {k l : κ} (v : Value) (hne : l ≠ k) : lk (put es k v) l = lk es l := by
  have hne' : ¬ k = l := fun h => hne h.symm
  induction es with
  | nil => simp [put, lk, hne']
  | cons p es ih =>
    unfold put
    by_cases hk : p.1 = k
    · rw [if_pos hk]
      have : ¬ p.1 = l := fun h => hne' (hk.symm.trans h)
      simp [lk, hne', this]
    · rw [if_neg hk]
      simp only [lk, ih]
theorem put_new {es : List (κ × Value)} {k : κ} (v : Value) (h : lk es k = none) : put es k v = es ++ [(k, v)] := by
  induction es with
  | nil => rfl
  | cons p es ih =>
    unfold lk at h
    by_cases hk : p.1 = k
    · rw [if_pos hk] at h; cases h
    · rw [if_neg hk] at h
      simp [put, hk, ih h]
theorem lk_at {es : List (κ × Value)} (hn : (es.map (·.1)).Nodup) {j : Nat} {p : κ × Value} (hj : es[j]? = some p) : lk es p.1 = some p.2 := by
  induction es generalizing j with
  | nil => simp at hj
  | cons q es ih =>
    rw [List.map_cons, List.nodup_cons] at hn
    cases j with
    | zero =>
      simp at hj
      subst hj
      simp [lk]
    | succ j =>
      rw [List.getElem?_cons_succ] at hj
      have hm : p.1 ∈ es.map (·.1) := List.mem_map.2 ⟨p, List.mem_of_getElem? hj, rfl⟩
      have hne : ¬ q.1 = p.1 := fun e => hn.1 (e ▸ hm)
      simp [lk, hne, ih hn.2 hj]
theorem put_old {es : List (κ × Value)} {k : κ} {v : Value} {j : Nat} {u : Value} (hn : (es.map (·.1)).Nodup) (hj : es[j]? = some (k, u)) : put es k v = es.modify j fun _ => (k, v) := by
  induction es generalizing j with
  | nil => simp at hj
  | cons q es ih =>
    rw [List.map_cons, List.nodup_cons] at hn
    cases j with
    | zero =>
      simp at hj
      subst hj
      simp [put]
    | succ j =>
      rw [List.getElem?_cons_succ] at hj
      have hm : k ∈ es.map (·.1) := List.mem_map.2 ⟨(k, u), List.mem_of_getElem? hj, rfl⟩
      have hne : ¬ q.1 = k := fun e => hn.1 (e ▸ hm)
      simp [put, hne, ih hn.2 hj]

/-- What the model's own search comes to. -/
theorem findNow_is {es : List (κ × Value)} {arr : Array MapEntry} {clock : Nat} (hs : Stamped arr clock) (he : arr.toList.map (fun e => (e.key, e.val)) = es.map fun p => (E.enc p.1, p.2)) (k : κ) :
    (Instr.findNow E.d (E.enc k) arr.toList 0 = some none ∧ lk es k = none) ∨
    ∃ j e v, Instr.findNow E.d (E.enc k) arr.toList 0 = some (some (j, v)) ∧ arr.toList[j]? = some e ∧ e.key = E.enc k ∧ e.val = v ∧ lk es k = some v ∧ es[j]? = some (k, v) := by
  rcases findNow_spec (E.isKey k) arr.toList 0 (keys_of he) with ⟨h1, h2⟩ | ⟨j, e, h1, h2, h3⟩
  · refine .inl ⟨h1, lk_none.2 fun p hp hk => ?_⟩
    obtain ⟨j, hj⟩ := List.mem_iff_getElem?.1 hp
    have h := congrArg (fun l => l[j]?) he
    simp only [List.getElem?_map, hj, Option.map_some] at h
    cases hx : arr.toList[j]? with
    | none => rw [hx] at h; cases h
    | some x =>
      rw [hx] at h
      simp only [Option.map_some, Option.some.injEq, Prod.mk.injEq] at h
      exact h2 x (List.mem_of_getElem? hx) (by rw [h.1, hk])
  · obtain ⟨p, hp, hk, hv⟩ := entry_of he h2
    have hpk : p.1 = k := E.inj _ _ (hk.symm.trans h3)
    refine .inr ⟨j, e, e.val, by rw [h1, Nat.zero_add], h2, h3, rfl, ?_, ?_⟩
    · rw [← hpk, lk_at (nodup_of hs he) hp, hv]
    · rw [hp, hv, ← hpk]

variable {P : Program} {w : World} {b : Nat} {es : List (κ × Value)}
theorem run_lookup_is (h : MapIs E w b es) {t ke el : TypeId} (ht : P.underlying t = some (.map ke el)) (hk : P.underlying ke = some E.d) {z : Value} (hz : (zeroValue el).run P w = .ok z w) (k : κ) (ok : Bool) :
    (Instr.lookup t (.map (some b)) (E.enc k) ok).run P w = .ok (if ok then .tuple #[(lk es k).getD z, .bool (lk es k).isSome] else (lk es k).getD z) w := by
  obtain ⟨arr, clock, hb, hs, he⟩ := h
  unfold Instr.lookup
  simp only [Sem.run_bind, run_underlying ht, Result.andThen, MapKept.run_getObj_map hb, MapKept.run_checkKey hk (E.isKey k), Sem.run_pure]
  rcases findNow_is hs he k with ⟨h1, h2⟩ | ⟨j, e, v, h1, _, _, _, h2, _⟩
  · rw [MapKept.run_findKey hk h1]
    simp [Result.andThen, hz, h2]
  · rw [MapKept.run_findKey hk h1]
    simp [h2]

theorem run_update_is (h : MapIs E w b es) {t ke el : TypeId} (ht : P.underlying t = some (.map ke el)) (hk : P.underlying ke = some E.d) (k : κ) (v : Value) :
    ∃ w', (Instr.mapUpdate t (.map (some b)) (E.enc k) v).run P w = .ok () w' ∧ MapIs E w' b (put es k v) ∧ w.grownBy w' (some b) := by
  have hnd := h.nodup
  obtain ⟨arr, clock, hb, hs, he⟩ := h
  have gr : ∀ o : Obj, w.grownBy { w with heap := w.heap.setIfInBounds b o } (some b) := fun o => ⟨rfl, rfl, rfl, by simp, fun i _ hi => (heap_set hb (o' := o)).2 i fun e => hi (by rw [e])⟩
  unfold Instr.mapUpdate
  simp only [Sem.run_bind, run_underlying ht, Result.andThen, MapKept.run_getObj_map hb, MapKept.run_checkKey hk (E.isKey k)]
  rcases findNow_is hs he k with ⟨h1, h2⟩ | ⟨j, e, u, h1, h3, h4, h5, h2, h6⟩
  · rw [MapKept.run_findKey hk h1]
    simp only [MapKept.run_setObj_map _ hb]
    refine ⟨_, rfl, ⟨_, _, (heap_set hb).1, stamped_push hs fun x hx hxk => ?_, ?_⟩, gr _⟩
    · obtain ⟨j, hj⟩ := List.mem_iff_getElem?.1 hx
      obtain ⟨p, hp, hk', _⟩ := entry_of he hj
      exact lk_none.1 h2 p (List.mem_of_getElem? hp) (E.inj _ _ (hk'.symm.trans hxk))
    · rw [put_new v h2]
      simp [he]
  · rw [MapKept.run_findKey hk h1]
    have hja : arr[j]? = some e := by simpa using h3
    simp only [Sem.run_bind, Result.andThen, hja, Option.map_some, Option.getD_some, h4, run_keyThatStays (E.isKey k), MapKept.run_setObj_map _ hb]
    refine ⟨_, rfl, ⟨_, _, (heap_set hb).1, stamped_modify hs j _ (fun _ _ => rfl) (fun x _ hx => ?_), ?_⟩, gr _⟩
    · rw [hja] at hx; cases hx; exact h4.symm
    · rw [put_old hnd h6]
      apply List.ext_getElem?
      intro i
      have hei := congrArg (fun l => l[i]?) he
      simp only [List.getElem?_map, Array.getElem?_toList] at hei
      rw [List.getElem?_map, List.getElem?_map, List.getElem?_modify, Array.getElem?_toList, Array.getElem?_modify]
      by_cases hij : j = i
      · subst hij
        rw [hja, h6]
        simp
      · simp only [hij, if_false]
        simpa using hei

theorem run_delete_is (h : MapIs E w b es) {t ke el : TypeId} (ht : P.underlying t = some (.map ke el)) (hk : P.underlying ke = some E.d) (k : κ) (ty kt : TypeId) :
    ∃ w', (Builtin.delete_ #[t, kt] ty #[.map (some b), E.enc k]).run P w = .ok (.tuple #[]) w' ∧ MapIs E w' b (del es k) ∧ w.grownBy w' (some b) := by
  have hnd := h.nodup
  obtain ⟨arr, clock, hb, hs, he⟩ := h
  have gr : ∀ o : Obj, w.grownBy { w with heap := w.heap.setIfInBounds b o } (some b) := fun o => ⟨rfl, rfl, rfl, by simp, fun i _ hi => (heap_set hb (o' := o)).2 i fun e => hi (by rw [e])⟩
  unfold Builtin.delete_
  simp only [List.getElem?_toArray, List.getElem?_cons_zero, List.getElem?_cons_succ, Sem.run_bind, run_underlying ht, Result.andThen, MapKept.run_getObj_map hb, MapKept.run_checkKey hk (E.isKey k)]
  rcases findNow_is hs he k with ⟨h1, h2⟩ | ⟨j, e, u, h1, h3, h4, h5, h2, h6⟩
  · rw [MapKept.run_findKey hk h1]
    simp only [Sem.run_bind, Result.andThen, MapKept.run_setObj_map _ hb, Sem.run_pure]
    refine ⟨_, rfl, ⟨_, _, (heap_set hb).1, hs, ?_⟩, gr _⟩
    have : del es k = es := by
      unfold del
      rw [List.filter_eq_self]
      simpa using lk_none.1 h2
    rw [this]; exact he
  · rw [MapKept.run_findKey hk h1]
    simp only [Sem.run_bind, Result.andThen, MapKept.run_setObj_map _ hb, Sem.run_pure]
    refine ⟨_, rfl, ⟨_, _, (heap_set hb).1, stamped_erase hs j, ?_⟩, gr _⟩
    have hlt : j < arr.size := by
      have := (List.getElem?_eq_some_iff.1 h3).1; simpa using this
    have hd : del es k = es.eraseIdx j := by
      have hlt' : j < es.length := (List.getElem?_eq_some_iff.1 h6).1
      have hx : es[j] = (k, u) := (List.getElem?_eq_some_iff.1 h6).2
      rw [List.eraseIdx_eq_take_drop_succ]
      conv => lhs; rw [← List.take_append_drop j es, List.drop_eq_getElem_cons hlt', hx]
      unfold del
      rw [List.filter_append, List.filter_cons]
      have key : ∀ i (p : κ × Value), es[i]? = some p → i ≠ j → p.1 ≠ k := by
        intro i p hi hne e
        apply hne
        have h1 : (es.map (·.1))[j]? = some k := by simp [h6]
        have h2 : (es.map (·.1))[i]? = some k := by simp [hi, e]
        have l1 : i < (es.map (·.1)).length := (List.getElem?_eq_some_iff.1 h2).1
        exact (List.getElem?_inj l1 hnd).1 (h2.trans h1.symm)
      have t1 : (es.take j).filter (fun p => p.1 ≠ k) = es.take j := by
        rw [List.filter_eq_self]
        intro p hp
        obtain ⟨i, hi⟩ := List.mem_iff_getElem?.1 hp
        have hij : i < j := by
          have := (List.getElem?_eq_some_iff.1 hi).1
          rw [List.length_take] at this; omega
        rw [List.getElem?_take_of_lt hij] at hi
        simpa using key i p hi (by omega)
      have t2 : (es.drop (j + 1)).filter (fun p => p.1 ≠ k) = es.drop (j + 1) := by
        rw [List.filter_eq_self]
        intro p hp
        obtain ⟨i, hi⟩ := List.mem_iff_getElem?.1 hp
        rw [List.getElem?_drop] at hi
        simpa using key _ p hi (by omega)
      rw [t1, t2]
      simp
    rw [hd]
    unfold Array.eraseIdxIfInBounds
    rw [dif_pos hlt, Array.toList_eraseIdx, map_eraseIdx', he, map_eraseIdx']

omit [DecidableEq κ] in
theorem run_len_is (h : MapIs E w b es) {t ke el : TypeId} (ht : P.underlying t = some (.map ke el)) (ty : TypeId) :
    (Builtin.len_ #[t] ty #[.map (some b)]).run P w = .ok (.int .i64 es.length) w := by
  obtain ⟨arr, clock, hb, hs, he⟩ := h
  have hl := congrArg List.length he
  simp at hl
  unfold Builtin.len_
  simp [run_underlying ht, Result.andThen, MapKept.run_getObj_map hb, goInt, hl]

variable {ops : Array Oper} {rest : List Oper} {o : Oper} {a : Act} {Q : Exit → Act → World → Prop}
theorem wpList_lookup_is (hg : o.guard = none) (m x : Operand) (t : TypeId) (ok : Bool) (hop : o.op = Op.lookup t m x ok) (E : KEnc κ) (es : List (κ × Value)) (ke el : TypeId)
    (ht : P.underlying t = some (.map ke el)) (hk : P.underlying ke = some E.d) (z : Value) (hz : (zeroValue el).run P w = .ok z w) (b : Nat) (hm : a.eval m = .map (some b)) (h : MapIs E w b es) (k : κ) (hx : a.eval x = E.enc k)
    (hK : wpList P ops Q rest (a.put o.dst (if ok then .tuple #[(lk es k).getD z, .bool (lk es k).isSome] else (lk es k).getD z)) w) : wpList P ops Q (o :: rest) a w := by
  refine wpList_plain hg fun K' hK' => ?_
  have hrun := run_lookup_is h ht hk hz k ok
  unfold Oper.wp
  simp [execOp, hop, hm, hx, hrun, Result.andThen]
  exact hK' _ _ hK
theorem wpList_update_is (hg : o.guard = none) (m x v : Operand) (t : TypeId) (hop : o.op = Op.mapUpdate t m x v) (E : KEnc κ) (es : List (κ × Value)) (ke el : TypeId)
    (ht : P.underlying t = some (.map ke el)) (hk : P.underlying ke = some E.d) (b : Nat) (hm : a.eval m = .map (some b)) (h : MapIs E w b es) (k : κ) (hx : a.eval x = E.enc k) (val : Value) (hv : a.eval v = val)
    (hK : ∀ w', MapIs E w' b (put es k val) → w.grownBy w' (some b) → wpList P ops Q rest (a.put o.dst undef) w') : wpList P ops Q (o :: rest) a w := by
  refine wpList_plain hg fun K' hK' => ?_
  obtain ⟨w', hrun, r1, r2⟩ := run_update_is h ht hk k val
  unfold Oper.wp
  simp [execOp, hop, hm, hx, hv, hrun, Result.andThen]
  exact hK' _ _ (hK w' r1 r2)
theorem wpList_delete_is (hg : o.guard = none) (m x : Operand) (t kt : TypeId) (hop : o.op = Op.call { callee := Callee.builtin Builtin.delete, args := #[m, x], argTypes := #[t, kt] }) (E : KEnc κ) (es : List (κ × Value)) (ke el : TypeId)
    (ht : P.underlying t = some (.map ke el)) (hk : P.underlying ke = some E.d) (b : Nat) (hm : a.eval m = .map (some b)) (h : MapIs E w b es) (k : κ) (hx : a.eval x = E.enc k)
    (hK : ∀ w', MapIs E w' b (del es k) → w.grownBy w' (some b) → wpList P ops Q rest (a.put o.dst (.tuple #[])) w') : wpList P ops Q (o :: rest) a w := by
  refine wpList_plain hg fun K' hK' => ?_
  obtain ⟨w', hrun, r1, r2⟩ := run_delete_is h ht hk k o.type kt
  unfold Oper.wp
  simp [execOp, hop, resolve, invoke, builtin, hm, hx, hrun, Result.andThen]
  exact hK' _ _ (hK w' r1 r2)
omit [DecidableEq κ] in
theorem wpList_len_is (hg : o.guard = none) (m : Operand) (t : TypeId) (hop : o.op = Op.call { callee := Callee.builtin Builtin.len, args := #[m], argTypes := #[t] }) (E : KEnc κ) (es : List (κ × Value)) (ke el : TypeId)
    (ht : P.underlying t = some (.map ke el)) (b : Nat) (hm : a.eval m = .map (some b)) (h : MapIs E w b es)
    (hK : wpList P ops Q rest (a.put o.dst (.int .i64 es.length)) w) : wpList P ops Q (o :: rest) a w := by
  refine wpList_plain hg fun K' hK' => ?_
  have hrun := run_len_is h ht o.type
  unfold Oper.wp
  simp [execOp, hop, resolve, invoke, builtin, hm, hrun, Result.andThen]
  exact hK' _ _ hK
end
end Go.Proofs.YtnpgjdhigcjihaaGreatDoor
