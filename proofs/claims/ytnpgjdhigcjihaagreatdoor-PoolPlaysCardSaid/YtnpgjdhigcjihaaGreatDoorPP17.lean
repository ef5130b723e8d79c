/- Joined texts: Range. -/
import Derived.Test.YtnpgjdhigcjihaaGreatDoorPP06
import Derived.Maps.RangeWalk
/- Ranging over a map that the loop does not write, as a list of pairs: each key comes once, in whatever order. -/
namespace Go.Proofs.YtnpgjdhigcjihaaGreatDoor
open Go.RowKit Go.MapKept
open Go.ChangeMaps (setBlock)

section
variable {κ : Type} {E : KEnc κ}
theorem length_of_subset {α : Type} {l m : List α} (hn : l.Nodup) (hs : ∀ x ∈ l, x ∈ m) : l.length ≤ m.length := by
  classical
  induction l generalizing m with
  | nil => simp
  | cons a l ih =>
    rw [List.nodup_cons] at hn
    have ha := hs a List.mem_cons_self
    have h1 := ih hn.2 (m := m.erase a) fun x hx => (List.mem_erase_of_ne (fun e => hn.1 (by rw [← e]; exact hx) : x ≠ a)).2 (hs x (List.mem_cons_of_mem _ hx))
    rw [List.length_erase_of_mem ha] at h1
    have := List.length_pos_of_mem ha
    rw [List.length_cons]
    omega
theorem setBlock_at {w : World} {r : Nat} {o o' : Obj} (h : w.heap[r]? = some o) : (setBlock w r o').heap[r]? = some o' := by
  have hl := (Array.getElem?_eq_some_iff.1 h).1
  simp [setBlock, hl]
theorem setBlock_other {w : World} {r k : Nat} (o' : Obj) (h : k ≠ r) : (setBlock w r o').heap[k]? = w.heap[k]? := by
  simp [setBlock, Array.getElem?_setIfInBounds_ne (Ne.symm h)]
/-- Block r is an iterator over the map in block b, which reads as es; these keys have come. -/
def RangeIs (E : KEnc κ) (w : World) (b r : Nat) (es : List (κ × Value)) (done : List κ) : Prop :=
  ∃ arr clock c0 seen, w.heap[b]? = some (.map arr clock) ∧ Stamped arr clock ∧ arr.toList.map (fun e => (e.key, e.val)) = es.map (fun p => (E.enc p.1, p.2)) ∧
    w.heap[r]? = some (.mapIter (some b) clock seen c0) ∧ clock ≤ c0 ∧ (∀ x ∈ arr.toList, (seen.contains x.born = true ↔ ∃ k ∈ done, x.key = E.enc k)) ∧ done.Nodup ∧ ∀ k ∈ done, k ∈ es.map (·.1)
variable {P : Program} {w w' : World} {b r : Nat} {es : List (κ × Value)} {done : List κ}
theorem RangeIs.map (h : RangeIs E w b r es done) : MapIs E w b es := by
  obtain ⟨arr, clock, c0, seen, h1, h2, h3, _⟩ := h
  exact ⟨arr, clock, h1, h2, h3⟩
theorem RangeIs.kept (h : RangeIs E w b r es done) (hb : w'.heap[b]? = w.heap[b]?) (hr : w'.heap[r]? = w.heap[r]?) : RangeIs E w' b r es done := by
  obtain ⟨arr, clock, c0, seen, h1, h2, h3, h4, h5⟩ := h
  exact ⟨arr, clock, c0, seen, hb.trans h1, h2, h3, hr.trans h4, h5⟩
theorem RangeIs.lt (h : RangeIs E w b r es done) : r < w.heap.size := by
  obtain ⟨arr, clock, c0, seen, h1, h2, h3, h4, h5⟩ := h
  exact (Array.getElem?_eq_some_iff.1 h4).1
theorem RangeIs.below (h : RangeIs E w b r es done) (hb : Below w.heap.size w w') : RangeIs E w' b r es done := h.kept (hb.block b h.map.lt) (hb.block r h.lt)
theorem RangeIs.drewN (h : RangeIs E w b r es done) (n : Nat) : RangeIs E (w.drewN n) b r es done := h
theorem RangeIs.nodup (h : RangeIs E w b r es done) : done.Nodup := by
  obtain ⟨arr, clock, c0, seen, h1, h2, h3, h4, h5, h6, h7, h8⟩ := h
  exact h7
theorem RangeIs.keys (h : RangeIs E w b r es done) : ∀ k ∈ done, k ∈ es.map (·.1) := by
  obtain ⟨arr, clock, c0, seen, h1, h2, h3, h4, h5, h6, h7, h8⟩ := h
  exact h8
theorem RangeIs.count (h : RangeIs E w b r es done) : done.length ≤ es.length := by
  have := length_of_subset h.nodup h.keys
  simpa using this
open Classical in
theorem filter_count {α : Type} {K done : List α} (hK : K.Nodup) (hd : done.Nodup) (hs : ∀ k ∈ done, k ∈ K) : (K.filter fun k => decide (k ∉ done)).length + done.length = K.length := by
  have h1 : (K.filter fun k => decide (k ∈ done)).length = done.length := by
    apply Nat.le_antisymm
    · exact length_of_subset (hK.filter _) fun x hx => by simpa using (List.mem_filter.1 hx).2
    · exact length_of_subset hd fun x hx => List.mem_filter.2 ⟨hs x hx, by simpa using hx⟩
  have h2 : ∀ l : List α, (l.filter fun k => decide (k ∉ done)).length + (l.filter fun k => decide (k ∈ done)).length = l.length := by
    intro l
    induction l with
    | nil => rfl
    | cons a l ih =>
      rw [List.filter_cons, List.filter_cons]
      by_cases h : a ∈ done
      · rw [if_neg (by simpa using h), if_pos (by simpa using h), List.length_cons, List.length_cons]; omega
      · rw [if_pos (by simpa using h), if_neg (by simpa using h), List.length_cons, List.length_cons]; omega
  have := h2 K
  omega
open Classical in
theorem left_filter {seen : Array Nat} {done : List κ} : ∀ (A : List MapEntry) (es : List (κ × Value)), A.map (fun e => (e.key, e.val)) = es.map (fun p => (E.enc p.1, p.2)) → (∀ x ∈ A, (seen.contains x.born = true ↔ ∃ k ∈ done, x.key = E.enc k)) →
    (A.filter fun e => !seen.contains e.born).length = ((es.map (·.1)).filter fun k => decide (k ∉ done)).length
  | [], [], _, _ => rfl
  | [], _ :: _, h, _ => by simp at h
  | _ :: _, [], h, _ => by simp at h
  | x :: A, p :: es, h, hx => by
    simp only [List.map_cons, List.cons.injEq, Prod.mk.injEq] at h
    have ih := left_filter A es h.2 fun y hy => hx y (List.mem_cons_of_mem _ hy)
    rw [List.filter_cons, List.map_cons, List.filter_cons]
    have hc := hx x List.mem_cons_self
    by_cases hd : p.1 ∈ done
    · have : seen.contains x.born = true := hc.2 ⟨p.1, hd, h.1.1⟩
      rw [if_neg (by rw [this]; simp), if_neg (by simpa using hd), ih]
    · have : seen.contains x.born = false := by
        rw [Bool.eq_false_iff]
        intro e
        obtain ⟨k, hk, hke⟩ := hc.1 e
        have : p.1 = k := E.inj _ _ (h.1.1.symm.trans hke)
        exact hd (this ▸ hk)
      rw [if_pos (by rw [this]; rfl), if_pos (by simpa using hd), List.length_cons, List.length_cons, ih]
theorem RangeIs.left (h : RangeIs E w b r es done) : w.rangeLeft b r + done.length = es.length := by
  have hK := h.map.nodup
  have hd := h.nodup
  have hs := h.keys
  obtain ⟨arr, clock, c0, seen, h1, h2, h3, h4, h5, h6, h7, h8⟩ := h
  have e := left_filter (E := E) (seen := seen) (done := done) arr.toList es h3 h6
  have e2 := filter_count hK hd hs
  have e3 : w.rangeLeft b r = (arr.toList.filter fun e => !seen.contains e.born).length := by
    simp only [World.rangeLeft, h1, h4]
    unfold leftOf
    rw [← Array.toList_filter, Array.length_toList]
  rw [e3, e]
  simpa using e2
variable {ops : Array Oper} {rest : List Oper} {o : Oper} {a : Act} {Q : Exit → Act → World → Prop}
theorem wpList_range_is (hg : o.guard = none) (m : Operand) (t : TypeId) (hop : o.op = Op.range t m) (E : KEnc κ) (es : List (κ × Value)) (ke el : TypeId) (ht : P.underlying t = some (.map ke el))
    (b : Nat) (hm : a.eval m = .map (some b)) (h : MapIs E w b es)
    (hK : ∀ w', RangeIs E w' b w.heap.size es [] → Below w.heap.size w w' → w'.heap.size = w.heap.size + 1 → wpList P ops Q rest (a.put o.dst (.pointer (some ⟨w.heap.size, 0, none⟩))) w') : wpList P ops Q (o :: rest) a w := by
  refine wpList_plain hg fun K' hK' => ?_
  have hlt := h.lt
  obtain ⟨arr, clock, h1, h2, h3⟩ := h
  have hrun := run_range_map (P := P) w t ke el b arr clock ht h1
  unfold Oper.wp
  simp [execOp, hop, hm, hrun, Result.andThen]
  refine hK' _ _ (hK _ ⟨arr, clock, clock, #[], (Below.heap_alloc w _ b hlt).trans h1, h2, h3, heap_alloc_new w _, Nat.le_refl _, fun x _ => by simp, List.nodup_nil, fun k hk => by simp at hk⟩ ((Below.refl _ _).alloc (Nat.le_refl _) _) (by simp))
theorem wpList_next_is (hg : o.guard = none) (it : Operand) (hop : o.op = Op.next it false) (E : KEnc κ) (es : List (κ × Value)) (done : List κ) (b r : Nat) (hit : a.eval it = .pointer (some ⟨r, 0, none⟩)) (h : RangeIs E w b r es done)
    (hDone : (∀ p ∈ es, p.1 ∈ done) → wpList P ops Q rest (a.put o.dst (.tuple #[.bool false])) w)
    (hMore : ∀ (k : κ) (v : Value) (w' : World), (k, v) ∈ es → k ∉ done → RangeIs E w' b r es (k :: done) → w.grownBy w' (some r) → w'.heap.size = w.heap.size →
      (Instr.entry (.pointer (some ⟨r, 0, none⟩))).run P w' = .ok (.tuple #[E.enc k, v]) w' → wpList P ops Q rest (a.put o.dst (.tuple #[.bool true, E.enc k, v])) w') : wpList P ops Q (o :: rest) a w := by
  have hall := h
  obtain ⟨arr, clock, c0, seen, h1, h2, h3, h4, h5, h6, h7, h8⟩ := h
  refine wpList_plain hg fun K' hK' => ?_
  unfold Oper.wp
  have hbr : b ≠ r := fun e => by rw [e, h4] at h1; cases h1
  rcases run_next_at (P := P) w o.type r b clock c0 seen arr clock h4 h1 h2.1 h5 with ⟨h0, hrun⟩ | ⟨e, he, w1, hw1, hrun⟩
  · simp [execOp, hop, hit, hrun, Result.andThen]
    refine hK' _ _ (hDone fun p hp => ?_)
    obtain ⟨i, hi, rfl⟩ := List.mem_iff_getElem.1 hp
    have hla : arr.toList.length = es.length := by have := congrArg List.length h3; simpa using this
    have hi' : i < arr.toList.length := by omega
    have hpe := congrArg (fun l => l[i]?) h3
    simp only [List.getElem?_map, List.getElem?_eq_getElem hi', List.getElem?_eq_getElem hi, Option.map_some, Option.some.injEq, Prod.mk.injEq] at hpe
    have hc : seen.contains arr.toList[i].born = true := by
      cases hc : seen.contains arr.toList[i].born with
      | true => rfl
      | false =>
        have hmem : arr.toList[i] ∈ (leftOf arr seen).toList := by
          unfold leftOf
          rw [Array.toList_filter, List.mem_filter]
          exact ⟨List.getElem_mem hi', by rw [hc]; rfl⟩
        have : (leftOf arr seen).toList = [] := by
          have := Array.eq_empty_of_size_eq_zero h0
          rw [this]
        rw [this] at hmem
        cases hmem
    obtain ⟨k, hk, hkey⟩ := (h6 _ (List.getElem_mem hi')).1 hc
    have : es[i].1 = k := E.inj _ _ (hpe.1.symm.trans hkey)
    rw [this]; exact hk
  · unfold leftOf at he
    rw [Array.toList_filter, List.mem_filter] at he
    obtain ⟨hea, hes⟩ := he
    obtain ⟨i, hi⟩ := List.mem_iff_getElem?.1 hea
    obtain ⟨p, hp, hk, hv⟩ := entry_of h3 hi
    have hns : seen.contains e.born = false := by simpa using hes
    have hnd : p.1 ∉ done := fun hd => by
      have := (h6 e hea).2 ⟨p.1, hd, hk⟩
      rw [hns] at this; cases this
    simp [execOp, hop, hit, hrun, Result.andThen]
    have hr1 : w1.heap[r]? = some (.mapIter (some b) clock seen c0) := by rcases hw1 with rfl | rfl <;> exact h4
    have hb1 : w1.heap[b]? = some (.map arr clock) := by rcases hw1 with rfl | rfl <;> exact h1
    have hbn : (setBlock w1 r (.mapIter (some b) clock (seen.push e.born) clock)).heap[b]? = some (.map arr clock) := (setBlock_other _ hbr).trans hb1
    have hrn : (setBlock w1 r (.mapIter (some b) clock (seen.push e.born) clock)).heap[r]? = some (.mapIter (some b) clock (seen.push e.born) clock) := setBlock_at hr1
    have hent := run_entry_at (P := P) _ r b clock seen arr clock e hrn hbn hea h2.2.1
    rw [hk, hv] at hent ⊢
    refine hK' _ _ (hMore p.1 p.2 _ (List.mem_of_getElem? hp) hnd ⟨arr, clock, clock, seen.push e.born, hbn, h2, h3, hrn, Nat.le_refl _, fun x hx => ?_, List.nodup_cons.2 ⟨hnd, h7⟩, fun k hk => ?_⟩ ?_ ?_ hent)
    · rw [Array.contains_push, Bool.or_eq_true]
      constructor
      · rintro (hc | hc)
        · obtain ⟨k, hk, hke⟩ := (h6 x hx).1 hc
          exact ⟨k, List.mem_cons_of_mem _ hk, hke⟩
        · have hxe : x = e := by
            have hb : x.born = e.born := by simpa using hc
            have hn := h2.2.1
            obtain ⟨j, hj, rfl⟩ := List.mem_iff_getElem.1 hx
            obtain ⟨j', hj', rfl⟩ := List.mem_iff_getElem.1 hea
            have hjj : j = j' := by
              have := (List.getElem_inj (xs := arr.toList.map (·.born)) (i := j) (j := j') (h₀ := by simpa using hj) (h₁ := by simpa using hj') hn).1 (by simpa using hb)
              exact this
            subst hjj; rfl
          subst hxe
          exact ⟨p.1, List.mem_cons_self, hk⟩
      · rintro ⟨k, hk', hke⟩
        rcases List.mem_cons.1 hk' with rfl | hk'
        · right
          have : x = e := by
            have hn := h2.2.2
            obtain ⟨j, hj, rfl⟩ := List.mem_iff_getElem.1 hx
            obtain ⟨j', hj', rfl⟩ := List.mem_iff_getElem.1 hea
            have hjj : j = j' := by
              have := (List.getElem_inj (xs := arr.toList.map (·.key)) (i := j) (j := j') (h₀ := by simpa using hj) (h₁ := by simpa using hj') hn).1 (by simpa using hke.trans hk.symm)
              exact this
            subst hjj; rfl
          rw [this]; simp
        · left
          exact (h6 x hx).2 ⟨k, hk', hke⟩
    · rcases List.mem_cons.1 hk with rfl | hk
      · exact List.mem_map_of_mem (List.mem_of_getElem? hp)
      · exact h8 k hk
    · rcases hw1 with rfl | rfl
      · exact ⟨rfl, rfl, rfl, by simp [setBlock], fun k _ hk => setBlock_other _ fun e => hk (by rw [e])⟩
      · exact ⟨rfl, rfl, rfl, by simp [setBlock], fun k _ hk => setBlock_other (w := w.drew) _ fun e => hk (by rw [e])⟩
    · rcases hw1 with rfl | rfl <;> simp [setBlock]
end
end Go.Proofs.YtnpgjdhigcjihaaGreatDoor
