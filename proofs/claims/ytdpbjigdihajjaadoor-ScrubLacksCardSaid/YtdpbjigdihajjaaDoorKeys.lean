/- The keys of a map from numbers, sorted: by the library's contracts. -/
import Derived.Test.YtdpbjigdihajjaaDoorMap
import Derived.Test.YtdpbjigdihajjaaDoorSort
namespace Go.Proofs.YtdpbjigdihajjaaDoor
open Go.RowKit Go.Maps Go.Sort Go.Shelf Go.MapKept Go.WideElems

/-- Of a map's values nothing is read. -/
def rNil : Value → Option (DataW Unit × List MemPlace) := fun _ => some (.nil, [])
def InInt (k : Int) : Prop := -9223372036854775808 ≤ k ∧ k ≤ 9223372036854775807
theorem map_keys {β : Type} (P : β → Prop) (f : β → Int) (g : MapEntry → Lit × DataW Unit) (h : ∀ (x : MapEntry) (p : β), P p → x.key = .int .i64 (f p) → g x = (.int .i64 (f p), .nil)) :
    ∀ (l : List MapEntry) (m : List β), (∀ p ∈ m, P p) → l.map (fun e => e.key) = m.map (fun p => Value.int .i64 (f p)) → (l.map g).map (fun p => Go.intOf p.1) = m.map f
  | [], [], _, _ => rfl
  | [], p :: m, _, e => by simp at e
  | x :: l, [], _, e => by simp at e
  | x :: l, p :: m, hp, e => by
    simp only [List.map_cons, List.cons.injEq] at e ⊢
    rw [h x p (hp p List.mem_cons_self) e.1]
    exact ⟨rfl, map_keys P f g h l m (fun q hq => hp q (List.mem_cons_of_mem _ hq)) e.2⟩
theorem rd_int {x : MapEntry} {k : Int} (hx : x.key = .int .i64 k) (hk : InInt k) : Go.WideElems.rd Tryd.prog 3 rNil x = some (.int .i64 k, .nil) := by
  have hw : (Lit.int .i64 k).wf = true := by
    unfold InInt at hk
    simp [Lit.wf, IntKind.min, IntKind.max, IntKind.signed, IntKind.bits]
    omega
  unfold Go.WideElems.rd
  rw [hx, keyOf_int_mk Tryd.underlying3 hw]
  rfl
theorem MapIs.owns {w : World} {b : Nat} {es : List (Int × Value)} (h : MapIs kInt w b es) (hk : ∀ k ∈ es.map (·.1), InInt k) (hn : es.length ≤ maxLen) :
    ∃ D : DataW Unit, w.ownsMap Tryd.prog 3 rNil b es.length D ∧ (intKeys D).Perm (es.map (·.1)) ∧ Maps.size D = es.length := by
  obtain ⟨arr, clock, h1, h2, h3⟩ := h
  have hl : arr.size = es.length := by have := congrArg List.length h3; simpa using this
  have key : ∀ x ∈ arr.toList, ∃ k : Int, x.key = .int .i64 k ∧ InInt k := by
    intro x hx
    obtain ⟨j, hj⟩ := List.mem_iff_getElem?.1 hx
    obtain ⟨p, hp, e1, _⟩ := entry_of h3 hj
    exact ⟨p.1, e1, hk _ (List.mem_map.2 ⟨p, List.mem_of_getElem? hp, rfl⟩)⟩
  refine ⟨_, ⟨arr, clock, h1, ⟨by omega, h2, fun x hx => ?_⟩, by omega, rfl⟩, ?_, ?_⟩
  · obtain ⟨k, e1, e2⟩ := key x hx
    exact ⟨_, rd_int e1 e2⟩
  · show ((arr.toList.map (Go.WideElems.rg Tryd.prog 3 rNil)).foldr DataW.insert []).map (fun p => Go.intOf p.1) |>.Perm _
    refine ((Go.WideShapes.sorted_perm _).map _).trans ?_
    rw [map_keys (fun p : Int × Value => InInt p.1) (·.1) (Go.WideElems.rg Tryd.prog 3 rNil) (fun x p hp hx => rg_of (rd_int hx hp)) arr.toList es (fun p hp => hk _ (List.mem_map.2 ⟨p, hp, rfl⟩)) ?_]
    have := congrArg (List.map Prod.fst) h3
    simpa [List.map_map, Function.comp_def, kInt] using this
  · show ((arr.toList.map (Go.WideElems.rg Tryd.prog 3 rNil)).foldr DataW.insert []).length = _
    rw [length_sorted]
    simp [hl]
theorem Tryd.sortsInt (m : Nat) : AnyZI.SortsIn Tryd.prog Tryd.sortedInt_ren Fence.wide m :=
  ⟨fun blk off cap ss W hH hblk hsz => callsIn_wide.2 (Tryd.slices_Sort_int blk off cap ss W hH hblk hsz),
   fun p cap W => callsIn_wide.2 (Tryd.slices_Sort_int_none p cap W)⟩
/-- maps.Keys: the map is boxed. -/
theorem keysInt_any (b : Nat) (w : World) : Calls Tryd.prog 43 #[.map (some b)] w fun e w' => e = .returned (.func (.func 67) #[] #[.pointer (some ⟨w.heap.size, 0, none⟩)]) ∧ w' = w.alloc (.cells #[.map (some b)] 86) :=
  (callsIn_wide (n := 5)).1 (AnyZI.keys_in Tryd.keysInt Fence.wide 5 trivial rfl (some b) w)
/-- slices.Sorted over them. -/
theorem sortedInt_any {b : Nat} {es : List (Int × Value)} (w0 : World) (h : MapIs kInt w0 b es) (hk : ∀ k ∈ es.map (·.1), InInt k) (hn : es.length ≤ 1000000) :
    Calls Tryd.prog 42 #[.func (.func 67) #[] #[.pointer (some ⟨w0.heap.size, 0, none⟩)]] (w0.alloc (.cells #[.map (some b)] 86)) fun e w' =>
      ∃ (v : Value) (ss : List Int), e = .returned v ∧ ss.Perm (es.map (·.1)) ∧ ss.Pairwise (· ≤ ·) ∧ Own eI 3 w' w0.heap.size v ss ∧ Below w0.heap.size w0 w' := by
  obtain ⟨D, hown, hperm, hsz⟩ := h.owns hk (Nat.le_trans hn (by decide))
  have hbl := hown.lt
  have hmax : Maps.size D ≤ maxLen := by rw [hsz]; exact Nat.le_trans hn (by decide)
  have hseq : SeqGives Fence.wide 2 Tryd.prog 67 #[.pointer (some ⟨w0.heap.size, 0, none⟩)] encZ (fun ss => ss.Perm (intKeys D)) (Maps.size D) (w0.alloc (.cells #[.map (some b)] 86)) :=
    AnyZI.keys_gives (ρ := Tryd.keysInt_ren) { Tryd.keysInt with } Fence.wide _ trivial rfl (by omega) w0.heap.size b es.length D _ (by simp) (by simp) (by
      obtain ⟨es, clock, hb, Ft, hs, hD⟩ := hown
      exact ⟨es, clock, (Below.heap_alloc _ _ b hbl).trans hb, Ft, hs, hD⟩)
  have cS := AnyZI.sorted_in Tryd.sortedInt Fence.wide 5 trivial trivial trivial trivial rfl (by omega) (Tryd.sortsInt _) (enters_of Tryd.func61 (by kernel_rfl) rfl) 67 #[.pointer (some ⟨w0.heap.size, 0, none⟩)] trivial (enters_of Tryd.func67 (by kernel_rfl) rfl) _ _ hmax (by rw [hsz]; omega) _ hseq
  refine ((callsIn_wide (n := 5)).1 cS).mono ?_
  rintro e w' ⟨v, ss, rfl, hp, hrow, _, hb⟩
  have hB : Below w0.heap.size w0 w' := ((Below.refl _ w0).alloc (Nat.le_refl _) _).trans (hb.mono (by simp))
  refine ⟨v, ss.mergeSort fun x y => decide (x ≤ y), rfl, (List.mergeSort_perm _ _).trans (hp.trans hperm), ?_, ?_, hB⟩
  · refine (List.pairwise_mergeSort (fun a b c h1 h2 => ?_) (fun a b => ?_) ss).imp fun h => of_decide_eq_true h
    · simp only [decide_eq_true_eq] at *; omega
    · simp only [Bool.or_eq_true, decide_eq_true_eq]; omega
  · unfold Own
    rw [flat_ints, List.length_mergeSort]
    exact ownsRow_base_a hrow (by simp)
end Go.Proofs.YtdpbjigdihajjaaDoor
