/- Joined texts: KeysA. -/
import Derived.Test.YtnpgjdhigcjihaaGreatDoorPP06
import Derived.Test.YtnpgjdhigcjihaaGreatDoorPP13
/- The keys of a map from numbers: what the library's contracts ask. -/
namespace Go.Proofs.YtnpgjdhigcjihaaGreatDoor
open Go.RowKit Go.Maps Go.Sort Go.Shelf Go.MapKept Go.WideElems

/-- Of a map's values nothing is read. -/
def rNil : Value → Option (DataW Unit × List MemPlace) := fun _ => some (.nil, [])
def InInt (k : Int) : Prop := -9223372036854775808 ≤ k ∧ k ≤ 9223372036854775807
theorem map_keys {β : Type} (P : β → Prop) (f : β → Int) (g : MapEntry → Lit × DataW Unit) (h : ∀ (x : MapEntry) (p : β), P p → x.key = .int .i64 (f p) → g x = (.int .i64 (f p), .nil)) :
    ∀ (l : List MapEntry) (m : List β), (∀ p ∈ m, P p) → l.map (fun e => e.key) = m.map (fun p => Value.int .i64 (f p)) → (l.map g).map (fun p => Go.intOf p.1) = m.map f
  | [], [], _, _ => rfl
  | [], p :: m, _, e => by simp at e
  | x :: l, [], _, e => by simp at e
  | x :: l, p :: m, hp, e => by
    simp only [List.map_cons, List.cons.injEq] at e ⊢
    rw [h x p (hp p List.mem_cons_self) e.1]
    exact ⟨rfl, map_keys P f g h l m (fun q hq => hp q (List.mem_cons_of_mem _ hq)) e.2⟩
theorem rd_int {x : MapEntry} {k : Int} (hx : x.key = .int .i64 k) (hk : InInt k) : Go.WideElems.rd Tryz.prog 3 rNil x = some (.int .i64 k, .nil) := by
  have hw : (Lit.int .i64 k).wf = true := by
    unfold InInt at hk
    simp [Lit.wf, IntKind.min, IntKind.max, IntKind.signed, IntKind.bits]
    omega
  unfold Go.WideElems.rd
  rw [hx, keyOf_int_mk Tryz.underlying3 hw]
  rfl
theorem MapIs.owns {w : World} {b : Nat} {es : List (Int × Value)} (h : MapIs kInt w b es) (hk : ∀ k ∈ es.map (·.1), InInt k) (hn : es.length ≤ maxLen) :
    ∃ D : DataW Unit, w.ownsMap Tryz.prog 3 rNil b es.length D ∧ (intKeys D).Perm (es.map (·.1)) ∧ Maps.size D = es.length := by
  obtain ⟨arr, clock, h1, h2, h3⟩ := h
  have hl : arr.size = es.length := by have := congrArg List.length h3; simpa using this
  have key : ∀ x ∈ arr.toList, ∃ k : Int, x.key = .int .i64 k ∧ InInt k := by
    intro x hx
    obtain ⟨j, hj⟩ := List.mem_iff_getElem?.1 hx
    obtain ⟨p, hp, e1, _⟩ := entry_of h3 hj
    exact ⟨p.1, e1, hk _ (List.mem_map.2 ⟨p, List.mem_of_getElem? hp, rfl⟩)⟩
  refine ⟨_, ⟨arr, clock, h1, ⟨by omega, h2, fun x hx => ?_⟩, by omega, rfl⟩, ?_, ?_⟩
  · obtain ⟨k, e1, e2⟩ := key x hx
    exact ⟨_, rd_int e1 e2⟩
  · show ((arr.toList.map (Go.WideElems.rg Tryz.prog 3 rNil)).foldr DataW.insert []).map (fun p => Go.intOf p.1) |>.Perm _
    refine ((Go.WideShapes.sorted_perm _).map _).trans ?_
    rw [map_keys (fun p : Int × Value => InInt p.1) (·.1) (Go.WideElems.rg Tryz.prog 3 rNil) (fun x p hp hx => rg_of (rd_int hx hp)) arr.toList es (fun p hp => hk _ (List.mem_map.2 ⟨p, hp, rfl⟩)) ?_]
    have := congrArg (List.map Prod.fst) h3
    simpa [List.map_map, Function.comp_def, kInt] using this
  · show ((arr.toList.map (Go.WideElems.rg Tryz.prog 3 rNil)).foldr DataW.insert []).length = _
    rw [length_sorted]
    simp [hl]
theorem Tryz.sortsInt (m : Nat) : AnyZI.SortsIn Tryz.prog Tryz.sortedInt_ren Fence.wide m :=
  ⟨fun blk off cap ss W hH hblk hsz => callsIn_wide.2 (Tryz.slices_Sort_int blk off cap ss W hH hblk hsz),
   fun p cap W => callsIn_wide.2 (Tryz.slices_Sort_int_none p cap W)⟩
end Go.Proofs.YtnpgjdhigcjihaaGreatDoor
