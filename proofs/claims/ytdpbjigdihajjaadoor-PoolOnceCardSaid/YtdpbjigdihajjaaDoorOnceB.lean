/- The law PoolOnce: what stands where; look-ups and stores at texts. -/
import Derived.Test.YtdpbjigdihajjaaDoorOnceP
namespace Go.Proofs.YtdpbjigdihajjaaDoor
open Go.RowKit

theorem zeroInt (w : World) : (zeroValue 3).run Tryd.prog w = .ok (.int .i64 0) w := by kernel_rfl
section
variable {ops : Array Oper} {rest : List Oper} {o : Oper} {a : Act} {Q : Exit → Act → World → Prop} {w : World}
theorem wpList_lookT (hg : o.guard = none) (m x : Operand) (hop : o.op = Op.lookup 34 m x false) (l : TN) (b : Nat) (hm : a.eval m = .map (some b)) (h : MapIs kStr w b (tnV l)) (k : ByteArray) (hx : a.eval x = .string k)
    (y : Int) (hy : (lkT l k).getD 0 = y) (hK : wpList Tryd.prog ops Q rest (a.put o.dst (.int .i64 y)) w) : wpList Tryd.prog ops Q (o :: rest) a w := by
  refine wpList_lookup_is hg m x _ false hop kStr (tnV l) 9 3 Tryd.underlying34 Tryd.underlying9 _ (zeroInt w) b hm h k hx ?_
  have e : (lk (tnV l) k).getD (.int .i64 0) = .int .i64 y := by
    rw [lk_tnV, ← hy]
    cases lkT l k <;> rfl
  rw [e]
  exact hK
theorem wpList_lookT2 (hg : o.guard = none) (m x : Operand) (hop : o.op = Op.lookup 34 m x true) (l : TN) (b : Nat) (hm : a.eval m = .map (some b)) (h : MapIs kStr w b (tnV l)) (k : ByteArray) (hx : a.eval x = .string k)
    (y : Int) (q : Bool) (hy : (lkT l k).getD 0 = y) (hq : (lkT l k).isSome = q) (hK : wpList Tryd.prog ops Q rest (a.put o.dst (.tuple #[.int .i64 y, .bool q])) w) : wpList Tryd.prog ops Q (o :: rest) a w := by
  refine wpList_lookup_is hg m x _ true hop kStr (tnV l) 9 3 Tryd.underlying34 Tryd.underlying9 _ (zeroInt w) b hm h k hx ?_
  have e : (lk (tnV l) k).getD (.int .i64 0) = .int .i64 y := by
    rw [lk_tnV, ← hy]
    cases lkT l k <;> rfl
  have e2 : (lk (tnV l) k).isSome = q := by
    rw [lk_tnV, ← hq]
    cases lkT l k <;> rfl
  rw [e, e2]
  exact hK
theorem wpList_updT (hg : o.guard = none) (m x v : Operand) (hop : o.op = Op.mapUpdate 34 m x v) (l : TN) (b : Nat) (hm : a.eval m = .map (some b)) (h : MapIs kStr w b (tnV l)) (k : ByteArray) (hx : a.eval x = .string k) (y : Int) (hv : a.eval v = .int .i64 y)
    (hK : ∀ w', MapIs kStr w' b (tnV (putT l k y)) → w.grownBy w' (some b) → wpList Tryd.prog ops Q rest (a.put o.dst undef) w') : wpList Tryd.prog ops Q (o :: rest) a w := by
  refine wpList_update_is hg m x v _ hop kStr (tnV l) 9 3 Tryd.underlying34 Tryd.underlying9 b hm h k hx _ hv fun w' h1 h2 => hK w' ?_ h2
  rw [← put_tnV]
  exact h1
end

theorem ShelfIs.tight {w : World} {F : Nat → Prop} {s : Value} {bs : List (List (Int × Int))} (h : ShelfIs w F s bs) : ShelfIs w (fun k => F k ∧ k < w.heap.size) s bs := by
  obtain ⟨p, g, vs, h1, h2, h3, h4, h5, h6, h7, h8, h9, h10, h11, h12, h13, h14⟩ := h
  refine ⟨p, g, vs, h1, h2, h3, ⟨h4, h2⟩, ⟨h5, h3⟩, h6, h7, h8, h9, h10, h11, h12, fun v hv k hk => ?_, h14⟩
  obtain ⟨i, hi, rfl⟩ := List.mem_iff_getElem.1 hv
  exact ⟨⟨(h13 _ hv k hk).1, ((h12 i (by omega) hi).lt k hk).2⟩, (h13 _ hv k hk).2⟩
/-- The pool's blocks are those that it had, and new ones that come behind the world w'. -/
def Split (G : Nat → Prop) (m m' : Nat) : Nat → Prop := fun k => (G k ∧ k < m) ∨ m' ≤ k
theorem Pl.split {w w' : World} {G : Nat → Prop} {s : Value} {most : Int} {es : List (Int × Blk)} (h : Pl w G s most es) (hb : Below w.heap.size w w') (m' : Nat) : Pl w' (Split G w.heap.size m') s most es := by
  obtain ⟨bs, h1, h2⟩ := h
  refine ⟨bs, ?_, h2⟩
  have h1' : PoolIs w (Split G w.heap.size m') s most es bs := by
    obtain ⟨p, m, q, k1, k2, k3, k4, k5, k6, k7, k8, k9, k10, k11⟩ := h1
    exact ⟨p, m, q, k1, k2, k3, .inl ⟨k4, k2⟩, .inl ⟨k5, k3⟩, k6, k7, k8, k9, k10, k11.tight.mono fun k hk => ⟨.inl ⟨hk.1.1, hk.2⟩, hk.1.2⟩⟩
  exact h1'.below hb
theorem MapIs.chg {κ : Type} {E : KEnc κ} {w w' : World} {b : Nat} {es : List (κ × Value)} {G : Nat → Prop} (h : MapIs E w b es) (hc : Chg G w w') (hn : ¬ G b) : MapIs E w' b es := h.kept (hc.block b h.lt hn)
theorem RangeIs.chg {κ : Type} {E : KEnc κ} {w w' : World} {b r : Nat} {es : List (κ × Value)} {done : List κ} {G : Nat → Prop} (h : RangeIs E w b r es done) (hc : Chg G w w') (hn : ¬ G b) (hr : ¬ G r) : RangeIs E w' b r es done :=
  h.kept (hc.block b h.map.lt hn) (hc.block r h.lt hr)
theorem Pl.grown {w w' : World} {G : Nat → Prop} {s : Value} {most : Int} {es : List (Int × Blk)} (h : Pl w G s most es) {r : Nat} (hg : w.grownBy w' (some r)) (hn : ¬ G r) : Pl w' G s most es := by
  obtain ⟨bs, h1, h2⟩ := h
  exact ⟨bs, h1.keep hg.size fun k hk hk2 => hg.block k hk fun e => hn (by injection e with e; exact e ▸ hk2), h2⟩

theorem zeroBool (w : World) : (zeroValue 4).run Tryd.prog w = .ok (.bool false) w := by kernel_rfl
/-- The look-up of an id that has not come, of a text's count: at whatever draw. -/
def LkN (w : World) (bs bn : Nat) (id : Int) (b : ByteArray) (c : Int) : Prop :=
  (∀ n, (Instr.lookup 37 (.map (some bs)) (.int .i64 id) false).run Tryd.prog (w.drewN n) = .ok (.bool false) (w.drewN n)) ∧
  (∀ n, (Instr.lookup 34 (.map (some bn)) (.string b) false).run Tryd.prog (w.drewN n) = .ok (.int .i64 c) (w.drewN n))
theorem LkN.of {w : World} {bs bn : Nat} {S : List (Int × Value)} {C : TN} (hS : MapIs kInt w bs S) (hC : MapIs kStr w bn (tnV C)) {id : Int} {b : ByteArray} {c : Int} (h1 : lk S id = none) (h2 : lkT C b = some c) : LkN w bs bn id b c := by
  refine ⟨fun n => ?_, fun n => ?_⟩
  · have := run_lookup_is (P := Tryd.prog) (hS.drewN n) Tryd.underlying37 Tryd.underlying3 (zeroBool _) id false
    rw [h1] at this
    exact this
  · have := run_lookup_is (P := Tryd.prog) (hC.drewN n) Tryd.underlying34 Tryd.underlying9 (zeroInt _) b false
    rw [lk_tnV, h2] at this
    exact this
theorem LkN.six {W : World} {bs bn : Nat} {id : Int} {b : ByteArray} {c : Int} (h : LkN W bs bn id b c) : ((Instr.lookup 37 (.map (some bs)) (.int .i64 id) false).run Tryd.prog W = .ok (.bool false) W) ∧ ((Instr.lookup 37 (.map (some bs)) (.int .i64 id) false).run Tryd.prog W.drew = .ok (.bool false) W.drew) ∧ ((Instr.lookup 34 (.map (some bn)) (.string b) false).run Tryd.prog W = .ok (.int .i64 c) W) ∧ ((Instr.lookup 34 (.map (some bn)) (.string b) false).run Tryd.prog W.drew = .ok (.int .i64 c) W.drew) ∧ (∀ n, (Instr.lookup 37 (.map (some bs)) (.int .i64 id) false).run Tryd.prog (W.drewN n) = .ok (.bool false) (W.drewN n)) ∧ (∀ n, (Instr.lookup 34 (.map (some bn)) (.string b) false).run Tryd.prog (W.drewN n) = .ok (.int .i64 c) (W.drewN n)) :=
  ⟨h.1 0, h.1 1, h.2 0, h.2 1, h.1, h.2⟩
theorem LkN.ofb {w w' : World} {bs bn : Nat} {S : List (Int × Value)} {C : TN} (hS : MapIs kInt w bs S) (hC : MapIs kStr w bn (tnV C)) {id : Int} {b : ByteArray} {c : Int} (h1 : lk S id = none) (h2 : lkT C b = some c) (hb : ∀ k, k < w.heap.size → w'.heap[k]? = w.heap[k]?) : LkN w' bs bn id b c :=
  LkN.of (hS.kept (hb bs hS.lt)) (hC.kept (hb bn hC.lt)) h1 h2
/-- The ids of the texts that have come, but 0. -/
def SeenIs (S : List (Int × Value)) (I : TN) (done : List ByteArray) : Prop :=
  (∀ id, (∃ b ∈ done, lkT I b = some id ∧ id ≠ 0) → lk S id = some (.bool true)) ∧ ∀ id, ¬ (∃ b ∈ done, lkT I b = some id ∧ id ≠ 0) → lk S id = none
theorem SeenIs.nil (I : TN) : SeenIs [] I [] := ⟨fun id ⟨b, h, _⟩ => by simp at h, fun _ _ => rfl⟩
theorem SeenIs.zero {S : List (Int × Value)} {I : TN} {done : List ByteArray} (h : SeenIs S I done) {b : ByteArray} (hI : lkT I b = some 0) : SeenIs S I (b :: done) := by
  have key : ∀ id, (∃ b' ∈ b :: done, lkT I b' = some id ∧ id ≠ 0) ↔ ∃ b' ∈ done, lkT I b' = some id ∧ id ≠ 0 := fun id => by
    constructor
    · rintro ⟨b', hb, h1, h2⟩
      rcases List.mem_cons.1 hb with rfl | hb
      · rw [hI] at h1; injection h1 with h1; exact absurd h1.symm h2
      · exact ⟨b', hb, h1, h2⟩
    · rintro ⟨b', hb, h1⟩; exact ⟨b', List.mem_cons_of_mem _ hb, h1⟩
  exact ⟨fun id h1 => h.1 id ((key id).1 h1), fun id h1 => h.2 id fun h2 => h1 ((key id).2 h2)⟩
theorem SeenIs.add {S : List (Int × Value)} {I : TN} {done : List ByteArray} (h : SeenIs S I done) {b : ByteArray} {id : Int} (hI : lkT I b = some id) (h0 : id ≠ 0) : SeenIs (put S id (.bool true)) I (b :: done) := by
  refine ⟨fun id' h1 => ?_, fun id' h1 => ?_⟩
  · by_cases e : id' = id
    · subst e; exact lk_put_same _ _ _
    · rw [lk_put_other _ _ e]
      obtain ⟨b', hb, h2, h3⟩ := h1
      rcases List.mem_cons.1 hb with rfl | hb
      · rw [hI] at h2; injection h2 with h2; exact absurd h2.symm e
      · exact h.1 id' ⟨b', hb, h2, h3⟩
  · have e : id' ≠ id := fun e => h1 ⟨b, List.mem_cons_self, e ▸ hI, e ▸ h0⟩
    rw [lk_put_other _ _ e]
    exact h.2 id' fun ⟨b', hb, h2⟩ => h1 ⟨b', List.mem_cons_of_mem _ hb, h2⟩

def eS : Enc ByteArray := ⟨1, fun s _ => .string s⟩
/-- The pool, the ids, the counts, behind so many texts. -/
def OnceW (G : Nat → Prop) (p bi bn : Nat) (w : World) (k : Nat) : Prop :=
  ∃ es I C, Pl w G (.pointer (some ⟨p, 0, none⟩)) 60 es ∧ MapIs kStr w bi (tnV I) ∧ MapIs kStr w bn (tnV C) ∧ OnceInv k es I C

/-- The blocks whose texts have not come. -/
def GoneE (es : List (Int × Blk)) (done : List ByteArray) (es' : List (Int × Blk)) : Prop :=
  (∀ id b r, lkE es id = some (b, r) → b ∉ done → lkE es' id = some (b, r)) ∧ (∀ id b r, lkE es' id = some (b, r) → lkE es id = some (b, r) ∧ b ∉ done) ∧ es'.length ≤ es.length
theorem GoneE.nil (es : List (Int × Blk)) : GoneE es [] es := ⟨fun _ _ _ h _ => h, fun _ _ _ h => ⟨h, by simp⟩, Nat.le_refl _⟩
/-- A block that is let go of, so many times. -/
def MidE (es : List (Int × Blk)) (id : Int) (b : ByteArray) (c : Int) (j : Nat) (es' : List (Int × Blk)) : Prop :=
  (∀ x, lkE es' x = if x = id then (if (j : Int) < c then some (b, c - j) else none) else lkE es x) ∧ es'.length ≤ es.length
theorem MidE.start {es : List (Int × Blk)} {id : Int} {b : ByteArray} {c : Int} (h : lkE es id = some (b, c)) (hc : 0 < c) : MidE es id b c 0 es := by
  refine ⟨fun x => ?_, Nat.le_refl _⟩
  by_cases e : x = id
  · subst e
    rw [if_pos rfl, if_pos (by simpa using hc), h]; simp
  · rw [if_neg e]
theorem MidE.down {es es' : List (Int × Blk)} {id : Int} {b : ByteArray} {c : Int} {j : Nat} (h : MidE es id b c j es') (hj : (j : Int) + 1 < c) : lkE es' id = some (b, c - j) ∧ MidE es id b c (j + 1) (putE es' id (b, c - j - 1)) := by
  have h0 : lkE es' id = some (b, c - j) := by rw [h.1, if_pos rfl, if_pos (by omega)]
  refine ⟨h0, fun x => ?_, by rw [putE_old_len _ _ h0]; exact h.2⟩
  by_cases e : x = id
  · subst e
    rw [lkE_put_same, if_pos rfl, if_pos (by omega)]
    rw [show c - (j : Int) - 1 = c - ((j + 1 : Nat) : Int) by omega]
  · rw [lkE_put_other _ _ e, h.1, if_neg e, if_neg e]
theorem MidE.last {es es' : List (Int × Blk)} {id : Int} {b : ByteArray} {c : Int} {j : Nat} (h : MidE es id b c j es') (hn : (es'.map (·.1)).Nodup) (hj : (j : Int) + 1 = c) : lkE es' id = some (b, 1) ∧ MidE es id b c (j + 1) (delE es' id) := by
  have h0 : lkE es' id = some (b, c - j) := by rw [h.1, if_pos rfl, if_pos (by omega)]
  have h1 : lkE es' id = some (b, 1) := by rw [h0, show c - (j : Int) = 1 by omega]
  refine ⟨h1, fun x => ?_, by have := delE_len hn h0; have := h.2; omega⟩
  rw [lkE_del]
  by_cases e : x = id
  · rw [if_pos e, if_pos e, if_neg (by omega)]
  · rw [if_neg e, if_neg e, h.1, if_neg e]
theorem MidE.done {es0 es es' : List (Int × Blk)} {done : List ByteArray} {id : Int} {b : ByteArray} {c : Int} {j : Nat} (h : MidE es id b c j es') (hj : ¬ (j : Int) < c) (hg : GoneE es0 done es) (hb : lkE es0 id = some (b, c)) (hu : ∀ id' r, lkE es0 id' = some (b, r) → id' = id) : GoneE es0 (b :: done) es' := by
  refine ⟨fun id' b' r h1 h2 => ?_, fun id' b' r h1 => ?_, Nat.le_trans h.2 hg.2.2⟩
  · have hne : id' ≠ id := fun e => by
      rw [e, hb] at h1
      cases h1
      exact h2 List.mem_cons_self
    rw [h.1, if_neg hne]
    exact hg.1 id' b' r h1 fun hm => h2 (List.mem_cons_of_mem _ hm)
  · rw [h.1] at h1
    by_cases e : id' = id
    · rw [if_pos e, if_neg hj] at h1; cases h1
    · rw [if_neg e] at h1
      obtain ⟨h3, h4⟩ := hg.2.1 id' b' r h1
      refine ⟨h3, fun hm => ?_⟩
      rcases List.mem_cons.1 hm with rfl | hm
      · exact e (hu id' r h3)
      · exact h4 hm
theorem GoneE.zero {es0 es : List (Int × Blk)} {done : List ByteArray} {b : ByteArray} (hg : GoneE es0 done es) (hb : ∀ id r, lkE es0 id ≠ some (b, r)) : GoneE es0 (b :: done) es := by
  refine ⟨fun id' b' r h1 h2 => hg.1 id' b' r h1 fun hm => h2 (List.mem_cons_of_mem _ hm), fun id' b' r h1 => ?_, hg.2.2⟩
  obtain ⟨h3, h4⟩ := hg.2.1 id' b' r h1
  refine ⟨h3, fun hm => ?_⟩
  rcases List.mem_cons.1 hm with rfl | hm
  · exact hb _ _ h3
  · exact h4 hm
theorem GoneE.all {es0 es : List (Int × Blk)} {done : List ByteArray} (hg : GoneE es0 done es) (ha : ∀ id b r, lkE es0 id = some (b, r) → b ∈ done) : es = [] := by
  cases es with
  | nil => rfl
  | cons p es =>
    have h1 : lkE (p :: es) p.1 = some (p.2.1, p.2.2) := by unfold lkE; rw [if_pos rfl]
    obtain ⟨h2, h3⟩ := hg.2.1 _ _ _ h1
    exact absurd (ha _ _ _ h2) h3
theorem lookC {w : World} {bn : Nat} {C : TN} (hC : MapIs kStr w bn (tnV C)) {b : ByteArray} {c : Int} (h2 : lkT C b = some c) : (Instr.lookup 34 (.map (some bn)) (.string b) false).run Tryd.prog w = .ok (.int .i64 c) w := by
  have := run_lookup_is (P := Tryd.prog) hC Tryd.underlying34 Tryd.underlying9 (zeroInt _) b false
  rw [lk_tnV, h2] at this
  exact this
end Go.Proofs.YtdpbjigdihajjaaDoor
