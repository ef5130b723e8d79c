/- What a pool is: its map, its shelf. -/
import Derived.Test.YtdpbjigdihajjaaDoorShelfJ
import Derived.Test.YtdpbjigdihajjaaDoorPoolA
import Derived.Test.YtdpbjigdihajjaaDoorPrint
namespace Go.Proofs.YtdpbjigdihajjaaDoor
open Go.RowKit

/-- A block, how often it is held. -/
abbrev Blk := ByteArray × Int
def blkV (x : Blk) : Value := .agg #[.string x.1, .int .i64 x.2]
def esV (es : List (Int × Blk)) : List (Int × Value) := es.map fun e => (e.1, blkV e.2)
def lkE : List (Int × Blk) → Int → Option Blk
  | [], _ => none
  | p :: es, k => if p.1 = k then some p.2 else lkE es k
def putE : List (Int × Blk) → Int → Blk → List (Int × Blk)
  | [], k, v => [(k, v)]
  | p :: es, k, v => if p.1 = k then (k, v) :: es else p :: putE es k v
def delE (es : List (Int × Blk)) (k : Int) : List (Int × Blk) := es.filter fun p => p.1 ≠ k
theorem lk_esV (es : List (Int × Blk)) (k : Int) : lk (esV es) k = (lkE es k).map blkV := by
  induction es with
  | nil => rfl
  | cons p es ih =>
    unfold esV at ih ⊢
    rw [List.map_cons]
    unfold lk lkE
    by_cases h : p.1 = k
    · rw [if_pos h, if_pos h]; rfl
    · rw [if_neg h, if_neg h, ih]
theorem put_esV (es : List (Int × Blk)) (k : Int) (x : Blk) : put (esV es) k (blkV x) = esV (putE es k x) := by
  induction es with
  | nil => rfl
  | cons p es ih =>
    unfold esV at ih ⊢
    rw [List.map_cons]
    unfold put putE
    by_cases h : p.1 = k
    · rw [if_pos h, if_pos h]; rfl
    · rw [if_neg h, if_neg h, List.map_cons, ih]
theorem del_esV (es : List (Int × Blk)) (k : Int) : del (esV es) k = esV (delE es k) := by
  unfold del esV delE
  rw [List.filter_map]
  rfl
theorem esV_keys (es : List (Int × Blk)) : (esV es).map (·.1) = es.map (·.1) := by simp [esV]
theorem esV_len (es : List (Int × Blk)) : (esV es).length = es.length := by simp [esV]

/-- The pool s has room for so many, has these blocks; its shelf has these buckets. -/
def PoolIs (w : World) (G : Nat → Prop) (s : Value) (most : Int) (es : List (Int × Blk)) (bs : List (List (Int × Int))) : Prop :=
  ∃ (p m : Nat) (q : Nat), s = .pointer (some ⟨p, 0, none⟩) ∧ p < w.heap.size ∧ m < w.heap.size ∧ G p ∧ G m ∧ p ≠ m ∧
    w.cell? ⟨p, 0, none⟩ = some (.int .i64 most) ∧ w.cell? ⟨p, 1, none⟩ = some (.map (some m)) ∧ w.cell? ⟨p, 2, none⟩ = some (.pointer (some ⟨q, 0, none⟩)) ∧
    MapIs kInt w m (esV es) ∧ ShelfIs w (fun k => G k ∧ k ≠ p ∧ k ≠ m) (.pointer (some ⟨q, 0, none⟩)) bs
section
variable {w w' : World} {G : Nat → Prop} {s : Value} {most : Int} {es : List (Int × Blk)} {bs : List (List (Int × Int))}
theorem PoolIs.keep (h : PoolIs w G s most es bs) (hs : w.heap.size ≤ w'.heap.size) (hb : ∀ k, k < w.heap.size → G k → w'.heap[k]? = w.heap[k]?) : PoolIs w' G s most es bs := by
  obtain ⟨p, m, q, h1, h2, h3, h4, h5, h6, h7, h8, h9, h10, h11⟩ := h
  have hp := hb p h2 h4
  exact ⟨p, m, q, h1, by omega, by omega, h4, h5, h6, (World.cell?_of_block (a := ⟨p, 0, none⟩) hp).trans h7, (World.cell?_of_block (a := ⟨p, 1, none⟩) hp).trans h8, (World.cell?_of_block (a := ⟨p, 2, none⟩) hp).trans h9,
    h10.kept (hb m h3 h5), h11.keep hs fun k hk hf => hb k hk hf.1⟩
theorem PoolIs.below (h : PoolIs w G s most es bs) (hb : Below w.heap.size w w') : PoolIs w' G s most es bs := h.keep hb.size fun k hk _ => hb.block k hk
theorem PoolIs.drewN (h : PoolIs w G s most es bs) (n : Nat) : PoolIs (w.drewN n) G s most es bs := h
theorem PoolIs.mono {G' : Nat → Prop} (h : PoolIs w G s most es bs) (hG : ∀ k, G k → G' k) : PoolIs w G' s most es bs := by
  obtain ⟨p, m, q, h1, h2, h3, h4, h5, h6, h7, h8, h9, h10, h11⟩ := h
  exact ⟨p, m, q, h1, h2, h3, hG _ h4, hG _ h5, h6, h7, h8, h9, h10, h11.mono fun k hk => ⟨hG _ hk.1, hk.2⟩⟩
theorem PoolIs.ptr (h : PoolIs w G s most es bs) : ∃ p, s = .pointer (some ⟨p, 0, none⟩) := by
  obtain ⟨p, m, q, h1, _⟩ := h
  exact ⟨p, h1⟩
theorem PoolIs.nodup (h : PoolIs w G s most es bs) : (es.map (·.1)).Nodup := by
  obtain ⟨p, m, q, h1, h2, h3, h4, h5, h6, h7, h8, h9, h10, h11⟩ := h
  rw [← esV_keys]
  exact h10.nodup
end
theorem field1 (t : ByteArray) (r : Int) (w : World) : (Instr.field 70 (.agg #[.string t, .int .i64 r]) 1).run Tryd.prog w = .ok (.int .i64 r) w := by kernel_rfl
theorem field0 (t : ByteArray) (r : Int) (w : World) : (Instr.field 70 (.agg #[.string t, .int .i64 r]) 0).run Tryd.prog w = .ok (.string t) w := by kernel_rfl
theorem zeroBlk (w : World) : (zeroValue 70).run Tryd.prog w = .ok (.agg #[.string ⟨#[]⟩, .int .i64 0]) w := by kernel_rfl

section
variable {ops : Array Oper} {rest : List Oper} {o : Oper} {a : Act} {Q : Exit → Act → World → Prop} {w : World}
theorem wpList_lookup_blk (hg : o.guard = none) (m x : Operand) (hop : o.op = Op.lookup 62 m x false) (es : List (Int × Blk))
    (b : Nat) (hm : a.eval m = .map (some b)) (h : MapIs kInt w b (esV es)) (k : Int) (hx : a.eval x = .int .i64 k) (t : ByteArray) (r : Int) (htr : (lkE es k).getD (⟨#[]⟩, 0) = (t, r))
    (hK : wpList Tryd.prog ops Q rest (a.put o.dst (.agg #[.string t, .int .i64 r])) w) : wpList Tryd.prog ops Q (o :: rest) a w := by
  refine wpList_lookup_is hg m x _ false hop kInt (esV es) 3 70 Tryd.underlying62 Tryd.underlying3 _ (zeroBlk w) b hm h k hx ?_
  have e : (lk (esV es) k).getD (.agg #[.string ⟨#[]⟩, .int .i64 0]) = .agg #[.string t, .int .i64 r] := by
    rw [lk_esV]
    cases hl : lkE es k with
    | none => rw [hl] at htr; cases htr; rfl
    | some y => rw [hl] at htr; simp only [Option.getD_some] at htr; subst htr; rfl
  rw [e]
  exact hK
end
end Go.Proofs.YtdpbjigdihajjaaDoor
