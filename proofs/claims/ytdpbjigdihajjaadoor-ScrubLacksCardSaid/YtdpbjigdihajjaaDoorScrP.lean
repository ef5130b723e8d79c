/- What a look at blocks finds, as plain lists. -/
import Derived.Test.YtdpbjigdihajjaaDoorOwn
import Derived.Test.YtdpbjigdihajjaaDoorTally
import Derived.Test.YtdpbjigdihajjaaDoorPoolA
namespace Go.Proofs.YtdpbjigdihajjaaDoor
open Go.RowKit

/-- A block: its id, how often it is held, its bytes. -/
structure Shv where
  id : Int
  refs : Int
  bytes : ByteArray
def shv0 : Shv := ⟨0, 0, ⟨#[]⟩⟩
def eSh : Enc Shv := ⟨3, fun p j => match j with | 0 => .int .i64 p.id | 1 => .int .i64 p.refs | _ => .string p.bytes⟩
theorem eSh_one (L : List Shv) : ∀ u ∈ eSh.flat L, u.oneCell' = true := by
  intro u hu
  obtain ⟨x, _, hx⟩ := List.mem_flatMap.1 hu
  simp only [Enc.cells, eSh, List.mem_map, List.mem_range] at hx
  obtain ⟨j, hj, rfl⟩ := hx
  rcases (show j = 0 ∨ j = 1 ∨ j = 2 by omega) with rfl | rfl | rfl <;> rfl
/-- A fault: its kind, its id. -/
def eF : Enc (Int × Int) := ⟨2, fun t j => if j = 0 then .int .i64 t.1 else .int .i64 t.2⟩
theorem eF_one (L : List (Int × Int)) : ∀ u ∈ eF.flat L, u.oneCell' = true := by
  intro u hu
  unfold Enc.flat at hu
  rw [List.mem_flatMap] at hu
  obtain ⟨t, _, hu⟩ := hu
  simp [Enc.cells, eF, List.range_succ] at hu
  rcases hu with rfl | rfl <;> rfl

/-- Was a text seen? -/
def hasT (seen : List ByteArray) (b : ByteArray) : Bool := seen.any fun x => decide (x = b)
theorem hasT_iff {seen : List ByteArray} {b : ByteArray} : hasT seen b = true ↔ b ∈ seen := by
  unfold hasT
  rw [List.any_eq_true]
  constructor
  · rintro ⟨x, hx, he⟩
    have := of_decide_eq_true he
    subst this
    exact hx
  · exact fun h => ⟨b, h, decide_eq_true rfl⟩
/-- What is wrong with a block, behind blocks of these bytes. -/
def badE (W : Int → Int) (b : Shv) : List (Int × Int) := if W b.id = 0 then [(5, b.id)] else if W b.id ≠ b.refs then [(3, b.id)] else []
def bad (W : Int → Int) (seen : List ByteArray) (b : Shv) : List (Int × Int) :=
  (if zeroB b.bytes = true then [(1, b.id)] else []) ++ ((if hasT seen b.bytes = true then [(2, b.id)] else []) ++ badE W b)
/-- What is wrong with the first so many blocks. -/
def bads (W : Int → Int) (l : List Shv) (k : Nat) : List (Int × Int) := (List.range k).flatMap fun i => bad W ((l.take i).map (·.bytes)) (l.getD i shv0)
theorem bads_succ (W : Int → Int) (l : List Shv) (k : Nat) (hk : k < l.length) : bads W l (k + 1) = bads W l k ++ bad W ((l.take k).map (·.bytes)) l[k] := by
  unfold bads
  rw [List.range_succ, List.flatMap_append, List.flatMap_singleton, List.getD_eq_getElem?_getD, List.getElem?_eq_getElem hk, Option.getD_some]
theorem bad_len (W : Int → Int) (seen : List ByteArray) (b : Shv) : (bad W seen b).length ≤ 3 := by
  unfold bad badE
  rw [List.length_append, List.length_append]
  repeat' split
  all_goals simp
theorem bads_len (W : Int → Int) (l : List Shv) (k : Nat) (hk : k ≤ l.length) : (bads W l k).length ≤ 3 * k := by
  induction k with
  | zero => simp [bads]
  | succ k ih =>
    rw [bads_succ W l k (by omega), List.length_append]
    have := ih (by omega)
    have := bad_len W ((l.take k).map (·.bytes)) l[k]
    omega
theorem bads_mem {W : Int → Int} {l : List Shv} {k : Nat} (hk : k ≤ l.length) {f : Int × Int} (h : f ∈ bads W l k) : ∃ i, ∃ h : i < l.length, f ∈ bad W ((l.take i).map (·.bytes)) l[i] := by
  obtain ⟨i, hi, hf⟩ := List.mem_flatMap.1 h
  have hi' : i < l.length := by have := List.mem_range.1 hi; omega
  rw [List.getD_eq_getElem?_getD, List.getElem?_eq_getElem hi', Option.getD_some] at hf
  exact ⟨i, hi', hf⟩
/-- Bytes that are not zeros and are there once; ids that are held as they should be. -/
theorem bads_one {W : Int → Int} {l : List Shv} (hz : ∀ b ∈ l, zeroB b.bytes = false) (hn : (l.map (·.bytes)).Nodup) (k : Nat) (hk : k ≤ l.length) : bads W l k = (l.take k).flatMap (badE W) := by
  induction k with
  | zero => simp [bads]
  | succ k ih =>
    have hk' : k < l.length := by omega
    rw [bads_succ W l k hk', ih (by omega), ← List.take_append_getElem hk', List.flatMap_append, List.flatMap_singleton]
    congr 1
    unfold bad
    have h1 := hz l[k] (List.getElem_mem hk')
    have h2 : l[k].bytes ∉ (l.take k).map (·.bytes) := by
      intro hm
      obtain ⟨x, hx, he⟩ := List.mem_map.1 hm
      obtain ⟨i, hi, rfl⟩ := List.mem_iff_getElem.1 hx
      rw [List.length_take] at hi
      rw [List.getElem_take] at he
      have h3 : (l.map (·.bytes))[i]? = (l.map (·.bytes))[k]? := by
        rw [List.getElem?_map, List.getElem?_map, List.getElem?_eq_getElem (by omega), List.getElem?_eq_getElem hk']
        simp [he]
      have := (List.getElem?_inj (by simp; omega) hn).1 h3
      omega
    rw [h1, if_neg (by simp), if_neg (fun e => h2 (hasT_iff.1 e))]
    rfl
/-- The blocks that are wanted. -/
def mendL (W : Int → Int) (l : List Shv) : List Shv := l.flatMap fun b => if 0 < W b.id then [⟨b.id, W b.id, b.bytes⟩] else []
theorem mendL_mem {W : Int → Int} {l : List Shv} {b : Shv} (h : b ∈ mendL W l) : 0 < W b.id ∧ b.refs = W b.id ∧ ∃ c ∈ l, b.bytes = c.bytes := by
  obtain ⟨c, hc, hb⟩ := List.mem_flatMap.1 h
  split at hb
  · simp only [List.mem_singleton] at hb
    subst hb
    exact ⟨by assumption, rfl, c, hc, rfl⟩
  · simp at hb
theorem mendL_same {W : Int → Int} {l : List Shv} (h : ∀ b ∈ l, 0 < W b.id ∧ b.refs = W b.id) : mendL W l = l := by
  unfold mendL
  induction l with
  | nil => rfl
  | cons b l ih =>
    obtain ⟨h1, h2⟩ := h b List.mem_cons_self
    rw [List.flatMap_cons, if_pos h1, ih fun c hc => h c (List.mem_cons_of_mem _ hc), ← h2]
    rfl
theorem mendL_le (W : Int → Int) (l : List Shv) : (mendL W l).length ≤ l.length := by
  unfold mendL
  induction l with
  | nil => simp
  | cons b l ih =>
    rw [List.flatMap_cons, List.length_append, List.length_cons]
    split
    · simp only [List.length_singleton]; omega
    · simp only [List.length_nil]; omega
theorem mendL_snoc (W : Int → Int) (l : List Shv) (k : Nat) (hk : k < l.length) : mendL W (l.take (k + 1)) = mendL W (l.take k) ++ (if 0 < W l[k].id then [⟨l[k].id, W l[k].id, l[k].bytes⟩] else []) := by
  unfold mendL
  rw [← List.take_append_getElem hk, List.flatMap_append, List.flatMap_singleton]
end Go.Proofs.YtdpbjigdihajjaaDoor
