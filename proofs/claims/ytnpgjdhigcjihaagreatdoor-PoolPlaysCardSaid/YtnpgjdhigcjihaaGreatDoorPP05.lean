/- Joined texts: RpA. -/
import Derived.Test.YtnpgjdhigcjihaaGreatDoorPP02
import Derived.Test.YtnpgjdhigcjihaaGreatDoorPP03
import Derived.Test.YtnpgjdhigcjihaaGreatDoorPP04
import Derived.Laws.BytesArg
import Derived.Laws.IdiomStrings
/- Walk of the document's pool: the place of an id, the id of some bytes, zeros. -/
namespace Go.Proofs.YtnpgjdhigcjihaaGreatDoor
open Go.RowKit

/-- The place of an id. -/
def AtL (L : List Shv) (id R : Int) : Prop := (∃ k, ∃ h : k < L.length, R = (k : Int) ∧ L[k].id = id ∧ ∀ j (h : j < L.length), j < k → L[j].id ≠ id) ∨ (R = -1 ∧ ∀ j (h : j < L.length), L[j].id ≠ id)
/-- The id of some bytes. -/
def FindL (L : List Shv) (b : ByteArray) (R : Int) : Prop := (∃ k, ∃ h : k < L.length, R = L[k].id ∧ L[k].bytes = b ∧ ∀ j (h : j < L.length), j < k → L[j].bytes ≠ b) ∨ (R = 0 ∧ ∀ j (h : j < L.length), L[j].bytes ≠ b)
theorem rbytes_ne {t b : ByteArray} (h : t ≠ b) : (t.toList == b.toList) = false := by
  rw [← Go.beq_toListBytes]
  cases hb : (t == b) with
  | false => rfl
  | true =>
    exfalso
    apply h
    have h1 : (t.data == b.data) = true := hb
    have h2 := eq_of_beq h1
    cases t; cases b; simp at h2; subst h2; rfl
/-- A pool as a value, in a block of its own. -/
theorem rbox (w : World) (most : Int) (v : Value) (T : Nat) : ∃ w1, w1 = w.alloc (.cells #[.int .i64 most, v] T) ∧ Below w.heap.size w w1 ∧ w1.heap.size = w.heap.size + 1 ∧ w1.cell? ⟨w.heap.size, 0, none⟩ = some (.int .i64 most) ∧ w1.cell? ⟨w.heap.size, 1, none⟩ = some v :=
  ⟨_, rfl, (Below.refl _ _).alloc (Nat.le_refl _) _, by simp, World.cell?_alloc_at _ _ _ _ rfl, World.cell?_alloc_at _ _ _ _ rfl⟩
set_option maxHeartbeats 2000000 in
set_option maxRecDepth 100000 in
theorem rat_any (most id R : Int) (A : Option Addr) (n c : Nat) (L : List Shv) (w : World) (hs : Sl eSh w A n c L) (hn : n ≤ 1000) (hR : AtL L id R) :
    Calls Tryz.prog 16 #[.agg #[.int .i64 most, .slice A n c], .int .i64 id] w fun e w' => e = .returned (.int .i64 R) ∧ Below w.heap.size w w' := by
  obtain ⟨w1, hw1, B1, s1, c0, c1⟩ := rbox w most (.slice A n c) 28
  have hc1 := hs.2.1
  have hc2 := hs.2.2.1
  have hs1 := hs.below B1
  have RD := hide hs1.2.2.2
  have HN := hide hs.1
  have HR := hide hR
  clear hs hs1 hR c0
  go_enter Tryz.func16, Tryz.ntmps16
  go_wp2_with fail
  rw [← hw1]
  clear hw1
  obtain ⟨P, hP⟩ : ∃ P, P = w.heap.size := ⟨_, rfl⟩
  rw [← hP] at c1 ⊢
  have HP := hide hP
  clear hP
  go_wp2_with fail
  go_loopw [5] (fun j wr => ∃ k : Nat, k ≤ n ∧ j = .int .i64 k ∧ wr = w1 ∧ ∀ i (h : i < L.length), i < k → L[i].id ≠ id) (fun j _ => n - (intOf j).toNat)
  case atStart => exact ⟨0, Nat.zero_le _, rfl, rfl, fun i h h2 => by omega⟩
  case round =>
    obtain ⟨k, hk, rfl, rfl, hno⟩ := hrel
    by_cases hlt : k < n
    · have hlt' : (k : Int) < n := by omega
      have hkL : k < L.length := by have := unhide HN; omega
      obtain ⟨b, off, eA, lb, hrd⟩ := unhide RD (by omega)
      subst eA
      have x0 : wr.cell? ⟨b, off + k * 3, none⟩ = some (.int .i64 L[k].id) := hrd k hkL 0 (by decide)
      obtain ⟨a, ha⟩ : ∃ a, a = L[k].id := ⟨_, rfl⟩
      rw [← ha] at x0
      have Hno := hide hno
      have Ha := hide ha
      clear hrd hno ha
      by_cases he : a = id
      · have q : (a == id) = true := beq_iff_eq.2 he
        have hres : R = (k : Int) := by
          rcases unhide HR with ⟨j, hj, h1, h2, h3⟩ | ⟨h1, h2⟩
          · have : ¬ j < k := fun h => unhide Hno j hj h h2
            have : ¬ k < j := fun h => h3 k hkL h ((unhide Ha).symm.trans he)
            omega
          · exact absurd ((unhide Ha).symm.trans he) (h2 k hkL)
        have Hres := hide hres
        clear hres he
        go_wp2_with fail
        go_ret
        exact ⟨by rw [unhide Hres]; rfl, B1⟩
      · have q : (a == id) = false := beq_eq_false_iff_ne.2 he
        have Hn := hide (show ∀ i (h : i < L.length), i < k + 1 → L[i].id ≠ id from fun i h h2 => by
          by_cases e : i = k
          · subst e; rw [← unhide Ha]; exact he
          · exact unhide Hno i h (by omega))
        clear he
        go_wp2_with fail
        go_roundw
        case rel => exact ⟨k + 1, by omega, by go_num, by first | trivial | rfl, unhide Hn⟩
        case measure => simp [intOf]; omega
    · have hlt' : ¬ (k : Int) < n := by omega
      have hres : R = -1 := by
        rcases unhide HR with ⟨j, hj, h1, h2, h3⟩ | ⟨h1, h2⟩
        · exact absurd h2 (hno j hj (by have := unhide HN; omega))
        · exact h1
      have Hres := hide hres
      clear hres hno
      go_wp2_with fail
      go_ret
      exact ⟨by rw [unhide Hres]; rfl, B1⟩
set_option maxHeartbeats 2000000 in
set_option maxRecDepth 100000 in
theorem rfind_any (most R : Int) (b : ByteArray) (A : Option Addr) (n c : Nat) (L : List Shv) (w : World) (hs : Sl eSh w A n c L) (hn : n ≤ 1000) (hR : FindL L b R) :
    Calls Tryz.prog 20 #[.agg #[.int .i64 most, .slice A n c], .string b] w fun e w' => e = .returned (.int .i64 R) ∧ Below w.heap.size w w' := by
  obtain ⟨w1, hw1, B1, s1, c0, c1⟩ := rbox w most (.slice A n c) 28
  have hc1 := hs.2.1
  have hc2 := hs.2.2.1
  have hs1 := hs.below B1
  have RD := hide hs1.2.2.2
  have HN := hide hs.1
  have HR := hide hR
  clear hs hs1 hR c0
  go_enter Tryz.func20, Tryz.ntmps20
  go_wp2_with fail
  rw [← hw1]
  clear hw1
  obtain ⟨P, hP⟩ : ∃ P, P = w.heap.size := ⟨_, rfl⟩
  rw [← hP] at c1 ⊢
  have HP := hide hP
  clear hP
  go_wp2_with fail
  go_loopw [5] (fun j wr => ∃ k : Nat, k ≤ n ∧ j = .int .i64 k ∧ wr = w1 ∧ ∀ i (h : i < L.length), i < k → L[i].bytes ≠ b) (fun j _ => n - (intOf j).toNat)
  case atStart => exact ⟨0, Nat.zero_le _, rfl, rfl, fun i h h2 => by omega⟩
  case round =>
    obtain ⟨k, hk, rfl, rfl, hno⟩ := hrel
    by_cases hlt : k < n
    · have hlt' : (k : Int) < n := by omega
      have hkL : k < L.length := by have := unhide HN; omega
      obtain ⟨bb, off, eA, lb, hrd⟩ := unhide RD (by omega)
      subst eA
      have x0 : wr.cell? ⟨bb, off + k * 3, none⟩ = some (.int .i64 L[k].id) := hrd k hkL 0 (by decide)
      have x2 : wr.cell? ⟨bb, off + k * 3 + 2, none⟩ = some (.string L[k].bytes) := hrd k hkL 2 (by decide)
      obtain ⟨a, ha⟩ : ∃ a, a = L[k].id := ⟨_, rfl⟩
      obtain ⟨t, ht⟩ : ∃ t, t = L[k].bytes := ⟨_, rfl⟩
      rw [← ha] at x0
      rw [← ht] at x2
      have Hno := hide hno
      have Ha := hide ha
      have Ht := hide ht
      clear hrd hno ha ht
      by_cases he : t = b
      · have q : (t.toList == b.toList) = true := by rw [he]; exact beq_self_eq_true _
        have hres : R = a := by
          rcases unhide HR with ⟨j, hj, h1, h2, h3⟩ | ⟨h1, h2⟩
          · have h4 : ¬ j < k := fun h => unhide Hno j hj h h2
            have h5 : ¬ k < j := fun h => h3 k hkL h ((unhide Ht).symm.trans he)
            obtain rfl : j = k := by omega
            rw [h1, unhide Ha]
          · exact absurd ((unhide Ht).symm.trans he) (h2 k hkL)
        have Hres := hide hres
        clear hres he
        go_wp2_with fail
        go_ret
        exact ⟨by rw [unhide Hres]; rfl, B1⟩
      · have q : (t.toList == b.toList) = false := rbytes_ne he
        have Hn := hide (show ∀ i (h : i < L.length), i < k + 1 → L[i].bytes ≠ b from fun i h h2 => by
          by_cases e : i = k
          · subst e; rw [← unhide Ht]; exact he
          · exact unhide Hno i h (by omega))
        clear he
        go_wp2_with fail
        go_roundw
        case rel => exact ⟨k + 1, by omega, by go_num, by first | trivial | rfl, unhide Hn⟩
        case measure => simp [intOf]; omega
    · have hlt' : ¬ (k : Int) < n := by omega
      have hres : R = 0 := by
        rcases unhide HR with ⟨j, hj, h1, h2, h3⟩ | ⟨h1, h2⟩
        · exact absurd h2 (hno j hj (by have := unhide HN; omega))
        · exact h1
      have Hres := hide hres
      clear hres hno
      go_wp2_with fail
      go_ret
      exact ⟨by rw [unhide Hres]; rfl, B1⟩
set_option maxHeartbeats 2000000 in
set_option maxRecDepth 100000 in
theorem rzero_any (s : ByteArray) (w : World) (hs : s.size ≤ 1000) :
    Calls Tryz.prog 25 #[.string s] w fun e w' => e = .returned (.bool (zeroB s)) ∧ w' = w := by
  obtain ⟨Z, hZ⟩ : ∃ Z, Z = zeroB s := ⟨_, rfl⟩
  rw [← hZ]
  have HZ := hide hZ
  clear hZ
  go_enter Tryz.func25, Tryz.ntmps25
  go_wp2_with fail
  go_loopw [3] (fun j wr => ∃ k : Nat, k ≤ s.size ∧ j = .int .i64 k ∧ wr = w ∧ ∀ i (h : i < s.size), i < k → s[i] = 0) (fun j _ => s.size - (intOf j).toNat)
  case atStart => exact ⟨0, Nat.zero_le _, rfl, rfl, fun i h h2 => by omega⟩
  case round =>
    obtain ⟨k, hk, rfl, rfl, hno⟩ := hrel
    have Hno := hide hno
    clear hno
    by_cases hlt : k < s.size
    · by_cases he : s[k] = 0
      · have q : (((s[k]'hlt).toNat : Int) == 0) = true := by rw [he]; rfl
        have Hn := hide (show ∀ i (h : i < s.size), i < k + 1 → s[i] = 0 from fun i h h2 => by
          by_cases e : i = k
          · subst e; exact he
          · exact unhide Hno i h (by omega))
        clear he
        go_wp2_with fail
        go_roundw
        case rel => exact ⟨k + 1, by omega, by go_num, by first | trivial | rfl, unhide Hn⟩
        case measure => simp [intOf]; omega
      · have q : (((s[k]'hlt).toNat : Int) == 0) = false := beq_eq_false_iff_ne.2 fun e => he (by
          apply UInt8.toNat.inj
          have : (s[k]'hlt).toNat = 0 := by omega
          rw [this]; rfl)
        have hres : Z = false := by
          rw [unhide HZ]
          unfold zeroB
          rw [Bool.eq_false_iff]
          intro h
          rw [List.all_eq_true] at h
          have := h s[k] (by rw [ByteArray.getElem_eq_getElem_data]; exact Array.getElem_mem_toList _)
          exact he (by simpa using this)
        have Hres := hide hres
        clear hres he
        go_wp2_with fail
        go_ret
        exact ⟨by rw [unhide Hres]; rfl, rfl⟩
    · have hlt' : ¬ (k : Int) < s.size := by omega
      have hres : Z = true := by
        rw [unhide HZ]
        unfold zeroB
        rw [List.all_eq_true]
        intro x hx
        obtain ⟨i, hi, rfl⟩ := List.getElem_of_mem hx
        have hi2 : i < s.size := by show i < s.data.size; rw [← Array.length_toList]; exact hi
        have := unhide Hno i hi2 (by omega)
        rw [ByteArray.getElem_eq_getElem_data] at this
        simpa using this
      have Hres := hide hres
      clear hres
      go_wp2_with fail
      go_ret
      exact ⟨by rw [unhide Hres]; rfl, rfl⟩
theorem Tryz.infoU8r : (Tryz.prog.info? 5).map (fun i => (i.zero, i.size, i.bytes)) = some (some (.int .u8 0), 1, 1) := by kernel_rfl
theorem rmade_cells (N j : Nat) (h : j < N) : (madeCells (Value.int .u8 0).cells N)[j]? = some (Value.int .u8 0) := by
  have : madeCells (Value.int .u8 0).cells N = (List.replicate N (Value.int .u8 0)).toArray := by
    apply Array.ext_getElem?
    intro k
    by_cases hk : k < N
    · simp [madeCells, Value.cells, hk, Nat.mod_one]
    · simp [madeCells, Value.cells, hk, Nat.mod_one]
  rw [this]
  simp [h]
theorem rzeros_made (w : World) : ∃ W, (Instr.makeSlice 110 (.int .i64 8) (.int .i64 8)).run Tryz.prog w = .ok (.slice (some ⟨w.heap.size, 0, none⟩) 8 8) W ∧ Below w.heap.size w W ∧
    (convert 110 9 (.slice (some ⟨w.heap.size, 0, none⟩) 8 8)).run Tryz.prog W = .ok (.string ⟨#[0, 0, 0, 0, 0, 0, 0, 0]⟩) W := by
  obtain ⟨i0, hi, hz0, hz1, hz2⟩ := info_parts Tryz.infoU8r
  have hr := run_makeSlice (P := Tryz.prog) (w := w) 110 5 i0 _ Tryz.underlying110 hi hz0 .i64 .i64 8 8 (by omega) (Int.le_refl _) (by rw [hz1]; decide) (by rw [hz2]; decide) (by decide)
  rw [hz1, Nat.mul_one] at hr
  have hm := rmade_cells 8
  refine ⟨_, hr, (Below.refl _ _).alloc (Nat.le_refl _) _, ?_⟩
  have := run_convert_bytes_back (P := Tryz.prog) (w.alloc (.cells (madeCells (Value.int .u8 0).cells (Int.toNat 8)) 5)) 110 9 5 ⟨w.heap.size, 0, none⟩ 8 (List.replicate 8 0) Tryz.underlying110 Tryz.underlying5 Tryz.underlying9 (fun j hj => by
    rw [Go.WideShapes.add_plain, Nat.zero_add]
    have hj8 : j < 8 := by simpa using hj
    have e : (w.alloc (.cells (madeCells (Value.int .u8 0).cells (Int.toNat 8)) 5)).cell? ⟨w.heap.size, j, none⟩ = some (.int .u8 0) := (World.cell?_alloc_at _ _ _ _ rfl).trans (hm j hj8)
    rw [e, List.getElem_replicate]
    rfl)
  exact this
set_option maxHeartbeats 1000000 in
set_option maxRecDepth 100000 in
theorem rzeros_any (w : World) : Calls Tryz.prog 38 #[.int .i64 8] w fun e w' => e = .returned (.string ⟨#[0, 0, 0, 0, 0, 0, 0, 0]⟩) ∧ Below w.heap.size w w' := by
  obtain ⟨W, hr, HB, hc⟩ := rzeros_made w
  go_enter Tryz.func38, Tryz.ntmps38
  go_wp2_with fail
  go_ret
  exact ⟨rfl, HB⟩
end Go.Proofs.YtnpgjdhigcjihaaGreatDoor
