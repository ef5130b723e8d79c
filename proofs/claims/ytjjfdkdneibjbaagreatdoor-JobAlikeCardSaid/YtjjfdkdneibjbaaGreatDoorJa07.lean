/- Joined texts: StillA, StillB, StillC, FilmG. -/
import Derived.Test.YtjjfdkdneibjbaaGreatDoorJa05
import Derived.Test.YtjjfdkdneibjbaaGreatDoorJa06
import Derived.Test.YtjjfdkdneibjbaaGreatDoorJa03
/- Walk of package still: a volume as it was: its form; New, none, Now. -/
namespace Go.Proofs.YtjjfdkdneibjbaaGreatDoor
open Go.RowKit

/-- A still: its pointer q, its map's block m, what is kept, which were let go (as bits). -/
structure StillIs (w : World) (q m p g c : Nat) (l : List UInt8) (K : List (Int × Value)) (G : Int) : Prop where
  lq : q < w.heap.size
  film : FilmIs w p g c l
  map : MapIs kInt w m K
  qp : q ≠ p
  qg : q ≠ g
  qm : q ≠ m
  mp : m ≠ p
  mg : m ≠ g
  c0 : w.cell? ⟨q, 0, none⟩ = some (.pointer (some ⟨p, 0, none⟩))
  c1 : w.cell? ⟨q, 1, none⟩ = some (.map (some m))
  c2 : w.cell? ⟨q, 2, none⟩ = some (.int .u64 G)
  z2 : w.frozen? ⟨q, 2, none⟩ = false
variable {w : World} {q m p g c : Nat} {l : List UInt8} {K : List (Int × Value)} {G : Int}
theorem StillIs.below {w' : World} (h : StillIs w q m p g c l K G) (hb : Below w.heap.size w w') : StillIs w' q m p g c l K G :=
  ⟨Nat.lt_of_lt_of_le h.lq hb.size, h.film.below hb, h.map.below hb, h.qp, h.qg, h.qm, h.mp, h.mg, ((bcell hb).1 _ _ h.lq).trans h.c0, ((bcell hb).1 _ _ h.lq).trans h.c1, ((bcell hb).1 _ _ h.lq).trans h.c2, ((bcell hb).2 _ _ h.lq).trans h.z2⟩
set_option maxHeartbeats 1000000 in
theorem none_st (h : StillIs w q m p g c l K G) : Calls Tryz.prog 57 #[.pointer (some ⟨q, 0, none⟩)] w fun e w' => e = .returned (.bool false) ∧ w' = w := by
  have c0 := h.c0
  clear h
  go_enter Tryz.func57, Tryz.ntmps57
  go_wp2
  go_ret
  exact ⟨rfl, rfl⟩
set_option maxHeartbeats 1000000 in
theorem now_st (h : StillIs w q m p g c l K G) : Calls Tryz.prog 53 #[.pointer (some ⟨q, 0, none⟩)] w fun e w' => e = .returned (.pointer (some ⟨p, 0, none⟩)) ∧ w' = w := by
  have c0 := h.c0
  have Hn := hide (none_st h)
  clear h
  go_enter Tryz.func53, Tryz.ntmps53
  go_wp2_with fail
  refine (unhide Hn).mono ?_
  rintro e w2 ⟨rfl, hw2⟩
  subst hw2
  clear Hn
  go_wp2_with fail
  go_ret
  exact ⟨rfl, rfl⟩
set_option maxHeartbeats 2000000 in
theorem new_st (h : FilmIs w p g c l) : Calls Tryz.prog 12 #[.pointer (some ⟨p, 0, none⟩)] w fun e w' => (∃ q m, e = .returned (.tuple #[.pointer (some ⟨q, 0, none⟩), .int .i64 0]) ∧ w.heap.size ≤ q ∧ w.heap.size ≤ m ∧ StillIs w' q m p g c l [] 0) ∧ Below w.heap.size w w' := by
  have H := hide h
  clear h
  have hmm := @run_makeMap Tryz.prog
  go_enter Tryz.func12, Tryz.ntmps12
  go_wp2_with fail
  go_ret2
  have hF := unhide H
  have l1 := hF.lp
  have l2 := hF.lg
  obtain ⟨o, ho⟩ : ∃ o, o = (Obj.cells #[.pointer (some ⟨p, 0, none⟩), .map (some w.heap.size), .int .u64 0] 121) := ⟨_, rfl⟩
  have B : Below w.heap.size w ((w.alloc (.map #[] 0)).alloc o) := ((Below.refl _ _).alloc (Nat.le_refl _) _).alloc (by simp) _
  have e : w.heap.size + 1 = (w.alloc (.map #[] 0)).heap.size := by simp
  have hh : ((w.alloc (.map #[] 0)).alloc o).heap[w.heap.size + 1]? = some o := by
    rw [e]
    exact Array.getElem?_push_size
  rw [← ho]
  refine ⟨⟨w.heap.size + 1, w.heap.size, rfl, by omega, Nat.le_refl _, ?_⟩, B⟩
  have hM : MapIs kInt ((w.alloc (.map #[] 0)).alloc o) w.heap.size [] := (MapIs.made kInt w).alloc _
  subst ho
  exact ⟨by simp, hF.below B, hM, by omega, by omega, by omega, by omega, by omega, cell_heap hh rfl, cell_heap hh rfl, cell_heap hh rfl, froz_heap hh⟩
/-- Was a block let go? -/
def goneB (G : Int) (k : Nat) : Bool := bits BinOp.and IntKind.u64 (G / 2 ^ k) 1 == 1
set_option maxHeartbeats 1000000 in
theorem away_st (k : Nat) (hk : k < 64) (h : StillIs w q m p g c l K G) : Calls Tryz.prog 59 #[.pointer (some ⟨q, 0, none⟩), .int .i64 (k : Int)] w fun e w' => e = .returned (.bool (goneB G k)) ∧ w' = w := by
  have c2 := h.c2
  clear h
  go_enter Tryz.func59, Tryz.ntmps59
  go_wp2_with fail
  go_ret
  exact ⟨rfl, rfl⟩
set_option maxHeartbeats 1000000 in
theorem there_st (n k : Nat) (hk : k < n) (hl : l.length = 8 * n) (h : StillIs w q m p g c l K G) : Calls Tryz.prog 128 #[.pointer (some ⟨q, 0, none⟩), .int .i64 (k : Int)] w fun e w' => e = .returned (.bool true) ∧ w' = w := by
  have c0 := h.c0
  have Hn := hide (none_st h)
  have Hb := hide (blocks_any n h.film hl)
  have z : (k : Int) < n := by omega
  clear h
  go_enter Tryz.func128, Tryz.ntmps128
  go_wp2_with fail
  refine (unhide Hn).mono ?_
  rintro e w2 ⟨rfl, hw2⟩
  subst hw2
  clear Hn
  go_wp2_with fail
  refine (unhide Hb).mono ?_
  rintro e w3 ⟨rfl, hw3⟩
  subst hw3
  clear Hb
  go_wp2_with fail
  go_ret
  exact ⟨rfl, rfl⟩
end Go.Proofs.YtjjfdkdneibjbaaGreatDoor
/- Walk of package still: a block as it was; a block is let go. -/
namespace Go.Proofs.YtjjfdkdneibjbaaGreatDoor
open Go.RowKit
variable {w : World} {q m p g c : Nat} {l : List UInt8} {K : List (Int × Value)} {G : Int}

theorem Tryz.infoStr : (Tryz.prog.info? 9).map (fun i => (i.zero, i.size, i.bytes)) = some (some (.string ⟨#[]⟩), 1, 16) := by kernel_rfl
theorem zeroString (w : World) : (zeroValue 9).run Tryz.prog w = .ok (.string ⟨#[]⟩) w := by
  obtain ⟨i0, hi, hz0, hz1, hz2⟩ := info_parts Tryz.infoStr
  simp [zeroValue, typeInfo, hi, hz0]
set_option maxHeartbeats 2000000 in
set_option maxRecDepth 20000 in
theorem block_kept (k : Nat) (s : ByteArray) (h : StillIs w q m p g c l K G) (hk : lk K (k : Int) = some (.string s)) : Calls Tryz.prog 125 #[.pointer (some ⟨q, 0, none⟩), .int .i64 (k : Int)] w fun e w' => e = .returned (.tuple #[.string s, .int .i64 0]) ∧ w' = w := by
  have c1 := h.c1
  have Hn := hide (none_st h)
  have hr := run_lookup_is (P := Tryz.prog) h.map Tryz.underlying118 Tryz.underlying3 (zeroString w) (k : Int) true
  rw [hk] at hr
  have hr : (Instr.lookup 118 (.map (some m)) (.int .i64 (k : Int)) true).run Tryz.prog w = .ok (.tuple #[.string s, .bool true]) w := hr
  clear h hk
  go_enter Tryz.func125, Tryz.ntmps125
  go_wp2_with fail
  refine (unhide Hn).mono ?_
  rintro e w2 ⟨rfl, hw2⟩
  subst hw2
  clear Hn
  go_wp2_with fail
  go_ret2
  exact ⟨rfl, rfl⟩
set_option maxHeartbeats 2000000 in
set_option maxRecDepth 20000 in
theorem block_now (n k : Nat) (h : StillIs w q m p g c l K G) (hk : lk K (k : Int) = none) (hl : l.length = 8 * n) (hkn : k < n) : Calls Tryz.prog 125 #[.pointer (some ⟨q, 0, none⟩), .int .i64 (k : Int)] w fun e w' => e = .returned (.tuple #[.string (cutS l (8 * k) 8), .int .i64 0]) ∧ w' = w := by
  have c1 := h.c1
  have c0 := h.c0
  have Hn := hide (none_st h)
  have Hb := hide (block_any n k h.film hl hkn)
  have hr := run_lookup_is (P := Tryz.prog) h.map Tryz.underlying118 Tryz.underlying3 (zeroString w) (k : Int) true
  rw [hk] at hr
  have hr : (Instr.lookup 118 (.map (some m)) (.int .i64 (k : Int)) true).run Tryz.prog w = .ok (.tuple #[.string ⟨#[]⟩, .bool false]) w := hr
  obtain ⟨S, hS⟩ : ∃ S, S = cutS l (8 * k) 8 := ⟨_, rfl⟩
  rw [← hS] at Hb ⊢
  clear h hk hS
  go_enter Tryz.func125, Tryz.ntmps125
  go_wp2_with fail
  refine (unhide Hn).mono ?_
  rintro e w2 ⟨rfl, hw2⟩
  subst hw2
  clear Hn
  go_wp2_with fail
  refine (unhide Hb).mono ?_
  rintro e w3 ⟨rfl, hw3⟩
  subst hw3
  clear Hb
  go_wp2_with fail
  go_ret2
  exact ⟨rfl, rfl⟩
end Go.Proofs.YtjjfdkdneibjbaaGreatDoor
/- Walk of package still: a block is let go. -/
namespace Go.Proofs.YtjjfdkdneibjbaaGreatDoor
open Go.RowKit
variable {w : World} {q m p g c : Nat} {l : List UInt8} {K : List (Int × Value)} {G : Int}

theorem FilmIs.kept {w' : World} (h : FilmIs w p g c l) (hs : w.heap.size ≤ w'.heap.size) (hp : w'.heap[p]? = w.heap[p]?) (hg : w'.heap[g]? = w.heap[g]?) : FilmIs w' p g c l :=
  ⟨Nat.lt_of_lt_of_le h.lp hs, Nat.lt_of_lt_of_le h.lg hs, h.ne, (World.cell?_of_block (a := ⟨p, 0, none⟩) hp).trans h.sl, h.le, h.cap, h.few, fun j hj => (World.cell?_of_block (a := ⟨g, j, none⟩) hg).trans (h.cell j hj), fun j hj => (World.frozen?_of_block (a := ⟨g, j, none⟩) hg).trans (h.free j hj)⟩
/-- The bits, one more of them set. -/
def letG (G : Int) (k : Nat) : Int := bits BinOp.or IntKind.u64 G (IntKind.u64.wrap (2 ^ k))
set_option maxHeartbeats 2000000 in
set_option maxRecDepth 20000 in
theorem let_yes (n k : Nat) (hk : k < n) (hl : l.length = 8 * n) (h64 : n ≤ 64) (h : StillIs w q m p g c l K G) (hg : goneB G k = false) : Calls Tryz.prog 63 #[.pointer (some ⟨q, 0, none⟩), .int .i64 (k : Int)] w fun e w' => e = .returned (.bool true) ∧ StillIs w' q m p g c l (del K (k : Int)) (letG G k) ∧ Chg (fun b => b = q ∨ b = m) w w' := by
  have c0 := h.c0
  have c1 := h.c1
  have c2 := h.c2
  have z2 := h.z2
  have Ht := hide (there_st n k hk hl h)
  have Ha := hide (away_st k (by omega) h)
  rw [hg] at Ha
  have HM := hide h.map
  have H := hide h
  have qm := h.qm
  have lq := h.lq
  have k64 : k < 64 := by omega
  clear h hg
  go_enter Tryz.func63, Tryz.ntmps63
  go_wp2_with fail
  refine (unhide Ht).mono ?_
  rintro e w2 ⟨rfl, hw2⟩
  subst hw2
  clear Ht
  go_wp2_with fail
  refine (unhide Ha).mono ?_
  rintro e w3 ⟨rfl, hw3⟩
  subst hw3
  clear Ha
  go_wp2_with (at_delete; refine wpList_delete_is rfl _ _ _ _ rfl kInt K 3 9 Tryz.underlying118 Tryz.underlying3 m rfl (unhide HM) (k : Int) rfl ?_; intro w4 HM4 HG4; have d2 : w4.cell? ⟨q, 2, none⟩ = some (.int .u64 G) := (HG4.cell_far ⟨q, 2, none⟩ lq (fun e => qm (by injection e))).trans c2; have y2 : w4.frozen? ⟨q, 2, none⟩ = false := (World.frozen?_of_block (a := ⟨q, 2, none⟩) (HG4.block q lq (fun e => qm (by injection e)))).trans z2)
  go_ret
  have h := unhide H
  have hx := HG4.size
  have eq0 : w4.heap[q]? = w3.heap[q]? := HG4.block q lq (fun e => qm (by injection e))
  have ep : w4.heap[p]? = w3.heap[p]? := HG4.block p h.film.lp (fun e => h.mp (by injection e with e; exact e.symm))
  have eg : w4.heap[g]? = w3.heap[g]? := HG4.block g h.film.lg (fun e => h.mg (by injection e with e; exact e.symm))
  obtain ⟨v, hv⟩ : ∃ v, v = Value.int .u64 (letG G k) := ⟨_, rfl⟩
  have hsz : (w4.setCell ⟨q, 2, none⟩ v).heap.size = w4.heap.size := by simp [World.setCell]
  have hset : ∀ b, b ≠ q → (w4.setCell ⟨q, 2, none⟩ v).heap[b]? = w4.heap[b]? := fun b hb => Below.heap_setCell _ _ _ _ hb
  show _ ∧ StillIs (w4.setCell ⟨q, 2, none⟩ (Value.int .u64 (letG G k))) _ _ _ _ _ _ _ _ ∧ Chg _ _ (w4.setCell ⟨q, 2, none⟩ (Value.int .u64 (letG G k)))
  rw [← hv]
  refine ⟨rfl, ⟨by rw [hsz]; omega, h.film.kept (by rw [hsz]; exact hx) ((hset p (fun e => h.qp e.symm)).trans ep) ((hset g (fun e => h.qg e.symm)).trans eg), HM4.kept (hset m (fun e => h.qm e.symm)), h.qp, h.qg, h.qm, h.mp, h.mg, ?_, ?_, ?_, ?_⟩, ?_⟩
  · exact (World.cell?_setCell_other _ ⟨q, 2, none⟩ ⟨q, 0, none⟩ _ (by simp)).trans ((World.cell?_of_block (a := ⟨q, 0, none⟩) eq0).trans c0)
  · exact (World.cell?_setCell_other _ ⟨q, 2, none⟩ ⟨q, 1, none⟩ _ (by simp)).trans ((World.cell?_of_block (a := ⟨q, 1, none⟩) eq0).trans c1)
  · rw [World.cell?_setCell_same _ _ _ d2, hv]
  · rw [World.frozen?_setCell]; exact y2
  · refine Chg.trans (b := w4) (Chg.of_grown HG4 hx fun b hb => .inr (by injection hb with hb; exact hb.symm)) ⟨rfl, rfl, rfl, by rw [hsz]; exact Nat.le_refl _, fun b _ hb => hset b fun e => hb (.inl e)⟩
end Go.Proofs.YtjjfdkdneibjbaaGreatDoor
/- A volume that is written to from its first byte on. -/
namespace Go.Proofs.YtjjfdkdneibjbaaGreatDoor
open Go.RowKit
variable {w : World} {p g c : Nat}
theorem layL_eq {cur b : ByteArray} {a : Nat} : (layB cur a b).data.toList = layL cur.data.toList a b := by
  simp [layB, layL]
/-- Any bytes that fit are written. -/
theorem flm_write (a : Nat) (s cur : ByteArray) (h : FilmIs w p g c cur.data.toList) (ha : a + s.size ≤ cur.size) : Calls Tryz.prog 10 #[.pointer (some ⟨p, 0, none⟩), .int .i64 (a : Int), .string s] w fun e w' => e = .returned (.int .i64 0) ∧ FilmIs w' p g c (layB cur a s).data.toList ∧ Chg (fun b => b = g) w w' := by
  rw [sizeB cur] at ha
  by_cases hs : s.size = 0
  · refine (film_write_none a s h (by omega) hs).mono ?_
    rintro e w' ⟨rfl, rfl⟩
    rw [layB_none _ _ _ hs]
    exact ⟨rfl, h, Chg.refl _ _⟩
  · refine (film_write a s h ha (by omega)).mono ?_
    rintro e w' ⟨rfl, rfl⟩
    rw [layL_eq]
    exact ⟨rfl, h.lay a s ha, setCells_chg _ _ _ _⟩
end Go.Proofs.YtjjfdkdneibjbaaGreatDoor
