/- Joined texts: StillG, StillH, StillI, StillJ. -/
import Derived.Test.YtjjfdkdneibjbaaGreatDoorJa12
import Derived.StillTail
import Derived.Test.YtjjfdkdneibjbaaGreatDoorJa03
import Derived.Test.YtjjfdkdneibjbaaGreatDoorJa06
/- Walk of package still: a write. -/
namespace Go.Proofs.YtjjfdkdneibjbaaGreatDoor
open Go.RowKit
variable {w : World} {q m p g c : Nat} {l : List UInt8} {K : List (Int × Value)} {G : Int}

/-- Where the film is written to nothing else of a still changes. -/
theorem StillIs.wrote (h : StillIs w q m p g c l K G) (a : Nat) (s : ByteArray) (ha : a + s.size ≤ l.length) : StillIs (w.setCells g a (cellsU s)) q m p g c (layL l a s) K G := by
  have hq : (w.setCells g a (cellsU s)).heap[q]? = w.heap[q]? := setCells_heap g q h.qg _ _ _
  exact ⟨by rw [setCells_size]; exact h.lq, h.film.lay a s ha, h.map.kept (setCells_heap g m h.mg _ _ _), h.qp, h.qg, h.qm, h.mp, h.mg, (World.cell?_of_block (a := ⟨q, 0, none⟩) hq).trans h.c0, (World.cell?_of_block (a := ⟨q, 1, none⟩) hq).trans h.c1, (World.cell?_of_block (a := ⟨q, 2, none⟩) hq).trans h.c2, (World.frozen?_of_block (a := ⟨q, 2, none⟩) hq).trans h.z2⟩
/-- Where only the map changes. -/
theorem StillIs.mapped {w' : World} {K' : List (Int × Value)} (h : StillIs w q m p g c l K G) (hc : Chg (fun b => b = m) w w') (hm : MapIs kInt w' m K') : StillIs w' q m p g c l K' G := by
  have hq := hc.block q h.lq h.qm
  exact ⟨Nat.lt_of_lt_of_le h.lq hc.size, h.film.kept hc.size (hc.block p h.film.lp fun e => h.mp e.symm) (hc.block g h.film.lg fun e => h.mg e.symm), hm, h.qp, h.qg, h.qm, h.mp, h.mg, (World.cell?_of_block (a := ⟨q, 0, none⟩) hq).trans h.c0, (World.cell?_of_block (a := ⟨q, 1, none⟩) hq).trans h.c1, (World.cell?_of_block (a := ⟨q, 2, none⟩) hq).trans h.c2, (World.frozen?_of_block (a := ⟨q, 2, none⟩) hq).trans h.z2⟩
set_option maxHeartbeats 4000000 in
set_option maxRecDepth 20000 in
theorem write_st (n a : Nat) (s : ByteArray) (h : StillIs w q m p g c l K G) (hl : l.length = 8 * n) (h64 : n ≤ 64) (ha : a + s.size ≤ l.length) (hs : 0 < s.size) : Calls Tryz.prog 14 #[.pointer (some ⟨q, 0, none⟩), .int .i64 (a : Int), .string s] w fun e w' => e = .returned (.int .i64 0) ∧ StillIs w' q m p g c (layL l a s) (keepK K G l (a / 8) ((a + s.size - 1) / 8 + 1 - a / 8)) G ∧ Chg (fun b => b = g ∨ b = m) w w' := by
  have c0 := h.c0
  have Hn := hide (none_st h)
  have Hc := hide (film_copy h.film)
  have H := hide h
  obtain ⟨F, hF⟩ : ∃ F : Nat, F = a / 8 := ⟨_, rfl⟩
  obtain ⟨N, hN⟩ : ∃ N : Nat, N = (a + s.size - 1) / 8 + 1 - a / 8 := ⟨_, rfl⟩
  rw [← hN, ← hF]
  clear h
  go_enter Tryz.func14, Tryz.ntmps14
  go_wp2_with fail
  refine (unhide Hn).mono ?_
  rintro e w2 ⟨rfl, hw2⟩
  subst hw2
  clear Hn
  go_wp2_with fail
  refine (unhide Hc).mono ?_
  rintro e w1 ⟨⟨p2, g2, cc, rfl, hp2, hg2, hF2⟩, HB1⟩
  have h1 := (unhide H).below HB1
  have c0 := h1.c0
  have Hw := hide (film_write a s h1.film ha hs)
  have l1 := (unhide H).film.lg
  have h3 := hide (h1.wrote a s ha)
  have hF3 := hide (hF2.kept (w' := w1.setCells g a (cellsU s)) (by rw [setCells_size]; exact Nat.le_refl _) (setCells_heap g p2 (by omega) _ _ _) (setCells_heap g g2 (by omega) _ _ _))
  have C1 := Chg.of_below (F := fun b => b = g ∨ b = m) HB1
  have C3 := hide (C1.trans ((setCells_chg g (cellsU s) a w1).mono fun b _ e => .inl e))
  clear Hc C1 h1 hF2
  go_wp2_with fail
  refine (unhide Hw).mono ?_
  rintro e w3 ⟨rfl, hw3⟩
  rw [← hw3] at h3 hF3 C3
  clear Hw hw3
  go_wp2_with fail
  have hl5 : l.length ≤ 512 := by omega
  refine (blocks_sp a s.size w3 (by omega) (by omega)).mono ?_
  rintro e w4 ⟨rfl, HB4⟩
  have e1 : (a : Int) / 8 = (F : Int) := by omega
  have e2 : ((a : Int) + s.size - 1) / 8 + 1 - (a : Int) / 8 = (N : Int) := by omega
  have hFN : F + N ≤ n := by omega
  rw [e2, e1]
  have h4 := hide ((unhide h3).below HB4)
  have hF4 := hide ((unhide hF3).below HB4)
  have C4 := hide ((unhide C3).trans (Chg.of_below HB4))
  clear h3 hF3 C3 HB4 e1 e2 hF hN c0
  obtain ⟨w5, hw5⟩ : ∃ W, W = w4.alloc (.cells #[.int .i64 (F : Int), .int .i64 (N : Int)] 59) := ⟨_, rfl⟩
  obtain ⟨t, ht⟩ : ∃ t, t = w4.heap.size := ⟨_, rfl⟩
  have B5 : Below w4.heap.size w4 w5 := by rw [hw5]; exact (Below.refl _ _).alloc (Nat.le_refl _) _
  have t0 : w5.cell? ⟨t, 0, none⟩ = some (.int .i64 (F : Int)) := by rw [hw5, ht]; exact World.cell?_alloc_at _ _ _ _ rfl
  have t1 : w5.cell? ⟨t, 1, none⟩ = some (.int .i64 (N : Int)) := by rw [hw5, ht]; exact World.cell?_alloc_at _ _ _ _ rfl
  have h5 := hide ((unhide h4).below B5)
  have hF5 := hide ((unhide hF4).below B5)
  have C5 := hide ((unhide C4).trans (Chg.of_below B5))
  have tm : t ≠ m := by have := (unhide h4).map.lt; omega
  have tl : t < w5.heap.size := by rw [hw5, ht]; simp
  clear h4 hF4 C4 B5
  go_wp2_with fail
  rw [← hw5, ← ht]
  clear hw5 ht
  go_loopw [11] (fun j wr => ∃ k x : Nat, x = F + k ∧ k ≤ N ∧ j = .int .i64 (x : Int) ∧ MapIs kInt wr m (keepK K G l F k) ∧ Chg (fun b => b = m) w5 wr) (fun j _ => F + N - (intOf j).toNat)
  case atStart => exact ⟨0, F, rfl, Nat.zero_le _, rfl, (unhide h5).map, Chg.refl _ _⟩
  case round =>
    obtain ⟨k, x, hx, hk, rfl, hm, hc⟩ := hrel
    have et := hc.block t tl tm
    have t0 := (World.cell?_of_block (a := ⟨t, 0, none⟩) et).trans t0
    have t1 := (World.cell?_of_block (a := ⟨t, 1, none⟩) et).trans t1
    have h6 := (unhide h5).mapped hc hm
    by_cases hlt : k < N
    · have hlt2 : (x : Int) < (F : Int) + (N : Int) := by omega
      have c1 := h6.c1
      have ezk : keepK K G l F (k + 1) = if lk (keepK K G l F k) ((F + k : Nat) : Int) = none ∧ goneB G (F + k) = false then put (keepK K G l F k) ((F + k : Nat) : Int) (.string (cutS l (8 * (F + k)) 8)) else keepK K G l F k := rfl
      have Ezk := hide ezk
      clear ezk
      have Ha := hide (away_st (F + k) (by omega) h6)
      have hr := run_lookup_is (P := Tryz.prog) hm Tryz.underlying118 Tryz.underlying3 (zeroString wr) ((F + k : Nat) : Int) true
      have Hm := hide hm
      have Hc := hide hc
      rw [← hx] at Ezk hr Ha
      have Hx := hide hx
      clear hm hc h6
      have hxF : F ≤ x ∧ x < F + N := by omega
      clear hx
      cases hlk : lk (keepK K G l F k) (x : Int) with
      | some v =>
        rw [hlk] at hr
        have hr : (Instr.lookup 118 (.map (some m)) (.int .i64 (x : Int)) true).run Tryz.prog wr = .ok (.tuple #[v, .bool true]) wr := hr
        have E := hide (show keepK K G l F (k + 1) = keepK K G l F k by rw [unhide Ezk, if_neg (by rw [hlk]; simp)])
        clear hlk
        have x64 : x < 64 := by omega
        go_wp2_with fail
        go_roundw
        case rel => exact ⟨k + 1, x + 1, by have := unhide Hx; omega, by omega, by go_num, by rw [unhide E]; exact unhide Hm, unhide Hc⟩
        case measure => simp [intOf]; omega
      | none =>
        rw [hlk] at hr
        have hr : (Instr.lookup 118 (.map (some m)) (.int .i64 (x : Int)) true).run Tryz.prog wr = .ok (.tuple #[.string ⟨#[]⟩, .bool false]) wr := hr
        have x64 : x < 64 := by omega
        cases hg : goneB G x with
        | true =>
          have E := hide (show keepK K G l F (k + 1) = keepK K G l F k by rw [unhide Ezk, if_neg (by rw [hg]; simp)])
          rw [hg] at Ha
          clear hlk
          go_wp2_with fail
          refine (unhide Ha).mono ?_
          rintro e w6 ⟨rfl, hw6⟩
          subst hw6
          clear Ha
          go_wp2_with fail
          go_roundw
          case rel => exact ⟨k + 1, x + 1, by have := unhide Hx; omega, by omega, by go_num, by rw [unhide E]; exact unhide Hm, unhide Hc⟩
          case measure => simp [intOf]; omega
        | false =>
          obtain ⟨S, hS⟩ : ∃ S, S = cutS l (8 * x) 8 := ⟨_, rfl⟩
          have E := hide (show keepK K G l F (k + 1) = put (keepK K G l F k) (x : Int) (.string S) by rw [unhide Ezk, if_pos ⟨hlk, hg⟩, hS])
          rw [hg] at Ha
          have ml := (unhide H).map.lt
          have hc := unhide Hc
          have hFr := (unhide hF5).kept hc.size (hc.block p2 (unhide hF5).lp (by omega)) (hc.block g2 (unhide hF5).lg (by omega))
          have Hb := hide (block_any n x (hFr.below ((Below.refl _ _).drew)) hl (by omega))
          rw [← hS] at Hb
          clear hlk hc hFr hS Ezk
          go_wp2_with fail
          refine (unhide Ha).mono ?_
          rintro e w6 ⟨rfl, hw6⟩
          subst hw6
          clear Ha hr
          go_wp2_with fail
          obtain ⟨w7, hup, HM7, HG7⟩ := run_update_is (P := Tryz.prog) ((unhide Hm).drewN 1) Tryz.underlying118 Tryz.underlying3 (x : Int) (.string S)
          have hup : (Instr.mapUpdate 118 (.map (some m)) (.int .i64 (x : Int)) (.string S)).run Tryz.prog w6.drew = .ok () w7 := hup
          have c7 : w7.cell? ⟨q, 1, none⟩ = some (.map (some m)) := (HG7.cell_far ⟨q, 1, none⟩ (World.block_lt_of_cell? w6 ⟨q, 1, none⟩ c1) (fun e => (unhide H).qm (by injection e))).trans c1
          have c6 : w6.drew.cell? ⟨q, 1, none⟩ = some (.map (some m)) := c1
          go_region_held3 (fun W => W.cell? ⟨q, 1, none⟩ = some (.map (some m)))
            (first | with_reducible assumption | exact c6 | exact c7)
            ((go_at_call 60; refine (unhide Hb).mono ?_; intro e v hv; obtain ⟨he, hw⟩ := hv; subst he; subst hw))
          all_goals
            go_wp2_with fail
            go_roundw
            case rel => exact ⟨k + 1, x + 1, by have := unhide Hx; omega, by omega, by go_num, by rw [unhide E]; exact HM7, ((unhide Hc).trans (Chg.of_below ((Below.refl _ _).drew))).trans (Chg.of_grown HG7 HG7.size fun b hb => by injection hb with hb; exact hb.symm)⟩
            case measure => simp [intOf]; omega
    · obtain rfl : k = N := by omega
      have hlt2 : ¬ (x : Int) < (F : Int) + (k : Int) := by omega
      have C6 := hide ((unhide C5).trans (hc.mono fun b _ e => .inr e))
      have H6 := hide h6
      clear hc hm h6 et
      go_wp2_with fail
      go_ret
      exact ⟨rfl, unhide H6, unhide C6⟩
end Go.Proofs.YtjjfdkdneibjbaaGreatDoor
/- Walk of package still: a write that may not be, and one of nothing. -/
namespace Go.Proofs.YtjjfdkdneibjbaaGreatDoor
open Go.RowKit
variable {w : World} {q m p g c : Nat} {l : List UInt8} {K : List (Int × Value)} {G : Int}

set_option maxHeartbeats 2000000 in
set_option maxRecDepth 20000 in
theorem blocks_sp_none (a : Nat) (w : World) (h : a ≤ 512) : Calls Tryz.prog 58 #[.int .i64 (a : Int), .int .i64 0] w fun e w' => e = .returned (.tuple #[.agg #[.int .i64 0, .int .i64 0], .bool false]) ∧ Below w.heap.size w w' := by
  have z1 : (a : Int) ≤ 512 := by omega
  go_enter Tryz.func58, Tryz.ntmps58
  go_wp2_with fail
  refine bodyPost_ret (v := .tuple #[.agg #[.int .i64 0, .int .i64 0], .bool false]) ?_ rfl ⟨rfl, (Below.refl _ _).alloc (Nat.le_refl _) _⟩
  rw [results_cell_tmp rfl]
  go_simp
theorem write_bad (a : Int) (s : ByteArray) (h : StillIs w q m p g c l K G) (ha : a < 0 ∨ (l.length : Int) < a + s.size) : Calls Tryz.prog 14 #[.pointer (some ⟨q, 0, none⟩), .int .i64 a, .string s] w fun e w' => e = .returned (.int .i64 1) ∧ Below w.heap.size w w' := by
  have c0 := h.c0
  have Hn := hide (none_st h)
  have Hc := hide (film_copy h.film)
  have H := hide h
  clear h
  go_enter Tryz.func14, Tryz.ntmps14
  go_wp2_with fail
  refine (unhide Hn).mono ?_
  rintro e w2 ⟨rfl, hw2⟩
  subst hw2
  clear Hn
  go_wp2_with fail
  refine (unhide Hc).mono ?_
  rintro e w1 ⟨⟨p2, g2, cc, rfl, hp2, hg2, hF2⟩, HB1⟩
  have h1 := (unhide H).below HB1
  have c0 := h1.c0
  have Hw := hide (film_write_bad a s h1.film ha)
  clear Hc h1 hF2
  go_wp2_with fail
  refine (unhide Hw).mono ?_
  rintro e w3 ⟨rfl, hw3⟩
  subst hw3
  clear Hw
  go_wp2_with fail
  go_ret
  exact ⟨rfl, HB1⟩
set_option maxHeartbeats 2000000 in
set_option maxRecDepth 20000 in
theorem write_none (a : Nat) (s : ByteArray) (h : StillIs w q m p g c l K G) (ha : a ≤ l.length) (hs : s.size = 0) : Calls Tryz.prog 14 #[.pointer (some ⟨q, 0, none⟩), .int .i64 (a : Int), .string s] w fun e w' => e = .returned (.int .i64 0) ∧ Below w.heap.size w w' := by
  have c0 := h.c0
  have few := h.film.few
  have Hn := hide (none_st h)
  have Hc := hide (film_copy h.film)
  have H := hide h
  clear h
  go_enter Tryz.func14, Tryz.ntmps14
  go_wp2_with fail
  refine (unhide Hn).mono ?_
  rintro e w2 ⟨rfl, hw2⟩
  subst hw2
  clear Hn
  go_wp2_with fail
  refine (unhide Hc).mono ?_
  rintro e w1 ⟨⟨p2, g2, cc, rfl, hp2, hg2, hF2⟩, HB1⟩
  have h1 := (unhide H).below HB1
  have c0 := h1.c0
  have Hw := hide (film_write_none a s h1.film ha hs)
  clear Hc h1 hF2
  go_wp2_with fail
  refine (unhide Hw).mono ?_
  rintro e w3 ⟨rfl, hw3⟩
  subst hw3
  clear Hw
  go_wp2_with fail
  refine (blocks_sp_none a w3 (by omega)).mono ?_
  rintro e w4 ⟨rfl, HB4⟩
  have B4 := HB1.trans (HB4.mono HB1.size)
  clear HB4 HB1 c0
  obtain ⟨w5, hw5⟩ : ∃ W, W = w4.alloc (.cells #[.int .i64 0, .int .i64 0] 59) := ⟨_, rfl⟩
  obtain ⟨t, ht⟩ : ∃ t, t = w4.heap.size := ⟨_, rfl⟩
  have B5 : Below w2.heap.size w2 w5 := by rw [hw5]; exact B4.alloc B4.size _
  have t0 : w5.cell? ⟨t, 0, none⟩ = some (.int .i64 0) := by rw [hw5, ht]; exact World.cell?_alloc_at _ _ _ _ rfl
  have t1 : w5.cell? ⟨t, 1, none⟩ = some (.int .i64 0) := by rw [hw5, ht]; exact World.cell?_alloc_at _ _ _ _ rfl
  clear B4
  go_wp2_with fail
  rw [← hw5, ← ht]
  clear hw5 ht
  go_loopw [11] (fun j wr => j = .int .i64 0 ∧ wr = w5) (fun j _ => 0 - (intOf j).toNat)
  case atStart => exact ⟨rfl, rfl⟩
  case round =>
    obtain ⟨rfl, hw⟩ := hrel
    subst hw
    go_wp2_with fail
    go_ret
    exact ⟨rfl, B5⟩
end Go.Proofs.YtjjfdkdneibjbaaGreatDoor
/- A volume as it was, while it goes on: what its calls tell, whatever is written. -/
namespace Go.Proofs.YtjjfdkdneibjbaaGreatDoor
open Go.RowKit

/-- The still q keeps the volume was; of its n blocks those up to d were let go; F are its own blocks, I those of its volume. -/
def Stl (w : World) (q : Nat) (F I : Nat → Prop) (n : Nat) (was : ByteArray) (gone : Nat → Bool) : Prop :=
  ∃ (m p g c : Nat) (cur : ByteArray) (K : List (Int × Value)) (G : Nat), StillIs w q m p g c cur.data.toList K (G : Int) ∧ G < 18446744073709551616 ∧ n ≤ 64 ∧ StillInv n was cur K gone ∧ (∀ k, k < 64 → goneB (G : Int) k = gone k) ∧
    F q ∧ F m ∧ I p ∧ I g ∧ (∀ b, F b → b < w.heap.size) ∧ (∀ b, I b → b < w.heap.size)
section
variable {w w' : World} {q n d : Nat} {F I X : Nat → Prop} {was : ByteArray} {gone : Nat → Bool}
theorem StillIs.keptBy {m p g c : Nat} {l : List UInt8} {K : List (Int × Value)} {G : Int} (h : StillIs w q m p g c l K G) (hc : Chg X w w') (hq : ¬ X q) (hm : ¬ X m) (hp : ¬ X p) (hg : ¬ X g) : StillIs w' q m p g c l K G := by
  have e := hc.block q h.lq hq
  exact ⟨Nat.lt_of_lt_of_le h.lq hc.size, h.film.kept hc.size (hc.block p h.film.lp hp) (hc.block g h.film.lg hg), h.map.kept (hc.block m h.map.lt hm), h.qp, h.qg, h.qm, h.mp, h.mg, (World.cell?_of_block (a := ⟨q, 0, none⟩) e).trans h.c0, (World.cell?_of_block (a := ⟨q, 1, none⟩) e).trans h.c1, (World.cell?_of_block (a := ⟨q, 2, none⟩) e).trans h.c2, (World.frozen?_of_block (a := ⟨q, 2, none⟩) e).trans h.z2⟩
theorem Stl.chg (h : Stl w q F I n was gone) (hc : Chg X w w') (hd : ∀ k, F k → ¬ X k) (hi : ∀ k, I k → ¬ X k) : Stl w' q F I n was gone := by
  obtain ⟨m, p, g, c, cur, K, G, h1, h2, h3, h4, h5, h6, h7, h8, h9, h10, h11⟩ := h
  exact ⟨m, p, g, c, cur, K, G, h1.keptBy hc (hd _ h6) (hd _ h7) (hi _ h8) (hi _ h9), h2, h3, h4, h5, h6, h7, h8, h9, fun b hb => Nat.lt_of_lt_of_le (h10 b hb) hc.size, fun b hb => Nat.lt_of_lt_of_le (h11 b hb) hc.size⟩
theorem Stl.below (h : Stl w q F I n was gone) (hb : Below w.heap.size w w') : Stl w' q F I n was gone := h.chg (Chg.of_below (F := fun _ => False) hb) (fun _ _ e => e) fun _ _ e => e
theorem Stl.drewN (h : Stl w q F I n was gone) (k : Nat) : Stl (w.drewN k) q F I n was gone := h.below (below_drewN (Below.refl _ _) k)
theorem cutS_blk (cur : ByteArray) (k : Nat) : cutS cur.data.toList (8 * k) 8 = blkB cur k := rfl
theorem stl_none (h : Stl w q F I n was gone) : Calls Tryz.prog 57 #[.pointer (some ⟨q, 0, none⟩)] w fun e w' => e = .returned (.bool false) ∧ w' = w := by
  obtain ⟨m, p, g, c, cur, K, G, h1, _⟩ := h
  exact none_st h1
theorem stl_block (k : Nat) (h : Stl w q F I n was gone) (hk : k < n) (hg : gone k = false) : Calls Tryz.prog 125 #[.pointer (some ⟨q, 0, none⟩), .int .i64 (k : Int)] w fun e w' => e = .returned (.tuple #[.string (blkB was k), .int .i64 0]) ∧ w' = w := by
  obtain ⟨m, p, g, c, cur, K, G, h1, h2, h3, h4, h5, _⟩ := h
  rcases h4.k k hk hg with e | ⟨e, e2⟩
  · exact block_kept k _ h1 e
  · rw [← e2, ← cutS_blk]
    exact block_now n k h1 e (by rw [← sizeB]; exact h4.c) hk
theorem stl_let (k : Nat) (h : Stl w q F I n was gone) (hk : k < n) (hg : gone k = false) : Calls Tryz.prog 63 #[.pointer (some ⟨q, 0, none⟩), .int .i64 (k : Int)] w fun e w' => e = .returned (.bool true) ∧ Stl w' q F I n was (fun j => if j = k then true else gone j) ∧ Chg F w w' := by
  obtain ⟨m, p, g, c, cur, K, G, h1, h2, h3, h4, h5, h6, h7, h8, h9, h10, h11⟩ := h
  refine (let_yes n k hk (by rw [← sizeB]; exact h4.c) h3 h1 (by rw [h5 k (by omega)]; exact hg)).mono ?_
  rintro e w' ⟨rfl, hS, hC⟩
  obtain ⟨g1, g2⟩ := letG_nat G k h2 (by omega)
  have hgl := fun j => goneB_let G k j h2 (by omega)
  rw [g1] at hS hgl
  refine ⟨rfl, ⟨m, p, g, c, cur, del K (k : Int), G ||| 2 ^ k, hS, g2, h3, h4.letGo k, fun j hj => ?_, h6, h7, h8, h9, fun b hb => Nat.lt_of_lt_of_le (h10 b hb) hC.size, fun b hb => Nat.lt_of_lt_of_le (h11 b hb) hC.size⟩, hC.mono fun b _ hb => by rcases hb with rfl | rfl <;> assumption⟩
  rw [hgl j]
  show (if j = k then true else goneB (G : Int) j) = if j = k then true else gone j
  rw [h5 j hj]
theorem layL_layB {cur b : ByteArray} {a : Nat} : (layB cur a b).data.toList = layL cur.data.toList a b := by
  simp [layB, layL]
theorem stl_write (a : Int) (b : ByteArray) (h : Stl w q F I n was gone) : Calls Tryz.prog 14 #[.pointer (some ⟨q, 0, none⟩), .int .i64 a, .string b] w fun e w' => (∃ x, e = .returned (.int .i64 x)) ∧ Stl w' q F I n was gone ∧ Chg (fun b => F b ∨ I b) w w' := by
  have H := h
  obtain ⟨m, p, g, c, cur, K, G, h1, h2, h3, h4, h5, h6, h7, h8, h9, h10, h11⟩ := h
  have hl : cur.data.toList.length = 8 * n := by rw [← sizeB]; exact h4.c
  by_cases h0 : a < 0 ∨ (cur.data.toList.length : Int) < a + b.size
  · exact (write_bad a b h1 h0).mono fun _ _ ⟨x, y⟩ => ⟨⟨_, x⟩, H.below y, Chg.of_below y⟩
  · obtain ⟨A, rfl⟩ : ∃ A : Nat, a = (A : Int) := ⟨a.toNat, by omega⟩
    by_cases hs : b.size = 0
    · exact (write_none A b h1 (by omega) hs).mono fun _ _ ⟨x, y⟩ => ⟨⟨_, x⟩, H.below y, Chg.of_below y⟩
    · refine (write_st n A b h1 hl h3 (by omega) (by omega)).mono ?_
      rintro e w' ⟨rfl, hS, hC⟩
      rw [← layL_layB] at hS
      obtain ⟨N, hN⟩ : ∃ N, N = (A + b.size - 1) / 8 + 1 - A / 8 := ⟨_, rfl⟩
      rw [← hN] at hS
      have hcz := h4.c
      have key : ∀ j : Int, (∀ i, i < N → j ≠ ((A / 8 + i : Nat) : Int)) → lk (keepK K G cur.data.toList (A / 8) N) j = lk K j := fun j hj => keepK_other _ _ _ _ j N hj
      refine ⟨⟨_, rfl⟩, ⟨m, p, g, c, layB cur A b, keepK K G cur.data.toList (A / 8) N, G, hS, h2, h3, h4.write (by omega) (fun j => ?_) (fun k hk hg ht => ?_), h5, h6, h7, h8, h9, fun b hb => Nat.lt_of_lt_of_le (h10 b hb) hC.size, fun b hb => Nat.lt_of_lt_of_le (h11 b hb) hC.size⟩, hC.mono fun b _ hb => by rcases hb with rfl | rfl <;> first | exact .inl (by assumption) | exact .inr (by assumption)⟩
      · by_cases hj : ∃ i, i < N ∧ j = ((A / 8 + i : Nat) : Int)
        · obtain ⟨i, hi, rfl⟩ := hj
          have hn : A / 8 + i < n := by omega
          rw [keepK_at _ _ _ _ _ _ hi]
          split
          · rename_i hc
            exact .inr ⟨A / 8 + i, rfl, hn, by rw [← h5 _ (by omega)]; exact hc.2, hc.1, rfl⟩
          · exact .inl rfl
        · exact .inl (key j fun i hi e => hj ⟨i, hi, e⟩)
      · obtain ⟨i, rfl⟩ : ∃ i, k = A / 8 + i := ⟨k - A / 8, by omega⟩
        have hi : i < N := by omega
        rw [keepK_at _ _ _ _ _ _ hi]
        split
        · simp
        · rename_i hc
          intro e
          exact hc ⟨e, by rw [h5 _ (by omega)]; exact hg⟩
theorem stl_new {p g c : Nat} {cur : ByteArray} (n : Nat) (hF : FilmIs w p g c cur.data.toList) (hn : cur.size = 8 * n) (h64 : n ≤ 64) : Calls Tryz.prog 12 #[.pointer (some ⟨p, 0, none⟩)] w fun e w' => (∃ q m, e = .returned (.tuple #[.pointer (some ⟨q, 0, none⟩), .int .i64 0]) ∧ w.heap.size ≤ q ∧ w.heap.size ≤ m ∧ Stl w' q (fun b => b = q ∨ b = m) (fun b => b = p ∨ b = g) n cur (fun _ => false)) ∧ Below w.heap.size w w' := by
  refine (new_st hF).mono ?_
  rintro e w' ⟨⟨q, m, rfl, hq, hm, hS⟩, HB⟩
  exact ⟨⟨q, m, rfl, hq, hm, m, p, g, c, cur, [], 0, hS, by decide, h64, StillInv.new n cur hn, fun k _ => goneB_none k, .inl rfl, .inr rfl, .inl rfl, .inr rfl, fun b hb => by
    rcases hb with rfl | rfl
    · exact hS.lq
    · exact hS.map.lt, fun b hb => by
    rcases hb with rfl | rfl
    · exact hS.film.lp
    · exact hS.film.lg⟩, HB⟩
end
end Go.Proofs.YtjjfdkdneibjbaaGreatDoor
/- Walk of package still: which blocks are kept, when all were let go. -/
namespace Go.Proofs.YtjjfdkdneibjbaaGreatDoor
open Go.RowKit
variable {w : World} {q n : Nat} {F I : Nat → Prop} {was : ByteArray} {gone : Nat → Bool}
set_option maxHeartbeats 2000000 in
set_option maxRecDepth 20000 in
theorem stl_kept_none (h : Stl w q F I n was gone) (hg : ∀ k, k < n → gone k = true) : Calls Tryz.prog 19 #[.pointer (some ⟨q, 0, none⟩)] w fun e w' => e = .returned (.slice none 0 0) ∧ w' = w := by
  obtain ⟨m, p, g, c, cur, K, G, h1, h2, h3, h4, h5, _⟩ := h
  have hno : ∀ k : Nat, lk K (k : Int) = none := fun k => by
    cases hl : lk K (k : Int) with
    | none => rfl
    | some v =>
      obtain ⟨j, e1, e2, e3⟩ := h4.d _ _ hl
      rw [hg j e2] at e3
      cases e3
  have c0 := h1.c0
  have c1 := h1.c1
  have Hn := hide (none_st h1)
  have Hb := hide (blocks_any n h1.film (by rw [← sizeB]; exact h4.c))
  have Hno := hide hno
  have HM := hide h1.map
  clear h1 h4 h5 hno hg
  go_enter Tryz.func19, Tryz.ntmps19
  go_wp2_with fail
  refine (unhide Hn).mono ?_
  rintro e w2 ⟨rfl, hw2⟩
  subst hw2
  go_wp2_with fail
  refine (unhide Hb).mono ?_
  rintro e w3 ⟨rfl, hw3⟩
  subst hw3
  clear Hn Hb
  go_wp2_with fail
  go_loopw [3, 4, 5, 6, 14] (fun v _ _ _ j wr => ∃ k : Nat, k ≤ n ∧ j = .int .i64 (k : Int) ∧ v = .slice none 0 0 ∧ wr = w3) (fun _ _ _ _ j _ => n - (intOf j).toNat)
  case atStart => exact ⟨0, Nat.zero_le _, rfl, rfl, rfl⟩
  case round =>
    obtain ⟨k, hk, rfl, rfl, hw⟩ := hrel
    subst hw
    by_cases hlt : k < n
    · have hlt' : (k : Int) < n := by omega
      have hr := run_lookup_is (P := Tryz.prog) (unhide HM) Tryz.underlying118 Tryz.underlying3 (zeroString wr) (k : Int) true
      rw [unhide Hno k] at hr
      have hr : (Instr.lookup 118 (.map (some m)) (.int .i64 (k : Int)) true).run Tryz.prog wr = .ok (.tuple #[.string ⟨#[]⟩, .bool false]) wr := hr
      go_wp2_with fail
      go_roundw
      case rel => exact ⟨k + 1, by omega, by go_num, rfl, trivial⟩
      case measure => simp [intOf]; omega
    · have hlt' : ¬ (k : Int) < n := by omega
      go_wp2_with fail
      go_ret
      exact ⟨rfl, rfl⟩
end Go.Proofs.YtjjfdkdneibjbaaGreatDoor
