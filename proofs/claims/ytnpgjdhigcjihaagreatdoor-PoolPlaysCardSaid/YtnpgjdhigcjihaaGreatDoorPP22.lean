/- Joined texts: BkIA, BkIB. -/
import Derived.Test.YtnpgjdhigcjihaaGreatDoorPP10
import Derived.Test.YtnpgjdhigcjihaaGreatDoorPP13
import Derived.Test.YtnpgjdhigcjihaaGreatDoorPP03
import Derived.Deep.RegionHeld3
/- Printed by gen_bk.py. The book, kind Ints: copies, marks. -/
namespace Go.Proofs.YtnpgjdhigcjihaaGreatDoor
open Go.RowKit

theorem Tryz.kinfI : (Tryz.prog.info? 3).map (fun i => (i.zero, i.size, i.bytes)) = some (some (.int .i64 0), 1, 8) := by kernel_rfl
theorem Tryz.kinfsI : (Tryz.prog.info? 73).map (fun i => (i.zero, i.size, i.bytes)) = some (some (.slice none 0 0), 1, 24) := by kernel_rfl
theorem koneI (L : List Int) : ∀ u ∈ eI.flat L, u.oneCell' = true := by
  intro u hu
  rw [flat_ints] at hu
  obtain ⟨x, _, rfl⟩ := List.mem_map.1 hu
  rfl
theorem klitI (i : Nat) (z : Int) : ∀ u ∈ (#[.int .i64 (-1000000 * (i : Int) - z - 7)] : Array Value).toList, u.oneCell' = true := by
  intro u hu
  simp at hu
  subst hu; rfl
def mkI (i : Nat) (z : Int) : Int := -1000000 * (i : Int) - z - 7
set_option maxHeartbeats 1000000 in
set_option maxRecDepth 100000 in
theorem kmarkI (i f n : Nat) (w : World) (hi' : i ≤ 1000000) (hf : f ≤ 1000000) (hn : n ≤ 1000000) :
    Calls Tryz.prog 93 #[.int .i64 i, .int .i64 f, .int .i64 n] w fun e w' => ∃ A c, e = .returned (.slice A n c) ∧ Own eI 3 w' w.heap.size (.slice A n c) (mks mkI i f n) ∧ Below w.heap.size w w' := by
  obtain ⟨i0, hi, hz0, hz1, hz2⟩ := info_parts Tryz.kinfI
  go_enter Tryz.func93, Tryz.ntmps93
  go_wp2_with fail
  go_loopw [7, 8] (fun v j wr => ∃ k : Nat, k ≤ n ∧ j = .int .i64 ((f : Int) + (k : Int)) ∧ (∃ A c, v = .slice A k c ∧ Own eI 3 wr w.heap.size (.slice A k c) (mks mkI i f k)) ∧ Below w.heap.size w wr) (fun _ j _ => f + n - (intOf j).toNat)
  case atStart => exact ⟨0, Nat.zero_le _, rfl, ⟨none, 0, rfl, Own.nil _ _ _ _⟩, Below.refl _ _⟩
  case round =>
    obtain ⟨k, hk, rfl, ⟨Av, cv, rfl, hown⟩, HB⟩ := hrel
    by_cases hlt : k < n
    · have hlt' : (f : Int) + (k : Int) < (f : Int) + n := by omega
      have Hsu := hide (mks_succ (mk := mkI) i f k)
      have Hl := hide (mks_len (mk := mkI) i f k)
      go_wp2_with (at_builtin; refine wpList_append_one eI rfl _ _ _ rfl w.heap.size 3 i0 _ 8 Tryz.underlying73 hi hz0 hz1 hz2 rfl (by decide) _ (mks mkI i f k) rfl _ hown (mkI i ((f : Int) + (k : Int))) #[.int .i64 (-1000000 * (i : Int) - ((f : Int) + (k : Int)) - 7)] rfl (by simp [Act.eval]) (klitI _ _) ?c3 ?c4 ?c5 ?_)
      case c3 => rw [unhide Hl]; unfold maxLen; omega
      case c4 => rw [unhide Hl]; omega
      case c5 => exact HB.size
      intro v1 w1 hown1 hgr hloc
      have hb := HB.alloc HB.size (.cells #[.int .i64 (-1000000 * (i : Int) - ((f : Int) + (k : Int)) - 7)] 3)
      have B2 : Below w.heap.size w w1 := hb.grown hgr hb.size fun j hj => (hown.lt j hj).1
      obtain ⟨A1, c1, hv1, _, _⟩ := hown1.sl
      rw [List.length_append, unhide Hl, List.length_singleton] at hv1
      subst hv1
      have Hown1 := hide hown1
      clear hgr hloc hb hown HB hown1
      go_wp2
      go_roundw
      case rel => exact ⟨k + 1, by omega, by go_num, ⟨A1, c1, rfl, by rw [unhide Hsu]; exact unhide Hown1⟩, B2⟩
      case measure => simp [intOf]; omega
    · obtain rfl : k = n := by omega
      have hlt' : ¬ (f : Int) + (k : Int) < (f : Int) + k := by omega
      have Hown := hide hown
      clear hown
      go_wp2
      go_ret
      exact ⟨Av, cv, rfl, unhide Hown, HB⟩
end Go.Proofs.YtnpgjdhigcjihaaGreatDoor
/- Printed by gen_bk.py. The book, kind Ints: are they what they were, are they marked. -/
namespace Go.Proofs.YtnpgjdhigcjihaaGreatDoor
open Go.RowKit

set_option maxHeartbeats 1000000 in
set_option maxRecDepth 100000 in
theorem kstillI (b : Nat) (X Y : Value) (vs us : List Value) (Ls : List (List Int)) (w : World) (c2 : w.cell? ⟨b, 2, none⟩ = some X) (c3 : w.cell? ⟨b, 3, none⟩ = some Y) (hX : KRead eI w X vs Ls) (hY : KRead eI w Y us Ls) (hn : Ls.length ≤ 1000) :
    Calls Tryz.prog 42 #[.pointer (some ⟨b, 0, none⟩)] w fun e w' => e = .returned (.bool true) ∧ ∃ q, w' = w.drewN q := by
  obtain ⟨A1, d1, rfl, s1, n1, h1⟩ := hX
  obtain ⟨A2, d2, rfl, s2, n2, h2⟩ := hY
  have R1 := hide s1.2.2.2
  have R2 := hide s2.2.2.2
  have b1 := s1.2.1
  have b2 := s2.2.1
  have b3 := s1.2.2.1
  have b4 := s2.2.2.1
  have H1 := hide h1
  have H2 := hide h2
  clear s1 s2 h1 h2
  go_enter Tryz.func42, Tryz.ntmps42
  go_wp2_with fail
  go_loopw [3] (fun i wr => ∃ (k q : Nat), k ≤ vs.length ∧ i = .int .i64 k ∧ wr = w.drewN q) (fun i _ => vs.length - (intOf i).toNat)
  case atStart => exact ⟨0, 0, Nat.zero_le _, rfl, rfl⟩
  case round =>
    obtain ⟨k, q, hk, rfl, rfl⟩ := hrel
    by_cases hlt : k < vs.length
    · have hlt2 : k < us.length := by omega
      obtain ⟨g1, o1, e1, l1, r1⟩ := unhide R1 (by omega)
      obtain ⟨g2, o2, e2, l2, r2⟩ := unhide R2 (by omega)
      subst e1 e2
      obtain ⟨Aa, ca, ea, sa⟩ := unhide H1 k hlt (by omega)
      obtain ⟨Ab, cb, eb, sb⟩ := unhide H2 k hlt2 (by omega)
      have x1 : w.cell? ⟨g1, o1 + k, none⟩ = some (.slice Aa (Ls[k]'(by omega)).length ca) := by rw [← ea]; simpa [kV] using r1 k hlt 0 (by decide)
      have x2 : w.cell? ⟨g2, o2 + k, none⟩ = some (.slice Ab (Ls[k]'(by omega)).length cb) := by rw [← eb]; simpa [kV] using r2 k hlt2 0 (by decide)
      obtain ⟨W, hW⟩ : ∃ W, W = w.drewN q := ⟨_, rfl⟩
      have hsame : ∀ n, Calls Tryz.prog 86 #[.slice Aa (Ls[k]'(by omega)).length ca, .slice Ab (Ls[k]'(by omega)).length cb] (W.drewN n) fun e w' => e = .returned (.bool true) ∧ ∃ m, w' = (W.drewN n).drewN m := by
        intro n
        rw [hW]
        exact (by have := sameInts_any Aa Ab (Ls[k]'(by omega)).length ca (Ls[k]'(by omega)).length cb (Ls[k]'(by omega)) (Ls[k]'(by omega)) ((w.drewN q).drewN n) (show Sl eI ((w.drewN q).drewN n) _ _ _ _ from sa) (show Sl eI ((w.drewN q).drewN n) _ _ _ _ from sb); rw [decide_eq_true rfl] at this; exact this)
      have y1 : W.cell? ⟨g1, o1 + k, none⟩ = some (.slice Aa (Ls[k]'(by omega)).length ca) := by rw [hW]; exact x1
      have y2 : W.cell? ⟨g2, o2 + k, none⟩ = some (.slice Ab (Ls[k]'(by omega)).length cb) := by rw [hW]; exact x2
      have y3 : W.cell? ⟨b, 2, none⟩ = some (.slice (some ⟨g1, o1, none⟩) vs.length d1) := by rw [hW]; exact c2
      have y4 : W.cell? ⟨b, 3, none⟩ = some (.slice (some ⟨g2, o2, none⟩) us.length d2) := by rw [hW]; exact c3
      have Hsame := hide hsame
      clear hsame sa sb ea eb r1 r2
      obtain ⟨m, hm⟩ : ∃ m, m = (Ls[k]'(by omega)).length := ⟨_, rfl⟩
      rw [← hm] at y1 y2 Hsame
      rw [← hW]
      have HW := hide hW
      clear hm x1 x2 hW
      go_wp2
      go_quiet ((go_at_call 86; refine Calls.quiet_of (unhide Hsame _)))
      go_wp2
      go_roundw
      case rel => exact ⟨k + 1, q + nq, by omega, by go_num, by rw [unhide HW, World.drewN_drewN]⟩
      case measure => simp [intOf]; omega
    · go_wp2
      go_ret
      exact ⟨rfl, q, rfl⟩
set_option maxHeartbeats 2000000 in
set_option maxRecDepth 100000 in
theorem kmarkedI (Z : Value) (zs : List Value) (Ls : List (List Int)) (w : World) (hZ : KRead eI w Z zs Ls) (hm : KMarked mkI Ls) (hn : Ls.length ≤ 1000) (hl : ∀ i (h : i < Ls.length), Ls[i].length ≤ 1000000) :
    Calls Tryz.prog 63 #[Z] w fun e w' => e = .returned (.bool true) ∧ Below w.heap.size w w' := by
  obtain ⟨A1, d1, rfl, s1, n1, h1⟩ := hZ
  have R1 := hide s1.2.2.2
  have b1 := s1.2.1
  have b3 := s1.2.2.1
  have H1 := hide h1
  have Hm := hide hm
  have Hl := hide hl
  have hzn : zs.length ≤ Ls.length := by omega
  have N1 := hide n1
  clear s1 h1 hm hl n1
  go_enter Tryz.func63, Tryz.ntmps63
  go_wp2_with fail
  go_loopw [3] (fun i wr => ∃ (k : Nat), k ≤ zs.length ∧ i = .int .i64 k ∧ Below w.heap.size w wr) (fun i _ => zs.length - (intOf i).toNat)
  case atStart => exact ⟨0, Nat.zero_le _, rfl, Below.refl _ _⟩
  case round =>
    obtain ⟨k, hk, rfl, HB⟩ := hrel
    by_cases hlt : k < zs.length
    · have hlt2 : k < Ls.length := by omega
      obtain ⟨g1, o1, e1, l1, r1⟩ := unhide R1 (by omega)
      subst e1
      obtain ⟨Aa, ca, ea, sa⟩ := unhide H1 k hlt hlt2
      obtain ⟨m, hmm⟩ : ∃ m, m = Ls[k].length := ⟨_, rfl⟩
      have hmk := unhide Hm k hlt2
      have hlk := unhide Hl k hlt2
      rw [← hmm] at hmk hlk sa
      have x1 : wr.cell? ⟨g1, o1 + k, none⟩ = some (.slice Aa m ca) := by
        rw [(bcell HB).1 _ _ l1, hmm, ← ea]
        simpa [kV] using r1 k hlt 0 (by decide)
      have sr := HB.size
      rw [hmk] at sa
      have hml : (mks mkI k 0 m).length = m := mks_len k 0 m
      have hsa := sa.below HB
      have Sa := hide (show Sl eI wr.drew Aa m ca (mks mkI k 0 m) from hsa)
      clear hsa
      have hlt3 : g1 < wr.heap.size := by omega
      clear ea r1 hmm hmk sa hml
      go_wp2
      go_region_held3 (fun W => W.cell? ⟨g1, o1 + k, none⟩ = some (.slice Aa m ca))
        (first | go_keep | exact ((bcell HB5).1 g1 (o1 + k) hlt3).trans x1)
        ((first | (go_at_call 93; refine (kmarkI k 0 m _ (by omega) (by omega) (by omega)).mono ?_; rintro e w5 ⟨A5, c5, rfl, ho5, HB5⟩) | (go_at_call 86; refine (show Calls Tryz.prog 86 #[.slice Aa m ca, .slice A5 m c5] w5 fun e w' => e = .returned (.bool true) ∧ ∃ q, w' = w5.drewN q from (by have := sameInts_any Aa A5 m ca m c5 (mks mkI k 0 m) (mks mkI k 0 m) w5 ((unhide Sa).below HB5) (ksl ho5); rw [decide_eq_true rfl] at this; exact this)).mono ?_; rintro e w6 ⟨rfl, q6, rfl⟩)))
      have B5 : Below w.heap.size w w5 := HB.trans ⟨HB5.os, HB5.tape, HB5.output, HB5.size, fun j hj => HB5.block j (Nat.lt_of_lt_of_le hj sr)⟩
      clear HB HB5 ho5
      go_wp2
      go_roundw
      case rel => exact ⟨k + 1, by omega, by go_num, below_drewN B5 _⟩
      case measure => simp [intOf]; omega
    · go_wp2
      go_ret
      exact ⟨rfl, HB⟩
end Go.Proofs.YtnpgjdhigcjihaaGreatDoor
