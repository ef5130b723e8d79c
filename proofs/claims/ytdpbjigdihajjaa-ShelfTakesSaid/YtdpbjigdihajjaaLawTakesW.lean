/- Walk of the law ShelfTakes. -/
import Derived.Test.YtdpbjigdihajjaaLawTakesA
import Derived.Test.YtdpbjigdihajjaaInts
import Derived.StillTailTactics
namespace Go.Proofs.Ytdpbjigdihajjaa
open Go.RowKit

theorem Own.chg {α : Type} {E : Enc α} {e : TypeId} {w w' : World} {base : Nat} {v : Value} {xs : List α} {G : Nat → Prop} (h : Own E e w base v xs) (hc : Chg G w w') (hG : ∀ k, v.ownBlock = some k → ¬ G k) : Own E e w' base v xs :=
  h.of_block fun k hk => hc.block k (h.lt k hk).2 (hG k hk)
theorem findL_len {bs : List (List (Int × Int))} {x : Int} : (findL bs x).length ≤ lenB bs := by
  unfold findL
  rw [List.length_mergeSort, List.length_map]
  exact Nat.le_trans (List.length_filter_le _ _) (le_lenB _)
/-- Something that is done: its kind, its number, its fingerprint. -/
def eOp : Enc (Int × Int × Int) := ⟨3, fun t j => if j = 0 then .int .i64 t.1 else if j = 1 then .int .i64 t.2.1 else .int .u32 t.2.2⟩

set_option maxHeartbeats 1000000 in
set_option maxRecDepth 100000 in
theorem takes_many (b : Int) (A : Option Addr) (n c : Nat) (x id : Int) (w : World) (hn : 60 < n) (_ : n ≤ c) (_ : c ≤ 9223372036854775807) :
    Calls Try.prog 4 #[.int .i64 b, .slice A n c, .int .u32 x, .int .i64 id] w fun e w' => e = .returned (.bool true) ∧ Below w.heap.size w w' := by
  go_enter Try.func4, Try.ntmps4
  go_wp2_with (go_at_call 17; refine (alive8 _).mono ?_; rintro e w1 ⟨he, B1⟩; subst he)
  go_ret
  exact ⟨rfl, B1⟩

set_option maxHeartbeats 2000000 in
set_option maxRecDepth 100000 in
theorem takes_few (b : Int) (A : Option Addr) (n c : Nat) (ops : List (Int × Int × Int)) (x id : Int) (w : World) (hs : Sl eOp w A n c ops) (hn : n ≤ 60) (hop : ∀ o ∈ ops, 0 ≤ o.2.2 ∧ o.2.2 < 4294967296) (h0 : 0 ≤ x) (h1 : x < 4294967296) :
    Calls Try.prog 4 #[.int .i64 b, .slice A n c, .int .u32 x, .int .i64 id] w fun e w' => e = .returned (.bool true) ∧ Below w.heap.size w w' := by
  obtain rfl := hs.1
  have hc1 := hs.2.1
  have hc2 := hs.2.2.1
  have HR := hide hs.2.2.2
  have HOp := hide hop
  clear hs hop
  go_enter Try.func4, Try.ntmps4
  go_wp2_with fail
  refine (alive8 _).mono ?_
  rintro e w1 ⟨rfl, B1⟩
  go_wp2_with fail
  refine (newB (B := w.heap.size) b w1 B1.size).mono ?_
  rintro e w2 ⟨p, rfl, hS, HB2⟩
  have B2 := B1.trans (HB2.mono B1.size)
  have hz : ShB w2 w.heap.size (.pointer (some ⟨p, 0, none⟩)) (List.replicate (nB b) []) ∧ NdB (List.replicate (nB b) []) ∧ lenB (List.replicate (nB b) []) ≤ 0 := ⟨hS, NdB.nil _, by simp [lenB]⟩
  have Hz := hide hz
  clear hS HB2 B1 hz
  go_wp2_with fail
  go_loopw [10] (fun i wr => ∃ k : Nat, k ≤ ops.length ∧ i = .int .i64 k ∧ (∃ bs, ShB wr w.heap.size (.pointer (some ⟨p, 0, none⟩)) bs ∧ NdB bs ∧ lenB bs ≤ k) ∧ Below w.heap.size w wr)
    (fun i _ => ops.length - (intOf i).toNat)
  case atStart => exact ⟨0, Nat.zero_le _, rfl, ⟨_, unhide Hz⟩, B2⟩
  case round =>
    obtain ⟨k, hk, rfl, ⟨bs, hS, hN, hL⟩, HB⟩ := hrel
    by_cases hlt : k < ops.length
    · obtain ⟨bb, off, hA', hb, hr⟩ := unhide HR (by omega)
      subst hA'
      have ho := unhide HOp _ (List.getElem_mem hlt)
      have x1 : wr.cell? ⟨bb, off + k * 3 + 1, none⟩ = some (.int .i64 ops[k].2.1) := by rw [(bcell HB).1 _ _ hb]; simpa [eOp] using hr k hlt 1 (by decide)
      have x2 : wr.cell? ⟨bb, off + k * 3 + 2, none⟩ = some (.int .u32 ops[k].2.2) := by rw [(bcell HB).1 _ _ hb]; simpa [eOp] using hr k hlt 2 (by decide)
      obtain ⟨y, hy⟩ : ∃ y, y = ops[k].2.1 := ⟨_, rfl⟩
      obtain ⟨z, hz⟩ : ∃ z, z = ops[k].2.2 := ⟨_, rfl⟩
      rw [← hy] at x1
      rw [← hz] at x2 ho
      have hpos := hS.pos
      clear hr hy hz
      have hput : ∀ w1 : World, ShB w1 w.heap.size (.pointer (some ⟨p, 0, none⟩)) bs → w.heap.size ≤ w1.heap.size → Calls Try.prog 19 #[.pointer (some ⟨p, 0, none⟩), .int .u32 z, .int .i64 y] w1
          fun e w' => (∃ v, e = .returned v) ∧ ShB w' w.heap.size (.pointer (some ⟨p, 0, none⟩)) (putA bs z y) ∧ Below w.heap.size w1 w' := by
        intro w1 h hz
        by_cases hb : hasB bs z y
        · have e : putA bs z y = bs := by unfold putA; rw [if_pos hb]
          rw [e]
          exact (put_no z y h ho.1 ho.2 (by omega) hb).mono fun _ _ ⟨a, b, c⟩ => ⟨⟨_, a⟩, b, c.mono hz⟩
        · have e : putA bs z y = putB bs z y := by unfold putA; rw [if_neg hb]
          rw [e]
          exact (put_yes z y h hz ho.1 ho.2 (by omega) hb).mono fun _ _ ⟨a, b, c⟩ => ⟨⟨_, a⟩, b, c⟩
      have Hput := hide hput
      have HN := hide (hN.putA z y)
      have hla := lenB_putA (bs := bs) z y hpos
      have HS := hide hS
      have HL := hide (show lenB (putA bs z y) ≤ k + 1 by omega)
      clear hput hN hla hL hS
      go_wp2_with fail
      go_still_tail 11, (by kernel_rfl)
      change wpList _ _ _ _ _ wr.drew
      go_wp2_with (go_at_call 19; refine (unhide Hput wr.drew (unhide HS) HB.size).mono ?_; rintro e w3 ⟨⟨v, he⟩, HS3, HB3⟩; subst he)
      go_roundw
      case rel => exact ⟨k + 1, by omega, by go_num, ⟨_, HS3, unhide HN, unhide HL⟩, (below_drewN HB 1).trans HB3⟩
      case measure => simp [intOf]; omega
    · obtain rfl : k = ops.length := by omega
      obtain ⟨wA, rfl⟩ : ∃ wo : World, wo = wr := ⟨_, rfl⟩
      obtain ⟨L, hLd⟩ : ∃ L, L = findL bs x := ⟨_, rfl⟩
      have hll : L.length ≤ lenB bs := by rw [hLd]; exact findL_len
      have hpos := hS.pos
      have sA := HB.size
      obtain ⟨N, hNd⟩ : ∃ N, N = lenB bs := ⟨_, rfl⟩
      rw [← hNd] at hL hll
      have HNd := hide hNd
      have HLd := hide hLd
      have HNn := hide hN
      clear hLd hNd hN
      go_wp2_with fail
      refine (findB x hS h0 h1 (by rw [← unhide HNd]; omega) L (unhide HLd).symm).mono ?_
      rintro e w3 ⟨Aw, cw, rfl, ho, _, HB3⟩
      have hS3 : ShelfIs w3 (Gap w.heap.size wA.heap.size w3.heap.size) (.pointer (some ⟨p, 0, none⟩)) bs := hS.gap HB3 rfl
      have s3 := HB3.size
      have B3 := HB.trans (HB3.mono sA)
      clear hS HB HB3
      go_wp2_with fail
      refine (lenG hS3 (by rw [← unhide HNd]; omega) (N : Int) (by rw [← unhide HNd])).mono ?_
      rintro e w4 ⟨rfl, hS4, HB4⟩
      have s4 := HB4.size
      have B4 := B3.trans (HB4.mono (by omega))
      have ho4 := ho.below HB4
      have hbl : ∀ k, (Value.slice Aw L.length cw).ownBlock = some k → wA.heap.size ≤ k ∧ k < w3.heap.size := fun k hk => ho.lt k hk
      have Hbl := hide hbl
      clear ho hS3 B3 HB4 hbl
      obtain ⟨A', c', hv, hsl, _⟩ := ho4.sl
      injection hv with hv1 _ hv2
      subst hv1 hv2
      have HR2 := hide hsl.2.2.2
      have Ho4 := hide ho4
      have HS4 := hide hS4
      clear hsl ho4 hS4
      go_wp2_with fail
      go_loop [13, 14] (fun h i => ∃ (k : Nat) (q : Bool), k ≤ L.length ∧ i = .int .i64 k ∧ h = .bool q ∧ q = decide (id ∈ L.take k)) (fun _ i => L.length - (intOf i).toNat)
      case atStart => exact ⟨0, false, Nat.zero_le _, rfl, rfl, by simp⟩
      case round =>
        obtain ⟨k, q, hk2, rfl, rfl, hq⟩ := hrel
        have Hq := hide hq
        clear hq
        by_cases hlt2 : k < L.length
        · obtain ⟨bb, off, hA', hb, hr⟩ := unhide HR2 (by omega)
          subst hA'
          have x0 : w4.cell? ⟨bb, off + k, none⟩ = some (.int .i64 L[k]) := by simpa [eI] using hr k hlt2 0 (by decide)
          obtain ⟨y, hy⟩ : ∃ y, y = L[k] := ⟨_, rfl⟩
          rw [← hy] at x0
          have Hst := hide (show decide (id ∈ L.take (k + 1)) = (decide (id ∈ L.take k) || (y == id)) by
            rw [List.take_succ_eq_append_getElem hlt2, ← hy, Bool.eq_iff_iff]
            simp only [decide_eq_true_eq, Bool.or_eq_true, beq_iff_eq, List.mem_append, List.mem_singleton]
            exact or_congr Iff.rfl ⟨Eq.symm, Eq.symm⟩)
          clear hr hy
          cases q with
          | true =>
            go_wp2
            go_round
            case rel => exact ⟨k + 1, true, by omega, by go_num, rfl, by rw [unhide Hst, ← unhide Hq]; rfl⟩
            case measure => simp [intOf]; omega
          | false =>
            by_cases he : y = id
            · have q1 : (y == id) = true := beq_iff_eq.2 he
              have Hq1 := hide q1
              clear he
              go_wp2
              go_round
              case rel => exact ⟨k + 1, true, by omega, by go_num, rfl, by rw [unhide Hst, ← unhide Hq, unhide Hq1]; rfl⟩
              case measure => simp [intOf]; omega
            · have q1 : (y == id) = false := beq_eq_false_iff_ne.2 he
              have Hq1 := hide q1
              clear he
              go_wp2
              go_round
              case rel => exact ⟨k + 1, false, by omega, by go_num, rfl, by rw [unhide Hst, ← unhide Hq, unhide Hq1]; rfl⟩
              case measure => simp [intOf]; omega
        · obtain rfl : k = L.length := by omega
          have Hq2 := hide (show (q = true) ↔ hasB bs x id by
            rw [unhide Hq, List.take_length, decide_eq_true_iff, unhide HLd]; exact mem_findL)
          clear Hq
          have hG4 : ∀ W : World, w3.heap.size ≤ W.heap.size → ∀ k, W.heap.size ≤ k → Gap w.heap.size wA.heap.size w3.heap.size k := fun W h k hk => ⟨by omega, .inr (by omega)⟩
          have hnG : ∀ k, (Value.slice Aw L.length cw).ownBlock = some k → ¬ Gap w.heap.size wA.heap.size w3.heap.size k := fun k hk h => by
            have := unhide Hbl k hk
            rcases h.2 with h | h <;> omega
          have HG4 := hide hG4
          have HnG := hide hnG
          clear hG4 hnG
          cases q with
          | true =>
            have hb : hasB bs x id := (unhide Hq2).1 rfl
            have Hb := hide hb
            clear hb
            go_wp2_with fail
            refine (put_noG x id (unhide HS4) h0 h1 (by rw [← unhide HNd]; omega) (unhide Hb)).mono ?_
            rintro e w5 ⟨rfl, hS5, HB5⟩
            have s5 := HB5.size
            have B5 := B4.trans (HB5.mono (by omega))
            have HO5 := hide ((unhide Ho4).below HB5)
            clear HS4 Ho4 B4 HB5
            go_wp2_with fail
            refine (cut_yesG x id hS5 (unhide HG4 w5 (by omega)) h0 h1 (unhide Hb)).mono ?_
            rintro e w6 ⟨rfl, hS6, HC6⟩
            have s6 := HC6.size
            have B6 := B5.trans (HC6.to_below (by omega) fun k hk => hk.1)
            have HO6 := hide ((unhide HO5).chg HC6 (unhide HnG))
            clear HO5 hS5 B5 HC6
            go_wp2_with fail
            refine (cut_noG x id hS6 h0 h1 (not_hasB_cutB hpos (unhide HNn))).mono ?_
            rintro e w7 ⟨rfl, hS7, HB7⟩
            have s7 := HB7.size
            have B7 := B6.trans (HB7.mono (by omega))
            have HO7 := hide ((unhide HO6).below HB7)
            clear HO6 hS6 B6 HB7
            have hN1 : lenB (cutB bs x id) + 1 = N := by rw [unhide HNd]; exact lenB_cutB hpos (unhide Hb)
            have HN1 := hide hN1
            clear hN1
            go_wp2_with fail
            refine (lenG hS7 (by have := unhide HN1; omega) ((N : Int) - 1) (by have := unhide HN1; omega)).mono ?_
            rintro e w8 ⟨rfl, hS8, HB8⟩
            have s8 := HB8.size
            have B8 := B7.trans (HB8.mono (by omega))
            have HO8 := hide ((unhide HO7).below HB8)
            clear HO7 hS7 B7 HB8
            go_wp2_with fail
            refine (put_yesG x id hS8 (unhide HG4 w8 (by omega)) h0 h1 (by have := unhide HN1; omega) (not_hasB_cutB hpos (unhide HNn))).mono ?_
            rintro e w9 ⟨rfl, hS9, HC9⟩
            have s9 := HC9.size
            have B9 := B8.trans (HC9.to_below (by omega) fun k hk => hk.1)
            have HO9 := hide ((unhide HO8).chg HC9 (unhide HnG))
            clear HO8 hS8 B8 HC9
            go_wp2_with fail
            refine (findG x hS9 h0 h1 (by rw [lenB_putB _ _ (by rw [cutB_length]; exact hpos)]; have := unhide HN1; omega) L (by rw [findL_again hpos (unhide Hb)]; exact (unhide HLd).symm)).mono ?_
            rintro e w10 ⟨Ax, cx, rfl, hox, _, HB10⟩
            have B10 := B9.trans (HB10.mono (by omega))
            have HO10 := (unhide HO9).below HB10
            clear HO9 hS9 B9 HB10
            obtain ⟨_, _, hvx, hslx, _⟩ := hox.sl
            injection hvx with hv1 _ hv2
            subst hv1 hv2
            obtain ⟨_, _, hvy, hsly, _⟩ := HO10.sl
            injection hvy with hv1 _ hv2
            subst hv1 hv2
            have hsame : ∀ w1 : World, w1 = w10 → Calls Try.prog 12 #[.slice Ax L.length cx, .slice Aw L.length cw] w1 fun e w' => e = .returned (.bool true) ∧ ∃ q, w' = w1.drewN q := by
              rintro w1 rfl
              have := sameInts_any Ax Aw L.length cx L.length cw L L w1 hslx hsly
              rw [decide_eq_true (rfl : L = L)] at this
              exact this
            have Hsame := hide hsame
            clear hsame hslx hsly hox HO10
            go_wp2_with fail
            refine (unhide Hsame w10 rfl).mono ?_
            rintro e w11 ⟨rfl, q, rfl⟩
            go_wp2
            go_ret
            exact ⟨rfl, below_drewN B10 _⟩
          | false =>
            have hb : ¬ hasB bs x id := fun h => by have := (unhide Hq2).2 h; cases this
            have Hb := hide hb
            clear hb
            go_wp2_with fail
            refine (put_yesG x id (unhide HS4) (unhide HG4 w4 (by omega)) h0 h1 (by rw [← unhide HNd]; omega) (unhide Hb)).mono ?_
            rintro e w5 ⟨rfl, hS5, HC5⟩
            have s5 := HC5.size
            have B5 := B4.trans (HC5.to_below (by omega) fun k hk => hk.1)
            have HO5 := hide ((unhide Ho4).chg HC5 (unhide HnG))
            clear HS4 Ho4 B4 HC5
            go_wp2_with fail
            refine (cut_yesG x id hS5 (unhide HG4 w5 (by omega)) h0 h1 (hasB_putB x id hpos)).mono ?_
            rintro e w6 ⟨rfl, hS6, HC6⟩
            rw [cutB_putB hpos (unhide Hb)] at hS6
            have s6 := HC6.size
            have B6 := B5.trans (HC6.to_below (by omega) fun k hk => hk.1)
            have HO6 := hide ((unhide HO5).chg HC6 (unhide HnG))
            clear HO5 hS5 B5 HC6
            go_wp2_with fail
            refine (cut_noG x id hS6 h0 h1 (unhide Hb)).mono ?_
            rintro e w7 ⟨rfl, hS7, HB7⟩
            have s7 := HB7.size
            have B7 := B6.trans (HB7.mono (by omega))
            have HO7 := hide ((unhide HO6).below HB7)
            clear HO6 hS6 B6 HB7
            go_wp2_with fail
            refine (lenG hS7 (by rw [← unhide HNd]; omega) (N : Int) (by rw [← unhide HNd])).mono ?_
            rintro e w8 ⟨rfl, hS8, HB8⟩
            have s8 := HB8.size
            have B8 := B7.trans (HB8.mono (by omega))
            have HO8 := hide ((unhide HO7).below HB8)
            clear HO7 hS7 B7 HB8
            go_wp2_with fail
            refine (findG x hS8 h0 h1 (by rw [← unhide HNd]; omega) L (unhide HLd).symm).mono ?_
            rintro e w10 ⟨Ax, cx, rfl, hox, _, HB10⟩
            have B10 := B8.trans (HB10.mono (by omega))
            have HO10 := (unhide HO8).below HB10
            clear HO8 hS8 B8 HB10
            obtain ⟨_, _, hvx, hslx, _⟩ := hox.sl
            injection hvx with hv1 _ hv2
            subst hv1 hv2
            obtain ⟨_, _, hvy, hsly, _⟩ := HO10.sl
            injection hvy with hv1 _ hv2
            subst hv1 hv2
            have hsame : ∀ w1 : World, w1 = w10 → Calls Try.prog 12 #[.slice Ax L.length cx, .slice Aw L.length cw] w1 fun e w' => e = .returned (.bool true) ∧ ∃ q, w' = w1.drewN q := by
              rintro w1 rfl
              have := sameInts_any Ax Aw L.length cx L.length cw L L w1 hslx hsly
              rw [decide_eq_true (rfl : L = L)] at this
              exact this
            have Hsame := hide hsame
            clear hsame hslx hsly hox HO10
            go_wp2_with fail
            refine (unhide Hsame w10 rfl).mono ?_
            rintro e w11 ⟨rfl, q, rfl⟩
            go_wp2
            go_ret
            exact ⟨rfl, below_drewN B10 _⟩
end Go.Proofs.Ytdpbjigdihajjaa
