/- Walk of the law RetainWeeks. -/
import Derived.Test.YtolpnioobdphlaaRRRRLawDayC
namespace Go.Proofs.YtolpnioobdphlaaRRRR
open Go.RowKit Retain

set_option maxHeartbeats 1000000 in
theorem weeks_bad (n weeks months : Int) (h : ¬ (1 ≤ n ∧ n ≤ 60 ∧ 0 ≤ weeks ∧ weeks ≤ 9 ∧ 0 ≤ months ∧ months ≤ 9)) (w : World) :
    Calls Try.prog 4 #[.int .i64 n, .int .i64 weeks, .int .i64 months] w fun e w' => e = .returned (.bool true) ∧ Below w.heap.size w w' := by
  have hc : n < 1 ∨ (1 ≤ n ∧ 60 < n) ∨ (1 ≤ n ∧ n ≤ 60 ∧ weeks < 0) ∨ (1 ≤ n ∧ n ≤ 60 ∧ 0 ≤ weeks ∧ 9 < weeks) ∨ (1 ≤ n ∧ n ≤ 60 ∧ 0 ≤ weeks ∧ weeks ≤ 9 ∧ months < 0) ∨ (1 ≤ n ∧ n ≤ 60 ∧ 0 ≤ weeks ∧ weeks ≤ 9 ∧ 0 ≤ months ∧ 9 < months) := by omega
  clear h
  rcases hc with h | ⟨h1, h⟩ | ⟨h1, h2, h⟩ | ⟨h1, h2, h3, h⟩ | ⟨h1, h2, h3, h4, h⟩ | ⟨h1, h2, h3, h4, h5, h⟩
  all_goals
    go_enter Try.func4, Try.ntmps4
    go_wp2_with fail
    refine (alive_any _).mono ?_
    rintro e w1 ⟨rfl, HB⟩
    go_wp2
    go_ret
    exact ⟨rfl, HB⟩
set_option maxHeartbeats 2000000 in
set_option maxRecDepth 100000 in
theorem weeks_good (m : Nat) (weeks months : Int) (h1 : 1 ≤ m) (h2 : m ≤ 60) (h3 : 0 ≤ weeks) (h4 : weeks ≤ 9) (h5 : 0 ≤ months) (h6 : months ≤ 9) (w : World) :
    Calls Try.prog 4 #[.int .i64 m, .int .i64 weeks, .int .i64 months] w fun e w' => e = .returned (.bool true) ∧ Below w.heap.size w w' := by
  obtain ⟨i0, hi, hz0, hz1, hz2⟩ := info_parts Try.infoPt
  have hmm := @run_makeMap Try.prog
  go_enter Try.func4, Try.ntmps4
  go_wp2_with fail
  refine (alive_any _).mono ?_
  rintro e w1 ⟨rfl, HB⟩
  go_wp2_with fail
  have s1 := HB.size
  go_loopw [7, 8] (fun v i wr => ∃ k : Nat, k ≤ m ∧ i = .int .i64 k ∧ wr.ownsRow w.heap.size 26 4 v k (ptCells (dayPts k)) ∧ Below w.heap.size w wr)
    (fun _ i _ => m - (intOf i).toNat)
  case atStart => exact ⟨0, Nat.zero_le _, rfl, World.ownsRow_nil _ _ _ _, HB⟩
  case round =>
    obtain ⟨k, hk, rfl, hown, HBr⟩ := hrel
    by_cases hlt : k < m
    · have hs := HBr.size
      go_wp2_with (at_builtin; refine wpList_append_own_at _ rfl _ _ _ rfl w.heap.size 26 i0 (.agg #[.int .i64 0, .int .i64 0, .int .i64 0, .slice none 0 0]) 4 48 Try.underlying23 hi hz0 hz1 hz2 rfl (by decide) _ _ _ rfl (hown.alloc _) ⟨wr.heap.size, 0, none⟩ 1 1 [.int .i64 ((k : Int) + 1), .int .i64 0, .int .i64 k, .slice none 0 0] rfl rfl ?c1 ?c2 ?c3 ?c4 ?c5 ?_)
      case c1 =>
        intro j u hj
        have : j < 4 := (List.getElem?_eq_some_iff.1 hj).1
        rcases (show j = 0 ∨ j = 1 ∨ j = 2 ∨ j = 3 by omega) with rfl | rfl | rfl | rfl <;> simp at hj <;> subst hj <;> simp [Addr.add]
      case c2 => intro u hu; simp at hu; rcases hu with rfl | rfl | rfl | rfl <;> rfl
      case c3 => unfold maxLen; omega
      case c4 => omega
      case c5 => simp; omega
      intro v' w3 hown' hgrow _ _
      go_wp2
      go_roundw
      case rel => exact ⟨k + 1, by omega, by go_num, by rw [dayPts_succ]; simpa [ptCells] using hown', (HBr.alloc hs _).grown hgrow (by simp; omega) (fun j hj => (hown.lt j hj).1)⟩
      case measure => simp [intOf]; omega
    · obtain rfl : k = m := by omega
      obtain ⟨wA, rfl⟩ : ∃ wo : World, wo = wr := ⟨_, rfl⟩
      obtain ⟨A, c, hv, hsl⟩ := own_sl_pt hown (dayPts_len _)
      subst hv
      clear hown
      have hs := HBr.size
      go_wp2_with fail
      refine (keep_any 0 weeks months ((k : Int) - 1) A k c (dayPts k) _ (hsl.below ((Below.refl _ _).alloc (Nat.le_refl _) _)) (by omega) (days_ok k (by omega)) (by omega)).mono ?_
      rintro e w2 ⟨v, rfl, hown, HB2⟩
      have HM := (MapIs.made kInt wA).below HB2
      obtain ⟨A2, c2, hv2, hsl2⟩ := own_sl_int hown rfl
      subst hv2
      have BB : Below w.heap.size w w2 := (HBr.alloc hs _).trans (HB2.mono (by simp; omega))
      have hblk : ∀ g, (Value.slice A2 (partL 0 weeks months ((k : Int) - 1) (dayPts k) true k).length c2).ownBlock = some g → wA.heap.size + 1 ≤ g := fun g hg => by have := (hown.lt g hg).1; simpa using this
      have hs2 : wA.heap.size < w2.heap.size := by have := HB2.size; simp at this; omega
      clear hown hsl HB2
      obtain ⟨L, hL⟩ : ∃ L, L = partL 0 weeks months ((k : Int) - 1) (dayPts k) true k := ⟨_, rfl⟩
      rw [← hL] at hsl2 hblk
      rw [← hL]
      have hLk : L.length ≤ k := by rw [hL]; exact partL_le _ _ _ _ _ _ _
      have HL := hide hL
      clear hL
      go_wp2_with fail
      go_loopw [65] (fun i wr => ∃ j : Nat, j ≤ L.length ∧ i = .int .i64 j ∧ MapIs kInt wr wA.heap.size (fillT (L.take j)) ∧ w2.grownBy wr (some wA.heap.size))
        (fun i _ => L.length - (intOf i).toNat)
      case atStart => exact ⟨0, Nat.zero_le _, rfl, HM, World.grownBy.refl _ _⟩
      case round =>
        obtain ⟨j, hj, rfl, HMj, HG⟩ := hrel
        by_cases hjl : j < L.length
        · obtain ⟨b, off, hA2, hb, hrd⟩ := hsl2.2.2.2 (by omega)
          subst hA2
          have hbk : wA.heap.size + 1 ≤ b := hblk b rfl
          have x0 : wr.cell? ⟨b, off + j, none⟩ = some (.int .i64 L[j]) := by
            rw [World.cell?_of_block (HG.block b hb (by intro e; injection e; omega))]
            simpa [eInt] using hrd j hjl 0 (by decide)
          have HT : Hid (fillT (L.take (j + 1)) = put (fillT (L.take j)) L[j] (.bool true)) := by
            rw [List.take_succ_eq_append_getElem hjl, fillT_snoc]; exact rfl
          obtain ⟨y, hy⟩ : ∃ y, y = L[j] := ⟨_, rfl⟩
          rw [← hy] at x0 HT
          clear hy
          go_wp2_with (at_mapUpdate; refine wpList_update_is rfl _ _ _ _ rfl kInt (fillT (L.take j)) 3 4 Try.underlying27 Try.underlying3 wA.heap.size rfl HMj y rfl _ rfl ?_; intro wz HMz HGz)
          go_roundw
          case rel => exact ⟨j + 1, by omega, by go_num, by rw [unhide HT]; exact HMz, HG.trans HGz⟩
          case measure => simp [intOf]; omega
        · obtain rfl : j = L.length := by omega
          rw [List.take_length] at HMj
          have BQ : Below w.heap.size w wr := BB.grown HG BB.size (fun g hg => by injection hg; omega)
          clear HG hsl2 hblk HM
          go_wp2_with fail
          go_loopw [13] (fun i wz => ∃ q : Nat, q ≤ k ∧ i = .int .i64 q ∧ wz = wr) (fun i _ => k - (intOf i).toNat)
          case atStart => exact ⟨0, Nat.zero_le _, rfl, rfl⟩
          case round =>
            obtain ⟨q, hq, rfl, rfl⟩ := hrel
            by_cases hqk : q < k
            · have hst : decide ((q : Int) + 1 ∈ L) = (decide (q + 1 = k) || ((decide (q + 1 = k) || decide ((q : Int) % 7 = 6)) && decide (((k : Int) - 1) / 7 - (q : Int) / 7 < weeks)) ||
                  ((decide (q + 1 = k) || decide ((q : Int) % 28 = 27)) && decide (((k : Int) - 1) / 28 - (q : Int) / 28 < months))) := by
                rw [← weeks_plain hqk h2, Bool.eq_iff_iff, decide_eq_true_iff, unhide HL, mem_part hqk, dayPts_days]
              have hin := fillT_lk L ((q : Int) + 1)
              rw [hst] at hin
              have Hin := hide hin
              clear hin hst
              have d7 : ((k : Int) - 1) / 7 - (q : Int) / 7 < 100 := by omega
              have d28 : ((k : Int) - 1) / 28 - (q : Int) / 28 < 100 := by omega
              have c7 : 0 ≤ ((k : Int) - 1) / 7 - (q : Int) / 7 := by omega
              have c28 : 0 ≤ ((k : Int) - 1) / 28 - (q : Int) / 28 := by omega
              by_cases e1 : q + 1 = k
              · by_cases w7 : ((k : Int) - 1) / 7 - (q : Int) / 7 < weeks <;> by_cases w28 : ((k : Int) - 1) / 28 - (q : Int) / 28 < months
                all_goals
                  have Hv : (lk (fillT L) ((q : Int) + 1)).getD (.bool false) = .bool true := by
                    rw [unhide Hin]; simp [e1, w7, w28]
                  have HV := hide Hv
                  clear Hv
                  subst e1
                  go_wp2_with (at_lookup; refine wpList_lookup_is rfl _ _ _ _ rfl kInt (fillT L) 3 4 Try.underlying27 Try.underlying3 _ (zeroB _) wA.heap.size rfl HMj ((q : Int) + 1) rfl ?_; rw [if_neg (by decide), unhide HV])
                  go_roundw
                  case rel => exact ⟨q + 1, by omega, by omega⟩
                  case measure => simp [intOf]
              · by_cases w7 : (q : Int) % 7 = 6 ∧ ((k : Int) - 1) / 7 - (q : Int) / 7 < weeks
                · obtain ⟨e7, w7⟩ := w7
                  by_cases e28 : (q : Int) % 28 = 27 <;> by_cases w28 : ((k : Int) - 1) / 28 - (q : Int) / 28 < months
                  all_goals
                    have Hv : (lk (fillT L) ((q : Int) + 1)).getD (.bool false) = .bool true := by
                      rw [unhide Hin]; simp [e1, e7, w7, e28, w28]
                    have HV := hide Hv
                    clear Hv
                    go_wp2_with (at_lookup; refine wpList_lookup_is rfl _ _ _ _ rfl kInt (fillT L) 3 4 Try.underlying27 Try.underlying3 _ (zeroB _) wA.heap.size rfl HMj ((q : Int) + 1) rfl ?_; rw [if_neg (by decide), unhide HV])
                    go_roundw
                    case rel => exact ⟨q + 1, by omega, by go_num, trivial⟩
                    case measure => simp [intOf]; omega
                · have n7 : (q : Int) % 7 = 6 → ¬ ((k : Int) - 1) / 7 - (q : Int) / 7 < weeks := fun a b => w7 ⟨a, b⟩
                  clear w7
                  by_cases w28 : (q : Int) % 28 = 27 ∧ ((k : Int) - 1) / 28 - (q : Int) / 28 < months
                  · obtain ⟨e28, w28⟩ := w28
                    have e7 : (q : Int) % 7 = 6 := by omega
                    have w7 := n7 e7
                    clear n7
                    have Hv : (lk (fillT L) ((q : Int) + 1)).getD (.bool false) = .bool true := by
                      rw [unhide Hin]; simp [e1, e7, w7, e28, w28]
                    have HV := hide Hv
                    clear Hv
                    go_wp2_with (at_lookup; refine wpList_lookup_is rfl _ _ _ _ rfl kInt (fillT L) 3 4 Try.underlying27 Try.underlying3 _ (zeroB _) wA.heap.size rfl HMj ((q : Int) + 1) rfl ?_; rw [if_neg (by decide), unhide HV])
                    go_roundw
                    case rel => exact ⟨q + 1, by omega, by go_num, trivial⟩
                    case measure => simp [intOf]; omega
                  · have n28 : (q : Int) % 28 = 27 → ¬ ((k : Int) - 1) / 28 - (q : Int) / 28 < months := fun a b => w28 ⟨a, b⟩
                    clear w28
                    by_cases e7 : (q : Int) % 7 = 6
                    · have w7 := n7 e7
                      clear n7
                      by_cases e28 : (q : Int) % 28 = 27
                      · have w28 := n28 e28
                        clear n28
                        have Hv : (lk (fillT L) ((q : Int) + 1)).getD (.bool false) = .bool false := by
                          rw [unhide Hin]; simp [e1, e7, w7, e28, w28]
                        have HV := hide Hv
                        clear Hv
                        go_wp2_with (at_lookup; refine wpList_lookup_is rfl _ _ _ _ rfl kInt (fillT L) 3 4 Try.underlying27 Try.underlying3 _ (zeroB _) wA.heap.size rfl HMj ((q : Int) + 1) rfl ?_; rw [if_neg (by decide), unhide HV])
                        go_roundw
                        case rel => exact ⟨q + 1, by omega, by go_num, trivial⟩
                        case measure => simp [intOf]; omega
                      · clear n28
                        have Hv : (lk (fillT L) ((q : Int) + 1)).getD (.bool false) = .bool false := by
                          rw [unhide Hin]; simp [e1, e7, w7, e28]
                        have HV := hide Hv
                        clear Hv
                        go_wp2_with (at_lookup; refine wpList_lookup_is rfl _ _ _ _ rfl kInt (fillT L) 3 4 Try.underlying27 Try.underlying3 _ (zeroB _) wA.heap.size rfl HMj ((q : Int) + 1) rfl ?_; rw [if_neg (by decide), unhide HV])
                        go_roundw
                        case rel => exact ⟨q + 1, by omega, by go_num, trivial⟩
                        case measure => simp [intOf]; omega
                    · clear n7
                      have e28 : ¬ (q : Int) % 28 = 27 := by omega
                      clear n28
                      have Hv : (lk (fillT L) ((q : Int) + 1)).getD (.bool false) = .bool false := by
                        rw [unhide Hin]; simp [e1, e7, e28]
                      have HV := hide Hv
                      clear Hv
                      go_wp2_with (at_lookup; refine wpList_lookup_is rfl _ _ _ _ rfl kInt (fillT L) 3 4 Try.underlying27 Try.underlying3 _ (zeroB _) wA.heap.size rfl HMj ((q : Int) + 1) rfl ?_; rw [if_neg (by decide), unhide HV])
                      go_roundw
                      case rel => exact ⟨q + 1, by omega, by go_num, trivial⟩
                      case measure => simp [intOf]; omega
            · go_wp2
              go_ret
              exact ⟨rfl, BQ⟩
theorem weeks_all (n weeks months : Int) (_ : -9223372036854775808 ≤ n ∧ n ≤ 9223372036854775807) (_ : -9223372036854775808 ≤ weeks ∧ weeks ≤ 9223372036854775807) (_ : -9223372036854775808 ≤ months ∧ months ≤ 9223372036854775807) (w : World) :
    Calls Try.prog 4 #[.int .i64 n, .int .i64 weeks, .int .i64 months] w fun e w' => e = .returned (.bool true) ∧ Below w.heap.size w w' := by
  by_cases h : 1 ≤ n ∧ n ≤ 60 ∧ 0 ≤ weeks ∧ weeks ≤ 9 ∧ 0 ≤ months ∧ months ≤ 9
  · obtain ⟨m, rfl⟩ := Int.eq_ofNat_of_zero_le (show 0 ≤ n by omega)
    exact weeks_good m weeks months (by omega) (by omega) (by omega) (by omega) (by omega) (by omega) w
  · exact weeks_bad n weeks months h w
end Go.Proofs.YtolpnioobdphlaaRRRR
