/- Walk of the law RetainGrows. -/
import Derived.Test.YtolpnioobdphlaaRRRRRetE
import Derived.Test.YtolpnioobdphlaaRRRRMap
namespace Go.Proofs.YtolpnioobdphlaaRRRR
open Go.RowKit Retain

set_option maxHeartbeats 2000000 in
set_option maxRecDepth 100000 in
theorem grows_good (A : Option Addr) (n c : Nat) (ps : List Pt) (D W M more today later : Int) (w : World) (hsl : Sl ePt w A n c ps) (hn : n ≤ 30)
    (h1 : 0 ≤ more) (h2 : more ≤ 100) (h3 : 0 ≤ today) (h4 : 0 ≤ later) (h5 : today ≤ 1073741824) (h6 : later ≤ 1073741824) (h7 : D ≤ 1073741824) (h8 : W ≤ 1073741824) (h9 : M ≤ 1073741824) (h10 : 0 ≤ D) (h11 : 0 ≤ W) (h12 : 0 ≤ M) :
    Calls Try.prog 6 #[.slice A n c, .agg #[.int .i64 D, .int .i64 W, .int .i64 M], .int .i64 more, .int .i64 today, .int .i64 later] w fun e w' => e = .returned (.bool true) ∧ Below w.heap.size w w' := by
  obtain ⟨i0, hi, hz0, hz1, hz2⟩ := info_parts Try.infoPt
  have hmm := @run_makeMap Try.prog
  obtain rfl := hsl.1
  go_enter Try.func6, Try.ntmps6
  go_wp2_with fail
  have B0 : Below w.heap.size w (w.alloc (.cells #[.int .i64 D, .int .i64 W, .int .i64 M] 31)) := (Below.refl _ _).alloc (Nat.le_refl _) _
  have c0 : (w.alloc (.cells #[.int .i64 D, .int .i64 W, .int .i64 M] 31)).cell? ⟨w.heap.size, 0, none⟩ = some (.int .i64 D) := World.cell?_alloc_at _ _ _ _ rfl
  have c1 : (w.alloc (.cells #[.int .i64 D, .int .i64 W, .int .i64 M] 31)).cell? ⟨w.heap.size, 1, none⟩ = some (.int .i64 W) := World.cell?_alloc_at _ _ _ _ rfl
  have c2 : (w.alloc (.cells #[.int .i64 D, .int .i64 W, .int .i64 M] 31)).cell? ⟨w.heap.size, 2, none⟩ = some (.int .i64 M) := World.cell?_alloc_at _ _ _ _ rfl
  have s0 : w.heap.size < (w.alloc (.cells #[.int .i64 D, .int .i64 W, .int .i64 M] 31)).heap.size := by simp
  refine (alive_any _).mono ?_
  rintro e w1 ⟨rfl, HB⟩
  have B1 : Below w.heap.size w w1 := B0.trans (HB.mono (Nat.le_of_lt s0))
  have d0 := ((bcell HB).1 _ 0 s0).trans c0
  have d1 := ((bcell HB).1 _ 1 s0).trans c1
  have d2 := ((bcell HB).1 _ 2 s0).trans c2
  have s1 : w.heap.size < w1.heap.size := Nat.lt_of_lt_of_le s0 HB.size
  clear HB c0 c1 c2 B0 s0
  go_wp2_with (at_builtin; refine wpList_append_sl ePt rfl _ _ _ rfl (w.heap.size + 1) 26 i0 (.agg #[.int .i64 0, .int .i64 0, .int .i64 0, .slice none 0 0]) 48 Try.underlying23 hi hz0 hz1 hz2 rfl (by decide) _ [] rfl _ (Own.nil _ _ _ _) A ps.length c ps rfl (hsl.below B1) (ePt_one _) ?c3 ?c4 ?c5 ?_)
  case c3 => unfold maxLen; simp; omega
  case c4 => simp; omega
  case c5 => omega
  intro v w2 hown hgr hloc
  have B2 : Below w.heap.size w w2 := B1.grown hgr (by omega) (fun j hj => by simp [Value.ownBlock] at hj)
  have s2 : w.heap.size < w2.heap.size := Nat.lt_of_lt_of_le s1 hgr.size
  have e0 := (World.cell?_of_block (a := ⟨w.heap.size, 0, none⟩) (hgr.block _ s1 (by simp [Value.ownBlock]))).trans d0
  have e1 := (World.cell?_of_block (a := ⟨w.heap.size, 1, none⟩) (hgr.block _ s1 (by simp [Value.ownBlock]))).trans d1
  have e2 := (World.cell?_of_block (a := ⟨w.heap.size, 2, none⟩) (hgr.block _ s1 (by simp [Value.ownBlock]))).trans d2
  clear d0 d1 d2 hgr hloc B1 s1 hsl
  obtain ⟨A2, c2, hv, hsl2, _⟩ := hown.sl
  subst hv
  have hc2 := hsl2.2.1
  have hc3 := hsl2.2.2.1
  clear hsl2
  have hown0 : Own ePt 26 w2 (w.heap.size + 1) (.slice A2 ps.length c2) (mixed 4095 ps 0) := by rw [mixed_zero]; exact hown
  clear hown
  go_wp2_with fail
  go_loopw [12] (fun i wr => ∃ k : Nat, k ≤ ps.length ∧ i = .int .i64 k ∧ Own ePt 26 wr (w.heap.size + 1) (.slice A2 ps.length c2) (mixed 4095 ps k) ∧ Below w.heap.size w wr ∧
      wr.cell? ⟨w.heap.size, 0, none⟩ = some (.int .i64 D) ∧ wr.cell? ⟨w.heap.size, 1, none⟩ = some (.int .i64 W) ∧ wr.cell? ⟨w.heap.size, 2, none⟩ = some (.int .i64 M) ∧ w.heap.size < wr.heap.size)
    (fun i _ => ps.length - (intOf i).toNat)
  case atStart => exact ⟨0, Nat.zero_le _, rfl, hown0, B2, e0, e1, e2, s2⟩
  case round =>
    obtain ⟨k, hk, rfl, hok, HBr, f0, f1, f2, s3⟩ := hrel
    by_cases hlt : k < ps.length
    · rcases hok.shape with ⟨_, h0⟩ | ⟨g, cap, hv, hg, hgl, hcap, hcm⟩
      · have := congrArg List.length h0
        rw [mixed_len, List.length_nil] at this
        omega
      · injection hv with hA _ _
        subst hA
        have hkm : k < (mixed 4095 ps k).length := by rw [mixed_len]; exact hlt
        have x0 : wr.cell? ⟨g, k * 4, none⟩ = some (.int .i64 ps[k].id) := by have := hok.cell hkm (j := 0) (by decide); rw [mixed_at hlt] at this; simpa [ePt] using this
        have x2 : wr.cell? ⟨g, k * 4 + 2, none⟩ = some (.int .i64 ps[k].day) := by have := hok.cell hkm (j := 2) (by decide); rw [mixed_at hlt] at this; simpa [ePt] using this
        have x3 : wr.cell? ⟨g, k * 4 + 3, none⟩ = some (.slice ps[k].eA ps[k].eN ps[k].eC) := by have := hok.cell hkm (j := 3) (by decide); rw [mixed_at hlt] at this; simpa [ePt] using this
        have z0 := hok.frozen (k * 4)
        have z2 := hok.frozen (k * 4 + 2)
        have z3 := hok.frozen (k * 4 + 3)
        have Hok := hide hok
        clear hok
        go_wp2
        go_roundw
        case rel =>
          refine ⟨k + 1, by omega, by go_num, ?_, ((HBr.setCell (by simp; omega) _).setCell (by simp; omega) _).setCell (by simp; omega) _, ?_, ?_, ?_, by simpa using s3⟩
          · have := set_pt (unhide Hok) hkm ((k : Int) + 1) (bits .and .i64 ps[k].day 4095)
            rw [mixed_succ hlt]
            rw [mixed_at hlt] at this
            exact this
          all_goals
            rw [World.cell?_setCell_other _ _ _ _ (by simp <;> omega), World.cell?_setCell_other _ _ _ _ (by simp <;> omega), World.cell?_setCell_other _ _ _ _ (by simp <;> omega)]
            assumption
        case measure => simp [intOf]; omega
    · obtain rfl : k = ps.length := by omega
      obtain ⟨wA, rfl⟩ : ∃ wo : World, wo = wr := ⟨_, rfl⟩
      clear hown0 e0 e1 e2 B2 s2 hlt hk
      obtain ⟨A3, c3, hv3, hsx, _⟩ := hok.sl
      rw [mixed_len] at hv3 hsx
      injection hv3 with hv3 _ hv4
      subst hv3; subst hv4
      have hdy := mixed_days (m := 4095) (by omega) ps
      have hdd : ∀ p ∈ mixed 4095 ps ps.length, p.day ≤ 9223372036854775807 := fun p hp => by have := (hdy p hp).2; simp at this; omega
      obtain ⟨La, hLa⟩ : ∃ L, L = partL D W M today (mixed 4095 ps ps.length) true ps.length := ⟨_, rfl⟩
      obtain ⟨Lb, hLb⟩ : ∃ L, L = partL (D + more) (W + more) (M + more) today (mixed 4095 ps ps.length) true ps.length := ⟨_, rfl⟩
      obtain ⟨Lc, hLc⟩ : ∃ L, L = partL D W M (today + later) (mixed 4095 ps ps.length) true ps.length := ⟨_, rfl⟩
      have la : La.length ≤ ps.length := by rw [hLa]; exact partL_le _ _ _ _ _ _ _
      have lb : Lb.length ≤ ps.length := by rw [hLb]; exact partL_le _ _ _ _ _ _ _
      have lc : Lc.length ≤ ps.length := by rw [hLc]; exact partL_le _ _ _ _ _ _ _
      have ab : ∀ x ∈ La, x ∈ Lb := by
        intro x hx
        rw [hLa] at hx
        obtain ⟨q, hq, rfl⟩ := mem_mixed_form hx
        rw [mem_mixed hq, beq_true] at hx
        rw [hLb, mem_mixed hq, beq_true]
        exact stays_grows h1 hx
      have ca : ∀ x ∈ Lc, x ∈ La := by
        intro x hx
        rw [hLc] at hx
        obtain ⟨q, hq, rfl⟩ := mem_mixed_form hx
        rw [mem_mixed hq, beq_true] at hx
        rw [hLa, mem_mixed hq, beq_true]
        exact stays_later h4 hx
      have lastIn : 0 < ps.length → (ps.length : Int) ∈ La := by
        intro h
        have : ((ps.length - 1 : Nat) : Int) + 1 = (ps.length : Int) := by omega
        rw [← this, hLa, mem_mixed (by omega), beq_true]
        exact stays_last (by simp [mixed_len]; omega)
      have Hla := hide hLa
      have Hlb := hide hLb
      have Hlc := hide hLc
      have Hab := hide ab
      have Hca := hide ca
      have Hlast := hide lastIn
      have Hdd := hide hdd
      have Hsx := hide hsx
      clear hLa hLb hLc ab ca lastIn hdy hdd hok hsx
      go_wp2_with fail
      refine (keep_own D W M today A2 ps.length c2 (mixed 4095 ps ps.length) wA (unhide Hsx) (by omega) (unhide Hdd) (by omega)).mono ?_
      rintro e w3 ⟨va, rfl, hoa, HB3⟩
      rw [← unhide Hla] at hoa
      have g0 := ((bcell HB3).1 _ 0 s3).trans f0
      have g1 := ((bcell HB3).1 _ 1 s3).trans f1
      have g2 := ((bcell HB3).1 _ 2 s3).trans f2
      have s4 : w.heap.size < w3.heap.size := Nat.lt_of_lt_of_le s3 HB3.size
      have Hsx3 := hide ((unhide Hsx).below HB3)
      have B3 := HBr.trans (HB3.mono (Nat.le_of_lt s3))
      clear f0 f1 f2
      go_wp2_with fail
      refine (keep_own (D + more) (W + more) (M + more) today A2 ps.length c2 (mixed 4095 ps ps.length) w3 (unhide Hsx3) (by omega) (unhide Hdd) (by omega)).mono ?_
      rintro e w4 ⟨vb, rfl, hob, HB4⟩
      rw [← unhide Hlb] at hob
      have k0 := ((bcell HB4).1 _ 0 s4).trans g0
      have k1 := ((bcell HB4).1 _ 1 s4).trans g1
      have k2 := ((bcell HB4).1 _ 2 s4).trans g2
      have s5 : w.heap.size < w4.heap.size := Nat.lt_of_lt_of_le s4 HB4.size
      have Hsx4 := hide ((unhide Hsx3).below HB4)
      have B4 := B3.trans (HB4.mono (Nat.le_of_lt s4))
      have hoa4 := hoa.below HB4
      clear g0 g1 g2 hoa
      go_wp2_with fail
      refine (keep_own D W M (today + later) A2 ps.length c2 (mixed 4095 ps ps.length) w4 (unhide Hsx4) (by omega) (unhide Hdd) (by omega)).mono ?_
      rintro e w5 ⟨vc, rfl, hoc, HB5⟩
      rw [← unhide Hlc] at hoc
      have m0 := ((bcell HB5).1 _ 0 s5).trans k0
      have m1 := ((bcell HB5).1 _ 1 s5).trans k1
      have m2 := ((bcell HB5).1 _ 2 s5).trans k2
      have s6 : w.heap.size < w5.heap.size := Nat.lt_of_lt_of_le s5 HB5.size
      have Hsx5 := hide ((unhide Hsx4).below HB5)
      have B5 := B4.trans (HB5.mono (Nat.le_of_lt s5))
      have hoa5 := hoa4.below HB5
      have hob5 := hob.below HB5
      clear k0 k1 k2 hoa4 hob HB3 HB4 HB5 HBr B3 B4 Hsx Hsx3 Hsx4
      obtain ⟨Aa, ca', hva, hsa, _⟩ := hoa5.sl
      obtain ⟨Ab, cb', hvb, hsb, _⟩ := hob5.sl
      obtain ⟨Ac, cc', hvc, hsc, _⟩ := hoc.sl
      subst hva; subst hvb; subst hvc
      clear hoa5 hob5 hoc
      have HM1 : MapIs kInt ((w5.alloc (.map #[] 0)).alloc (.map #[] 0)) w5.heap.size (fillT (Lb.take 0)) := (MapIs.made kInt w5).alloc _
      have HM2 : MapIs kInt ((w5.alloc (.map #[] 0)).alloc (.map #[] 0)) (w5.heap.size + 1) (fillT (La.take 0)) := by
        have := MapIs.made kInt (w5.alloc (.map #[] 0))
        simpa [fillT] using this
      have HB6 : Below w5.heap.size w5 ((w5.alloc (.map #[] 0)).alloc (.map #[] 0)) := ((Below.refl _ _).alloc (Nat.le_refl _) _).alloc (by simp) _
      go_wp2_with fail
      go_loopw [18] (fun i wr => ∃ j : Nat, j ≤ Lb.length ∧ i = .int .i64 j ∧ MapIs kInt wr w5.heap.size (fillT (Lb.take j)) ∧ MapIs kInt wr (w5.heap.size + 1) (fillT (La.take 0)) ∧ Below w5.heap.size w5 wr)
        (fun i _ => Lb.length - (intOf i).toNat)
      case atStart => exact ⟨0, Nat.zero_le _, rfl, HM1, HM2, HB6⟩
      case round =>
        obtain ⟨j, hj, rfl, HMj, HMk, HBl⟩ := hrel
        by_cases hjl : j < Lb.length
        · obtain ⟨b, off, hA', hb, hrd⟩ := hsb.2.2.2 (by omega)
          subst hA'
          have x0 : wr.cell? ⟨b, off + j, none⟩ = some (.int .i64 Lb[j]) := by
            rw [(bcell HBl).1 _ _ hb]
            simpa [eI] using hrd j hjl 0 (by decide)
          have HT : Hid (fillT (Lb.take (j + 1)) = put (fillT (Lb.take j)) Lb[j] (.bool true)) := by
            rw [List.take_succ_eq_append_getElem hjl, fillT_snoc]; exact rfl
          obtain ⟨y, hy⟩ : ∃ y, y = Lb[j] := ⟨_, rfl⟩
          rw [← hy] at x0 HT
          clear hy
          go_wp2_with (at_mapUpdate; refine wpList_update_is rfl _ _ _ _ rfl kInt (fillT (Lb.take j)) 3 4 Try.underlying27 Try.underlying3 w5.heap.size rfl HMj y rfl _ rfl ?_; intro wz HMz HGz; have HMo := HMk.grown HGz (by simp); have HBz := HBl.grown HGz HBl.size (fun g hg => by injection hg; omega))
          go_roundw
          case rel => exact ⟨j + 1, by omega, by go_num, by rw [unhide HT]; exact HMz, HMo, HBz⟩
          case measure => simp [intOf]; omega
        · obtain rfl : j = Lb.length := by omega
          obtain ⟨wB, rfl⟩ : ∃ wo : World, wo = wr := ⟨_, rfl⟩
          rw [List.take_length] at HMj
          clear HM1 HM2 HB6 hj hjl
          go_wp2_with fail
          go_loopw [19] (fun i wr => ∃ j : Nat, j ≤ La.length ∧ i = .int .i64 j ∧ MapIs kInt wr w5.heap.size (fillT Lb) ∧ MapIs kInt wr (w5.heap.size + 1) (fillT (La.take j)) ∧ Below w5.heap.size w5 wr)
            (fun i _ => La.length - (intOf i).toNat)
          case atStart => exact ⟨0, Nat.zero_le _, rfl, HMj, HMk, HBl⟩
          case round =>
            clear HMj HMk HBl
            obtain ⟨j, hj, rfl, HMj, HMk, HBl⟩ := hrel
            by_cases hjl : j < La.length
            · obtain ⟨b, off, hA', hb, hrd⟩ := hsa.2.2.2 (by omega)
              subst hA'
              have x0 : wr.cell? ⟨b, off + j, none⟩ = some (.int .i64 La[j]) := by
                rw [(bcell HBl).1 _ _ hb]
                simpa [eI] using hrd j hjl 0 (by decide)
              have HT : Hid (fillT (La.take (j + 1)) = put (fillT (La.take j)) La[j] (.bool true)) := by
                rw [List.take_succ_eq_append_getElem hjl, fillT_snoc]; exact rfl
              have HIN : Hid ((lk (fillT Lb) La[j]).getD (.bool false) = .bool true) := by
                have := fillT_lk Lb La[j]
                rw [decide_eq_true (unhide Hab _ (List.getElem_mem hjl))] at this
                exact this
              obtain ⟨y, hy⟩ : ∃ y, y = La[j] := ⟨_, rfl⟩
              rw [← hy] at x0 HT HIN
              clear hy
              go_wp2_with (first | (at_mapUpdate; refine wpList_update_is rfl _ _ _ _ rfl kInt (fillT (La.take j)) 3 4 Try.underlying27 Try.underlying3 (w5.heap.size + 1) rfl HMk y rfl _ rfl ?_; intro wz HMz HGz; have HMo := HMj.grown HGz (by simp); have HBz := HBl.grown HGz HBl.size (fun g hg => by injection hg; omega); have x1 := (World.cell?_of_block (a := ⟨b, off + j, none⟩) (HGz.block b (by have := HBl.size; omega) (by intro e; injection e; omega))).trans x0) | (at_lookup; refine wpList_lookup_is rfl _ _ _ _ rfl kInt (fillT Lb) 3 4 Try.underlying27 Try.underlying3 _ (zeroB _) w5.heap.size rfl HMo y rfl ?_; rw [if_neg (by decide), unhide HIN]))
              go_roundw
              case rel => exact ⟨j + 1, by omega, by go_num, HMo, by rw [unhide HT]; exact HMz, HBz⟩
              case measure => simp [intOf]; omega
            · obtain rfl : j = La.length := by omega
              obtain ⟨wC, rfl⟩ : ∃ wo : World, wo = wr := ⟨_, rfl⟩
              rw [List.take_length] at HMk
              clear hj hjl
              have t0 := ((bcell HBl).1 _ 0 s6).trans m0
              have t1 := ((bcell HBl).1 _ 1 s6).trans m1
              have t2 := ((bcell HBl).1 _ 2 s6).trans m2
              go_wp2_with fail
              go_loopw [20] (fun i wr => ∃ j : Nat, j ≤ Lc.length ∧ i = .int .i64 j ∧ wr = wC) (fun i _ => Lc.length - (intOf i).toNat)
              case atStart => exact ⟨0, Nat.zero_le _, rfl, rfl⟩
              case round =>
                obtain ⟨j, hj, rfl, rfl⟩ := hrel
                by_cases hjl : j < Lc.length
                · obtain ⟨b, off, hA', hb, hrd⟩ := hsc.2.2.2 (by omega)
                  subst hA'
                  have x0 : wr.cell? ⟨b, off + j, none⟩ = some (.int .i64 Lc[j]) := by
                    rw [(bcell HBl).1 _ _ hb]
                    simpa [eI] using hrd j hjl 0 (by decide)
                  have HIN : Hid ((lk (fillT La) Lc[j]).getD (.bool false) = .bool true) := by
                    have := fillT_lk La Lc[j]
                    rw [decide_eq_true (unhide Hca _ (List.getElem_mem hjl))] at this
                    exact this
                  obtain ⟨y, hy⟩ : ∃ y, y = Lc[j] := ⟨_, rfl⟩
                  rw [← hy] at x0 HIN
                  clear hy
                  go_wp2_with (at_lookup; refine wpList_lookup_is rfl _ _ _ _ rfl kInt (fillT La) 3 4 Try.underlying27 Try.underlying3 _ (zeroB _) (w5.heap.size + 1) rfl HMk y rfl ?_; rw [if_neg (by decide), unhide HIN])
                  go_roundw
                  case rel => exact ⟨j + 1, by omega, by go_num, trivial⟩
                  case measure => simp [intOf]; omega
                · have BE : Below w.heap.size w wr := B5.trans (HBl.mono (Nat.le_of_lt s6))
                  by_cases hz : ps.length = 0
                  · have q1 : ((ps.length : Int) == 0) = true := beq_iff_eq.2 (by omega)
                    have q2 : ((La.length : Int) == 0) = true := beq_iff_eq.2 (by omega)
                    have Hz := hide hz
                    clear hz
                    go_wp2
                    go_ret
                    exact ⟨rfl, BE⟩
                  · have q1 : ((ps.length : Int) == 0) = false := beq_eq_false_iff_ne.2 (by omega)
                    have q3 : 0 < ps.length := by omega
                    have hlk : (Instr.lookup 27 (.map (some (w5.heap.size + 1))) (.int .i64 (ps.length : Int)) false).run Try.prog wr = .ok (.bool true) wr := by
                      have h1 := run_lookup_is (P := Try.prog) HMk Try.underlying27 Try.underlying3 (zeroB wr) (ps.length : Int) false
                      have h2 := fillT_lk La (ps.length : Int)
                      rw [decide_eq_true (unhide Hlast q3)] at h2
                      rw [if_neg (by decide), h2] at h1
                      exact h1
                    have HGn := hide (gone_own D W M today A2 ps.length c2 (mixed 4095 ps ps.length) wr ((unhide Hsx5).below (HBl.mono (Nat.le_refl _))) (by omega) (unhide Hdd) (by omega))
                    have hsp := part_split D W M today (mixed 4095 ps ps.length) ps.length (by rw [mixed_len]; exact Nat.le_refl _)
                    rw [← unhide Hla] at hsp
                    obtain ⟨Lg, hLg⟩ : ∃ L, L = partL D W M today (mixed 4095 ps ps.length) false ps.length := ⟨_, rfl⟩
                    rw [← hLg] at hsp HGn
                    clear hLg
                    have q4 : (((La.length : Int) + (Lg.length : Int)) == (ps.length : Int)) = true := beq_iff_eq.2 (by omega)
                    have q5 : Lg.length ≤ 30 := by omega
                    clear hsp
                    go_wp2_with fail
                    refine (unhide HGn).mono ?_
                    rintro e w7 ⟨vg, rfl, hog, HB7⟩
                    obtain ⟨Ag, cg, hvg, _, _⟩ := hog.sl
                    subst hvg
                    clear hog
                    go_wp2
                    go_ret
                    exact ⟨rfl, BE.trans (HB7.mono (by have := HBl.size; omega))⟩
end Go.Proofs.YtolpnioobdphlaaRRRR
