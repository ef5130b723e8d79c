/- Walk of the law RetainNone. -/
import Derived.Test.YtolpnioobdphlaaRRRRNonePlain
namespace Go.Proofs.YtolpnioobdphlaaRRRR
open Go.RowKit Retain

set_option maxHeartbeats 2000000 in
set_option maxRecDepth 100000 in
theorem none_good (A : Option Addr) (n c : Nat) (ps : List Pt) (today : Int) (w : World) (hsl : Sl ePt w A n c ps) (hn : n ≤ 30) (h3 : 0 ≤ today) (h5 : today ≤ 100000) :
    Calls Try.prog 7 #[.slice A n c, .int .i64 today] w fun e w' => e = .returned (.bool true) ∧ Below w.heap.size w w' := by
  obtain ⟨i0, hi, hz0, hz1, hz2⟩ := info_parts Try.infoPt
  have hmm := @run_makeMap Try.prog
  obtain rfl := hsl.1
  go_enter Try.func7, Try.ntmps7
  go_wp2_with fail
  refine (alive_any _).mono ?_
  rintro e w1 ⟨rfl, B1⟩
  go_wp2_with (at_builtin; refine wpList_append_sl ePt rfl _ _ _ rfl w.heap.size 26 i0 (.agg #[.int .i64 0, .int .i64 0, .int .i64 0, .slice none 0 0]) 48 Try.underlying23 hi hz0 hz1 hz2 rfl (by decide) _ [] rfl _ (Own.nil _ _ _ _) A ps.length c ps rfl (hsl.below B1) (ePt_one _) ?c3 ?c4 ?c5 ?_)
  case c3 => unfold maxLen; simp; omega
  case c4 => simp; omega
  case c5 => have := B1.size; omega
  intro v w2 hown hgr hloc
  have B2 : Below w.heap.size w w2 := B1.grown hgr B1.size (fun j hj => by simp [Value.ownBlock] at hj)
  clear hgr hloc B1 hsl
  obtain ⟨A2, c2, hv, hsl2, _⟩ := hown.sl
  subst hv
  have hc2 := hsl2.2.1
  have hc3 := hsl2.2.2.1
  clear hsl2
  have hown0 : Own ePt 26 w2 w.heap.size (.slice A2 ps.length c2) (mixed 255 ps 0) := by rw [mixed_zero]; exact hown
  clear hown
  go_wp2_with fail
  go_loopw [6] (fun i wr => ∃ k : Nat, k ≤ ps.length ∧ i = .int .i64 k ∧ Own ePt 26 wr w.heap.size (.slice A2 ps.length c2) (mixed 255 ps k) ∧ Below w.heap.size w wr)
    (fun i _ => ps.length - (intOf i).toNat)
  case atStart => exact ⟨0, Nat.zero_le _, rfl, hown0, B2⟩
  case round =>
    obtain ⟨k, hk, rfl, hok, HBr⟩ := hrel
    by_cases hlt : k < ps.length
    · rcases hok.shape with ⟨_, h0⟩ | ⟨g, cap, hv, hg, hgl, hcap, hcm⟩
      · have := congrArg List.length h0
        rw [mixed_len, List.length_nil] at this
        omega
      · injection hv with hA _ _
        subst hA
        have hkm : k < (mixed 255 ps k).length := by rw [mixed_len]; exact hlt
        have x0 : wr.cell? ⟨g, k * 4, none⟩ = some (.int .i64 ps[k].id) := by have := hok.cell hkm (j := 0) (by decide); rw [mixed_at hlt] at this; simpa [ePt] using this
        have x2 : wr.cell? ⟨g, k * 4 + 2, none⟩ = some (.int .i64 ps[k].day) := by have := hok.cell hkm (j := 2) (by decide); rw [mixed_at hlt] at this; simpa [ePt] using this
        have x3 : wr.cell? ⟨g, k * 4 + 3, none⟩ = some (.slice ps[k].eA ps[k].eN ps[k].eC) := by have := hok.cell hkm (j := 3) (by decide); rw [mixed_at hlt] at this; simpa [ePt] using this
        have z0 := hok.frozen (k * 4)
        have z2 := hok.frozen (k * 4 + 2)
        have z3 := hok.frozen (k * 4 + 3)
        have Hok := hide hok
        clear hok
        go_wp2
        go_roundw
        case rel =>
          refine ⟨k + 1, by omega, by go_num, ?_, ((HBr.setCell (by simp; omega) _).setCell (by simp; omega) _).setCell (by simp; omega) _⟩
          have := set_pt (unhide Hok) hkm ((k : Int) + 1) (bits .and .i64 ps[k].day 255)
          rw [mixed_succ hlt]
          rw [mixed_at hlt] at this
          exact this
        case measure => simp [intOf]; omega
    · obtain rfl : k = ps.length := by omega
      obtain ⟨wA, rfl⟩ : ∃ wo : World, wo = wr := ⟨_, rfl⟩
      clear hown0 B2 hlt hk
      obtain ⟨A3, c3, hv3, hsx, _⟩ := hok.sl
      rw [mixed_len] at hv3 hsx
      injection hv3 with hv3 _ hv4
      subst hv3; subst hv4
      have hdy := mixed_days (m := 255) (by omega) ps
      have hml := mixed_len 255 ps ps.length
      have hdd : ∀ p ∈ mixed 255 ps ps.length, p.day ≤ 9223372036854775807 := fun p hp => by have := (hdy p hp).2; simp at this; omega
      have hde : ∀ p ∈ mixed 255 ps ps.length, 0 ≤ p.day ∧ p.day ≤ 255 := fun p hp => by have := hdy p hp; simp at this; omega
      obtain ⟨La, hLa⟩ : ∃ L, L = partL 0 0 0 today (mixed 255 ps ps.length) true ps.length := ⟨_, rfl⟩
      obtain ⟨Lb, hLb⟩ : ∃ L, L = partL 1073741824 0 0 today (mixed 255 ps ps.length) true ps.length := ⟨_, rfl⟩
      have la : La.length ≤ ps.length := by rw [hLa]; exact partL_le _ _ _ _ _ _ _
      have lb : Lb.length ≤ ps.length := by rw [hLb]; exact partL_le _ _ _ _ _ _ _
      have haf : ∀ k, k + 1 = ps.length → La = [(ps.length : Int)] := by
        intro k hk
        rw [hLa]; exact part_bare_mixed hk
      have hbf : ((fillT ((mixed 255 ps ps.length).map Pt.day)).map (·.1)).Nodup → Lb.length = (fillT ((mixed 255 ps ps.length).map Pt.day)).length := by
        intro h
        have := days_count (today := today) hde h3 h5 h
        rw [hml] at this
        rw [hLb]; exact this
      have Hla := hide hLa
      have Hlb := hide hLb
      have Haf := hide haf
      have Hbf := hide hbf
      have Hdd := hide hdd
      have Hsx := hide hsx
      have Hml := hide hml
      clear hLa hLb haf hbf hdy hdd hde hok hsx hml
      go_wp2_with fail
      refine (keep_own 0 0 0 today A2 ps.length c2 (mixed 255 ps ps.length) wA (unhide Hsx) (by omega) (unhide Hdd) (by omega)).mono ?_
      rintro e w3 ⟨va, rfl, hoa, HB3⟩
      rw [← unhide Hla] at hoa
      have Hsx3 := hide ((unhide Hsx).below HB3)
      have B3 := HBr.trans (HB3.mono HBr.size)
      go_wp2_with fail
      refine (keep_own 1073741824 0 0 today A2 ps.length c2 (mixed 255 ps ps.length) w3 (unhide Hsx3) (by omega) (unhide Hdd) (by omega)).mono ?_
      rintro e w4 ⟨vb, rfl, hob, HB4⟩
      rw [← unhide Hlb] at hob
      have Hsx4 := hide ((unhide Hsx3).below HB4)
      have B4 := B3.trans (HB4.mono B3.size)
      have hoa4 := hoa.below HB4
      clear hoa HB3 HB4 HBr B3 Hsx Hsx3
      obtain ⟨Aa, ca', hva, hsa, _⟩ := hoa4.sl
      obtain ⟨Ab, cb', hvb, hsb, _⟩ := hob.sl
      subst hva; subst hvb
      clear hoa4 hob
      by_cases hz : ps.length = 0
      · have q1 : ((ps.length : Int) == 0) = true := beq_iff_eq.2 (by omega)
        have q2 : (((La.length : Int) + (Lb.length : Int)) == 0) = true := beq_iff_eq.2 (by omega)
        have Hz := hide hz
        clear hz
        go_wp2
        go_ret
        exact ⟨rfl, B4⟩
      · have q1 : ((ps.length : Int) == 0) = false := beq_eq_false_iff_ne.2 (by omega)
        have HL1 : La = [(ps.length : Int)] := unhide Haf (ps.length - 1) (by omega)
        have hsp := part_split 0 0 0 today (mixed 255 ps ps.length) ps.length (by rw [mixed_len]; exact Nat.le_refl _)
        rw [← unhide Hla, HL1] at hsp
        have HM1 : MapIs kInt (w4.alloc (.map #[] 0)) w4.heap.size (fillT (((mixed 255 ps ps.length).map Pt.day).take 0)) := MapIs.made kInt w4
        have HB6 : Below w4.heap.size w4 (w4.alloc (.map #[] 0)) := (Below.refl _ _).alloc (Nat.le_refl _) _
        have x0 : ∃ b off, Aa = some ⟨b, off, none⟩ ∧ b < w4.heap.size ∧ w4.cell? ⟨b, off, none⟩ = some (.int .i64 (ps.length : Int)) := by
          obtain ⟨b, off, hA', hb, hrd⟩ := hsa.2.2.2 (by rw [HL1]; simp)
          refine ⟨b, off, hA', hb, ?_⟩
          have := hrd 0 (by rw [HL1]; simp) 0 (by decide)
          simpa [eI, HL1] using this
        have hLl : La.length = 1 := by rw [HL1]; rfl
        rw [hLl] at hsa
        obtain ⟨ab, aoff, hAa, hab, x0⟩ := x0
        subst hAa
        have Hsp := hide hsp
        have HHL := hide HL1
        have Hll := hide hLl
        have Hz := hide hz
        clear hsp HL1 hLl hz
        go_wp2_with fail
        go_loopw [10] (fun i wr => ∃ j : Nat, j ≤ ps.length ∧ i = .int .i64 j ∧ MapIs kInt wr w4.heap.size (fillT (((mixed 255 ps ps.length).map Pt.day).take j)) ∧ Below w4.heap.size w4 wr)
          (fun i _ => ps.length - (intOf i).toNat)
        case atStart => exact ⟨0, Nat.zero_le _, rfl, HM1, HB6⟩
        case round =>
          obtain ⟨j, hj, rfl, HMj, HBl⟩ := hrel
          by_cases hjl : j < ps.length
          · obtain ⟨b, off, hA', hb, hrd⟩ := (unhide Hsx4).2.2.2 (by omega)
            subst hA'
            have hjm : j < (mixed 255 ps ps.length).length := by rw [mixed_len]; exact hjl
            obtain ⟨y, hy⟩ : ∃ y, y = ((mixed 255 ps ps.length)[j]'hjm).day := ⟨_, rfl⟩
            have x2 : wr.cell? ⟨b, off + j * 4 + 2, none⟩ = some (.int .i64 y) := by
              rw [(bcell HBl).1 _ _ hb, hy]
              simpa [ePt] using hrd j hjm 2 (by decide)
            have HT : Hid (fillT (((mixed 255 ps ps.length).map Pt.day).take (j + 1)) = put (fillT (((mixed 255 ps ps.length).map Pt.day).take j)) y (.bool true)) := by
              rw [List.take_succ_eq_append_getElem (by rw [List.length_map]; exact hjm), fillT_snoc, List.getElem_map, hy]; exact rfl
            clear hy
            go_wp2_with (at_mapUpdate; refine wpList_update_is rfl _ _ _ _ rfl kInt (fillT (((mixed 255 ps ps.length).map Pt.day).take j)) 3 4 Try.underlying27 Try.underlying3 w4.heap.size rfl HMj y rfl _ rfl ?_; intro wz HMz HGz; have HBz := HBl.grown HGz HBl.size (fun g hg => by injection hg; omega))
            go_roundw
            case rel => exact ⟨j + 1, by omega, by go_num, by rw [unhide HT]; exact HMz, HBz⟩
            case measure => simp [intOf]; omega
          · obtain rfl : j = ps.length := by omega
            have hfull : ((mixed 255 ps ps.length).map Pt.day).take ps.length = (mixed 255 ps ps.length).map Pt.day := by
              rw [List.take_of_length_le]; rw [List.length_map, mixed_len]; exact Nat.le_refl _
            rw [hfull] at HMj
            have hcnt := unhide Hbf HMj.nodup
            have hln := run_len_is (P := Try.prog) HMj Try.underlying27 3
            obtain ⟨mlen, hmlen⟩ : ∃ m, m = (fillT ((mixed 255 ps ps.length).map Pt.day)).length := ⟨_, rfl⟩
            rw [← hmlen] at hcnt hln
            have x1 : wr.cell? ⟨ab, aoff, none⟩ = some (.int .i64 (ps.length : Int)) := by rw [(bcell HBl).1 _ _ hab]; exact x0
            have hLl := unhide Hll
            have HGn := hide (gone_own 0 0 0 today A2 ps.length c2 (mixed 255 ps ps.length) wr ((unhide Hsx4).below (HBl.mono (Nat.le_refl _))) (by omega) (unhide Hdd) (by omega))
            obtain ⟨Lg, hLg⟩ : ∃ L, L = partL 0 0 0 today (mixed 255 ps ps.length) false ps.length := ⟨_, rfl⟩
            have hsp := unhide Hsp
            rw [← hLg] at hsp HGn
            simp only [List.length_singleton] at hsp
            have q2 : ((La.length : Int) == 1) = true := beq_iff_eq.2 (by omega)
            have q3 : ((Lb.length : Int) == (mlen : Int)) = true := beq_iff_eq.2 (by omega)
            have q4 : ((Lg.length : Int) == (ps.length : Int) - 1) = true := beq_iff_eq.2 (by omega)
            have q5 : (0 : Nat) < La.length := by omega
            have BE : Below w.heap.size w wr := B4.trans (HBl.mono B4.size)
            have hmb : mlen ≤ 30 := by omega
            have hgb : Lg.length ≤ 30 := by omega
            have hpb : 1 ≤ ps.length := by omega
            clear hLg hsp hcnt hmlen hLl hj hjl hfull HM1 HB6
            go_wp2_with fail
            refine (unhide HGn).mono ?_
            rintro e w7 ⟨vg, rfl, hog, HB7⟩
            obtain ⟨Ag, cg, hvg, _, _⟩ := hog.sl
            subst hvg
            clear hog
            go_wp2
            go_ret
            exact ⟨rfl, BE.trans (HB7.mono BE.size)⟩
set_option maxHeartbeats 2000000 in
theorem none_bad (A : Option Addr) (n c : Nat) (today : Int) (w : World) (h : ¬ (n ≤ 30 ∧ 0 ≤ today ∧ today ≤ 100000)) :
    Calls Try.prog 7 #[.slice A n c, .int .i64 today] w fun e w' => e = .returned (.bool true) ∧ Below w.heap.size w w' := by
  have hc : 30 < n ∨ (n ≤ 30 ∧ today < 0) ∨ (n ≤ 30 ∧ 0 ≤ today ∧ 100000 < today) := by omega
  clear h
  rcases hc with h | ⟨h1, h⟩ | ⟨h1, h2, h⟩
  all_goals
    go_enter Try.func7, Try.ntmps7
    go_wp2_with fail
    refine (alive_any _).mono ?_
    rintro e w1 ⟨rfl, HB⟩
    go_wp2
    go_ret
    exact ⟨rfl, HB⟩
theorem none_all (A : Option Addr) (n c : Nat) (ps : List Pt) (today : Int) (w : World) (hsl : Sl ePt w A n c ps) :
    Calls Try.prog 7 #[.slice A n c, .int .i64 today] w fun e w' => e = .returned (.bool true) ∧ Below w.heap.size w w' := by
  by_cases h : n ≤ 30 ∧ 0 ≤ today ∧ today ≤ 100000
  · exact none_good A n c ps today w hsl h.1 h.2.1 h.2.2
  · exact none_bad A n c today w h
end Go.Proofs.YtolpnioobdphlaaRRRR
