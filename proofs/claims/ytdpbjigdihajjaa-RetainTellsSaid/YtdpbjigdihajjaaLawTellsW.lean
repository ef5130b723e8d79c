/- The law RetainTells: the walk. -/
import Derived.Test.YtdpbjigdihajjaaLawTellsA
namespace Go.Proofs.Ytdpbjigdihajjaa
open Go.RowKit Retain

set_option maxHeartbeats 8000000 in
set_option maxRecDepth 100000 in
theorem tells_all (A : Option Addr) (n c : Nat) (ps : List Pt) (D W M today nn day : Int) (w : World) (hs : Sl ePt w A n c ps) (hes : ∀ i (h : i < ps.length), ∃ es, Sl eE w ps[i].eA ps[i].eN ps[i].eC es)
    (hday : -9223372036854775808 ≤ day ∧ day ≤ 9223372036854775807) (hnn : -9223372036854775808 ≤ nn ∧ nn ≤ 9223372036854775807) :
    Calls Try.prog 3 #[.slice A n c, .agg #[.int .i64 D, .int .i64 W, .int .i64 M], .int .i64 today, .int .i64 nn, .int .i64 day] w fun e w' => e = .returned (.bool true) ∧ Below w.heap.size w w' := by
  have hnl := hs.1
  have b1 := hs.2.1
  have b2 := hs.2.2.1
  have Hs := hide hs
  have Hes := hide hes
  have Hnl := hide hnl
  have R := hide hs.2.2.2
  obtain ⟨w1, hw1⟩ : ∃ w1, w1 = w.alloc (.cells #[.int .i64 D, .int .i64 W, .int .i64 M] 24) := ⟨_, rfl⟩
  have B1 : Below w.heap.size w w1 := by rw [hw1]; exact (Below.refl _ _).alloc (Nat.le_refl _) _
  have p0 : w1.cell? ⟨w.heap.size, 0, none⟩ = some (.int .i64 D) := by rw [hw1]; exact World.cell?_alloc_at _ _ _ _ rfl
  have p1 : w1.cell? ⟨w.heap.size, 1, none⟩ = some (.int .i64 W) := by rw [hw1]; exact World.cell?_alloc_at _ _ _ _ rfl
  have p2 : w1.cell? ⟨w.heap.size, 2, none⟩ = some (.int .i64 M) := by rw [hw1]; exact World.cell?_alloc_at _ _ _ _ rfl
  have s1 : w.heap.size < w1.heap.size := by rw [hw1]; simp
  have Hw1 := hide hw1
  have hbd1 := hday.1
  have hbd2 := hday.2
  have hbn1 := hnn.1
  have hbn2 := hnn.2
  clear hs hes hnl hday hnn
  by_cases h40 : 40 < n
  · go_enter Try.func3, Try.ntmps3
    go_wp2_with fail
    rw [← hw1]
    clear hw1
    refine (alive_any w1).mono ?_
    rintro e w2 ⟨rfl, HB2⟩
    have B2 : Below w.heap.size w w2 := B1.trans (HB2.mono (by omega))
    go_wp2
    go_ret
    exact ⟨rfl, B2⟩
  · go_enter Try.func3, Try.ntmps3
    go_wp2_with fail
    rw [← hw1]
    clear hw1
    refine (alive_any w1).mono ?_
    rintro e w2 ⟨rfl, HB2⟩
    have B2 : Below w.heap.size w w2 := B1.trans (HB2.mono (by omega))
    have q0 := ((bcell HB2).1 w.heap.size 0 s1).trans p0
    have q1 := ((bcell HB2).1 w.heap.size 1 s1).trans p1
    have q2 := ((bcell HB2).1 w.heap.size 2 s1).trans p2
    have s2 : w.heap.size < w2.heap.size := Nat.lt_of_lt_of_le s1 HB2.size
    clear HB2 p0 p1 p2
    go_wp2_with fail
    go_loopw [11] (fun j wr => ∃ k : Nat, k ≤ n ∧ j = .int .i64 k ∧ (∀ i (h : i < ps.length), i < k → ps[i].eN ≤ 20 ∧ ps[i].day ≤ 1099511627776) ∧ wr = w2) (fun j _ => n - (intOf j).toNat)
    case atStart => exact ⟨0, Nat.zero_le _, rfl, fun i _ h => by omega, rfl⟩
    case round =>
      obtain ⟨k, hk, rfl, hall, hwr⟩ := hrel
      obtain rfl := hwr.symm
      have Hall := hide hall
      clear hall
      by_cases hlt : k < n
      · have hkp : k < ps.length := by have := unhide Hnl; omega
        obtain ⟨b, off, eA, lA, hr⟩ := unhide R (by omega)
        subst eA
        have x2 : w2.cell? ⟨b, off + k * 4 + 2, none⟩ = some (.int .i64 ps[k].day) := ((bcell B2).1 _ _ lA).trans (hr k hkp 2 (by decide))
        have x3 : w2.cell? ⟨b, off + k * 4 + 3, none⟩ = some (.slice ps[k].eA ps[k].eN ps[k].eC) := ((bcell B2).1 _ _ lA).trans (hr k hkp 3 (by decide))
        obtain ⟨es, hse⟩ := unhide Hes k hkp
        obtain ⟨y, hy⟩ : ∃ y, y = ps[k].day := ⟨_, rfl⟩
        obtain ⟨m, hm⟩ : ∃ y, y = ps[k].eN := ⟨_, rfl⟩
        obtain ⟨E, hE⟩ : ∃ y, y = ps[k].eA := ⟨_, rfl⟩
        obtain ⟨f, hf⟩ : ∃ y, y = ps[k].eC := ⟨_, rfl⟩
        rw [← hy] at x2
        rw [← hm, ← hE, ← hf] at x3 hse
        have hm1 := hse.2.1
        have hm2 := hse.2.2.1
        have Hy := hide hy
        have Hm := hide hm
        clear hr hse hy hm hE hf
        by_cases h1 : 20 < m
        · go_wp2
          go_ret
          exact ⟨rfl, B2⟩
        · by_cases h2 : 1099511627776 < y
          · go_wp2
            go_ret
            exact ⟨rfl, B2⟩
          · go_wp2
            go_roundw
            case rel =>
              refine ⟨k + 1, by omega, by go_num, fun i h3 h4 => ?_, trivial⟩
              by_cases e : i = k
              · subst e
                rw [← unhide Hm, ← unhide Hy]
                omega
              · exact unhide Hall i h3 (by omega)
            case measure => simp [intOf]; omega
      · have hkn : k = n := by omega
        have heok : ExtOk w ps := fun i h => by
          have := unhide Hall i h (by have := unhide Hnl; omega)
          exact ⟨this.1, unhide Hes i h⟩
        have hd40 : ∀ p ∈ ps, p.day ≤ 1099511627776 := fun p hp => by
          obtain ⟨i, hi, rfl⟩ := List.mem_iff_getElem.1 hp
          exact (unhide Hall i hi (by have := unhide Hnl; omega)).2
        by_cases ht : 1099511627776 < today
        · go_wp2
          go_ret
          exact ⟨rfl, B2⟩
        · have hs2 := (unhide Hs).below B2
          have he2 : ExtOk w2 ps := fun i h => by
            obtain ⟨h1, es, h2⟩ := heok i h
            exact ⟨h1, es, h2.below B2⟩
          have Heok := hide heok
          have Hd40 := hide hd40
          clear heok hd40
          go_wp2_with fail
          refine (lentPoints_any A n c ps w2 hs2 (by omega) he2).mono ?_
          rintro e w3 ⟨⟨A3, c3, qs, rfl, hc3, hc3', hL⟩, HB3⟩
          have r0 := ((bcell HB3).1 w.heap.size 0 s2).trans q0
          have r1 := ((bcell HB3).1 w.heap.size 1 s2).trans q1
          have r2 := ((bcell HB3).1 w.heap.size 2 s2).trans q2
          have s3 : w.heap.size < w3.heap.size := Nat.lt_of_lt_of_le s2 HB3.size
          have B3 : Below w.heap.size w w3 := B2.trans (HB3.mono (by omega))
          have HL := hide hL
          have hs23 : w2.heap.size ≤ w3.heap.size := HB3.size
          have HB23 := hide HB3
          clear HB3 hL hs2 he2 q0 q1 q2
          have hc39 : c3 ≤ 9223372036854775807 := hc3'
          go_wp2
          obtain ⟨w4, hw4⟩ : ∃ w4, w4 = w3.alloc (.cells #[.slice none 0 0, .slice none 0 0, .slice none 0 0, .slice none 0 0, .slice none 0 0, .slice none 0 0, .slice none 0 0, .slice none 0 0, .slice none 0 0, .slice none 0 0, .slice none 0 0, .slice none 0 0, .slice none 0 0, .slice none 0 0] 39) := ⟨_, rfl⟩
          have HB4 : Below w3.heap.size w3 w4 := by rw [hw4]; exact (Below.refl _ _).alloc (Nat.le_refl _) _
          have hbk : BookI w4 w3.heap.size (w3.heap.size + 1) (.slice none 0 0) (.slice none 0 0) [] [] [] := by rw [hw4]; exact BookI.fresh w3
          have s4 : w4.heap.size = w3.heap.size + 1 := by rw [hw4]; show (w3.heap.push _).size = _; simp
          have t0 := ((bcell HB4).1 w.heap.size 0 s3).trans r0
          have t1 := ((bcell HB4).1 w.heap.size 1 s3).trans r1
          have t2 := ((bcell HB4).1 w.heap.size 2 s3).trans r2
          have B4 : Below w.heap.size w w4 := B3.trans (HB4.mono (by omega))
          have HL4 := hide ((unhide HL).below HB4)
          have HB34 := hide HB4
          have Hbk := hide hbk
          have hsl4 : Sl ePt w4.drew A3 n c3 qs := (unhide HL4).sl (unhide Hnl)
          have Hsl4 := hide hsl4
          have hdq : ∀ p ∈ qs, p.day ≤ 9223372036854775807 := by
            obtain ⟨_, base, _, hP⟩ := unhide HL4
            exact hP.days_le fun p hp => Int.le_trans (unhide Hd40 p hp) (by omega)
          have Hdq := hide hdq
          have hn8 : n * 8 ≤ 140737488351232 := by omega
          have ht9 : today ≤ 9223372036854775807 := by omega
          rw [← hw4]
          clear hbk HB4 hsl4 hdq r0 r1 r2 hw4
          have s44 : w.heap.size < w4.heap.size := by omega
          go_region_held3 (fun W' => W'.cell? ⟨w.heap.size, 0, none⟩ = some (.int .i64 D) ∧ W'.cell? ⟨w.heap.size, 1, none⟩ = some (.int .i64 W) ∧ W'.cell? ⟨w.heap.size, 2, none⟩ = some (.int .i64 M))
            (first | go_keep | exact ⟨((bcell HB5).1 w.heap.size 0 s44).trans t0, ((bcell HB5).1 w.heap.size 1 s44).trans t1, ((bcell HB5).1 w.heap.size 2 s44).trans t2⟩ | exact ⟨((bcell HB6).1 w.heap.size 0 s45).trans v0, ((bcell HB6).1 w.heap.size 1 s45).trans v1, ((bcell HB6).1 w.heap.size 2 s45).trans v2⟩)
            ((first | (go_at_call 7; refine (keep_own D W M today A3 n c3 qs _ (unhide Hsl4) hn8 (unhide Hdq) ht9).mono ?_; rintro e w5 ⟨va, rfl, oa, HB5⟩; have v0 := ((bcell HB5).1 w.heap.size 0 s44).trans t0; have v1 := ((bcell HB5).1 w.heap.size 1 s44).trans t1; have v2 := ((bcell HB5).1 w.heap.size 2 s44).trans t2; have s45 : w.heap.size < w5.heap.size := Nat.lt_of_lt_of_le s44 HB5.size; have Hoa := hide oa; clear oa) | (go_at_call 8; refine (gone_own D W M today A3 n c3 qs _ ((unhide Hsl4).below HB5) hn8 (unhide Hdq) ht9).mono ?_; rintro e w6 ⟨vb, rfl, ob, HB6⟩; have Hob := hide ob; clear ob)))
          obtain ⟨la, hla⟩ : ∃ L, L = partL D W M today ps true n := ⟨_, rfl⟩
          obtain ⟨lb, hlb⟩ : ∃ L, L = partL D W M today ps false n := ⟨_, rfl⟩
          have oa : Own eI 3 w5 w4.heap.size va la := by
            obtain ⟨_, base, _, hP⟩ := unhide HL4
            rw [hla, ← hP.part]
            exact unhide Hoa
          have ob : Own eI 3 w6 w5.heap.size vb lb := by
            obtain ⟨_, base, _, hP⟩ := unhide HL4
            rw [hlb, ← hP.part]
            exact unhide Hob
          have hlal : la.length ≤ 40 := by have := partL_le D W M today ps true n; rw [hla]; omega
          have hlbl : lb.length ≤ 40 := by have := partL_le D W M today ps false n; rw [hlb]; omega
          have s5 : w4.heap.size ≤ w5.heap.size := HB5.size
          have s6 : w5.heap.size ≤ w6.heap.size := HB6.size
          obtain ⟨Aa, ca, hva, _⟩ := oa.sl
          obtain ⟨Ab, cb, hvb, _⟩ := ob.sl
          subst hva hvb
          have HB46 : Below w4.heap.size w4 w6 := (show Below w4.heap.size w4 w5 from ⟨HB5.os, HB5.tape, HB5.output, HB5.size, HB5.block⟩).trans (HB6.mono s5)
          have hbk6 := (unhide Hbk).below HB46
          have HB36 := hide ((unhide HB34).trans (HB46.mono (by omega)))
          have oa6 := (oa.below HB6).lower (show w3.heap.size + 1 ≤ w4.heap.size by omega)
          have u0 := ((bcell HB46).1 w.heap.size 0 s44).trans t0
          have u1 := ((bcell HB46).1 w.heap.size 1 s44).trans t1
          have u2 := ((bcell HB46).1 w.heap.size 2 s44).trans t2
          have B6 : Below w.heap.size w w6 := B4.trans (HB46.mono (by omega))
          have hab : ∀ q, (Value.slice Ab lb.length cb).ownBlock = some q → w5.heap.size ≤ q ∧ q < w6.heap.size := fun q hq => ob.lt q hq
          have haa : ∀ q, (Value.slice Aa la.length ca).ownBlock = some q → q < w5.heap.size := fun q hq => (oa.lt q hq).2
          have ob6 := ob.lower (show w3.heap.size + 1 ≤ w5.heap.size by omega)
          have Hab := hide hab
          have Haa := hide haa
          have Hob6 := hide ob6
          have Hoa6 := hide oa6
          have Hbk6 := hide hbk6
          have Hla := hide hla
          have Hlb := hide hlb
          clear oa ob HB5 HB6 HB46 hbk6 oa6 ob6 hab haa hla hlb v0 v1 v2 t0 t1 t2 Hoa Hob
          go_wp2_with fail
          refine (book_ints w3.heap.size (w3.heap.size + 1) _ _ [] [] [] Aa la.length ca la w6 (unhide Hbk6) (by simp) (unhide Hoa6) (by omega) (fun q hq => ⟨by simp [Value.ownBlock], by simp [Value.ownBlock], fun i h => by simp at h⟩)).mono ?_
          rintro e w7 ⟨rfl, X1, Y1, ua, hbk7, hT7⟩
          have Hbk7 := hide hbk7
          have s7 := hT7.size
          have ob7 := hT7.own (Nat.lt_succ_self _) (unhide Hob6) fun q _ => ⟨by simp [Value.ownBlock], by simp [Value.ownBlock]⟩
          have Hob7 := hide ob7
          have hX1 : ∀ q, X1.ownBlock = some q → w6.heap.size ≤ q := fun q hq => (hT7.x q hq).resolve_left (by simp [Value.ownBlock])
          have hY1 : ∀ q, Y1.ownBlock = some q → w6.heap.size ≤ q := fun q hq => (hT7.y q hq).resolve_left (by simp [Value.ownBlock])
          have hB7 := hT7.below
          have hf7 : ∀ q, (Value.slice Ab lb.length cb).ownBlock = some q → X1.ownBlock ≠ some q ∧ Y1.ownBlock ≠ some q ∧ ∀ i (h : i < ([] ++ [Value.slice Aa la.length ca]).length), ([] ++ [Value.slice Aa la.length ca])[i].ownBlock ≠ some q := fun q hq => by
            have h1 := unhide Hab q hq
            refine ⟨fun e => by have := hX1 q e; omega, fun e => by have := hY1 q e; omega, fun i h e => ?_⟩
            have h0 : i = 0 := by simp at h; omega
            subst h0
            have := unhide Haa q e
            omega
          have Hf7 := hide hf7
          clear hbk7 hT7 ob7 hX1 hY1 hf7
          go_wp2_with fail
          refine (book_ints w3.heap.size (w3.heap.size + 1) X1 Y1 _ _ _ Ab lb.length cb lb w7 (unhide Hbk7) (by simp) (unhide Hob7) (by omega) (unhide Hf7)).mono ?_
          rintro e w8 ⟨rfl, X2, Y2, ub, hbk8, hT8⟩
          have hB8 := hB7.trans hT8.below
          have Hbk8 := hide hbk8
          have s8 := hT8.size
          have B8 : Below w.heap.size w w8 := B6.trans (hB8.mono (by omega))
          have hB38 : Below w3.heap.size w3 w8 := (unhide HB36).trans hB8
          have HL8 := hide ((unhide HL).above (Nat.le_refl _) hB38)
          have H38 := hide hB38
          have y0 := ((bcell hB8).1 w.heap.size 0 (by omega)).trans u0
          have y1 := ((bcell hB8).1 w.heap.size 1 (by omega)).trans u1
          have y2 := ((bcell hB8).1 w.heap.size 2 (by omega)).trans u2
          have s38 : w3.heap.size ≤ w8.heap.size := hB38.size
          clear hbk8 hT8 hB7 hB8 hB38 u0 u1 u2
          obtain ⟨D', hD'⟩ : ∃ x, max D 0 = x := ⟨_, rfl⟩
          obtain ⟨W', hW'⟩ : ∃ x, max W 0 = x := ⟨_, rfl⟩
          obtain ⟨M', hM'⟩ : ∃ x, max M 0 = x := ⟨_, rfl⟩
          have hpart : ∀ b k, partL D' W' M' today ps b k = partL D W M today ps b k := fun b k => by rw [← hD', ← hW', ← hM', part_max]
          have Hpart := hide hpart
          have HD' := hide hD'
          have HW' := hide hW'
          have HM' := hide hM'
          clear hpart hD' hW' hM'
          go_wp2
          go_loopw [16, 17, 18] (fun S G j wr => ∃ k : Nat, k ≤ n ∧ j = .int .i64 k ∧ (∃ As cs Ag cg, S = .slice As (partL D' W' M' today ps true k).length cs ∧ G = .slice Ag (partL D' W' M' today ps false k).length cg ∧ Two wr w8.heap.size (.slice As (partL D' W' M' today ps true k).length cs) (.slice Ag (partL D' W' M' today ps false k).length cg) (partL D' W' M' today ps true k) (partL D' W' M' today ps false k)) ∧ Below w8.heap.size w8 wr) (fun _ _ j _ => n - (intOf j).toNat)
          case atStart => exact ⟨0, Nat.zero_le _, rfl, ⟨none, 0, none, 0, rfl, rfl, Two.start _ _⟩, Below.refl _ _⟩
          case round =>
            obtain ⟨k, hk, rfl, ⟨As, cs, Ag, cg, rfl, rfl, hTw⟩, HBr⟩ := hrel
            obtain ⟨L1, hL1⟩ : ∃ L, L = partL D' W' M' today ps true k := ⟨_, rfl⟩
            obtain ⟨L2, hL2⟩ : ∃ L, L = partL D' W' M' today ps false k := ⟨_, rfl⟩
            rw [← hL1, ← hL2] at hTw ⊢
            have hl1 : L1.length ≤ 40 := by have := partL_le D' W' M' today ps true k; rw [hL1]; omega
            have hl2 : L2.length ≤ 40 := by have := partL_le D' W' M' today ps false k; rw [hL2]; omega
            have HTw := hide hTw
            have HL1 := hide hL1
            have HL2 := hide hL2
            have z0 := ((bcell HBr).1 w.heap.size 0 (by omega)).trans y0
            have z1 := ((bcell HBr).1 w.heap.size 1 (by omega)).trans y1
            have z2 := ((bcell HBr).1 w.heap.size 2 (by omega)).trans y2
            have sr := HBr.size
            have Br : Below w.heap.size w wr := B8.trans (HBr.mono (by omega))
            clear hTw hL1 hL2
            by_cases hlt : k < n
            · have hkp : k < ps.length := by have := unhide Hnl; omega
              obtain ⟨b, off, eA, lA, hr⟩ := unhide R (by omega)
              have x0 : wr.cell? ⟨b, off + k * 4, none⟩ = some (.int .i64 ps[k].id) := ((bcell Br).1 _ _ lA).trans (hr k hkp 0 (by decide))
              obtain ⟨id, hid⟩ : ∃ y, y = ps[k].id := ⟨_, rfl⟩
              rw [← hid] at x0
              have Hid := hide hid
              have hslr := hide ((unhide Hs).below Br)
              have hd9 : ∀ p ∈ ps, p.day ≤ 9223372036854775807 := fun p hp => Int.le_trans (unhide Hd40 p hp) (by omega)
              obtain ⟨i0, hi, hz0, hz1, hz2⟩ := info_parts Try.infoIn
              have Hk := hide (keep17_any D' W' M' today A n c k ps wr hlt (unhide hslr) hd9 ht9)
              subst eA
              clear hr hid hd9
              go_wp2_with (first | (refine wpList_max rfl _ _ _ rfl D 0 D' rfl rfl (unhide HD') _ ?_) | (refine wpList_max rfl _ _ _ rfl W 0 W' rfl rfl (unhide HW') _ ?_) | (refine wpList_max rfl _ _ _ rfl M 0 M' rfl rfl (unhide HM') _ ?_))
              refine (unhide Hk).mono ?_
              rintro e wx ⟨rfl, hwx⟩
              obtain rfl := hwx.symm
              obtain ⟨st, hst⟩ : ∃ b, b = staysB D' W' M' today (ps.map Pt.day) k := ⟨_, rfl⟩
              rw [← hst]
              have Hst := hide hst
              clear hst
              cases st
              · go_wp2_with (at_builtin; refine wpList_append_one eI rfl _ _ _ rfl w8.heap.size 3 i0 (.int .i64 0) 8 Try.underlying40 hi hz0 hz1 hz2 rfl (by decide) (.slice Ag L2.length cg) L2 rfl _ (unhide HTw).2.1 id #[.int .i64 id] rfl (by simp [Act.eval]) (one_int _) ?c3 ?c4 ?c5 ?_)
                case c3 => unfold maxLen; omega
                case c4 => omega
                case c5 => exact sr
                intro v1 w1 hown1 hgr hloc
                obtain ⟨Av, cv, hv1, _⟩ := hown1.sl
                subst hv1
                have htw1 := ((unhide HTw).swap.fst hown1 hgr hloc).swap
                have hb1 := HBr.alloc sr (.cells #[.int .i64 id] 3)
                have B9 : Below w8.heap.size w8 w1 := hb1.grown hgr hb1.size fun q hq => ((unhide HTw).2.1.lt q hq).1
                have hp1 : partL D' W' M' today ps true (k + 1) = L1 := by rw [unhide HL1]; exact partL_no (by rw [← unhide Hst]; rfl)
                have hp2 : partL D' W' M' today ps false (k + 1) = L2 ++ [id] := by rw [unhide HL2, unhide Hid]; exact partL_yes hkp (by rw [← unhide Hst]; rfl)
                rw [List.length_append, List.length_singleton] at htw1
                have Htw1 := hide htw1
                have Hp1 := hide hp1
                have Hp2 := hide hp2
                clear hown1 hgr hloc htw1 hb1 hp1 hp2
                go_wp2
                go_roundw
                case rel =>
                  refine ⟨k + 1, by omega, by go_num, ?_, B9⟩
                  rw [unhide Hp1, unhide Hp2]
                  simp only [List.length_append, List.length_singleton]
                  exact ⟨As, cs, Av, cv, rfl, rfl, unhide Htw1⟩
                case measure => simp [intOf]; omega
              · go_wp2_with (at_builtin; refine wpList_append_one eI rfl _ _ _ rfl w8.heap.size 3 i0 (.int .i64 0) 8 Try.underlying40 hi hz0 hz1 hz2 rfl (by decide) (.slice As L1.length cs) L1 rfl _ (unhide HTw).1 id #[.int .i64 id] rfl (by simp [Act.eval]) (one_int _) ?c3 ?c4 ?c5 ?_)
                case c3 => unfold maxLen; omega
                case c4 => omega
                case c5 => exact sr
                intro v1 w1 hown1 hgr hloc
                obtain ⟨Av, cv, hv1, _⟩ := hown1.sl
                subst hv1
                have htw1 := (unhide HTw).fst hown1 hgr hloc
                have hb1 := HBr.alloc sr (.cells #[.int .i64 id] 3)
                have B9 : Below w8.heap.size w8 w1 := hb1.grown hgr hb1.size fun q hq => ((unhide HTw).1.lt q hq).1
                have hp1 : partL D' W' M' today ps true (k + 1) = L1 ++ [id] := by rw [unhide HL1, unhide Hid]; exact partL_yes hkp (by rw [← unhide Hst]; rfl)
                have hp2 : partL D' W' M' today ps false (k + 1) = L2 := by rw [unhide HL2]; exact partL_no (by rw [← unhide Hst]; rfl)
                rw [List.length_append, List.length_singleton] at htw1
                have Htw1 := hide htw1
                have Hp1 := hide hp1
                have Hp2 := hide hp2
                clear hown1 hgr hloc htw1 hb1 hp1 hp2
                go_wp2
                go_roundw
                case rel =>
                  refine ⟨k + 1, by omega, by go_num, ?_, B9⟩
                  rw [unhide Hp1, unhide Hp2]
                  simp only [List.length_append, List.length_singleton]
                  exact ⟨Av, cv, Ag, cg, rfl, rfl, unhide Htw1⟩
                case measure => simp [intOf]; omega
            · have hkn : k = n := by omega
              have hL1a : L1 = la := by rw [unhide HL1, unhide Hla, hkn, unhide Hpart]
              have hL2b : L2 = lb := by rw [unhide HL2, unhide Hlb, hkn, unhide Hpart]
              have hTw : Two wr w8.heap.size (.slice As la.length cs) (.slice Ag lb.length cg) la lb := by
                rw [← hL1a, ← hL2b]; exact unhide HTw
              rw [hL1a, hL2b]
              have HTa := hide hTw
              clear hL1a hL2b hTw HTw HL1 HL2 z0 z1 z2 y0 y1 y2
              have hl99 : ∀ i, ((([] ++ [la]) ++ [lb] : List (List Int)).getD i []).length ≤ 99000 := fun i => by
                rcases i with _ | _ | i
                · show la.length ≤ _; omega
                · show lb.length ≤ _; omega
                · show ([] : List Int).length ≤ _; simp
              have Hl99 := hide hl99
              clear hl99
              rcases (show (0 ≤ nn ∧ nn ≤ 999) ∨ nn < 0 ∨ 999 < nn by omega) with hok | hok1 | hok1
              · obtain ⟨hok1, hok2⟩ := hok
                rcases (show 0 ≤ day ∨ day < 0 by omega) with hdy | hdy
                · go_wp2_with fail
                  refine (of_yes nn hok1 hok2 wr).mono ?_
                  rintro e w9 ⟨rfl, HB9⟩
                  go_wp2_with fail
                  obtain ⟨w10, hw10⟩ : ∃ W, W = w9.alloc (.cells #[.int .i64 (nn % 10), .int .i64 (nn / 10 % 10), .int .i64 (nn / 10 / 10)] 24) := ⟨_, rfl⟩
                  have s9 := HB9.size
                  have B910 : Below w9.heap.size w9 w10 := by rw [hw10]; exact (Below.refl _ _).alloc (Nat.le_refl _) _
                  have k0 : w10.cell? ⟨w9.heap.size, 0, none⟩ = some (.int .i64 (nn % 10)) := by rw [hw10]; exact World.cell?_alloc_at _ _ _ _ rfl
                  have k1 : w10.cell? ⟨w9.heap.size, 1, none⟩ = some (.int .i64 (nn / 10 % 10)) := by rw [hw10]; exact World.cell?_alloc_at _ _ _ _ rfl
                  have k2 : w10.cell? ⟨w9.heap.size, 2, none⟩ = some (.int .i64 (nn / 100)) := by rw [hw10]; rw [← show nn / 10 / 10 = nn / 100 by omega]; exact World.cell?_alloc_at _ _ _ _ rfl
                  have Br10 : Below wr.heap.size wr w10 := HB9.trans (B910.mono s9)
                  rw [← hw10]
                  have B810 : Below w8.heap.size w8 w10 := HBr.trans (Br10.mono sr)
                  have hbk10 := (unhide Hbk8).below B810
                  have oa10 : Own eI 3 w10 (w3.heap.size + 1) (.slice Aa la.length ca) la := hbk10.rows.inner 0 (by simp) (by simp)
                  have ob10 : Own eI 3 w10 (w3.heap.size + 1) (.slice Ab lb.length cb) lb := hbk10.rows.inner 1 (by simp) (by simp)
                  have sb10 := hide (own_sl5 ob10)
                  have tb10 := hide (own_sl5 ((unhide HTa).2.1.below Br10))
                  have hc1 := hide (sameInts_any Aa As la.length ca la.length cs la la w10 (own_sl5 oa10) (own_sl5 ((unhide HTa).1.below Br10)))
                  clear hbk10 oa10 ob10 hw10 HB9 B910 Br10
                  refine (unhide hc1).mono ?_
                  rintro e w11 ⟨rfl, q1, hw11⟩
                  first | rw [decide_eq_true rfl] | simp only [decide_true]
                  have B811 : Below w8.heap.size w8 w11 := by rw [hw11]; exact below_drewN B810 _
                  have k0' : w11.cell? ⟨w9.heap.size, 0, none⟩ = some (.int .i64 (nn % 10)) := by rw [hw11]; exact k0
                  have k1' : w11.cell? ⟨w9.heap.size, 1, none⟩ = some (.int .i64 (nn / 10 % 10)) := by rw [hw11]; exact k1
                  have k2' : w11.cell? ⟨w9.heap.size, 2, none⟩ = some (.int .i64 (nn / 100)) := by rw [hw11]; exact k2
                  have hc2 := hide (sameInts_any Ab Ag lb.length cb lb.length cg lb lb w11 (by rw [hw11]; exact unhide sb10) (by rw [hw11]; exact unhide tb10))
                  clear k0 k1 k2 hc1 sb10 tb10 hw11 B810
                  go_wp2_with fail
                  refine (unhide hc2).mono ?_
                  rintro e w12 ⟨rfl, q2, hw12⟩
                  first | rw [decide_eq_true rfl] | simp only [decide_true]
                  have B812 : Below w8.heap.size w8 w12 := by rw [hw12]; exact below_drewN B811 _
                  have k0 : w12.cell? ⟨w9.heap.size, 0, none⟩ = some (.int .i64 (nn % 10)) := by rw [hw12]; exact k0'
                  have k1 : w12.cell? ⟨w9.heap.size, 1, none⟩ = some (.int .i64 (nn / 10 % 10)) := by rw [hw12]; exact k1'
                  have k2 : w12.cell? ⟨w9.heap.size, 2, none⟩ = some (.int .i64 (nn / 100)) := by rw [hw12]; exact k2'
                  clear k0' k1' k2' hc2 hw12 B811
                  go_wp2_with fail
                  refine (week_any day w12 hbd2).mono ?_
                  rintro e w' ⟨rfl, hw'⟩; obtain rfl := hw'.symm
                  rw [show un 7 day = day / 7 by unfold un; omega]
                  go_wp2_with fail
                  refine (month_any day w12 hbd2).mono ?_
                  rintro e w' ⟨rfl, hw'⟩; obtain rfl := hw'.symm
                  rw [show un 28 day = day / 28 by unfold un; omega]
                  have hst := hide (staysPoints_yes A3 c3 A c n w2.heap.size ps qs w2 w12 ((unhide HL8).below B812) hc3 hc3' ((unhide Hs).below (B8.trans (B812.mono (by omega)))) ((unhide HB23).trans (((unhide H38).trans (B812.mono s38)).mono hs23)))
                  have hap := (unhide Hbk8).below B812
                  have Hap := hide hap
                  clear hap
                  go_wp2_with fail
                  refine (unhide hst).mono ?_
                  rintro e w13 ⟨rfl, q3, hw13⟩
                  have B813 : Below w8.heap.size w8 w13 := by rw [hw13]; exact below_drewN B812 _
                  have hap := hide (apart_ints w3.heap.size (w3.heap.size + 1) X2 Y2 _ _ _ w13 ((unhide Hbk8).below B813) (by simp) (unhide Hl99))
                  clear hst hw13 B812 k0 k1 k2
                  go_wp2_with fail
                  refine (unhide hap).mono ?_
                  rintro e w14 ⟨rfl, HB14⟩
                  have B14 : Below w.heap.size w w14 := B8.trans ((B813.mono (by omega)).trans (HB14.mono (by omega)))
                  clear hap HB14 B813
                  go_wp2
                  go_ret
                  exact ⟨rfl, B14⟩
                · go_wp2_with fail
                  refine (of_yes nn hok1 hok2 wr).mono ?_
                  rintro e w9 ⟨rfl, HB9⟩
                  go_wp2_with fail
                  obtain ⟨w10, hw10⟩ : ∃ W, W = w9.alloc (.cells #[.int .i64 (nn % 10), .int .i64 (nn / 10 % 10), .int .i64 (nn / 10 / 10)] 24) := ⟨_, rfl⟩
                  have s9 := HB9.size
                  have B910 : Below w9.heap.size w9 w10 := by rw [hw10]; exact (Below.refl _ _).alloc (Nat.le_refl _) _
                  have k0 : w10.cell? ⟨w9.heap.size, 0, none⟩ = some (.int .i64 (nn % 10)) := by rw [hw10]; exact World.cell?_alloc_at _ _ _ _ rfl
                  have k1 : w10.cell? ⟨w9.heap.size, 1, none⟩ = some (.int .i64 (nn / 10 % 10)) := by rw [hw10]; exact World.cell?_alloc_at _ _ _ _ rfl
                  have k2 : w10.cell? ⟨w9.heap.size, 2, none⟩ = some (.int .i64 (nn / 100)) := by rw [hw10]; rw [← show nn / 10 / 10 = nn / 100 by omega]; exact World.cell?_alloc_at _ _ _ _ rfl
                  have Br10 : Below wr.heap.size wr w10 := HB9.trans (B910.mono s9)
                  rw [← hw10]
                  have B810 : Below w8.heap.size w8 w10 := HBr.trans (Br10.mono sr)
                  have hbk10 := (unhide Hbk8).below B810
                  have oa10 : Own eI 3 w10 (w3.heap.size + 1) (.slice Aa la.length ca) la := hbk10.rows.inner 0 (by simp) (by simp)
                  have ob10 : Own eI 3 w10 (w3.heap.size + 1) (.slice Ab lb.length cb) lb := hbk10.rows.inner 1 (by simp) (by simp)
                  have sb10 := hide (own_sl5 ob10)
                  have tb10 := hide (own_sl5 ((unhide HTa).2.1.below Br10))
                  have hc1 := hide (sameInts_any Aa As la.length ca la.length cs la la w10 (own_sl5 oa10) (own_sl5 ((unhide HTa).1.below Br10)))
                  clear hbk10 oa10 ob10 hw10 HB9 B910 Br10
                  refine (unhide hc1).mono ?_
                  rintro e w11 ⟨rfl, q1, hw11⟩
                  first | rw [decide_eq_true rfl] | simp only [decide_true]
                  have B811 : Below w8.heap.size w8 w11 := by rw [hw11]; exact below_drewN B810 _
                  have k0' : w11.cell? ⟨w9.heap.size, 0, none⟩ = some (.int .i64 (nn % 10)) := by rw [hw11]; exact k0
                  have k1' : w11.cell? ⟨w9.heap.size, 1, none⟩ = some (.int .i64 (nn / 10 % 10)) := by rw [hw11]; exact k1
                  have k2' : w11.cell? ⟨w9.heap.size, 2, none⟩ = some (.int .i64 (nn / 100)) := by rw [hw11]; exact k2
                  have hc2 := hide (sameInts_any Ab Ag lb.length cb lb.length cg lb lb w11 (by rw [hw11]; exact unhide sb10) (by rw [hw11]; exact unhide tb10))
                  clear k0 k1 k2 hc1 sb10 tb10 hw11 B810
                  go_wp2_with fail
                  refine (unhide hc2).mono ?_
                  rintro e w12 ⟨rfl, q2, hw12⟩
                  first | rw [decide_eq_true rfl] | simp only [decide_true]
                  have B812 : Below w8.heap.size w8 w12 := by rw [hw12]; exact below_drewN B811 _
                  have k0 : w12.cell? ⟨w9.heap.size, 0, none⟩ = some (.int .i64 (nn % 10)) := by rw [hw12]; exact k0'
                  have k1 : w12.cell? ⟨w9.heap.size, 1, none⟩ = some (.int .i64 (nn / 10 % 10)) := by rw [hw12]; exact k1'
                  have k2 : w12.cell? ⟨w9.heap.size, 2, none⟩ = some (.int .i64 (nn / 100)) := by rw [hw12]; exact k2'
                  clear k0' k1' k2' hc2 hw12 B811
                  go_wp2_with fail
                  refine (week_any day w12 hbd2).mono ?_
                  rintro e w' ⟨rfl, hw'⟩; obtain rfl := hw'.symm
                  rw [show un 7 day = 0 by unfold un; omega]
                  go_wp2_with fail
                  refine (month_any day w12 hbd2).mono ?_
                  rintro e w' ⟨rfl, hw'⟩; obtain rfl := hw'.symm
                  rw [show un 28 day = 0 by unfold un; omega]
                  have hst := hide (staysPoints_yes A3 c3 A c n w2.heap.size ps qs w2 w12 ((unhide HL8).below B812) hc3 hc3' ((unhide Hs).below (B8.trans (B812.mono (by omega)))) ((unhide HB23).trans (((unhide H38).trans (B812.mono s38)).mono hs23)))
                  have hap := (unhide Hbk8).below B812
                  have Hap := hide hap
                  clear hap
                  go_wp2_with fail
                  refine (unhide hst).mono ?_
                  rintro e w13 ⟨rfl, q3, hw13⟩
                  have B813 : Below w8.heap.size w8 w13 := by rw [hw13]; exact below_drewN B812 _
                  have hap := hide (apart_ints w3.heap.size (w3.heap.size + 1) X2 Y2 _ _ _ w13 ((unhide Hbk8).below B813) (by simp) (unhide Hl99))
                  clear hst hw13 B812 k0 k1 k2
                  go_wp2_with fail
                  refine (unhide hap).mono ?_
                  rintro e w14 ⟨rfl, HB14⟩
                  have B14 : Below w.heap.size w w14 := B8.trans ((B813.mono (by omega)).trans (HB14.mono (by omega)))
                  clear hap HB14 B813
                  go_wp2
                  go_ret
                  exact ⟨rfl, B14⟩
              · rcases (show 0 ≤ day ∨ day < 0 by omega) with hdy | hdy
                · go_wp2_with fail
                  refine (of_no nn (.inl hok1) wr).mono ?_
                  rintro e w9 ⟨rfl, HB9⟩
                  go_wp2_with fail
                  obtain ⟨w10, hw10⟩ : ∃ W, W = w9.alloc (.cells #[.int .i64 0, .int .i64 0, .int .i64 0] 24) := ⟨_, rfl⟩
                  have s9 := HB9.size
                  have B910 : Below w9.heap.size w9 w10 := by rw [hw10]; exact (Below.refl _ _).alloc (Nat.le_refl _) _
                  have k0 : w10.cell? ⟨w9.heap.size, 0, none⟩ = some (.int .i64 0) := by rw [hw10]; exact World.cell?_alloc_at _ _ _ _ rfl
                  have k1 : w10.cell? ⟨w9.heap.size, 1, none⟩ = some (.int .i64 0) := by rw [hw10]; exact World.cell?_alloc_at _ _ _ _ rfl
                  have k2 : w10.cell? ⟨w9.heap.size, 2, none⟩ = some (.int .i64 0) := by rw [hw10]; exact World.cell?_alloc_at _ _ _ _ rfl
                  have Br10 : Below wr.heap.size wr w10 := HB9.trans (B910.mono s9)
                  rw [← hw10]
                  have B810 : Below w8.heap.size w8 w10 := HBr.trans (Br10.mono sr)
                  have hbk10 := (unhide Hbk8).below B810
                  have oa10 : Own eI 3 w10 (w3.heap.size + 1) (.slice Aa la.length ca) la := hbk10.rows.inner 0 (by simp) (by simp)
                  have ob10 : Own eI 3 w10 (w3.heap.size + 1) (.slice Ab lb.length cb) lb := hbk10.rows.inner 1 (by simp) (by simp)
                  have sb10 := hide (own_sl5 ob10)
                  have tb10 := hide (own_sl5 ((unhide HTa).2.1.below Br10))
                  have hc1 := hide (sameInts_any Aa As la.length ca la.length cs la la w10 (own_sl5 oa10) (own_sl5 ((unhide HTa).1.below Br10)))
                  clear hbk10 oa10 ob10 hw10 HB9 B910 Br10
                  refine (unhide hc1).mono ?_
                  rintro e w11 ⟨rfl, q1, hw11⟩
                  first | rw [decide_eq_true rfl] | simp only [decide_true]
                  have B811 : Below w8.heap.size w8 w11 := by rw [hw11]; exact below_drewN B810 _
                  have k0' : w11.cell? ⟨w9.heap.size, 0, none⟩ = some (.int .i64 0) := by rw [hw11]; exact k0
                  have k1' : w11.cell? ⟨w9.heap.size, 1, none⟩ = some (.int .i64 0) := by rw [hw11]; exact k1
                  have k2' : w11.cell? ⟨w9.heap.size, 2, none⟩ = some (.int .i64 0) := by rw [hw11]; exact k2
                  have hc2 := hide (sameInts_any Ab Ag lb.length cb lb.length cg lb lb w11 (by rw [hw11]; exact unhide sb10) (by rw [hw11]; exact unhide tb10))
                  clear k0 k1 k2 hc1 sb10 tb10 hw11 B810
                  go_wp2_with fail
                  refine (unhide hc2).mono ?_
                  rintro e w12 ⟨rfl, q2, hw12⟩
                  first | rw [decide_eq_true rfl] | simp only [decide_true]
                  have B812 : Below w8.heap.size w8 w12 := by rw [hw12]; exact below_drewN B811 _
                  have k0 : w12.cell? ⟨w9.heap.size, 0, none⟩ = some (.int .i64 0) := by rw [hw12]; exact k0'
                  have k1 : w12.cell? ⟨w9.heap.size, 1, none⟩ = some (.int .i64 0) := by rw [hw12]; exact k1'
                  have k2 : w12.cell? ⟨w9.heap.size, 2, none⟩ = some (.int .i64 0) := by rw [hw12]; exact k2'
                  clear k0' k1' k2' hc2 hw12 B811
                  go_wp2_with fail
                  refine (week_any day w12 hbd2).mono ?_
                  rintro e w' ⟨rfl, hw'⟩; obtain rfl := hw'.symm
                  rw [show un 7 day = day / 7 by unfold un; omega]
                  go_wp2_with fail
                  refine (month_any day w12 hbd2).mono ?_
                  rintro e w' ⟨rfl, hw'⟩; obtain rfl := hw'.symm
                  rw [show un 28 day = day / 28 by unfold un; omega]
                  have hst := hide (staysPoints_yes A3 c3 A c n w2.heap.size ps qs w2 w12 ((unhide HL8).below B812) hc3 hc3' ((unhide Hs).below (B8.trans (B812.mono (by omega)))) ((unhide HB23).trans (((unhide H38).trans (B812.mono s38)).mono hs23)))
                  have hap := (unhide Hbk8).below B812
                  have Hap := hide hap
                  clear hap
                  go_wp2_with fail
                  refine (unhide hst).mono ?_
                  rintro e w13 ⟨rfl, q3, hw13⟩
                  have B813 : Below w8.heap.size w8 w13 := by rw [hw13]; exact below_drewN B812 _
                  have hap := hide (apart_ints w3.heap.size (w3.heap.size + 1) X2 Y2 _ _ _ w13 ((unhide Hbk8).below B813) (by simp) (unhide Hl99))
                  clear hst hw13 B812 k0 k1 k2
                  go_wp2_with fail
                  refine (unhide hap).mono ?_
                  rintro e w14 ⟨rfl, HB14⟩
                  have B14 : Below w.heap.size w w14 := B8.trans ((B813.mono (by omega)).trans (HB14.mono (by omega)))
                  clear hap HB14 B813
                  go_wp2
                  go_ret
                  exact ⟨rfl, B14⟩
                · go_wp2_with fail
                  refine (of_no nn (.inl hok1) wr).mono ?_
                  rintro e w9 ⟨rfl, HB9⟩
                  go_wp2_with fail
                  obtain ⟨w10, hw10⟩ : ∃ W, W = w9.alloc (.cells #[.int .i64 0, .int .i64 0, .int .i64 0] 24) := ⟨_, rfl⟩
                  have s9 := HB9.size
                  have B910 : Below w9.heap.size w9 w10 := by rw [hw10]; exact (Below.refl _ _).alloc (Nat.le_refl _) _
                  have k0 : w10.cell? ⟨w9.heap.size, 0, none⟩ = some (.int .i64 0) := by rw [hw10]; exact World.cell?_alloc_at _ _ _ _ rfl
                  have k1 : w10.cell? ⟨w9.heap.size, 1, none⟩ = some (.int .i64 0) := by rw [hw10]; exact World.cell?_alloc_at _ _ _ _ rfl
                  have k2 : w10.cell? ⟨w9.heap.size, 2, none⟩ = some (.int .i64 0) := by rw [hw10]; exact World.cell?_alloc_at _ _ _ _ rfl
                  have Br10 : Below wr.heap.size wr w10 := HB9.trans (B910.mono s9)
                  rw [← hw10]
                  have B810 : Below w8.heap.size w8 w10 := HBr.trans (Br10.mono sr)
                  have hbk10 := (unhide Hbk8).below B810
                  have oa10 : Own eI 3 w10 (w3.heap.size + 1) (.slice Aa la.length ca) la := hbk10.rows.inner 0 (by simp) (by simp)
                  have ob10 : Own eI 3 w10 (w3.heap.size + 1) (.slice Ab lb.length cb) lb := hbk10.rows.inner 1 (by simp) (by simp)
                  have sb10 := hide (own_sl5 ob10)
                  have tb10 := hide (own_sl5 ((unhide HTa).2.1.below Br10))
                  have hc1 := hide (sameInts_any Aa As la.length ca la.length cs la la w10 (own_sl5 oa10) (own_sl5 ((unhide HTa).1.below Br10)))
                  clear hbk10 oa10 ob10 hw10 HB9 B910 Br10
                  refine (unhide hc1).mono ?_
                  rintro e w11 ⟨rfl, q1, hw11⟩
                  first | rw [decide_eq_true rfl] | simp only [decide_true]
                  have B811 : Below w8.heap.size w8 w11 := by rw [hw11]; exact below_drewN B810 _
                  have k0' : w11.cell? ⟨w9.heap.size, 0, none⟩ = some (.int .i64 0) := by rw [hw11]; exact k0
                  have k1' : w11.cell? ⟨w9.heap.size, 1, none⟩ = some (.int .i64 0) := by rw [hw11]; exact k1
                  have k2' : w11.cell? ⟨w9.heap.size, 2, none⟩ = some (.int .i64 0) := by rw [hw11]; exact k2
                  have hc2 := hide (sameInts_any Ab Ag lb.length cb lb.length cg lb lb w11 (by rw [hw11]; exact unhide sb10) (by rw [hw11]; exact unhide tb10))
                  clear k0 k1 k2 hc1 sb10 tb10 hw11 B810
                  go_wp2_with fail
                  refine (unhide hc2).mono ?_
                  rintro e w12 ⟨rfl, q2, hw12⟩
                  first | rw [decide_eq_true rfl] | simp only [decide_true]
                  have B812 : Below w8.heap.size w8 w12 := by rw [hw12]; exact below_drewN B811 _
                  have k0 : w12.cell? ⟨w9.heap.size, 0, none⟩ = some (.int .i64 0) := by rw [hw12]; exact k0'
                  have k1 : w12.cell? ⟨w9.heap.size, 1, none⟩ = some (.int .i64 0) := by rw [hw12]; exact k1'
                  have k2 : w12.cell? ⟨w9.heap.size, 2, none⟩ = some (.int .i64 0) := by rw [hw12]; exact k2'
                  clear k0' k1' k2' hc2 hw12 B811
                  go_wp2_with fail
                  refine (week_any day w12 hbd2).mono ?_
                  rintro e w' ⟨rfl, hw'⟩; obtain rfl := hw'.symm
                  rw [show un 7 day = 0 by unfold un; omega]
                  go_wp2_with fail
                  refine (month_any day w12 hbd2).mono ?_
                  rintro e w' ⟨rfl, hw'⟩; obtain rfl := hw'.symm
                  rw [show un 28 day = 0 by unfold un; omega]
                  have hst := hide (staysPoints_yes A3 c3 A c n w2.heap.size ps qs w2 w12 ((unhide HL8).below B812) hc3 hc3' ((unhide Hs).below (B8.trans (B812.mono (by omega)))) ((unhide HB23).trans (((unhide H38).trans (B812.mono s38)).mono hs23)))
                  have hap := (unhide Hbk8).below B812
                  have Hap := hide hap
                  clear hap
                  go_wp2_with fail
                  refine (unhide hst).mono ?_
                  rintro e w13 ⟨rfl, q3, hw13⟩
                  have B813 : Below w8.heap.size w8 w13 := by rw [hw13]; exact below_drewN B812 _
                  have hap := hide (apart_ints w3.heap.size (w3.heap.size + 1) X2 Y2 _ _ _ w13 ((unhide Hbk8).below B813) (by simp) (unhide Hl99))
                  clear hst hw13 B812 k0 k1 k2
                  go_wp2_with fail
                  refine (unhide hap).mono ?_
                  rintro e w14 ⟨rfl, HB14⟩
                  have B14 : Below w.heap.size w w14 := B8.trans ((B813.mono (by omega)).trans (HB14.mono (by omega)))
                  clear hap HB14 B813
                  go_wp2
                  go_ret
                  exact ⟨rfl, B14⟩
              · have hokd : decide (nn ≤ 999) = false := decide_eq_false (by omega)
                rcases (show 0 ≤ day ∨ day < 0 by omega) with hdy | hdy
                · go_wp2_with fail
                  refine (of_no nn (.inr hok1) wr).mono ?_
                  rintro e w9 ⟨rfl, HB9⟩
                  go_wp2_with fail
                  obtain ⟨w10, hw10⟩ : ∃ W, W = w9.alloc (.cells #[.int .i64 0, .int .i64 0, .int .i64 0] 24) := ⟨_, rfl⟩
                  have s9 := HB9.size
                  have B910 : Below w9.heap.size w9 w10 := by rw [hw10]; exact (Below.refl _ _).alloc (Nat.le_refl _) _
                  have k0 : w10.cell? ⟨w9.heap.size, 0, none⟩ = some (.int .i64 0) := by rw [hw10]; exact World.cell?_alloc_at _ _ _ _ rfl
                  have k1 : w10.cell? ⟨w9.heap.size, 1, none⟩ = some (.int .i64 0) := by rw [hw10]; exact World.cell?_alloc_at _ _ _ _ rfl
                  have k2 : w10.cell? ⟨w9.heap.size, 2, none⟩ = some (.int .i64 0) := by rw [hw10]; exact World.cell?_alloc_at _ _ _ _ rfl
                  have Br10 : Below wr.heap.size wr w10 := HB9.trans (B910.mono s9)
                  rw [← hw10]
                  have B810 : Below w8.heap.size w8 w10 := HBr.trans (Br10.mono sr)
                  have hbk10 := (unhide Hbk8).below B810
                  have oa10 : Own eI 3 w10 (w3.heap.size + 1) (.slice Aa la.length ca) la := hbk10.rows.inner 0 (by simp) (by simp)
                  have ob10 : Own eI 3 w10 (w3.heap.size + 1) (.slice Ab lb.length cb) lb := hbk10.rows.inner 1 (by simp) (by simp)
                  have sb10 := hide (own_sl5 ob10)
                  have tb10 := hide (own_sl5 ((unhide HTa).2.1.below Br10))
                  have hc1 := hide (sameInts_any Aa As la.length ca la.length cs la la w10 (own_sl5 oa10) (own_sl5 ((unhide HTa).1.below Br10)))
                  clear hbk10 oa10 ob10 hw10 HB9 B910 Br10
                  refine (unhide hc1).mono ?_
                  rintro e w11 ⟨rfl, q1, hw11⟩
                  first | rw [decide_eq_true rfl] | simp only [decide_true]
                  have B811 : Below w8.heap.size w8 w11 := by rw [hw11]; exact below_drewN B810 _
                  have k0' : w11.cell? ⟨w9.heap.size, 0, none⟩ = some (.int .i64 0) := by rw [hw11]; exact k0
                  have k1' : w11.cell? ⟨w9.heap.size, 1, none⟩ = some (.int .i64 0) := by rw [hw11]; exact k1
                  have k2' : w11.cell? ⟨w9.heap.size, 2, none⟩ = some (.int .i64 0) := by rw [hw11]; exact k2
                  have hc2 := hide (sameInts_any Ab Ag lb.length cb lb.length cg lb lb w11 (by rw [hw11]; exact unhide sb10) (by rw [hw11]; exact unhide tb10))
                  clear k0 k1 k2 hc1 sb10 tb10 hw11 B810
                  go_wp2_with fail
                  refine (unhide hc2).mono ?_
                  rintro e w12 ⟨rfl, q2, hw12⟩
                  first | rw [decide_eq_true rfl] | simp only [decide_true]
                  have B812 : Below w8.heap.size w8 w12 := by rw [hw12]; exact below_drewN B811 _
                  have k0 : w12.cell? ⟨w9.heap.size, 0, none⟩ = some (.int .i64 0) := by rw [hw12]; exact k0'
                  have k1 : w12.cell? ⟨w9.heap.size, 1, none⟩ = some (.int .i64 0) := by rw [hw12]; exact k1'
                  have k2 : w12.cell? ⟨w9.heap.size, 2, none⟩ = some (.int .i64 0) := by rw [hw12]; exact k2'
                  clear k0' k1' k2' hc2 hw12 B811
                  go_wp2_with fail
                  refine (week_any day w12 hbd2).mono ?_
                  rintro e w' ⟨rfl, hw'⟩; obtain rfl := hw'.symm
                  rw [show un 7 day = day / 7 by unfold un; omega]
                  go_wp2_with fail
                  refine (month_any day w12 hbd2).mono ?_
                  rintro e w' ⟨rfl, hw'⟩; obtain rfl := hw'.symm
                  rw [show un 28 day = day / 28 by unfold un; omega]
                  have hst := hide (staysPoints_yes A3 c3 A c n w2.heap.size ps qs w2 w12 ((unhide HL8).below B812) hc3 hc3' ((unhide Hs).below (B8.trans (B812.mono (by omega)))) ((unhide HB23).trans (((unhide H38).trans (B812.mono s38)).mono hs23)))
                  have hap := (unhide Hbk8).below B812
                  have Hap := hide hap
                  clear hap
                  go_wp2_with fail
                  refine (unhide hst).mono ?_
                  rintro e w13 ⟨rfl, q3, hw13⟩
                  have B813 : Below w8.heap.size w8 w13 := by rw [hw13]; exact below_drewN B812 _
                  have hap := hide (apart_ints w3.heap.size (w3.heap.size + 1) X2 Y2 _ _ _ w13 ((unhide Hbk8).below B813) (by simp) (unhide Hl99))
                  clear hst hw13 B812 k0 k1 k2
                  go_wp2_with fail
                  refine (unhide hap).mono ?_
                  rintro e w14 ⟨rfl, HB14⟩
                  have B14 : Below w.heap.size w w14 := B8.trans ((B813.mono (by omega)).trans (HB14.mono (by omega)))
                  clear hap HB14 B813
                  go_wp2
                  go_ret
                  exact ⟨rfl, B14⟩
                · go_wp2_with fail
                  refine (of_no nn (.inr hok1) wr).mono ?_
                  rintro e w9 ⟨rfl, HB9⟩
                  go_wp2_with fail
                  obtain ⟨w10, hw10⟩ : ∃ W, W = w9.alloc (.cells #[.int .i64 0, .int .i64 0, .int .i64 0] 24) := ⟨_, rfl⟩
                  have s9 := HB9.size
                  have B910 : Below w9.heap.size w9 w10 := by rw [hw10]; exact (Below.refl _ _).alloc (Nat.le_refl _) _
                  have k0 : w10.cell? ⟨w9.heap.size, 0, none⟩ = some (.int .i64 0) := by rw [hw10]; exact World.cell?_alloc_at _ _ _ _ rfl
                  have k1 : w10.cell? ⟨w9.heap.size, 1, none⟩ = some (.int .i64 0) := by rw [hw10]; exact World.cell?_alloc_at _ _ _ _ rfl
                  have k2 : w10.cell? ⟨w9.heap.size, 2, none⟩ = some (.int .i64 0) := by rw [hw10]; exact World.cell?_alloc_at _ _ _ _ rfl
                  have Br10 : Below wr.heap.size wr w10 := HB9.trans (B910.mono s9)
                  rw [← hw10]
                  have B810 : Below w8.heap.size w8 w10 := HBr.trans (Br10.mono sr)
                  have hbk10 := (unhide Hbk8).below B810
                  have oa10 : Own eI 3 w10 (w3.heap.size + 1) (.slice Aa la.length ca) la := hbk10.rows.inner 0 (by simp) (by simp)
                  have ob10 : Own eI 3 w10 (w3.heap.size + 1) (.slice Ab lb.length cb) lb := hbk10.rows.inner 1 (by simp) (by simp)
                  have sb10 := hide (own_sl5 ob10)
                  have tb10 := hide (own_sl5 ((unhide HTa).2.1.below Br10))
                  have hc1 := hide (sameInts_any Aa As la.length ca la.length cs la la w10 (own_sl5 oa10) (own_sl5 ((unhide HTa).1.below Br10)))
                  clear hbk10 oa10 ob10 hw10 HB9 B910 Br10
                  refine (unhide hc1).mono ?_
                  rintro e w11 ⟨rfl, q1, hw11⟩
                  first | rw [decide_eq_true rfl] | simp only [decide_true]
                  have B811 : Below w8.heap.size w8 w11 := by rw [hw11]; exact below_drewN B810 _
                  have k0' : w11.cell? ⟨w9.heap.size, 0, none⟩ = some (.int .i64 0) := by rw [hw11]; exact k0
                  have k1' : w11.cell? ⟨w9.heap.size, 1, none⟩ = some (.int .i64 0) := by rw [hw11]; exact k1
                  have k2' : w11.cell? ⟨w9.heap.size, 2, none⟩ = some (.int .i64 0) := by rw [hw11]; exact k2
                  have hc2 := hide (sameInts_any Ab Ag lb.length cb lb.length cg lb lb w11 (by rw [hw11]; exact unhide sb10) (by rw [hw11]; exact unhide tb10))
                  clear k0 k1 k2 hc1 sb10 tb10 hw11 B810
                  go_wp2_with fail
                  refine (unhide hc2).mono ?_
                  rintro e w12 ⟨rfl, q2, hw12⟩
                  first | rw [decide_eq_true rfl] | simp only [decide_true]
                  have B812 : Below w8.heap.size w8 w12 := by rw [hw12]; exact below_drewN B811 _
                  have k0 : w12.cell? ⟨w9.heap.size, 0, none⟩ = some (.int .i64 0) := by rw [hw12]; exact k0'
                  have k1 : w12.cell? ⟨w9.heap.size, 1, none⟩ = some (.int .i64 0) := by rw [hw12]; exact k1'
                  have k2 : w12.cell? ⟨w9.heap.size, 2, none⟩ = some (.int .i64 0) := by rw [hw12]; exact k2'
                  clear k0' k1' k2' hc2 hw12 B811
                  go_wp2_with fail
                  refine (week_any day w12 hbd2).mono ?_
                  rintro e w' ⟨rfl, hw'⟩; obtain rfl := hw'.symm
                  rw [show un 7 day = 0 by unfold un; omega]
                  go_wp2_with fail
                  refine (month_any day w12 hbd2).mono ?_
                  rintro e w' ⟨rfl, hw'⟩; obtain rfl := hw'.symm
                  rw [show un 28 day = 0 by unfold un; omega]
                  have hst := hide (staysPoints_yes A3 c3 A c n w2.heap.size ps qs w2 w12 ((unhide HL8).below B812) hc3 hc3' ((unhide Hs).below (B8.trans (B812.mono (by omega)))) ((unhide HB23).trans (((unhide H38).trans (B812.mono s38)).mono hs23)))
                  have hap := (unhide Hbk8).below B812
                  have Hap := hide hap
                  clear hap
                  go_wp2_with fail
                  refine (unhide hst).mono ?_
                  rintro e w13 ⟨rfl, q3, hw13⟩
                  have B813 : Below w8.heap.size w8 w13 := by rw [hw13]; exact below_drewN B812 _
                  have hap := hide (apart_ints w3.heap.size (w3.heap.size + 1) X2 Y2 _ _ _ w13 ((unhide Hbk8).below B813) (by simp) (unhide Hl99))
                  clear hst hw13 B812 k0 k1 k2
                  go_wp2_with fail
                  refine (unhide hap).mono ?_
                  rintro e w14 ⟨rfl, HB14⟩
                  have B14 : Below w.heap.size w w14 := B8.trans ((B813.mono (by omega)).trans (HB14.mono (by omega)))
                  clear hap HB14 B813
                  go_wp2
                  go_ret
                  exact ⟨rfl, B14⟩
end Go.Proofs.Ytdpbjigdihajjaa
