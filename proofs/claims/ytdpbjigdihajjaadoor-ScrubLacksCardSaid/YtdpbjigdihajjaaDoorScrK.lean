/- Walk of the law ScrubRight. -/
import Derived.Test.YtdpbjigdihajjaaDoorScrJ
import Derived.Test.YtdpbjigdihajjaaDoorNames
namespace Go.Proofs.YtdpbjigdihajjaaDoor
open Go.RowKit

/-- The blocks that the law makes. -/
def shvR (ws : List (Int × Int)) : List Shv := ws.map fun p => ⟨p.1, p.2, nameS (65 + p.1 / 30) (65 + p.1 % 30)⟩
theorem told_one {T : List (Int × Int)} {l : List Shv} {r : List (Int × Int)} (h : Told T l r) (hz : ∀ b ∈ l, zeroB b.bytes = false) (hn : (l.map (·.bytes)).Nodup) (hids : ∀ id ∈ T.map (·.1), id ∈ l.map (·.id)) : r.Perm (l.flatMap (badE (atN T))) := by
  obtain ⟨ks, h1, _, h3⟩ := h
  have hk : ks = [] := by
    cases ks with
    | nil => rfl
    | cons k ks =>
      have := (h3 k).1 List.mem_cons_self
      exact absurd (hids k this.1) this.2
  rw [hk, bads_one hz hn l.length (Nat.le_refl _), List.take_length] at h1
  simpa [lackL] using h1
theorem flat_none {α β : Type} {f : α → List β} {l : List α} (h : ∀ x ∈ l, f x = []) : l.flatMap f = [] := by
  rw [List.flatMap_eq_nil_iff]
  exact h
theorem flat_set {α β : Type} {f : α → List β} {l : List α} {k : Nat} (hk : k < l.length) {x : α} (h : ∀ x ∈ l, f x = []) : (l.set k x).flatMap f = f x := by
  rw [List.set_eq_take_append_cons_drop, if_pos hk, List.flatMap_append, List.flatMap_cons, flat_none fun y hy => h y (List.mem_of_mem_take hy), flat_none fun y hy => h y (List.mem_of_mem_drop hy)]
  simp
/-- What the law knows of its blocks. -/
structure RightL (T : List (Int × Int)) (l : List Shv) : Prop where
  z : ∀ b ∈ l, zeroB b.bytes = false
  n : (l.map (·.bytes)).Nodup
  i : (l.map (·.id)).Nodup
  a : ∀ id ∈ T.map (·.1), id ∈ l.map (·.id)
  w : ∀ b ∈ l, atN T b.id = b.refs ∧ 0 < b.refs
  s : ∀ b ∈ l, b.bytes.size ≤ 60
theorem RightL.none {T : List (Int × Int)} {l : List Shv} (h : RightL T l) : ∀ b ∈ l, badE (atN T) b = [] := fun b hb => by
  obtain ⟨h1, h2⟩ := h.w b hb
  unfold badE
  rw [if_neg (by omega), if_neg (by rw [h1]; simp)]
theorem RightL.told {T : List (Int × Int)} {l : List Shv} (h : RightL T l) {r : List (Int × Int)} (hr : Told T l r) : r = [] := by
  have := told_one hr h.z h.n h.a
  rw [flat_none h.none] at this
  exact this.eq_nil
theorem RightL.set {T : List (Int × Int)} {l : List Shv} (h : RightL T l) {k : Nat} (hk : k < l.length) {d : Int} (hd : 1 ≤ d) :
    (∀ r : List (Int × Int), Told T (l.set k ⟨l[k].id, l[k].refs + d, l[k].bytes⟩) r → r = [(3, l[k].id)]) ∧ (l.set k ⟨l[k].id, l[k].refs + d, l[k].bytes⟩).map (·.id) = l.map (·.id) ∧ ∀ b ∈ l.set k ⟨l[k].id, l[k].refs + d, l[k].bytes⟩, b.bytes.size ≤ 60 := by
  have e1 : (l.set k ⟨l[k].id, l[k].refs + d, l[k].bytes⟩).map (·.id) = l.map (·.id) := by
    rw [List.map_set]
    apply List.ext_getElem?
    intro j
    rw [List.getElem?_set]
    by_cases e : k = j
    · subst e; simp [hk]
    · rw [if_neg e]
  have e2 : (l.set k ⟨l[k].id, l[k].refs + d, l[k].bytes⟩).map (·.bytes) = l.map (·.bytes) := by
    rw [List.map_set]
    apply List.ext_getElem?
    intro j
    rw [List.getElem?_set]
    by_cases e : k = j
    · subst e; simp [hk]
    · rw [if_neg e]
  have hb : ∀ b ∈ l.set k ⟨l[k].id, l[k].refs + d, l[k].bytes⟩, ∃ c ∈ l, b.bytes = c.bytes := fun b hb => by
    rcases List.mem_or_eq_of_mem_set hb with h1 | h1
    · exact ⟨b, h1, rfl⟩
    · exact ⟨l[k], List.getElem_mem hk, by rw [h1]⟩
  refine ⟨fun r hr => ?_, e1, fun b hbm => ?_⟩
  · have := told_one hr (fun b hbm => by obtain ⟨c, h1, h2⟩ := hb b hbm; rw [h2]; exact h.z c h1) (by rw [e2]; exact h.n) (by rw [e1]; exact h.a)
    rw [flat_set hk h.none] at this
    obtain ⟨h1, h2⟩ := h.w l[k] (List.getElem_mem hk)
    have e3 : badE (atN T) ⟨l[k].id, l[k].refs + d, l[k].bytes⟩ = [(3, l[k].id)] := by
      unfold badE
      show (if atN T l[k].id = 0 then _ else if atN T l[k].id ≠ l[k].refs + d then _ else _) = _
      rw [if_neg (by omega), if_pos (by omega)]
    rw [e3] at this
    exact List.perm_singleton.1 this
  · obtain ⟨c, h1, h2⟩ := hb b hbm
    rw [h2]; exact h.s c h1
theorem shvR_right {T ws : List (Int × Int)} (hp : (ws.map (·.1)).Perm (T.map (·.1))) (hnd : (T.map (·.1)).Nodup) (hat : ∀ p ∈ ws, p.2 = atN T p.1) (hin : ∀ k ∈ T.map (·.1), 1 ≤ k ∧ k ≤ 60) (hpos : ∀ k ∈ T.map (·.1), 0 < atN T k) : RightL T (shvR ws) := by
  have e1 : (shvR ws).map (·.id) = ws.map (·.1) := by unfold shvR; rw [List.map_map]; rfl
  have hw : (ws.map (·.1)).Nodup := hp.nodup_iff.2 hnd
  have hmem : ∀ p ∈ ws, p.1 ∈ T.map (·.1) := fun p h => hp.mem_iff.1 (List.mem_map.2 ⟨p, h, rfl⟩)
  refine ⟨fun b hb => ?_, ?_, by rw [e1]; exact hw, fun id h => by rw [e1]; exact hp.mem_iff.2 h, fun b hb => ?_, fun b hb => ?_⟩
  · obtain ⟨p, _, rfl⟩ := List.mem_map.1 hb
    exact nameS_zero _ _
  · unfold shvR
    rw [List.map_map, List.nodup_iff_pairwise_ne, List.pairwise_map]
    rw [List.nodup_iff_pairwise_ne, List.pairwise_map] at hw
    refine hw.imp_of_mem fun {p q} hp hq hne e => hne ?_
    obtain ⟨a1, a2⟩ := hin _ (hmem p hp)
    obtain ⟨b1, b2⟩ := hin _ (hmem q hq)
    obtain ⟨h1, h2⟩ := nameS_inj (by omega) (by omega) (by omega) (by omega) e
    omega
  · obtain ⟨p, h, rfl⟩ := List.mem_map.1 hb
    have h1 := hat p h
    have h2 := hpos _ (hmem p h)
    exact ⟨h1.symm, by show 0 < p.2; omega⟩
  · obtain ⟨p, _, rfl⟩ := List.mem_map.1 hb
    show (nameS _ _).size ≤ 60
    rw [nameS_size]; omega
theorem shvR_snoc {ws : List (Int × Int)} {q : Nat} (hq : q < ws.length) : shvR (ws.take (q + 1)) = shvR (ws.take q) ++ [⟨ws[q].1, ws[q].2, nameS (65 + ws[q].1 / 30) (65 + ws[q].1 % 30)⟩] := by
  unfold shvR
  rw [← List.take_append_getElem hq, List.map_append]
  rfl
set_option maxHeartbeats 8000000 in
set_option maxRecDepth 100000 in
theorem right_any (A : Option Addr) (n c : Nat) (ps : List Pt) (x at' by' : Int) (w : World) (hp : Sl ePt w A n c ps) (he : ∀ i (h : i < ps.length), ∃ es, Sl eE w ps[i].eA ps[i].eN ps[i].eC es) :
    Calls Tryd.prog 5 #[.slice A n c, .int .i64 x, .int .i64 at', .int .i64 by'] w fun e w' => e = .returned (.bool true) ∧ Below w.heap.size w w' := by
  obtain ⟨i0, hi, hz0, hz1, hz2⟩ := info_parts Tryd.infoShv
  have Hp := hide hp
  have He := hide he
  clear hp he
  go_enter Tryd.func5, Tryd.ntmps5
  go_upto_region 1 with fail
  go_cut [28] from 14 (fun s28 wx => ∃ B, s28 = .bool B ∧ (B = false → 1 ≤ by' ∧ by' ≤ 5) ∧ Below w.heap.size w wx)
  case first =>
    by_cases h1 : by' < 1
    · go_wp2_with (first | (go_at_call 19; refine (light_any A n c ps w (unhide Hp) (unhide He)).mono ?_; rintro e w' ⟨⟨b, he, _⟩, hw⟩; subst he; obtain rfl := hw.symm; cases b))
      all_goals
        go_meet
        case rel => exact ⟨true, rfl, (fun h => by cases h), Below.refl _ _⟩
    · by_cases h5 : 5 < by'
      · go_wp2_with (first | (go_at_call 19; refine (light_any A n c ps w (unhide Hp) (unhide He)).mono ?_; rintro e w' ⟨⟨b, he, _⟩, hw⟩; subst he; obtain rfl := hw.symm; cases b))
        all_goals
          go_meet
          case rel => exact ⟨true, rfl, (fun h => by cases h), Below.refl _ _⟩
      · go_wp2_with (first | (go_at_call 19; refine (light_any A n c ps w (unhide Hp) (unhide He)).mono ?_; rintro e w' ⟨⟨b, he, _⟩, hw⟩; subst he; obtain rfl := hw.symm; cases b) | (go_at_call 20; refine (alive21 _).mono ?_; rintro e w5 ⟨he, HB5⟩; subst he))
        · go_meet
          case rel => exact ⟨true, rfl, (fun h => by cases h), Below.refl _ _⟩
        · go_meet
          case rel => exact ⟨_, rfl, fun _ => ⟨by omega, by omega⟩, HB5⟩
  case rest =>
    obtain ⟨B, rfl, hB, HB1⟩ := hcut
    obtain ⟨w1, rfl⟩ : ∃ wo : World, wo = wc := ⟨_, rfl⟩
    have s1 := HB1.size
    cases B
    case true =>
      clear hB
      go_wp2_with (go_at_call 20; refine (alive21 _).mono ?_; rintro e w5 ⟨he, HB5⟩; subst he)
      go_ret
      exact ⟨rfl, HB1.trans (HB5.mono s1)⟩
    case false =>
      obtain ⟨by1, by2⟩ := hB rfl
      have r1 : -64 < x.tmod 64 := Int.lt_tmod_of_pos x (by decide)
      have r2 : x.tmod 64 < 64 := Int.tmod_lt_of_pos x (by decide)
      have r3 : 0 ≤ x.tmod 64 % 64 := Int.emod_nonneg _ (by decide)
      have r4 : x.tmod 64 % 64 < 64 := Int.emod_lt_of_pos _ (by decide)
      have HHB1 := hide HB1
      clear hB HB1
      go_wp2_with fail
      refine (fit_any A n c ps _ w1 ((unhide Hp).below (unhide HHB1)) (fun i h => by obtain ⟨es, h1⟩ := unhide He i h; exact ⟨es, h1.below (unhide HHB1)⟩) (by omega) (by omega)).mono ?_
      rintro e w3 ⟨qs, A4, c4, rfl, hP, h12, HB3⟩
      obtain ⟨ess, hR⟩ := hP.reads h12
      have HR := hide hR
      have s3 := HB3.size
      have Bw3 : Below w.heap.size w w3 := (unhide HHB1).trans (HB3.mono (by omega))
      obtain ⟨T, hT⟩ : ∃ T, T = tally (idsP ess) := ⟨_, rfl⟩
      have hin : ∀ k ∈ T.map (·.1), 1 ≤ k ∧ k ≤ 60 := fun k hk => by rw [hT] at hk; exact idsP_in hR.fine k (((tally_at _ k).2).1 hk)
      have hpos : ∀ k ∈ T.map (·.1), 0 < atN T k := fun k hk => by rw [hT] at hk ⊢; exact (tally_pos _ k).2 (((tally_at _ k).2).1 hk)
      have htl : T.length ≤ 60000 := by
        rw [hT]
        have h1 := tally_len (idsP ess)
        have h2 := idsP_le ess hR.fine
        have := hR.len
        omega
      have hnd : (T.map (·.1)).Nodup := by rw [hT]; exact tally_nodup _
      have hwants := wants_any A4 qs.length c4 qs ess w3 hR
      rw [← hT] at hwants
      have Hwants := hide hwants
      have HT := hide hT
      have g1 := hR.sl.2.1
      have g2 := hR.sl.2.2.1
      have BwW3 := hide Bw3
      have Hin := hide hin
      have Hpos := hide hpos
      have Hnd := hide hnd
      clear hP hR HB3 hwants hT Bw3 hin hpos hnd r1 r2 r3 r4 HHB1
      go_wp2_with (go_at_call 22; refine (unhide Hwants).mono ?_; rintro e w4 ⟨A5, c5, ws, he, hO5, hp5, hpw5, hat5, HB5⟩; subst he; have HO5 := hide hO5; have Hp5 := hide hp5; have Hat5 := hide hat5; have HB5' := hide HB5; clear hO5 hp5 hpw5 hat5 HB5)
      have hwl : ws.length ≤ 60000 := by have := (unhide Hp5).length_eq; simp at this; omega
      obtain ⟨A5', c5', hv5, hsl5, _⟩ := (unhide HO5).sl
      injection hv5 with v1 _ v3
      rw [← v1, ← v3] at hsl5
      have g3 := hsl5.2.1
      have g4 := hsl5.2.2.1
      have R5 := hide hsl5.2.2.2
      have B4 := hide ((unhide BwW3).trans ((unhide HB5').mono (by have := (unhide BwW3).size; omega)))
      obtain ⟨m, hm⟩ : ∃ m, m = ws.length := ⟨_, rfl⟩
      rw [← hm] at g3 R5 hwl ⊢
      have Hm := hide hm
      clear v1 v3 hsl5 hm
      go_wp2_with fail
      go_loopw [9, 40] (fun v j wr => ∃ q : Nat, q ≤ m ∧ j = .int .i64 q ∧ (∃ A c, v = .slice A q c ∧ Own eSh 51 wr w4.heap.size (.slice A q c) (shvR (ws.take q))) ∧ Below w4.heap.size w4 wr) (fun _ j _ => m - (intOf j).toNat)
      case atStart => exact ⟨0, Nat.zero_le _, rfl, ⟨none, 0, rfl, Own.nil _ _ _ _⟩, Below.refl _ _⟩
      case round =>
        obtain ⟨q, hq, rfl, ⟨Av, cv, rfl, hown⟩, HB⟩ := hrel
        have Hown := hide hown
        clear hown
        obtain ⟨wA, rfl⟩ : ∃ wo : World, wo = wr := ⟨_, rfl⟩
        have sr := HB.size
        by_cases hlq : q < m
        · have hqs : q < ws.length := by have := unhide Hm; omega
          obtain ⟨b4, o4, eA4, lb4, hr4⟩ := unhide R5 (by omega)
          subst eA4
          have y0 : wA.cell? ⟨b4, o4 + q * 2, none⟩ = some (.int .i64 ws[q].1) := ((bcell HB).1 _ _ lb4).trans (hr4 q hqs 0 (by decide))
          have y1 : wA.cell? ⟨b4, o4 + q * 2 + 1, none⟩ = some (.int .i64 ws[q].2) := ((bcell HB).1 _ _ lb4).trans (hr4 q hqs 1 (by decide))
          have hmem : ws[q].1 ∈ T.map (·.1) := (unhide Hp5).mem_iff.1 (List.mem_map.2 ⟨ws[q], List.getElem_mem hqs, rfl⟩)
          obtain ⟨k1, k2⟩ := unhide Hin _ hmem
          have k3 := unhide Hpos _ hmem
          have k4 := unhide Hat5 ws[q] (List.getElem_mem hqs)
          rw [← k4] at k3
          obtain ⟨id, hid⟩ : ∃ id, id = ws[q].1 := ⟨_, rfl⟩
          obtain ⟨cn, hcn⟩ : ∃ id, id = ws[q].2 := ⟨_, rfl⟩
          rw [← hid] at y0 k1 k2
          rw [← hcn] at y1 k3
          have Hid := hide hid
          have Hcn := hide hcn
          clear hr4 hmem k4 hid hcn
          have hcv := convS2 (wA.alloc (.cells #[.int .i64 id, .int .i64 cn] 49)) (65 + id / 30) (65 + id % 30)
          rw [show (wA.alloc (.cells #[.int .i64 id, .int .i64 cn] 49)).heap.size = wA.heap.size + 1 by simp] at hcv
          have hsn := hide (shvR_snoc hqs)
          rw [← unhide Hid, ← unhide Hcn] at hsn
          have hL : (shvR (ws.take q)).length = q := by unfold shvR; rw [List.length_map, List.length_take]; omega
          have Hlt6 := hide hL
          obtain ⟨L, hLe⟩ : ∃ L, L = shvR (ws.take q) := ⟨_, rfl⟩
          rw [← hLe] at Hown hsn Hlt6
          have s2 : w4.heap.size ≤ ((wA.alloc (.cells #[.int .i64 id, .int .i64 cn] 49)).alloc (.cells #[.int .u8 (65 + id / 30), .int .u8 (65 + id % 30)] 5)).heap.size := by simp; omega
          clear hL hLe
          go_wp2_with (at_builtin; refine wpList_append_one eSh rfl _ _ _ rfl w4.heap.size 51 i0 _ 32 Tryd.underlying46 hi hz0 hz1 hz2 rfl (by decide) (.slice Av q cv) L rfl _ (((unhide Hown).alloc _).alloc _) ⟨id, cn, (⟨#[98, 108, 111, 99, 107, 45]⟩ : ByteArray) ++ strOfNums [65 + id / 30, 65 + id % 30]⟩ #[.int .i64 id, .int .i64 cn, .string ((⟨#[98, 108, 111, 99, 107, 45]⟩ : ByteArray) ++ strOfNums [65 + id / 30, 65 + id % 30])] rfl (by simp [Act.eval]) (by intro u hu; simp at hu; rcases hu with rfl | rfl | rfl <;> rfl) ?c3 ?c4 s2 ?_)
          case c3 => rw [unhide Hlt6]; unfold maxLen; omega
          case c4 => rw [unhide Hlt6]; omega
          intro v4 w6 hown4 hgr4 hloc4
          have hb3 := ((HB.alloc sr (.cells #[.int .i64 id, .int .i64 cn] 49)).alloc (by simp; omega) (.cells #[.int .u8 (65 + id / 30), .int .u8 (65 + id % 30)] 5)).alloc s2 (.cells #[.int .i64 id, .int .i64 cn, .string ((⟨#[98, 108, 111, 99, 107, 45]⟩ : ByteArray) ++ strOfNums [65 + id / 30, 65 + id % 30])] 51)
          have B6 : Below w4.heap.size w4 w6 := hb3.grown hgr4 hb3.size fun j hj => ((unhide Hown).lt j hj).1
          have ho6 : Own eSh 51 w6 w4.heap.size v4 (shvR (ws.take (q + 1))) := by rw [unhide hsn]; exact hown4
          obtain ⟨A6, c6, hv6, _⟩ := ho6.sl
          have hl6 : (shvR (ws.take (q + 1))).length = q + 1 := by unfold shvR; rw [List.length_map, List.length_take]; omega
          rw [hl6] at hv6
          subst hv6
          have HO6 := hide ho6
          clear hown4 hgr4 hloc4 hb3 hl6 y0 y1 ho6 hcv
          go_wp2
          go_roundw
          case rel => exact ⟨q + 1, by omega, by go_num, ⟨A6, c6, rfl, unhide HO6⟩, B6⟩
          case measure => simp [intOf]; omega
        · obtain rfl : q = m := by omega
          have hte : ws.take q = ws := List.take_of_length_le (by have := unhide Hm; omega)
          rw [hte] at Hown
          have hRL : RightL T (shvR ws) := shvR_right (unhide Hp5) (unhide Hnd) (unhide Hat5) (unhide Hin) (unhide Hpos)
          have hLl : (shvR ws).length = q := by unfold shvR; rw [List.length_map]; exact (unhide Hm).symm
          obtain ⟨L, hL⟩ : ∃ L, L = shvR ws := ⟨_, rfl⟩
          rw [← hL] at Hown hRL hLl
          have s34 : w3.heap.size ≤ w4.heap.size := (unhide HB5').size
          have hRA := (unhide HR).below ((unhide HB5').trans (HB.mono s34))
          obtain ⟨A7, c7, hv7, hsl7, _⟩ := (unhide Hown).sl
          rw [hLl] at hv7 hsl7
          injection hv7 with v1 _ v3
          rw [← v1, ← v3] at hsl7
          have hbd : ∀ b ∈ L, b.refs ≤ 60000 := fun b hb => by
            have h1 := (hRL.w b hb).1
            have h2 := (tally_bd (idsP ess) b.id).2
            rw [← unhide HT] at h2
            have h3 := idsP_le ess (unhide HR).fine
            have h4 := (unhide HR).len
            omega
          have hql : q ≤ 60 := by
            have h1 := length_of_subset hRL.i (m := (List.range 60).map fun i : Nat => (i : Int) + 1) fun id hid => by
              obtain ⟨b, hb, rfl⟩ := List.mem_map.1 hid
              have h2 := hRL.w b hb
              have h3 : b.id ∈ T.map (·.1) := by
                by_cases hm : b.id ∈ T.map (·.1)
                · exact hm
                · have := lkN_none.2 hm
                  rw [atN, this] at h2
                  simp at h2; omega
              obtain ⟨h4, h5⟩ := unhide Hin _ h3
              exact List.mem_map.2 ⟨(b.id - 1).toNat, List.mem_range.2 (by omega), by omega⟩
            simp at h1
            omega
          have hlook := look_any Av q cv L A4 qs.length c4 qs ess wA hsl7 (by omega) (fun b hb => by have := hRL.s b hb; omega) hRL.i hRA
          rw [← unhide HT] at hlook
          have Hlook := hide hlook
          have HRL := hide hRL
          have Hbd := hide hbd
          have HLl := hide hLl
          have B6 := hide ((unhide B4).trans (HB.mono (by have := (unhide B4).size; omega)))
          have HRA := hide hRA
          clear hlook hRL hL v1 v3 hsl7 hRA hbd hte hLl
          rcases Nat.eq_zero_or_pos q with hq0 | hq0
          · have q0 : ((q : Int) == 0) = true := beq_iff_eq.2 (by omega)
            clear hq0
            go_wp2_with (go_at_call 23; refine (unhide Hlook).mono ?_; rintro e w6 ⟨A6, c6, r, he, _, ht6, HB6⟩; have hr := (unhide HRL).told ht6; subst hr; subst he; have HB6' := hide HB6; clear ht6 HB6)
            go_ret
            exact ⟨rfl, (unhide B6).trans ((unhide HB6').mono (unhide B6).size)⟩
          · have q0 : ((q : Int) == 0) = false := beq_eq_false_iff_ne.2 (by omega)
            have hm1 : 0 ≤ (at'.tmod q + q) % (q : Int) := Int.emod_nonneg _ (by omega)
            have hm2 : (at'.tmod q + q) % (q : Int) < q := Int.emod_lt_of_pos _ (by omega)
            have hd1 : 0 ≤ at'.tmod q + q := by
              have := Int.lt_tmod_of_pos at' (show (0 : Int) < q by omega); omega
            have hd2 : at'.tmod q + q ≤ 120 := by
              have := Int.tmod_lt_of_pos at' (show (0 : Int) < q by omega); omega
            obtain ⟨kk, hkk⟩ : ∃ kk : Nat, (kk : Int) = (at'.tmod q + q) % (q : Int) := ⟨((at'.tmod q + q) % (q : Int)).toNat, by omega⟩
            have hkq : kk < q := by omega
            have Hkk := hide hkk
            clear hkk
            go_upto_region 17 with (go_at_call 23; refine (unhide Hlook).mono ?_; rintro e w6 ⟨A6, c6, r, he, _, ht6, HB6⟩; have hr := (unhide HRL).told ht6; subst hr; subst he; have HB6' := hide HB6; clear ht6 HB6)
            rw [← unhide Hkk]
            have hkL : kk < L.length := by rw [unhide HLl]; exact hkq
            have ho8 := (unhide Hown).below (unhide HB6')
            have B8 := hide ((unhide B6).trans ((unhide HB6').mono (unhide B6).size))
            have hR8 := hide ((unhide HRA).below (unhide HB6'))
            obtain ⟨hset1, hset2, hset3⟩ := (unhide HRL).set hkL by1
            have hrefs := unhide Hbd L[kk] (List.getElem_mem hkL)
            have hrefs0 := ((unhide HRL).w L[kk] (List.getElem_mem hkL)).2
            obtain ⟨y, hy⟩ : ∃ y, y = L[kk] := ⟨_, rfl⟩
            rcases ho8.shape with ⟨_, h0⟩ | ⟨g, cap, hvv, hg1, hg2, hg3, hg4⟩
            · rw [h0] at hkL; simp at hkL
            · injection hvv with e1 e2 e3
              subst e1 e3
              have x0 : w6.cell? ⟨g, kk * 3, none⟩ = some (.int .i64 L[kk].id) := by
                have := ho8.cell (i := kk) (j := 0) hkL (by decide)
                simpa [eSh] using this
              have x1 : w6.cell? ⟨g, kk * 3 + 1, none⟩ = some (.int .i64 L[kk].refs) := by
                have := ho8.cell (i := kk) (j := 1) hkL (by decide)
                simpa [eSh] using this
              have f1 := ho8.frozen (kk * 3 + 1)
              rw [← hy] at x0 x1 hset1 hset2 hset3 hrefs hrefs0
              have o9 := Own.set ho8 hkL (j := 1) (by decide) (.int .i64 (y.refs + by')) ⟨y.id, y.refs + by', y.bytes⟩ (fun j hj => by
                have hj3 : j < 3 := hj
                rw [← hy]
                rcases (show j = 0 ∨ j = 1 ∨ j = 2 by omega) with rfl | rfl | rfl <;> rfl)
              obtain ⟨w9, hw9⟩ : ∃ V, V = w6.setCell ⟨g, kk * 3 + 1, none⟩ (.int .i64 (y.refs + by')) := ⟨_, rfl⟩
              have o9' : Own eSh 51 w9 w4.heap.size (.slice (some ⟨g, 0, none⟩) q cv) (L.set kk ⟨y.id, y.refs + by', y.bytes⟩) := by rw [hw9]; exact o9
              have B9 : Below w4.heap.size w6 w9 := by rw [hw9]; exact (Below.refl _ _).setCell (p := ⟨g, kk * 3 + 1, none⟩) hg1 _
              have z0 : w9.cell? ⟨g, kk * 3, none⟩ = some (.int .i64 y.id) := by
                rw [hw9]
                exact (World.cell?_setCell_other w6 ⟨g, kk * 3 + 1, none⟩ ⟨g, kk * 3, none⟩ _ (by intro e; injection e with _ e2; omega)).trans x0
              have hRA9 : PtsIn w9 A4 qs.length c4 qs ess := by
                have hh := (unhide HR).below (unhide HB5')
                refine hh.below (w' := w9) ((HB.trans ((unhide HB6').mono sr)).trans B9)
              obtain ⟨A9, c9, hv9, hsl9, _⟩ := o9'.sl
              have hl9 : (L.set kk ⟨y.id, y.refs + by', y.bytes⟩).length = q := by rw [List.length_set]; exact unhide HLl
              rw [hl9] at hv9 hsl9
              injection hv9 with v1 _ v3
              rw [← v1, ← v3] at hsl9
              have hlook2 := look_any (some ⟨g, 0, none⟩) q cv _ A4 qs.length c4 qs ess w9 hsl9 (by omega) (fun b hb => by have := hset3 b hb; omega) (by rw [hset2]; exact (unhide HRL).i) hRA9
              rw [← unhide HT] at hlook2
              have Hlook2 := hide hlook2
              have Hset1 := hide hset1
              have Hw9 := hide hw9
              have BwW9 : Below w.heap.size w w9 := (unhide B8).trans (B9.mono (by have := (unhide B4).size; omega))
              have HB9 := hide BwW9
              obtain ⟨yi, hyi⟩ : ∃ i, i = y.id := ⟨_, rfl⟩
              obtain ⟨yr, hyr⟩ : ∃ i, i = y.refs := ⟨_, rfl⟩
              rw [← hyi] at z0 x0
              have Hyi := hide hyi
              rw [← hyr] at x1 hrefs hrefs0 Hw9
              clear hlook2 hset1 hset2 hset3 hw9 BwW9 v1 v3 hsl9 hl9 o9 o9' B9 hRA9 ho8 hy hyi hyr e2
              go_upto_region 19 with (go_at_call 23; rw [← unhide Hw9]; refine (unhide Hlook2).mono ?_; rintro e w10 ⟨A10, c10, r, he, hs10, ht10, HB10⟩; have hr := unhide Hset1 r ht10; rw [← unhide Hyi] at hr; subst hr; subst he; have HS10 := hide hs10; have HB10' := hide HB10; clear hs10 ht10 HB10)
              obtain ⟨b5, o5, eA5, lb5, hr5⟩ := (unhide HS10).2.2.2 (by simp)
              subst eA5
              have u0 : w10.cell? ⟨b5, o5, none⟩ = some (.int .i64 3) := by simpa [eF] using hr5 0 (by simp) 0 (by decide)
              have u1 : w10.cell? ⟨b5, o5 + 1, none⟩ = some (.int .i64 yi) := by simpa [eF] using hr5 0 (by simp) 1 (by decide)
              have hc1 := (unhide HS10).2.1
              have hc2 := (unhide HS10).2.2.1
              have z10 := ((bcell (unhide HB10')).1 g (kk * 3) (World.block_lt_of_cell? _ _ z0)).trans z0
              have BwF := hide ((unhide HB9).trans ((unhide HB10').mono (unhide HB9).size))
              clear hr5 z0 x0 x1 f1
              go_quiet (fail)
              go_wp2_with fail
              go_ret
              exact ⟨rfl, below_drewN (unhide BwF) nq⟩
end Go.Proofs.YtdpbjigdihajjaaDoor
