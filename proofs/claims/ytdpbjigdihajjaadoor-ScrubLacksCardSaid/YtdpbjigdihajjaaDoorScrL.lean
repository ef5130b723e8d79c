/- Walk of the law ScrubLacks. -/
import Derived.Test.YtdpbjigdihajjaaDoorScrK
import Derived.Test.YtdpbjigdihajjaaDoorAppendW
namespace Go.Proofs.YtdpbjigdihajjaaDoor
open Go.RowKit

/-- The blocks that the law makes. -/
def shvL (ws : List (Int × Int)) : List Shv := ws.map fun p => ⟨p.1, p.2, nameS p.1 120⟩
theorem shvL_right {T ws : List (Int × Int)} (hp : (ws.map (·.1)).Perm (T.map (·.1))) (hnd : (T.map (·.1)).Nodup) (hat : ∀ p ∈ ws, p.2 = atN T p.1) (hin : ∀ k ∈ T.map (·.1), 1 ≤ k ∧ k ≤ 60) (hpos : ∀ k ∈ T.map (·.1), 0 < atN T k) : RightL T (shvL ws) := by
  have e1 : (shvL ws).map (·.id) = ws.map (·.1) := by unfold shvL; rw [List.map_map]; rfl
  have hw : (ws.map (·.1)).Nodup := hp.nodup_iff.2 hnd
  have hmem : ∀ p ∈ ws, p.1 ∈ T.map (·.1) := fun p h => hp.mem_iff.1 (List.mem_map.2 ⟨p, h, rfl⟩)
  refine ⟨fun b hb => ?_, ?_, by rw [e1]; exact hw, fun id h => by rw [e1]; exact hp.mem_iff.2 h, fun b hb => ?_, fun b hb => ?_⟩
  · obtain ⟨p, _, rfl⟩ := List.mem_map.1 hb
    exact nameS_zero _ _
  · unfold shvL
    rw [List.map_map, List.nodup_iff_pairwise_ne, List.pairwise_map]
    rw [List.nodup_iff_pairwise_ne, List.pairwise_map] at hw
    refine hw.imp_of_mem fun {p q} hp hq hne e => hne ?_
    obtain ⟨a1, a2⟩ := hin _ (hmem p hp)
    obtain ⟨b1, b2⟩ := hin _ (hmem q hq)
    exact (nameS_inj (by omega) (by omega) (by omega) (by omega) e).1
  · obtain ⟨p, h, rfl⟩ := List.mem_map.1 hb
    have h1 := hat p h
    have h2 := hpos _ (hmem p h)
    exact ⟨h1.symm, by show 0 < p.2; omega⟩
  · obtain ⟨p, _, rfl⟩ := List.mem_map.1 hb
    show (nameS _ _).size ≤ 60
    rw [nameS_size]; omega
theorem shvL_snoc {ws : List (Int × Int)} {q : Nat} (hq : q < ws.length) : shvL (ws.take (q + 1)) = shvL (ws.take q) ++ [⟨ws[q].1, ws[q].2, nameS ws[q].1 120⟩] := by
  unfold shvL
  rw [← List.take_append_getElem hq, List.map_append]
  rfl
theorem RightL.len60 {T : List (Int × Int)} {l : List Shv} (h : RightL T l) (hin : ∀ k ∈ T.map (·.1), 1 ≤ k ∧ k ≤ 60) : l.length ≤ 60 := by
  have h1 := length_of_subset h.i (m := (List.range 60).map fun i : Nat => (i : Int) + 1) fun id hid => by
    obtain ⟨b, hb, rfl⟩ := List.mem_map.1 hid
    have h2 := h.w b hb
    have h3 : b.id ∈ T.map (·.1) := by
      by_cases hm : b.id ∈ T.map (·.1)
      · exact hm
      · have := lkN_none.2 hm
        rw [atN, this] at h2
        simp at h2; omega
    obtain ⟨h4, h5⟩ := hin _ h3
    exact List.mem_map.2 ⟨(b.id - 1).toNat, List.mem_range.2 (by omega), by omega⟩
  simp at h1
  omega
/-- One block taken away: it lacks, and nothing else. -/
theorem RightL.less {T : List (Int × Int)} {l : List Shv} (h : RightL T l) {k : Nat} (hk : k < l.length) :
    (∀ r : List (Int × Int), Told T (l.take k ++ l.drop (k + 1)) r → r = [(4, l[k].id)]) ∧ ((l.take k ++ l.drop (k + 1)).map (·.id)).Nodup ∧ (∀ b ∈ l.take k ++ l.drop (k + 1), b.bytes.size ≤ 60) ∧ mendL (atN T) (l.take k ++ l.drop (k + 1)) = l.take k ++ l.drop (k + 1) := by
  have hm : ∀ b ∈ l.take k ++ l.drop (k + 1), b ∈ l := fun b hb => by
    rcases List.mem_append.1 hb with h1 | h1
    · exact List.mem_of_mem_take h1
    · exact List.mem_of_mem_drop h1
  have hsub : (l.take k ++ l.drop (k + 1)).Sublist l := by
    have h1 : (l.take k ++ l.drop (k + 1)).Sublist (l.take k ++ l.drop k) := List.Sublist.append (List.Sublist.refl _) (by
      rw [List.drop_eq_getElem_cons hk]
      exact List.sublist_cons_self _ _)
    rw [List.take_append_drop] at h1
    exact h1
  have hids : ((l.take k ++ l.drop (k + 1)).map (·.id)).Nodup := h.i.sublist (hsub.map _)
  have hsplit : l.map (·.id) = (l.take k).map (·.id) ++ (l[k].id :: (l.drop (k + 1)).map (·.id)) := by
    conv => lhs; rw [← List.take_append_drop k l, List.drop_eq_getElem_cons hk]
    rw [List.map_append, List.map_cons]
  have hnk : l[k].id ∉ (l.take k ++ l.drop (k + 1)).map (·.id) := by
    have h1 := h.i
    rw [hsplit, List.nodup_append] at h1
    obtain ⟨_, h2, h3⟩ := h1
    rw [List.nodup_cons] at h2
    rw [List.map_append, List.mem_append]
    rintro (h4 | h4)
    · exact h3 _ h4 _ List.mem_cons_self rfl
    · exact h2.1 h4
  refine ⟨fun r hr => ?_, hids, fun b hb => h.s b (hm b hb), mendL_same fun b hb => ?_⟩
  · obtain ⟨ks, h1, h2, h3⟩ := hr
    have hb : bads (atN T) (l.take k ++ l.drop (k + 1)) (l.take k ++ l.drop (k + 1)).length = [] := by
      rw [bads_one (fun b hb => h.z b (hm b hb)) (h.n.sublist (hsub.map _)) _ (Nat.le_refl _), List.take_length]
      exact flat_none fun b hb => h.none b (hm b hb)
    have hk1 : ∀ id, id ∈ ks ↔ id = l[k].id := fun id => by
      rw [h3 id]
      constructor
      · rintro ⟨h4, h5⟩
        have h6 := h.a id h4
        rw [hsplit, List.mem_append, List.mem_cons] at h6
        rw [List.map_append, List.mem_append] at h5
        rcases h6 with h6 | h6 | h6
        · exact absurd (.inl h6) h5
        · exact h6
        · exact absurd (.inr h6) h5
      · rintro rfl
        refine ⟨?_, hnk⟩
        obtain ⟨h4, h5⟩ := h.w l[k] (List.getElem_mem hk)
        by_cases hm2 : l[k].id ∈ T.map (·.1)
        · exact hm2
        · have := lkN_none.2 hm2
          rw [atN, this] at h4
          simp at h4; omega
    have hks : ks = [l[k].id] := by
      cases ks with
      | nil => have := (hk1 l[k].id).2 rfl; simp at this
      | cons a ks =>
        have ha := (hk1 a).1 List.mem_cons_self
        rw [List.nodup_cons] at h2
        have : ks = [] := by
          cases ks with
          | nil => rfl
          | cons b ks =>
            have hb := (hk1 b).1 (List.mem_cons_of_mem _ List.mem_cons_self)
            exact absurd (by rw [ha, hb]; exact List.mem_cons_self) h2.1
        rw [ha, this]
    rw [hb, hks] at h1
    exact List.perm_singleton.1 (by simpa [lackL] using h1)
  · obtain ⟨h1, h2⟩ := h.w b (hm b hb)
    exact ⟨by omega, h1.symm⟩
def someB : ByteArray := ⟨#[115, 111, 109, 101, 98, 111, 100, 121]⟩
theorem told_some {r : List (Int × Int)} (h : Told [] [⟨3, 1, someB⟩] r) : r = [(5, 3)] := by
  obtain ⟨ks, h1, h2, h3⟩ := h
  have hk : ks = [] := by
    cases ks with
    | nil => rfl
    | cons k ks =>
      have := (h3 k).1 List.mem_cons_self
      simp at this
  subst hk
  have e : bads (atN ([] : List (Int × Int))) [⟨3, 1, someB⟩] [(⟨3, 1, someB⟩ : Shv)].length = [(5, 3)] := by rfl
  rw [e] at h1
  simpa [lackL] using h1
set_option maxHeartbeats 8000000 in
set_option maxRecDepth 100000 in
theorem lacks_any (A : Option Addr) (n c : Nat) (ps : List Pt) (x at' : Int) (w : World) (hp : Sl ePt w A n c ps) (he : ∀ i (h : i < ps.length), ∃ es, Sl eE w ps[i].eA ps[i].eN ps[i].eC es) :
    Calls Tryd.prog 7 #[.slice A n c, .int .i64 x, .int .i64 at'] w fun e w' => e = .returned (.bool true) ∧ Below w.heap.size w w' := by
  obtain ⟨i0, hi, hz0, hz1, hz2⟩ := info_parts Tryd.infoShv
  have Hp := hide hp
  have He := hide he
  clear hp he
  go_enter Tryd.func7, Tryd.ntmps7
  go_upto_region 1 with fail
  go_cut [23] from 17 (fun s23 wx => ∃ B, s23 = .bool B ∧ Below w.heap.size w wx)
  case first =>
    go_wp2_with (first | (go_at_call 19; refine (light_any A n c ps w (unhide Hp) (unhide He)).mono ?_; rintro e w' ⟨⟨b, he, _⟩, hw⟩; subst he; obtain rfl := hw.symm; cases b) | (go_at_call 20; refine (alive21 _).mono ?_; rintro e w5 ⟨he, HB5⟩; subst he))
    · go_meet
      case rel => exact ⟨true, rfl, Below.refl _ _⟩
    · go_meet
      case rel => exact ⟨false, rfl, HB5⟩
  case rest =>
    obtain ⟨B, rfl, HB1⟩ := hcut
    obtain ⟨w1, rfl⟩ : ∃ wo : World, wo = wc := ⟨_, rfl⟩
    have s1 := HB1.size
    cases B
    case true =>
      go_wp2_with (go_at_call 20; refine (alive21 _).mono ?_; rintro e w5 ⟨he, HB5⟩; subst he)
      go_ret
      exact ⟨rfl, HB1.trans (HB5.mono s1)⟩
    case false =>
      have r1 : -64 < x.tmod 64 := Int.lt_tmod_of_pos x (by decide)
      have r2 : x.tmod 64 < 64 := Int.tmod_lt_of_pos x (by decide)
      have r3 : 0 ≤ x.tmod 64 % 64 := Int.emod_nonneg _ (by decide)
      have r4 : x.tmod 64 % 64 < 64 := Int.emod_lt_of_pos _ (by decide)
      have HHB1 := hide HB1
      clear HB1
      go_wp2_with fail
      refine (fit_any A n c ps _ w1 ((unhide Hp).below (unhide HHB1)) (fun i h => by obtain ⟨es, h1⟩ := unhide He i h; exact ⟨es, h1.below (unhide HHB1)⟩) (by omega) (by omega)).mono ?_
      rintro e w3 ⟨qs, A4, c4, rfl, hP, h12, HB3⟩
      obtain ⟨ess, hR⟩ := hP.reads h12
      have HR := hide hR
      have s3 := HB3.size
      have Bw3 : Below w.heap.size w w3 := (unhide HHB1).trans (HB3.mono (by omega))
      obtain ⟨T, hT⟩ : ∃ T, T = tally (idsP ess) := ⟨_, rfl⟩
      have hin : ∀ k ∈ T.map (·.1), 1 ≤ k ∧ k ≤ 60 := fun k hk => by rw [hT] at hk; exact idsP_in hR.fine k (((tally_at _ k).2).1 hk)
      have hpos : ∀ k ∈ T.map (·.1), 0 < atN T k := fun k hk => by rw [hT] at hk ⊢; exact (tally_pos _ k).2 (((tally_at _ k).2).1 hk)
      have htl : T.length ≤ 60000 := by
        rw [hT]
        have h1 := tally_len (idsP ess)
        have h2 := idsP_le ess hR.fine
        have := hR.len
        omega
      have hnd : (T.map (·.1)).Nodup := by rw [hT]; exact tally_nodup _
      obtain ⟨wm, hwm⟩ : ∃ V, V = w3.alloc (.map #[] 0) := ⟨_, rfl⟩
      have Bm : Below w3.heap.size w3 wm := by rw [hwm]; exact (Below.refl _ _).alloc (Nat.le_refl _) _
      have Mm : MapIs kInt wm w3.heap.size [] := by rw [hwm]; exact MapIs.made kInt w3
      have sm : wm.heap.size = w3.heap.size + 1 := by rw [hwm]; simp
      have hRm := hR.below Bm
      have hwants := wants_any A4 qs.length c4 qs ess wm hRm
      rw [← hT] at hwants
      have Hwants := hide hwants
      have HT := hide hT
      have g1 := hR.sl.2.1
      have g2 := hR.sl.2.2.1
      have BwW3 := hide (Bw3.trans (Bm.mono (by have := Bw3.size; omega)))
      have HMm := hide Mm
      have Hsm := hide sm
      have Hwm := hide hwm
      have HRm := hide hRm
      obtain ⟨bi, hbi⟩ : ∃ b, b = w3.heap.size := ⟨_, rfl⟩
      have hbi1 : bi + 1 ≤ wm.heap.size := by omega
      have hbw : w.heap.size ≤ bi := by have := Bw3.size; omega
      rw [← hbi] at HMm
      have Hbi := hide hbi
      have Hin := hide hin
      have Hpos := hide hpos
      have Hnd := hide hnd
      clear hP hR HB3 hwants hT Bw3 hin hpos hnd r1 r2 r3 r4 HHB1 hwm Bm Mm sm hRm hbi s3
      have hmm := @run_makeMap Tryd.prog
      go_wp2_with (go_at_call 22; rw [← unhide Hwm]; refine (unhide Hwants).mono ?_; rintro e w4 ⟨A5, c5, ws, he, hO5, hp5, hpw5, hat5, HB5⟩; subst he; have HO5 := hide hO5; have Hp5 := hide hp5; have Hat5 := hide hat5; have HB5' := hide HB5; clear hO5 hp5 hpw5 hat5 HB5)
      have hwl : ws.length ≤ 60000 := by have := (unhide Hp5).length_eq; simp at this; omega
      obtain ⟨A5', c5', hv5, hsl5, _⟩ := (unhide HO5).sl
      injection hv5 with v1 _ v3
      rw [← v1, ← v3] at hsl5
      have g3 := hsl5.2.1
      have g4 := hsl5.2.2.1
      have R5 := hide hsl5.2.2.2
      have B4 := hide ((unhide BwW3).trans ((unhide HB5').mono (by have := (unhide BwW3).size; omega)))
      obtain ⟨m, hm⟩ : ∃ m, m = ws.length := ⟨_, rfl⟩
      rw [← hm] at g3 R5 hwl ⊢
      have Hm := hide hm
      clear v1 v3 hsl5 hm
      rw [← unhide Hbi]
      have M4 : MapIs kInt w4 bi [] := (unhide HMm).below (unhide HB5')
      have HM4 := hide M4
      have sm4 : bi + 1 ≤ w4.heap.size := Nat.le_trans hbi1 (unhide HB5').size
      clear M4
      go_wp2_with fail
      go_loopw [7, 36] (fun v j wr => ∃ q : Nat, q ≤ m ∧ j = .int .i64 q ∧ (∃ A c, v = .slice A q c ∧ Own eSh 51 wr w4.heap.size (.slice A q c) (shvL (ws.take q))) ∧ (∃ es, MapIs kInt wr bi es ∧ ∀ p ∈ ws.take q, lk es p.1 = some (.bool true)) ∧ Chg (fun k => k = bi ∨ w4.heap.size ≤ k) w4 wr) (fun _ j _ => m - (intOf j).toNat)
      case atStart => exact ⟨0, Nat.zero_le _, rfl, ⟨none, 0, rfl, Own.nil _ _ _ _⟩, ⟨[], unhide HM4, fun p h => by simp at h⟩, Chg.refl _ _⟩
      case round =>
        obtain ⟨q, hq, rfl, ⟨Av, cv, rfl, hown⟩, ⟨es, hMr, hlk⟩, HC⟩ := hrel
        have Hown := hide hown
        have HMr := hide hMr
        have Hlk := hide hlk
        have HHC := hide HC
        have sr := HC.size
        have hcell : ∀ b o, b < w4.heap.size → b ≠ bi → wr.cell? ⟨b, o, none⟩ = w4.cell? ⟨b, o, none⟩ := fun b o h1 h2 => World.cell?_of_block (a := ⟨b, o, none⟩) (HC.block b h1 (by rintro (h | h); exact h2 h; omega))
        have Hcell := hide hcell
        clear hown hMr hlk HC hcell HM4
        obtain ⟨wA, rfl⟩ : ∃ wo : World, wo = wr := ⟨_, rfl⟩
        by_cases hlq : q < m
        · have hqs : q < ws.length := by have := unhide Hm; omega
          obtain ⟨b4, o4, eA4, lb4, hr4⟩ := unhide R5 (by omega)
          subst eA4
          have hb4 : b4 ≠ bi := by
            rintro rfl
            obtain ⟨arr, clock, h3, _⟩ := (unhide HMm).below (unhide HB5')
            have h4 := hr4 0 (by omega) 0 (by decide)
            simp [World.cell?, h3] at h4
          have y0 : wA.cell? ⟨b4, o4 + q * 2, none⟩ = some (.int .i64 ws[q].1) := (unhide Hcell _ _ lb4 hb4).trans (hr4 q hqs 0 (by decide))
          have y1 : wA.cell? ⟨b4, o4 + q * 2 + 1, none⟩ = some (.int .i64 ws[q].2) := (unhide Hcell _ _ lb4 hb4).trans (hr4 q hqs 1 (by decide))
          have hmem : ws[q].1 ∈ T.map (·.1) := (unhide Hp5).mem_iff.1 (List.mem_map.2 ⟨ws[q], List.getElem_mem hqs, rfl⟩)
          obtain ⟨k1, k2⟩ := unhide Hin _ hmem
          obtain ⟨id, hid⟩ : ∃ id, id = ws[q].1 := ⟨_, rfl⟩
          obtain ⟨cn, hcn⟩ : ∃ id, id = ws[q].2 := ⟨_, rfl⟩
          rw [← hid] at y0 k1 k2
          rw [← hcn] at y1
          have Hid := hide hid
          have Hcn := hide hcn
          clear hr4 hmem hid hcn
          have hcv := convS2 (wA.alloc (.cells #[.int .i64 id, .int .i64 cn] 49)) id 120
          rw [show (wA.alloc (.cells #[.int .i64 id, .int .i64 cn] 49)).heap.size = wA.heap.size + 1 by simp] at hcv
          have hsn := hide (shvL_snoc hqs)
          rw [← unhide Hid, ← unhide Hcn] at hsn
          have hL : (shvL (ws.take q)).length = q := by unfold shvL; rw [List.length_map, List.length_take]; omega
          have Hlt6 := hide hL
          obtain ⟨L, hLe⟩ : ∃ L, L = shvL (ws.take q) := ⟨_, rfl⟩
          rw [← hLe] at Hown hsn Hlt6
          have s2 : w4.heap.size ≤ ((wA.alloc (.cells #[.int .i64 id, .int .i64 cn] 49)).alloc (.cells #[.int .u8 id, .int .u8 120] 5)).heap.size := by simp; omega
          clear hL hLe
          have hfr : ∀ u w6, (((wA.alloc (.cells #[.int .i64 id, .int .i64 cn] 49)).alloc (.cells #[.int .u8 id, .int .u8 120] 5)).alloc (.cells #[.int .i64 id, .int .i64 cn, .string ((⟨#[98, 108, 111, 99, 107, 45]⟩ : ByteArray) ++ strOfNums [id, 120])] 51)).grownBy w6 (Value.slice Av q cv).ownBlock → ∀ k, k < wA.heap.size → (Value.slice Av q cv).ownBlock ≠ some k → u = k → w6.heap[k]? = wA.heap[k]? := fun u w6 hgr k h1 h2 _ => by
            refine (hgr.block k (by simp; omega) fun e => h2 e.symm).trans ?_
            refine (Below.heap_alloc _ _ k (by simp; omega)).trans ?_
            exact (Below.heap_alloc _ _ k (by simp; omega)).trans (Below.heap_alloc _ _ k h1)
          have Hfr := hide hfr
          have hcl : ∀ w6, (((wA.alloc (.cells #[.int .i64 id, .int .i64 cn] 49)).alloc (.cells #[.int .u8 id, .int .u8 120] 5)).alloc (.cells #[.int .i64 id, .int .i64 cn, .string ((⟨#[98, 108, 111, 99, 107, 45]⟩ : ByteArray) ++ strOfNums [id, 120])] 51)).grownBy w6 (Value.slice Av q cv).ownBlock → w6.cell? ⟨wA.heap.size, 0, none⟩ = some (.int .i64 id) ∧ wA.heap.size + 3 ≤ w6.heap.size := fun w6 hgr => by
            refine ⟨?_, by have := hgr.size; simpa using this⟩
            have e1 : w6.heap[wA.heap.size]? = (wA.alloc (.cells #[.int .i64 id, .int .i64 cn] 49)).heap[wA.heap.size]? := by
              refine (hgr.block _ (by simp; omega) fun e => ?_).trans ?_
              · have := ((unhide Hown).lt _ e.symm).2; omega
              · exact (Below.heap_alloc _ _ _ (by simp; omega)).trans (Below.heap_alloc _ _ _ (by simp))
            exact (World.cell?_of_block (a := ⟨wA.heap.size, 0, none⟩) e1).trans (World.cell?_alloc_at _ _ _ _ rfl)
          have Hcl := hide hcl
          have hvb : ∀ k, (Value.slice Av q cv).ownBlock = some k → w4.heap.size ≤ k := fun k hk => ((unhide Hown).lt k hk).1
          have Hvb := hide hvb
          have hnb : (Value.slice Av q cv).ownBlock ≠ some bi := fun e => by have := hvb bi e; omega
          have Hnb := hide hnb
          clear hfr hcl hvb hnb
          go_wp2_with (first | (at_builtin; refine wpList_append_one eSh rfl _ _ _ rfl w4.heap.size 51 i0 _ 32 Tryd.underlying46 hi hz0 hz1 hz2 rfl (by decide) (.slice Av q cv) L rfl _ (((unhide Hown).alloc _).alloc _) ⟨id, cn, (⟨#[98, 108, 111, 99, 107, 45]⟩ : ByteArray) ++ strOfNums [id, 120]⟩ #[.int .i64 id, .int .i64 cn, .string ((⟨#[98, 108, 111, 99, 107, 45]⟩ : ByteArray) ++ strOfNums [id, 120])] rfl (by simp [Act.eval]) (by intro u hu; simp at hu; rcases hu with rfl | rfl | rfl <;> rfl) (by rw [unhide Hlt6]; unfold maxLen; omega) (by rw [unhide Hlt6]; omega) s2 ?_; intro v4 w6 hown4 hgr4 hloc4; have M6 := hide ((unhide HMr).kept (w' := w6) (unhide Hfr bi w6 hgr4 bi (by omega) (unhide Hnb) rfl)); obtain ⟨z6, s6⟩ := unhide Hcl w6 hgr4; have ho6 : Own eSh 51 w6 w4.heap.size v4 (shvL (ws.take (q + 1))) := (by rw [unhide hsn]; exact hown4); obtain ⟨A6, c6, hv6, _⟩ := ho6.sl; have hl6 : (shvL (ws.take (q + 1))).length = q + 1 := (by unfold shvL; rw [List.length_map, List.length_take]; omega); rw [hl6] at hv6; subst hv6; have HO6 := hide ho6; have HG6 := hide hgr4; clear hown4 hgr4 hloc4 hl6 ho6 y0 y1 hcv) | (at_mapUpdate; refine wpList_update_is rfl _ _ _ _ rfl kInt es 3 4 Tryd.underlying37 Tryd.underlying3 bi rfl (unhide M6) id rfl (.bool true) rfl ?_; intro w8 HM8 HG8))
          have ho8 : Own eSh 51 w8 w4.heap.size (.slice A6 (q + 1) c6) (shvL (ws.take (q + 1))) := (unhide HO6).grown HG8 (.inr fun e => by have := ((unhide HO6).lt bi e).1; omega)
          have hlk8 : ∀ p ∈ ws.take (q + 1), lk (put es id (.bool true)) p.1 = some (.bool true) := fun p hp => by
            rw [← List.take_append_getElem hqs, List.mem_append, List.mem_singleton] at hp
            by_cases e : p.1 = id
            · rw [e]; exact lk_put_same _ _ _
            · rw [lk_put_other _ _ e]
              rcases hp with hp | hp
              · exact unhide Hlk p hp
              · exact absurd (by rw [hp]; exact (unhide Hid).symm) e
          have hC8 : Chg (fun k => k = bi ∨ w4.heap.size ≤ k) w4 w8 := by
            refine (unhide HHC).trans ⟨?_, ?_, ?_, ?_, fun k h1 h2 => ?_⟩
            · exact HG8.os.trans ((unhide HG6).os.trans rfl)
            · exact HG8.tape.trans ((unhide HG6).tape.trans rfl)
            · exact HG8.output.trans ((unhide HG6).output.trans rfl)
            · have := HG8.size; omega
            · exact (HG8.block k (by omega) fun e => h2 (.inl (by injection e))).trans (unhide Hfr k w6 (unhide HG6) k h1 (fun e => h2 (.inr (unhide Hvb k e))) rfl)
          have HO8 := hide ho8
          have HM9 := hide HM8
          have Hlk8 := hide hlk8
          have HC8 := hide hC8
          clear ho8 HM8 hlk8 hC8 HG8
          go_roundw
          case rel => exact ⟨q + 1, by omega, by go_num, ⟨A6, c6, rfl, unhide HO8⟩, ⟨_, unhide HM9, unhide Hlk8⟩, unhide HC8⟩
          case measure => simp [intOf]; omega
        · obtain rfl : q = m := by omega
          have hte : ws.take q = ws := List.take_of_length_le (by have := unhide Hm; omega)
          rw [hte] at Hown Hlk
          have hRL : RightL T (shvL ws) := shvL_right (unhide Hp5) (unhide Hnd) (unhide Hat5) (unhide Hin) (unhide Hpos)
          have hLl : (shvL ws).length = q := by unfold shvL; rw [List.length_map]; exact (unhide Hm).symm
          have hlkL : ∀ b ∈ shvL ws, lk es b.id = some (.bool true) := fun b hb => by
            obtain ⟨p, hp, rfl⟩ := List.mem_map.1 hb
            exact unhide Hlk p hp
          have hw0 : q = 0 → T = [] := fun h => by
            have h1 := (unhide Hp5).length_eq
            have h2 := unhide Hm
            rw [List.length_map, List.length_map] at h1
            exact List.eq_nil_of_length_eq_zero (by omega)
          obtain ⟨L, hL⟩ : ∃ L, L = shvL ws := ⟨_, rfl⟩
          rw [← hL] at Hown hRL hLl hlkL
          have hFB : ∀ k, k = bi ∨ w4.heap.size ≤ k → w.heap.size ≤ k := fun k hk => by
            have := (unhide B4).size
            rcases hk with h | h <;> omega
          have BA : Below w.heap.size w wA := (unhide B4).trans ((unhide HHC).to_below (unhide B4).size hFB)
          have hRA : PtsIn wA A4 qs.length c4 qs ess := by
            have h1 := (unhide HRm).below (unhide HB5')
            have h2 : Below bi wm wA := ((unhide HB5').mono (by omega)).trans ((unhide HHC).to_below (by omega) fun k hk => by rcases hk with h | h <;> omega)
            have hb3 : bi = w3.heap.size := unhide Hbi
            refine (unhide HR).below (w' := wA) ?_
            have h3 : Below w3.heap.size w3 wm := by rw [unhide Hwm]; exact (Below.refl _ _).alloc (Nat.le_refl _) _
            rw [hb3] at h2
            exact h3.trans h2
          have sA0 : w.heap.size ≤ wA.heap.size := BA.size
          have HBA := hide BA
          have HRA := hide hRA
          have HRL := hide hRL
          have HLl := hide hLl
          have HlkL := hide hlkL
          clear hL hte hFB BA hRA hRL hLl hlkL
          rcases Nat.eq_zero_or_pos q with hq0 | hq0
          · have q0 : ((q : Int) == 0) = true := beq_iff_eq.2 (by omega)
            have hT0 := hw0 hq0
            obtain ⟨wB, hwB⟩ : ∃ V, V = wA.alloc (.cells #[.int .i64 3, .int .i64 1, .string ⟨#[115, 111, 109, 101, 98, 111, 100, 121]⟩] 51) := ⟨_, rfl⟩
            have BB : Below wA.heap.size wA wB := by rw [hwB]; exact (Below.refl _ _).alloc (Nat.le_refl _) _
            have sB : wB.heap.size = wA.heap.size + 1 := by rw [hwB]; simp
            have hS : Sl eSh wB (some ⟨wA.heap.size, 0, none⟩) 1 1 [⟨3, 1, someB⟩] := by
              refine ⟨rfl, Nat.le_refl _, by decide, fun _ => ⟨wA.heap.size, 0, rfl, by omega, fun i hi j hj => ?_⟩⟩
              have hi0 : i = 0 := by simpa using hi
              subst hi0
              have hj3 : j < 3 := hj
              rw [hwB]
              refine (World.cell?_alloc_at _ _ _ _ rfl).trans ?_
              rcases (show j = 0 ∨ j = 1 ∨ j = 2 by omega) with rfl | rfl | rfl <;> rfl
            have hlook := look_any (some ⟨wA.heap.size, 0, none⟩) 1 1 [⟨3, 1, someB⟩] A4 qs.length c4 qs ess wB hS (by omega) (fun b hb => by simp only [List.mem_singleton] at hb; subst hb; show someB.size ≤ _; decide) (by simp) ((unhide HRA).below BB)
            rw [← unhide HT, hT0] at hlook
            have Hlook := hide hlook
            have HwB := hide hwB
            have HBB := hide BB
            have HwB := hide hwB
            clear hq0 hT0 hw0 hlook hS BB sB hwB
            go_upto_region 14 with (go_at_call 23; rw [← unhide HwB]; refine (unhide Hlook).mono ?_; rintro e w6 ⟨A6, c6, r, he, hs6, ht6, HB6⟩; have hr := told_some ht6; subst hr; subst he; have HS6 := hide hs6; have HB6' := hide HB6; clear hs6 ht6 HB6)
            obtain ⟨b5, o5, eA5, lb5, hr5⟩ := (unhide HS6).2.2.2 (by simp)
            subst eA5
            have u0 : w6.cell? ⟨b5, o5, none⟩ = some (.int .i64 5) := by simpa [eF] using hr5 0 (by simp) 0 (by decide)
            have u1 : w6.cell? ⟨b5, o5 + 1, none⟩ = some (.int .i64 3) := by simpa [eF] using hr5 0 (by simp) 1 (by decide)
            have hc1 := (unhide HS6).2.1
            have hc2 := (unhide HS6).2.2.1
            clear hr5
            go_wp2_with fail
            go_ret
            exact ⟨rfl, ((unhide HBA).trans ((unhide HBB).mono sA0)).trans ((unhide HB6').mono (Nat.le_trans sA0 (unhide HBB).size))⟩
          · have q0 : ((q : Int) == 0) = false := beq_eq_false_iff_ne.2 (by omega)
            have hql : q ≤ 60 := by rw [← unhide HLl]; exact (unhide HRL).len60 (unhide Hin)
            have hm1 : 0 ≤ (at'.tmod q + q) % (q : Int) := Int.emod_nonneg _ (by omega)
            have hm2 : (at'.tmod q + q) % (q : Int) < q := Int.emod_lt_of_pos _ (by omega)
            have hd1 : 0 ≤ at'.tmod q + q := by
              have := Int.lt_tmod_of_pos at' (show (0 : Int) < q by omega); omega
            have hd2 : at'.tmod q + q ≤ 120 := by
              have := Int.tmod_lt_of_pos at' (show (0 : Int) < q by omega); omega
            obtain ⟨kk, hkk⟩ : ∃ kk : Nat, (kk : Int) = (at'.tmod q + q) % (q : Int) := ⟨((at'.tmod q + q) % (q : Int)).toNat, by omega⟩
            have hkq : kk < q := by omega
            have Hkk := hide hkk
            clear hkk hw0
            go_upto_region 16 with fail
            rw [← unhide Hkk]
            have hkL : kk < L.length := by rw [unhide HLl]; exact hkq
            have ho8 := unhide Hown
            obtain ⟨hset1, hset2, hset3, hset4⟩ := (unhide HRL).less hkL
            have hlkk := unhide HlkL L[kk] (List.getElem_mem hkL)
            rcases ho8.shape with ⟨_, h0⟩ | ⟨g, cap, hvv, hg1, hg2, hg3, hg4⟩
            · rw [h0] at hkL; simp at hkL
            · injection hvv with e1 e2 e3
              subst e1 e3
              rw [unhide HLl] at hg3
              have x0 : wA.cell? ⟨g, kk * 3, none⟩ = some (.int .i64 L[kk].id) := by
                have := ho8.cell (i := kk) (j := 0) hkL (by decide)
                simpa [eSh] using this
              obtain ⟨yi, hyi⟩ : ∃ i, i = L[kk].id := ⟨_, rfl⟩
              rw [← hyi] at x0 hset1 hlkk
              have hrd : Rd eSh wA g 0 L := fun i hi j hj => ho8.cell hi hj
              have sl1 : Sl eSh wA (some ⟨g, 0, none⟩) kk cv (L.take kk) := ⟨by rw [List.length_take]; omega, by omega, by unfold maxLen at hg4; omega, fun _ => ⟨g, 0, rfl, hg2, fun i hi j hj => by
                rw [List.length_take] at hi
                rw [List.getElem_take]
                exact hrd i (by omega) j hj⟩⟩
              have hrd2 : Rd eSh wA g (0 + (kk + 1) * 3) (L.drop (kk + 1)) := hrd.drop (kk + 1)
              obtain ⟨AP, hAP⟩ : ∃ AP : Option Addr, AP = if cv = kk + 1 then some ⟨g, 0, none⟩ else some ⟨g, (kk + 1) * 3, none⟩ := ⟨_, rfl⟩
              have sl2 : Sl eSh wA AP (q - (kk + 1)) (cv - (kk + 1)) (L.drop (kk + 1)) := ⟨by rw [List.length_drop, unhide HLl], by omega, by unfold maxLen at hg4; omega, fun h0 => by
                rw [if_neg (by omega)] at hAP
                exact ⟨g, (kk + 1) * 3, hAP, hg2, by rw [Nat.zero_add] at hrd2; exact hrd2⟩⟩
              have HAP := hide hAP
              have Hset1 := hide hset1
              have Hset2 := hide hset2
              have Hset3 := hide hset3
              have Hset4 := hide hset4
              have Hlkk := hide hlkk
              have HSl1 := hide sl1
              have HSl2 := hide sl2
              clear hset1 hset2 hset3 hset4 hlkk sl1 sl2 hrd hrd2 ho8 hyi e2 hAP
              go_upto_region 17 with fail
              have hlen9 : (L.take kk ++ L.drop (kk + 1)).length = q - 1 := by rw [List.length_append, List.length_take, List.length_drop, unhide HLl]; omega
              have Hlen9 := hide hlen9
              have hlt1 : (L.take kk).length = kk := by rw [List.length_take]; omega
              have Hlt1 := hide hlt1
              have hsA : wA.heap.size ≤ wA.drew.heap.size := Nat.le_refl _
              clear hlen9 hlt1
              have hk1 : kk ≤ cv := by omega
              have hk2 : kk + 1 ≤ q := by omega
              have hk3 : kk + 1 ≤ cv := by omega
              have hk4 : (0 : Int) ≤ (kk : Int) + 1 := by omega
              have hk5 : (kk : Int) + 1 ≤ (q : Int) := by omega
              have hk6 : ((kk : Int) + 1).toNat = kk + 1 := by omega
              have hk7 : q ≤ cv := hg3
              have hwr : IntKind.i64.wrap ((kk : Int) + 1) = (kk : Int) + 1 := wrap_small (by omega) (by omega)
              go_cut [7, 14] from 17 (fun s7 s14 wx => ∃ A c, s7 = .slice (some ⟨g, 0, none⟩) q cv ∧ s14 = .slice A (q - 1) c ∧ Own eSh 51 wx wA.heap.size (.slice A (q - 1) c) (L.take kk ++ L.drop (kk + 1)) ∧ Below wA.heap.size wA wx)
              case first =>
                go_region_law ((first | (rw [if_pos (by rfl)]; refine wp_append_sl eSh _ _ _ rfl wA.heap.size 51 i0 _ 32 Tryd.underlying46 hi hz0 hz1 hz2 rfl (by decide) (.slice none 0 0) [] rfl wA.drew (Own.nil _ _ _ _) (some ⟨g, 0, none⟩) kk cv (L.take kk) (by simp [Act.eval, Act.put]) (unhide HSl1) (eSh_one _) (by unfold maxLen; simp; omega) (by simp; omega) hsA ?_; intro v5 w5 hown5 hgr5 hloc5; obtain ⟨A5', c5', hv5, _⟩ := hown5.sl; rw [List.nil_append, unhide Hlt1] at hv5; subst hv5; have HB5 := hide ((below_drewN (Below.refl wA.heap.size wA) 1).grown hgr5 (Nat.le_refl _) (fun j hj => by simp [Value.ownBlock] at hj)); have HO5' := hide hown5; clear hown5 hgr5 hloc5) | (rw [if_pos (by rfl)]; refine wp_append_sl eSh _ _ _ rfl wA.heap.size 51 i0 _ 32 Tryd.underlying46 hi hz0 hz1 hz2 rfl (by decide) (.slice A5' kk c5') (L.take kk) rfl w5 (unhide HO5') AP (q - (kk + 1)) (cv - (kk + 1)) (L.drop (kk + 1)) (by simp [Act.eval, unhide HAP]) ((unhide HSl2).below (unhide HB5)) (eSh_one _) (by rw [unhide Hlt1]; unfold maxLen; omega) (by rw [unhide Hlt1]; omega) (unhide HB5).size ?_; intro v6 w6 hown6 hgr6 hloc6; obtain ⟨A6', c6', hv6, _⟩ := hown6.sl; rw [unhide Hlen9] at hv6; subst hv6; have HO6 := hide hown6; have HB6 := hide ((unhide HB5).grown hgr6 (unhide HB5).size (fun j hj => ((unhide HO5').lt j hj).1)); clear hown6 hgr6 hloc6)))
                go_simp
                go_wp2_with fail
                all_goals
                  go_meet
                  case rel => exact ⟨A6', c6', by first | rfl | (simp; omega), rfl, unhide HO6, unhide HB6⟩
              case rest =>
                obtain ⟨A6, c6, rfl, rfl, hO6, HB6⟩ := hcut
                obtain ⟨w6, rfl⟩ : ∃ wo : World, wo = wc := ⟨_, rfl⟩
                have s6 := HB6.size
                obtain ⟨N, hN⟩ : ∃ N, N = L.take kk ++ L.drop (kk + 1) := ⟨_, rfl⟩
                rw [← hN] at hO6 Hset1 Hset2 Hset3 Hset4 Hlen9
                obtain ⟨A6', c6', hv6, hsl6, _⟩ := hO6.sl
                rw [unhide Hlen9] at hv6 hsl6
                injection hv6 with v1 _ v3
                rw [← v1, ← v3] at hsl6
                have hR6 := (unhide HRA).below HB6
                have hlook := look_any A6 (q - 1) c6 N A4 qs.length c4 qs ess w6 hsl6 (by have := hql; omega) (fun b hb => by have := unhide Hset3 b hb; omega) (unhide Hset2) hR6
                rw [← unhide HT] at hlook
                have Hlook := hide hlook
                have HSl6 := hide hsl6
                have HR6 := hide hR6
                have HB6' := hide HB6
                have HMA := hide ((unhide HMr).below HB6)
                clear hlook hsl6 hR6 HB6 hO6 hN v1 v3 HSl1 HSl2
                go_wp2_with (first | (go_at_call 23; refine (unhide Hlook).mono ?_; rintro e w7 ⟨A7, c7, r, he, hs7, ht7, HB7⟩; have hr := unhide Hset1 r ht7; subst hr; subst he; have HS7 := hide hs7; have HB7' := hide HB7; clear hs7 ht7 HB7))
                obtain ⟨b5, o5, eA5, lb5, hr5⟩ := (unhide HS7).2.2.2 (by simp)
                subst eA5
                have hc1 := (unhide HS7).2.1
                have hc2 := (unhide HS7).2.2.1
                have hmend := mend_any A6 (q - 1) c6 N A4 qs.length c4 qs ess w7 ((unhide HSl6).below (unhide HB7')) (by omega) ((unhide HR6).below (unhide HB7'))
                rw [← unhide HT, unhide Hset4, unhide Hlen9] at hmend
                have u0 : w7.cell? ⟨b5, o5, none⟩ = some (.int .i64 4) := by simpa [eF] using hr5 0 (by simp) 0 (by decide)
                have u1 : w7.cell? ⟨b5, o5 + 1, none⟩ = some (.int .i64 yi) := by simpa [eF] using hr5 0 (by simp) 1 (by decide)
                refine hmend.mono ?_
                rintro e w8 ⟨A8, c8, rfl, hO8, HB8⟩
                have v0 := ((bcell HB8).1 b5 o5 lb5).trans u0
                have v1 := ((bcell HB8).1 b5 (o5 + 1) lb5).trans u1
                have hM8 := ((unhide HMA).below (unhide HB7')).below HB8
                have hlk8 : (Instr.lookup 37 (.map (some bi)) (.int .i64 yi) false).run Tryd.prog w8 = .ok (.bool true) w8 := by
                  have h1 := run_lookup_is (P := Tryd.prog) hM8 Tryd.underlying37 Tryd.underlying3 (z := .bool false) (by kernel_rfl) yi false
                  rw [unhide Hlkk] at h1
                  exact h1
                have BF := hide (((unhide HBA).trans ((unhide HB6').mono sA0)).trans (((unhide HB7').mono (by omega)).trans (HB8.mono (by have := (unhide HB7').size; omega))))
                clear hr5 hmend u0 u1 hO8 HB8 hM8
                go_wp2_with fail
                go_ret
                exact ⟨rfl, unhide BF⟩
end Go.Proofs.YtdpbjigdihajjaaDoor
