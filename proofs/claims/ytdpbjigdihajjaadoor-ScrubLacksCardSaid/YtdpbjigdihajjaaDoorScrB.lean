/- Walks of package scrub: Wants, Mend; blocks that rise. -/
import Derived.Test.YtdpbjigdihajjaaDoorScrA
import Derived.Test.YtdpbjigdihajjaaDoorScrP
import Derived.Test.YtdpbjigdihajjaaDoorKeys
import Derived.Deep.CutBlock
namespace Go.Proofs.YtdpbjigdihajjaaDoor
open Go.RowKit

theorem Tryd.infoPair : (Tryd.prog.info? 49).map (fun i => (i.zero, i.size, i.bytes)) = some (some (.agg #[.int .i64 0, .int .i64 0]), 2, 16) := by kernel_rfl
theorem Tryd.infoShv : (Tryd.prog.info? 51).map (fun i => (i.zero, i.size, i.bytes)) = some (some (.agg #[.int .i64 0, .int .i64 0, .string ⟨#[]⟩]), 3, 32) := by kernel_rfl
theorem tally_keys_len (ks : List Int) (h : ∀ i ∈ ks, 1 ≤ i ∧ i ≤ 60) : (tally ks).length ≤ ks.length ∧ ∀ k ∈ (tally ks).map (·.1), InInt k := by
  refine ⟨tally_len ks, fun k hk => ?_⟩
  have := h k (((tally_at ks k).2).1 hk)
  unfold InInt
  omega
set_option maxHeartbeats 4000000 in
set_option maxRecDepth 100000 in
theorem wants_any (A : Option Addr) (n c : Nat) (qs : List Pt) (ess : List (List Ext)) (w : World) (h : PtsIn w A n c qs ess) :
    Calls Tryd.prog 22 #[.slice A n c] w fun e w' => ∃ A' c' ws, e = .returned (.slice A' ws.length c') ∧ Own eF 49 w' w.heap.size (.slice A' ws.length c') ws ∧
      (ws.map (·.1)).Perm ((tally (idsP ess)).map (·.1)) ∧ (ws.map (·.1)).Pairwise (· ≤ ·) ∧ (∀ p ∈ ws, p.2 = atN (tally (idsP ess)) p.1) ∧ Below w.heap.size w w' := by
  obtain ⟨i0, hi, hz0, hz1, hz2⟩ := info_parts Tryd.infoPair
  obtain ⟨hl1, hin⟩ := tally_keys_len (idsP ess) (idsP_in h.fine)
  have hl2 := idsP_le ess h.fine
  have hl3 : (tally (idsP ess)).length ≤ 60000 := by have := h.len; have := h.few; omega
  have b1 := h.sl.2.1
  have b2 := h.sl.2.2.1
  have H := hide h
  obtain ⟨T, hT⟩ : ∃ T, T = tally (idsP ess) := ⟨_, rfl⟩
  have hwant : ∀ w1 : World, PtsIn w1 A n c qs ess → Calls Tryd.prog 41 #[.slice A n c] w1 fun e w' => ∃ b, e = .returned (.map (some b)) ∧ MapIs kInt w' b (nV T) ∧ w1.heap.size ≤ b ∧ Below w1.heap.size w1 w' := fun w1 h1 => by rw [hT]; exact wanted_any A n c qs ess w1 h1
  rw [← hT] at hl1 hl3 hin ⊢
  have Hw := hide hwant
  have Hin := hide hin
  clear h hwant hT hl1 hl2 hin
  go_enter Tryd.func22, Tryd.ntmps22
  go_wp2_with fail
  refine (unhide Hw w (unhide H)).mono ?_
  rintro e w1 ⟨bm, rfl, hM, hb0, HB1⟩
  have HM := hide hM
  have s1 := HB1.size
  obtain ⟨w2, hw2⟩ : ∃ V, V = w1.alloc (.cells #[.map (some bm)] 86) := ⟨_, rfl⟩
  have hsort := sortedInt_any w1 hM (fun k hk => (unhide Hin) k (by rw [nV_keys] at hk; exact hk)) (by rw [nV_len]; omega)
  rw [← hw2] at hsort
  have Hs := hide hsort
  have Hw2 := hide hw2
  clear hM hsort hw2
  go_wp2_with (first | (go_at_call 43; refine (keysInt_any bm w1).mono ?_; rintro e w' ⟨he, hw⟩; subst he; subst hw; rw [← unhide Hw2]) | (go_at_call 42; refine (unhide Hs).mono ?_; rintro e w5 ⟨v, ss, he, hp, hpw, hO, hB5⟩; subst he; obtain ⟨A5, c5, hv5, hsl5, _⟩ := hO.sl; subst hv5; have Hp := hide hp; have Hpw := hide hpw; have HO := hide hO; have HB5 := hide hB5; have g1 := hsl5.2.1; have g2 := hsl5.2.2.1; have R5 := hide hsl5.2.2.2; clear hp hpw hO hB5 hsl5))
  have hmlen : ss.length = T.length := by have := (unhide Hp).length_eq; rw [List.length_map, nV_len] at this; exact this
  have hm6 : ss.length ≤ 60000 := by omega
  obtain ⟨m, hm⟩ : ∃ m, m = ss.length := ⟨_, rfl⟩
  rw [← hm] at g1 hm6 R5 HO ⊢
  have Hm := hide hm
  have M5 := hide ((unhide HM).below (unhide HB5))
  have s5 := (unhide HB5).size
  clear hm hmlen Hs HM
  go_loopw [4, 13] (fun v j wr => ∃ q : Nat, q ≤ m ∧ j = .int .i64 q ∧ (∃ A c, v = .slice A q c ∧ Own eF 49 wr w5.heap.size (.slice A q c) ((ss.take q).map fun id => (id, atN T id))) ∧ Below w5.heap.size w5 wr) (fun _ j _ => m - (intOf j).toNat)
  case atStart => exact ⟨0, Nat.zero_le _, rfl, ⟨none, 0, rfl, Own.nil _ _ _ _⟩, Below.refl _ _⟩
  case round =>
    obtain ⟨q, hq, rfl, ⟨Av, cv, rfl, hown⟩, HB⟩ := hrel
    have Hown := hide hown
    clear hown
    by_cases hlq : q < m
    · have hqs : q < ss.length := by have := unhide Hm; omega
      obtain ⟨b4, o4, eA4, lb4, hr4⟩ := unhide R5 (by omega)
      subst eA4
      have y0 : wr.cell? ⟨b4, o4 + q, none⟩ = some (.int .i64 ss[q]) := ((bcell HB).1 _ _ lb4).trans (by simpa [eI] using hr4 q hqs 0 (by decide))
      have M6 := hide ((unhide M5).below HB)
      have hsn := hide (show (ss.take (q + 1)).map (fun id => (id, atN T id)) = (ss.take q).map (fun id => (id, atN T id)) ++ [(ss[q], atN T ss[q])] by
        rw [← List.take_append_getElem hqs, List.map_append]; rfl)
      have hlt6 : ((ss.take q).map fun id => (id, atN T id)).length = q := by simp; omega
      have Hlt6 := hide hlt6
      obtain ⟨L, hL⟩ : ∃ L, L = (ss.take q).map fun id => (id, atN T id) := ⟨_, rfl⟩
      rw [← hL] at Hown hsn Hlt6
      obtain ⟨x, hx⟩ : ∃ x, x = ss[q] := ⟨_, rfl⟩
      rw [← hx] at y0 hsn
      obtain ⟨y, hy⟩ : ∃ y, atN T x = y := ⟨_, rfl⟩
      have Hy := hide hy
      rw [hy] at hsn
      have sr := HB.size
      clear hL hx hy hlt6 hr4
      go_wp2_with (first | (at_lookup; refine wpList_lookN kInt 86 3 3 Tryd.underlying86 Tryd.underlying3 (zeroIntW _) rfl _ _ rfl T bm rfl (unhide M6) x rfl y (unhide Hy) ?_) | (at_builtin; refine wpList_append_one eF rfl _ _ _ rfl w5.heap.size 49 i0 _ 16 Tryd.underlying47 hi hz0 hz1 hz2 rfl (by decide) (.slice Av q cv) L rfl _ (unhide Hown) (x, y) #[.int .i64 x, .int .i64 y] rfl (by simp [Act.eval]) (by intro u hu; simp at hu; rcases hu with rfl | rfl <;> rfl) ?c3 ?c4 sr ?_))
      case c3 => rw [unhide Hlt6]; unfold maxLen; omega
      case c4 => rw [unhide Hlt6]; omega
      intro v4 w4 hown4 hgr4 hloc4
      have hb3 := HB.alloc sr (.cells #[.int .i64 x, .int .i64 y] 49)
      have B4 : Below w5.heap.size w5 w4 := hb3.grown hgr4 hb3.size fun j hj => ((unhide Hown).lt j hj).1
      rw [← unhide hsn] at hown4
      obtain ⟨A4, c4, hv4, _⟩ := hown4.sl
      have hl4 : ((ss.take (q + 1)).map fun id => (id, atN T id)).length = q + 1 := by simp; omega
      rw [hl4] at hv4
      subst hv4
      have HO4 := hide hown4
      clear hown4 hgr4 hloc4 hb3 hl4 y0
      go_wp2
      go_roundw
      case rel => exact ⟨q + 1, by omega, by go_num, ⟨A4, c4, rfl, unhide HO4⟩, B4⟩
      case measure => simp [intOf]; omega
    · obtain rfl : q = m := by omega
      have hte : ss.take q = ss := List.take_of_length_le (by have := unhide Hm; omega)
      rw [hte] at Hown
      clear hte
      have hlen : (ss.map fun id => (id, atN T id)).length = q := by rw [List.length_map]; exact (unhide Hm).symm
      have Hlen := hide hlen
      clear hlen
      go_wp2
      go_ret
      have hf : (ss.map fun id => (id, atN T id)).map (·.1) = ss := by rw [List.map_map]; exact (List.map_congr_left fun _ _ => rfl).trans (List.map_id _)
      refine ⟨Av, cv, ss.map fun id => (id, atN T id), by rw [unhide Hlen]; rfl, by rw [unhide Hlen]; exact (unhide Hown).lower (by omega), ?_, ?_, ?_, ?_⟩
      · rw [hf]; have := unhide Hp; rw [nV_keys] at this; exact this
      · rw [hf]; exact unhide Hpw
      · intro p hp
        obtain ⟨id, _, rfl⟩ := List.mem_map.1 hp
        rfl
      · exact (HB1.trans ((unhide HB5).mono s1)).trans (HB.mono (by omega))

set_option maxHeartbeats 4000000 in
set_option maxRecDepth 100000 in
theorem mend_any (A : Option Addr) (n c : Nat) (l : List Shv) (A2 : Option Addr) (n2 c2 : Nat) (qs : List Pt) (ess : List (List Ext)) (w : World) (hl : Sl eSh w A n c l) (hn : n ≤ 1000) (h : PtsIn w A2 n2 c2 qs ess) :
    Calls Tryd.prog 25 #[.slice A n c, .slice A2 n2 c2] w fun e w' => ∃ A' c', e = .returned (.slice A' (mendL (atN (tally (idsP ess))) l).length c') ∧ Own eSh 51 w' w.heap.size (.slice A' (mendL (atN (tally (idsP ess))) l).length c') (mendL (atN (tally (idsP ess))) l) ∧ Below w.heap.size w w' := by
  obtain ⟨i0, hi, hz0, hz1, hz2⟩ := info_parts Tryd.infoShv
  have b1 := hl.2.1
  have b2 := hl.2.2.1
  have R := hide hl.2.2.2
  have Hn := hide hl.1
  have H := hide h
  obtain ⟨T, hT⟩ : ∃ T, T = tally (idsP ess) := ⟨_, rfl⟩
  have hwant : Calls Tryd.prog 41 #[.slice A2 n2 c2] w fun e w' => ∃ b, e = .returned (.map (some b)) ∧ MapIs kInt w' b (nV T) ∧ w.heap.size ≤ b ∧ Below w.heap.size w w' := by rw [hT]; exact wanted_any A2 n2 c2 qs ess w h
  rw [← hT]
  have Hw := hide hwant
  clear h hwant hT hl
  go_enter Tryd.func25, Tryd.ntmps25
  go_wp2_with fail
  refine (unhide Hw).mono ?_
  rintro e w1 ⟨bm, rfl, hM, hb0, HB1⟩
  have HM := hide hM
  have s1 := HB1.size
  have hbl := hM.lt
  clear hM
  go_wp2_with fail
  go_loopw [6, 14] (fun v j wr => ∃ q : Nat, q ≤ n ∧ j = .int .i64 q ∧ (∃ A c, v = .slice A (mendL (atN T) (l.take q)).length c ∧ Own eSh 51 wr w1.heap.size (.slice A (mendL (atN T) (l.take q)).length c) (mendL (atN T) (l.take q))) ∧ Below w1.heap.size w1 wr) (fun _ j _ => n - (intOf j).toNat)
  case atStart => exact ⟨0, Nat.zero_le _, rfl, ⟨none, 0, rfl, Own.nil _ _ _ _⟩, Below.refl _ _⟩
  case round =>
    obtain ⟨q, hq, rfl, ⟨Av, cv, rfl, hown⟩, HB⟩ := hrel
    have Hown := hide hown
    clear hown
    obtain ⟨wA, rfl⟩ : ∃ wo : World, wo = wr := ⟨_, rfl⟩
    have sr := HB.size
    by_cases hlq : q < n
    · have hql : q < l.length := by have := unhide Hn; omega
      obtain ⟨b4, o4, eA4, lb4, hr4⟩ := unhide R (by omega)
      subst eA4
      have HB0 := HB1.trans (HB.mono s1)
      have x0 : wA.cell? ⟨b4, o4 + q * 3, none⟩ = some (.int .i64 l[q].id) := ((bcell HB0).1 _ _ lb4).trans (hr4 q hql 0 (by decide))
      have x1 : wA.cell? ⟨b4, o4 + q * 3 + 1, none⟩ = some (.int .i64 l[q].refs) := ((bcell HB0).1 _ _ lb4).trans (hr4 q hql 1 (by decide))
      have x2 : wA.cell? ⟨b4, o4 + q * 3 + 2, none⟩ = some (.string l[q].bytes) := ((bcell HB0).1 _ _ lb4).trans (hr4 q hql 2 (by decide))
      have hsn := hide (mendL_snoc (atN T) l q hql)
      have hle : (mendL (atN T) (l.take q)).length ≤ 1000 := by have := mendL_le (atN T) (l.take q); rw [List.length_take] at this; omega
      obtain ⟨L, hL⟩ : ∃ L, L = mendL (atN T) (l.take q) := ⟨_, rfl⟩
      rw [← hL] at Hown hsn hle ⊢
      obtain ⟨x, hx⟩ : ∃ x, x = l[q] := ⟨_, rfl⟩
      rw [← hx] at x0 x1 x2 hsn
      obtain ⟨id, rf, tx⟩ := x
      have x0 : wA.cell? ⟨b4, o4 + q * 3, none⟩ = some (.int .i64 id) := x0
      have x1 : wA.cell? ⟨b4, o4 + q * 3 + 1, none⟩ = some (.int .i64 rf) := x1
      have x2 : wA.cell? ⟨b4, o4 + q * 3 + 2, none⟩ = some (.string tx) := x2
      obtain ⟨y, hy⟩ : ∃ y, atN T id = y := ⟨_, rfl⟩
      have hsn2 : mendL (atN T) (l.take (q + 1)) = L ++ (if 0 < y then [⟨id, y, tx⟩] else []) := by rw [← hy]; exact unhide hsn
      have Hsn := hide hsn2
      have Hy := hide hy
      obtain ⟨W2, hW2⟩ : ∃ W, W = wA.alloc (.cells #[.int .i64 id, .int .i64 rf, .string tx] 51) := ⟨_, rfl⟩
      have M2 := hide (((unhide HM).below HB).alloc (.cells #[.int .i64 id, .int .i64 rf, .string tx] 51))
      clear hL hx hy hr4 hsn hsn2 hW2 W2
      by_cases hpos : 0 < y
      · have hfin : mendL (atN T) (l.take (q + 1)) = L ++ [⟨id, y, tx⟩] := by rw [unhide Hsn, if_pos hpos]
        have Hfin := hide hfin
        have o3 : Own eSh 51 (wA.alloc (.cells #[.int .i64 id, .int .i64 y, .string tx] 51)) w1.heap.size (.slice Av L.length cv) L := (unhide Hown).alloc _
        have HB3 : Below w1.heap.size w1 (wA.alloc (.cells #[.int .i64 id, .int .i64 y, .string tx] 51)) := HB.alloc sr _
        have sW3 := HB3.size
        have HO3 := hide o3
        have HHB3 := hide HB3
        clear hfin o3 HB3
        go_wp2_with (first | (at_lookup; refine wpList_lookN kInt 86 3 3 Tryd.underlying86 Tryd.underlying3 (zeroIntW _) rfl _ _ rfl T bm rfl (unhide M2) id rfl y (unhide Hy) ?_) | (at_builtin; refine wpList_append_one eSh rfl _ _ _ rfl w1.heap.size 51 i0 _ 32 Tryd.underlying46 hi hz0 hz1 hz2 rfl (by decide) (.slice Av L.length cv) L rfl _ (unhide HO3) ⟨id, y, tx⟩ #[.int .i64 id, .int .i64 y, .string tx] rfl (by simp [Act.eval]) (by intro u hu; simp at hu; rcases hu with rfl | rfl | rfl <;> rfl) ?c3 ?c4 sW3 ?_))
        case c3 => unfold maxLen; omega
        case c4 => omega
        intro v4 w4 hown4 hgr4 hloc4
        have hb3 := (unhide HHB3).alloc sW3 (.cells #[.int .i64 id, .int .i64 y, .string tx] 51)
        have B4 : Below w1.heap.size w1 w4 := hb3.grown hgr4 hb3.size fun j hj => ((unhide Hown).lt j hj).1
        rw [← unhide Hfin] at hown4
        obtain ⟨A4, c4, hv4, _⟩ := hown4.sl
        subst hv4
        have HO4 := hide hown4
        clear hown4 hgr4 hloc4 hb3 x0 x1 x2
        go_wp2
        go_roundw
        case rel => exact ⟨q + 1, by omega, by go_num, ⟨A4, c4, rfl, unhide HO4⟩, B4⟩
        case measure => simp [intOf]; omega
      · have hfin : mendL (atN T) (l.take (q + 1)) = L := by rw [unhide Hsn, if_neg hpos, List.append_nil]
        have Hfin := hide hfin
        have o3 := hide ((unhide Hown).alloc (.cells #[.int .i64 id, .int .i64 rf, .string tx] 51))
        have HB3 := hide (HB.alloc sr (.cells #[.int .i64 id, .int .i64 rf, .string tx] 51))
        clear hfin
        go_wp2_with (at_lookup; refine wpList_lookN kInt 86 3 3 Tryd.underlying86 Tryd.underlying3 (zeroIntW _) rfl _ _ rfl T bm rfl (unhide M2) id rfl y (unhide Hy) ?_)
        go_roundw
        case rel => exact ⟨q + 1, by omega, by go_num, ⟨Av, cv, by rw [unhide Hfin], by rw [unhide Hfin]; exact unhide o3⟩, unhide HB3⟩
        case measure => simp [intOf]; omega
    · obtain rfl : q = n := by omega
      have hte : l.take q = l := List.take_of_length_le (by have := unhide Hn; omega)
      rw [hte] at Hown ⊢
      clear hte
      go_wp2
      go_ret
      exact ⟨Av, cv, rfl, (unhide Hown).lower s1, HB1.trans (HB.mono s1)⟩

set_option maxHeartbeats 4000000 in
set_option maxRecDepth 100000 in
theorem rise_any (A : Option Addr) (n c : Nat) (l : List Shv) (w : World) (hl : Sl eSh w A n c l) (hn : n ≤ 1000) :
    Calls Tryd.prog 24 #[.slice A n c] w fun e w' => ∃ A' c' r, e = .returned (.slice A' r.length c') ∧ Own eSh 51 w' w.heap.size (.slice A' r.length c') r ∧ (∀ b ∈ r, b ∈ l) ∧ (r.map (·.id)).Pairwise (· < ·) ∧ r.length ≤ n ∧ Below w.heap.size w w' := by
  obtain ⟨i0, hi, hz0, hz1, hz2⟩ := info_parts Tryd.infoShv
  have b1 := hl.2.1
  have b2 := hl.2.2.1
  have R := hide hl.2.2.2
  have Hn := hide hl.1
  clear hl
  go_enter Tryd.func24, Tryd.ntmps24
  go_wp2_with fail
  go_loopw [3, 4] (fun v j wr => ∃ q : Nat, q ≤ n ∧ j = .int .i64 q ∧ (∃ A c r, v = .slice A r.length c ∧ Own eSh 51 wr w.heap.size (.slice A r.length c) r ∧ (∀ b ∈ r, b ∈ l) ∧ (r.map (·.id)).Pairwise (· < ·) ∧ r.length ≤ q) ∧ Below w.heap.size w wr) (fun _ j _ => n - (intOf j).toNat)
  case atStart => exact ⟨0, Nat.zero_le _, rfl, ⟨none, 0, [], rfl, Own.nil _ _ _ _, fun b h => by simp at h, List.Pairwise.nil, Nat.le_refl _⟩, Below.refl _ _⟩
  case round =>
    obtain ⟨q, hq, rfl, ⟨Av, cv, r, rfl, hown, hmem, hpw, hrl⟩, HB⟩ := hrel
    have Hown := hide hown
    have Hmem := hide hmem
    have Hpw := hide hpw
    obtain ⟨wA, rfl⟩ : ∃ wo : World, wo = wr := ⟨_, rfl⟩
    have sr := HB.size
    by_cases hlq : q < n
    · have hql : q < l.length := by have := unhide Hn; omega
      obtain ⟨b4, o4, eA4, lb4, hr4⟩ := unhide R (by omega)
      subst eA4
      have x0 : wA.cell? ⟨b4, o4 + q * 3, none⟩ = some (.int .i64 l[q].id) := ((bcell HB).1 _ _ lb4).trans (hr4 q hql 0 (by decide))
      have x1 : wA.cell? ⟨b4, o4 + q * 3 + 1, none⟩ = some (.int .i64 l[q].refs) := ((bcell HB).1 _ _ lb4).trans (hr4 q hql 1 (by decide))
      have x2 : wA.cell? ⟨b4, o4 + q * 3 + 2, none⟩ = some (.string l[q].bytes) := ((bcell HB).1 _ _ lb4).trans (hr4 q hql 2 (by decide))
      have hxm := List.getElem_mem hql
      obtain ⟨x, hx⟩ : ∃ x, x = l[q] := ⟨_, rfl⟩
      rw [← hx] at x0 x1 x2 hxm
      obtain ⟨id, rf, tx⟩ := x
      have x0 : wA.cell? ⟨b4, o4 + q * 3, none⟩ = some (.int .i64 id) := x0
      have x1 : wA.cell? ⟨b4, o4 + q * 3 + 1, none⟩ = some (.int .i64 rf) := x1
      have x2 : wA.cell? ⟨b4, o4 + q * 3 + 2, none⟩ = some (.string tx) := x2
      have Hxm := hide hxm
      clear hx hr4 hown hmem hxm hpw
      go_upto_region 5 with fail
      go_cut [28] from 9 to 35 (fun s28 wx => ∃ B, s28 = .bool B ∧ (B = true → ∀ y ∈ r, y.id < id) ∧ ∃ nq, wx = wA.drewN nq)
      case first =>
        rcases Nat.eq_zero_or_pos r.length with hr0 | hr0
        · have q0 : ((r.length : Int) == 0) = true := beq_iff_eq.2 (by omega)
          have Hr0 := hide hr0
          clear hr0
          go_quiet (fail)
          go_wp2_with fail
          go_meet
          case rel => exact ⟨true, rfl, fun _ y hy => by rw [List.eq_nil_of_length_eq_zero (unhide Hr0)] at hy; simp at hy, nq, rfl⟩
        · have q0 : ((r.length : Int) == 0) = false := beq_eq_false_iff_ne.2 (by omega)
          obtain ⟨A5, c5, hv5, hsl5, _⟩ := (unhide Hown).sl
          injection hv5 with v1 v2 v3
          obtain ⟨b5, o5, eA5, lb5, hr5⟩ := hsl5.2.2.2 hr0
          rw [eA5] at v1
          subst v1
          obtain ⟨p, hp⟩ : ∃ p, r.length = p + 1 := ⟨r.length - 1, by omega⟩
          have y0 : wA.cell? ⟨b5, o5 + p * 3, none⟩ = some (.int .i64 r[p].id) := hr5 p (by omega) 0 (by decide)
          obtain ⟨z, hz⟩ : ∃ z, z = r[p].id := ⟨_, rfl⟩
          rw [← hz] at y0
          have hall : z < id → ∀ y ∈ r, y.id < id := fun hlt y hy => by
            obtain ⟨i, hi, rfl⟩ := List.mem_iff_getElem.1 hy
            by_cases e : i = p
            · subst e; rw [← hz]; exact hlt
            · have h1 := List.pairwise_iff_getElem.1 (unhide Hpw) i p (by simpa using hi) (by simp; omega) (by omega)
              simp only [List.getElem_map] at h1
              rw [← hz] at h1
              exact Int.lt_trans h1 hlt
          have Hall := hide hall
          have hpi : (r.length : Int) - 1 = p := by omega
          have hbd := hsl5.2.1
          have hbd2 := hsl5.2.2.1
          clear hz hr5 hsl5 v2 v3 eA5 hp hall
          go_quiet (fail)
          go_wp2_with fail

          go_meet
          case rel => exact ⟨_, rfl, fun h => unhide Hall (of_decide_eq_true h), nq, rfl⟩
      case rest =>
        obtain ⟨B, rfl, hB, nq, rfl⟩ := hcut
        have HBt := hide hB
        clear hB
        obtain ⟨W, hW⟩ : ∃ W, W = wA.drewN nq := ⟨_, rfl⟩
        have o9 : Own eSh 51 W w.heap.size (.slice Av r.length cv) r := by rw [hW]; exact unhide Hown
        have B9 : Below w.heap.size w W := by rw [hW]; exact below_drewN HB _
        have y0 : W.cell? ⟨b4, o4 + q * 3, none⟩ = some (.int .i64 id) := by rw [hW]; exact x0
        have y1 : W.cell? ⟨b4, o4 + q * 3 + 1, none⟩ = some (.int .i64 rf) := by rw [hW]; exact x1
        have y2 : W.cell? ⟨b4, o4 + q * 3 + 2, none⟩ = some (.string tx) := by rw [hW]; exact x2
        rw [← hW]
        have HO9 := hide o9
        have sW := B9.size
        clear hW o9 x0 x1 x2 Hown HB
        cases B
        · go_wp2
          go_roundw
          case rel => exact ⟨q + 1, by omega, by go_num, ⟨Av, cv, r, rfl, unhide HO9, unhide Hmem, unhide Hpw, by omega⟩, B9⟩
          case measure => simp [intOf]; omega
        · go_wp2_with (at_builtin; refine wpList_append_one eSh rfl _ _ _ rfl w.heap.size 51 i0 _ 32 Tryd.underlying46 hi hz0 hz1 hz2 rfl (by decide) (.slice Av r.length cv) r rfl _ (unhide HO9) ⟨id, rf, tx⟩ #[.int .i64 id, .int .i64 rf, .string tx] rfl (by simp [Act.eval]) (by intro u hu; simp at hu; rcases hu with rfl | rfl | rfl <;> rfl) ?c3 ?c4 sW ?_)
          case c3 => unfold maxLen; omega
          case c4 => omega
          intro v4 w4 hown4 hgr4 hloc4
          have hb3 := B9.alloc sW (.cells #[.int .i64 id, .int .i64 rf, .string tx] 51)
          have B4 : Below w.heap.size w w4 := hb3.grown hgr4 hb3.size fun j hj => ((unhide HO9).lt j hj).1
          obtain ⟨A4, c4, hv4, _⟩ := hown4.sl
          subst hv4
          have HO4 := hide hown4
          clear hown4 hgr4 hloc4 hb3 y0 y1 y2
          go_wp2
          go_roundw
          case rel =>
            refine ⟨q + 1, by omega, by go_num, ⟨A4, c4, r ++ [⟨id, rf, tx⟩], rfl, unhide HO4, fun b hb => ?_, ?_, by rw [List.length_append, List.length_singleton]; omega⟩, B4⟩
            rotate_left
            · rw [List.map_append, List.pairwise_append]
              refine ⟨unhide Hpw, List.pairwise_singleton _ _, fun a ha b hb => ?_⟩
              obtain ⟨y, hy, rfl⟩ := List.mem_map.1 ha
              simp only [List.map_cons, List.map_nil, List.mem_singleton] at hb
              rw [hb]
              exact unhide HBt (by trivial) y hy
            rcases List.mem_append.1 hb with hb | hb
            · exact unhide Hmem b hb
            · simp only [List.mem_singleton] at hb
              rw [hb]
              exact unhide Hxm
          case measure => simp [intOf]; omega
    · obtain rfl : q = n := by omega
      clear hown hmem hpw
      go_wp2
      go_ret
      exact ⟨Av, cv, r, rfl, unhide Hown, unhide Hmem, unhide Hpw, hrl, HB⟩
end Go.Proofs.YtdpbjigdihajjaaDoor
