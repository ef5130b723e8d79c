/- Walk of the law ScrubMends. -/
import Derived.Test.YtdpbjigdihajjaaDoorScrI
import Derived.Test.YtdpbjigdihajjaaDoorFitW
import Derived.Test.YtdpbjigdihajjaaDoorLight
namespace Go.Proofs.YtdpbjigdihajjaaDoor
open Go.RowKit

theorem mendL_ids (W : Int → Int) (l : List Shv) : ((mendL W l).map (·.id)).Sublist (l.map (·.id)) := by
  unfold mendL
  induction l with
  | nil => simp
  | cons b l ih =>
    rw [List.flatMap_cons, List.map_append, List.map_cons]
    split
    · exact ih.cons_cons b.id
    · exact ih.cons b.id
theorem mend_told {T : List (Int × Int)} {l : List Shv} {r : List (Int × Int)} (h : Told T (mendL (atN T) l) r) : ∀ f ∈ r, f.1 ≠ 3 ∧ f.1 ≠ 5 := by
  obtain ⟨ks, h1, _, _⟩ := h
  intro f hf
  rcases List.mem_append.1 (h1.mem_iff.1 hf) with h | h
  · obtain ⟨i, hi, hb⟩ := bads_mem (Nat.le_refl _) h
    obtain ⟨_, _, h5, h3⟩ := bad_snd hb
    obtain ⟨g1, g2, _⟩ := mendL_mem (List.getElem_mem hi)
    exact ⟨fun e => h3 e g2.symm, fun e => by have := h5 e; omega⟩
  · unfold lackL at h
    obtain ⟨id, _, rfl⟩ := List.mem_map.1 h
    exact ⟨fun e => absurd e (by decide : (4 : Int) ≠ 3), fun e => absurd e (by decide : (4 : Int) ≠ 5)⟩
set_option maxHeartbeats 1000000 in
theorem sameShv_any (A B : Option Addr) (n c m d : Nat) (L : List Shv) (w : World) (hs : Sl eSh w A n c L) (ht : Sl eSh w B m d L) :
    Calls Tryd.prog 26 #[.slice A n c, .slice B m d] w fun e w' => e = .returned (.bool true) ∧ ∃ q, w' = w.drewN q := by
  have hn := hs.1
  have hm := ht.1
  obtain rfl : n = m := hn.trans hm.symm
  have h1 := hs.2.1
  have h2 := hs.2.2.1
  have h3 := ht.2.1
  have h4 := ht.2.2.1
  have R1 := hide hs.2.2.2
  have R2 := hide ht.2.2.2
  have Hn := hide hn
  clear hs ht hn hm
  go_enter Tryd.func26, Tryd.ntmps26
  go_wp2
  go_loopw [5] (fun i wr => ∃ k q : Nat, k ≤ n ∧ i = .int .i64 k ∧ wr = w.drewN q) (fun i _ => n - (intOf i).toNat)
  case atStart => exact ⟨0, 0, Nat.zero_le _, rfl, rfl⟩
  case round =>
    obtain ⟨k, q, hk, rfl, rfl⟩ := hrel
    by_cases hlt : k < n
    · have hkl : k < L.length := by have := unhide Hn; omega
      obtain ⟨b, o, eA, lb, r1⟩ := unhide R1 (by omega)
      obtain ⟨b2, o2, eB, lb2, r2⟩ := unhide R2 (by omega)
      subst eA eB
      have x0 : w.cell? ⟨b, o + k * 3, none⟩ = some (.int .i64 L[k].id) := r1 k hkl 0 (by decide)
      have x1 : w.cell? ⟨b, o + k * 3 + 1, none⟩ = some (.int .i64 L[k].refs) := r1 k hkl 1 (by decide)
      have x2 : w.cell? ⟨b, o + k * 3 + 2, none⟩ = some (.string L[k].bytes) := r1 k hkl 2 (by decide)
      have y0 : w.cell? ⟨b2, o2 + k * 3, none⟩ = some (.int .i64 L[k].id) := r2 k hkl 0 (by decide)
      have y1 : w.cell? ⟨b2, o2 + k * 3 + 1, none⟩ = some (.int .i64 L[k].refs) := r2 k hkl 1 (by decide)
      have y2 : w.cell? ⟨b2, o2 + k * 3 + 2, none⟩ = some (.string L[k].bytes) := r2 k hkl 2 (by decide)
      obtain ⟨W, hW⟩ : ∃ W, W = w.drewN q := ⟨_, rfl⟩
      have hc : ∀ a, W.cell? a = w.cell? a := by rw [hW]; intro a; rfl
      obtain ⟨i, hi⟩ : ∃ a, a = L[k].id := ⟨_, rfl⟩
      obtain ⟨f, hf⟩ : ∃ a, a = L[k].refs := ⟨_, rfl⟩
      obtain ⟨t, ht⟩ : ∃ a, a = L[k].bytes := ⟨_, rfl⟩
      rw [← hc, ← hi] at x0 y0
      rw [← hc, ← hf] at x1 y1
      rw [← hc, ← ht] at x2 y2
      rw [← hW]
      have HW := hide hW
      clear r1 r2 hW hc hi hf ht
      go_wp2
      go_quiet (fail)
      go_wp2
      go_roundw
      case rel => exact ⟨k + 1, q + nq, by omega, by go_num, by rw [unhide HW, World.drewN_drewN]⟩
      case measure => simp [intOf]; omega
    · go_wp2
      go_ret
      exact ⟨rfl, q, rfl⟩
set_option maxHeartbeats 8000000 in
set_option maxRecDepth 100000 in
theorem mends_any (A : Option Addr) (n c : Nat) (l : List Shv) (A2 : Option Addr) (n2 c2 : Nat) (ps : List Pt) (x : Int) (w : World) (hl : Sl eSh w A n c l) (hp : Sl ePt w A2 n2 c2 ps) (he : ∀ i (h : i < ps.length), ∃ es, Sl eE w ps[i].eA ps[i].eN ps[i].eC es) :
    Calls Tryd.prog 6 #[.slice A n c, .slice A2 n2 c2, .int .i64 x] w fun e w' => e = .returned (.bool true) ∧ Below w.heap.size w w' := by
  have b1 := hl.2.1
  have b2 := hl.2.2.1
  have Hl := hide hl
  have Hp := hide hp
  have He := hide he
  clear hl hp he
  go_enter Tryd.func6, Tryd.ntmps6
  go_upto_region 1 with fail
  go_cut [22] from 11 (fun s22 wx => ∃ B, s22 = .bool B ∧ (B = false → n ≤ 70) ∧ Below w.heap.size w wx)
  case first =>
    by_cases h70 : 70 < n
    · have q0 : decide ((70 : Int) < n) = true := decide_eq_true (by omega)
      have h70' : (70 : Int) < n := by omega
      clear h70
      go_wp2_with fail
      go_meet
      case rel => exact ⟨true, rfl, (fun h => by cases h), Below.refl _ _⟩
    · have q0 : decide ((70 : Int) < n) = false := decide_eq_false (by omega)
      have h70' : ¬ (70 : Int) < n := by omega
      have H70 := hide h70
      clear h70
      go_wp2_with (first | (go_at_call 19; refine (light_any A2 n2 c2 ps w (unhide Hp) (unhide He)).mono ?_; rintro e w' ⟨⟨b, he, _⟩, hw⟩; subst he; obtain rfl := hw.symm; cases b) | (go_at_call 20; refine (alive21 _).mono ?_; rintro e w5 ⟨he, HB5⟩; subst he))
      · go_meet
        case rel => exact ⟨true, rfl, (fun h => by cases h), Below.refl _ _⟩
      · go_meet
        case rel => exact ⟨false, rfl, fun _ => by have := unhide H70; omega, HB5⟩
  case rest =>
    obtain ⟨B, rfl, hB, HB1⟩ := hcut
    obtain ⟨w1, rfl⟩ : ∃ wo : World, wo = wc := ⟨_, rfl⟩
    have s1 := HB1.size
    cases B
    case true =>
      clear hB
      go_wp2_with (go_at_call 20; refine (alive21 _).mono ?_; rintro e w5 ⟨he, HB5⟩; subst he)
      go_ret
      exact ⟨rfl, HB1.trans (HB5.mono s1)⟩
    case false =>
      have hn70 : n ≤ 70 := hB rfl
      have Hl1 := hide ((unhide Hl).below HB1)
      have R := hide (unhide Hl1).2.2.2
      have HHB1 := hide HB1
      have Hn := hide (unhide Hl).1
      clear hB HB1
      go_wp2_with fail
      go_loopw [7] (fun j wr => ∃ k : Nat, k ≤ n ∧ j = .int .i64 k ∧ (∀ i (h : i < l.length), i < k → l[i].bytes.size ≤ 60) ∧ wr = w1) (fun j _ => n - (intOf j).toNat)
      case atStart => exact ⟨0, Nat.zero_le _, rfl, fun i _ h => by omega, rfl⟩
      case round =>
        obtain ⟨k, hk, rfl, hsz, hwr⟩ := hrel
        obtain rfl := hwr.symm
        have Hsz := hide hsz
        clear hsz hwr
        by_cases hlt : k < n
        · have hkl : k < l.length := by have := unhide Hn; omega
          obtain ⟨b4, o4, eA4, lb4, hr4⟩ := unhide R (by omega)
          subst eA4
          have x2 : w1.cell? ⟨b4, o4 + k * 3 + 2, none⟩ = some (.string l[k].bytes) := hr4 k hkl 2 (by decide)
          obtain ⟨t, ht⟩ : ∃ t, t = l[k].bytes := ⟨_, rfl⟩
          rw [← ht] at x2
          have Ht := hide ht
          clear ht hr4
          by_cases h60 : 60 < t.size
          · have q1 : (60 : Int) < t.size := by omega
            clear h60
            go_wp2
            go_ret
            exact ⟨rfl, unhide HHB1⟩
          · have q1 : ¬ (60 : Int) < t.size := by omega
            have H60 := hide h60
            clear h60
            go_wp2
            go_roundw
            case rel =>
              refine ⟨k + 1, by omega, by go_num, fun i hi h => ?_, by trivial⟩
              by_cases e : i = k
              · subst e; rw [← unhide Ht]; have := unhide H60; omega
              · exact unhide Hsz i hi (by omega)
            case measure => simp [intOf]; omega
        · obtain rfl : k = n := by omega
          have hall : ∀ b ∈ l, b.bytes.size ≤ 60 := fun b hb => by
            obtain ⟨i, hi, rfl⟩ := List.mem_iff_getElem.1 hb
            exact unhide Hsz i hi (by have := unhide Hn; omega)
          have Hall := hide hall
          have r1 : -64 < x.tmod 64 := Int.lt_tmod_of_pos x (by decide)
          have r2 : x.tmod 64 < 64 := Int.tmod_lt_of_pos x (by decide)
          have r3 : 0 ≤ x.tmod 64 % 64 := Int.emod_nonneg _ (by decide)
          have r4 : x.tmod 64 % 64 < 64 := Int.emod_lt_of_pos _ (by decide)
          clear hall
          go_wp2_with (go_at_call 24; refine (rise_any A k c l w1 (unhide Hl1) (by omega)).mono ?_; rintro e w2 ⟨A3, c3, rr, he, hO, hm, hpw, hrl, HB2⟩; subst he; have HO := hide hO; have Hm := hide hm; have Hpw := hide hpw; have HB2' := hide HB2; clear hO hm hpw HB2)
          have BwW2 : Below w.heap.size w w2 := (unhide HHB1).trans ((unhide HB2').mono s1)
          have s2 := (unhide HB2').size
          refine (fit_any A2 n2 c2 ps _ w2 ((unhide Hp).below BwW2) (fun i h => by obtain ⟨es, h1⟩ := unhide He i h; exact ⟨es, h1.below BwW2⟩) (by omega) (by omega)).mono ?_
          rintro e w3 ⟨qs, A4, c4, rfl, hP, h12, HB3⟩
          obtain ⟨ess, hR⟩ := hP.reads h12
          have HR := hide hR
          have s3 := HB3.size
          have Bw3 : Below w.heap.size w w3 := BwW2.trans (HB3.mono (by omega))
          obtain ⟨A3', c3', hv3, hslr, _⟩ := ((unhide HO).below HB3).sl
          injection hv3 with v1 _ v3
          rw [← v1, ← v3] at hslr
          have Hslr := hide hslr
          have hrall : ∀ b ∈ rr, b.bytes.size ≤ 60 := fun b hb => unhide Hall b (unhide Hm b hb)
          have Hrall := hide hrall
          have hmend := mend_any A3 rr.length c3 rr A4 qs.length c4 qs ess w3 hslr (by omega) hR
          obtain ⟨T, hT⟩ : ∃ T, T = tally (idsP ess) := ⟨_, rfl⟩
          rw [← hT] at hmend
          have HT := hide hT
          have Hmend := hide hmend
          have g1 := hR.sl.2.1
          have g2 := hR.sl.2.2.1
          have BwW3 := hide Bw3
          clear hP hR HB3 v1 v3 hslr hrall hmend hT HO HB2' BwW2 Bw3 r1 r2 r3 r4
          go_wp2_with fail
          refine (unhide Hmend).mono ?_
          rintro e w4 ⟨A5, c5, rfl, hO5, HB5⟩
          have s4 := HB5.size
          have B4 : Below w.heap.size w w4 := (unhide BwW3).trans (HB5.mono (by omega))
          have hR4 := (unhide HR).below HB5
          obtain ⟨A5', c5', hv5, hsl5, _⟩ := hO5.sl
          injection hv5 with v1 _ v3
          rw [← v1, ← v3] at hsl5
          obtain ⟨M, hM⟩ : ∃ M, M = mendL (atN T) rr := ⟨_, rfl⟩
          have hMl : M.length ≤ 70 := by rw [hM]; have := mendL_le (atN T) rr; omega
          have hMb : ∀ b ∈ M, b.bytes.size ≤ 1000000 := fun b hb => by
            rw [hM] at hb
            obtain ⟨_, _, cc, h1, h2⟩ := mendL_mem hb
            rw [h2]
            have := unhide Hrall cc h1
            omega
          have hMn : (M.map (·.id)).Nodup := by
            rw [hM]
            refine List.Nodup.sublist (mendL_ids (atN T) rr) ?_
            rw [List.nodup_iff_pairwise_ne]
            exact (unhide Hpw).imp fun h => Int.ne_of_lt h
          rw [← hM] at hsl5 ⊢
          have hlook := look_any A5 M.length c5 M A4 qs.length c4 qs ess w4 hsl5 (by omega) hMb hMn hR4
          rw [← unhide HT] at hlook
          have Hlook := hide hlook
          have HM := hide hM
          have Hsl5 := hide hsl5
          have HR4 := hide hR4
          have HB4 := hide B4
          have g3 := hsl5.2.1
          have g4 := hsl5.2.2.1
          clear hO5 HB5 hR4 v1 v3 hsl5 hM hMb hMn hlook B4 HR Hmend
          go_wp2_with fail
          refine (unhide Hlook).mono ?_
          rintro e w5 ⟨A6, c6, r, rfl, hs6, ht6, HB6⟩
          have s5 := HB6.size
          have hkinds : ∀ f ∈ r, f.1 ≠ 3 ∧ f.1 ≠ 5 := by
            rw [unhide HM] at ht6
            exact mend_told ht6
          have Hkinds := hide hkinds
          have B5 := hide ((unhide HB4).trans (HB6.mono (by omega)))
          have HR5 := hide ((unhide HR4).below HB6)
          have Hsl5' := hide ((unhide Hsl5).below HB6)
          have R6 := hide hs6.2.2.2
          have g5 := hs6.2.1
          have g6 := hs6.2.2.1
          clear hs6 ht6 HB6 hkinds HR4 Hsl5 HB4 Hlook
          obtain ⟨m, hm⟩ : ∃ m, m = r.length := ⟨_, rfl⟩
          rw [← hm] at g5 R6 ⊢
          have Hmm := hide hm
          clear hm
          go_wp2_with fail
          go_loopw [10] (fun j wr => ∃ k : Nat, k ≤ m ∧ j = .int .i64 k ∧ wr = w5) (fun j _ => m - (intOf j).toNat)
          case atStart => exact ⟨0, Nat.zero_le _, rfl, rfl⟩
          case round =>
            obtain ⟨q, hq, rfl, hwr⟩ := hrel
            obtain rfl := hwr.symm
            clear hwr
            by_cases hlq : q < m
            · have hqr : q < r.length := by have := unhide Hmm; omega
              obtain ⟨b6, o6, eA6, lb6, hr6⟩ := unhide R6 (by omega)
              subst eA6
              have y0 : w5.cell? ⟨b6, o6 + q * 2, none⟩ = some (.int .i64 r[q].1) := hr6 q hqr 0 (by decide)
              obtain ⟨h3, h5⟩ := unhide Hkinds r[q] (List.getElem_mem hqr)
              obtain ⟨f, hf⟩ : ∃ f, f = r[q].1 := ⟨_, rfl⟩
              rw [← hf] at y0 h3 h5
              have q3 : (f == 3) = false := beq_eq_false_iff_ne.2 h3
              have q5 : (f == 5) = false := beq_eq_false_iff_ne.2 h5
              clear hr6 hf h3 h5
              go_wp2
              go_roundw
              case rel => exact ⟨q + 1, by omega, by go_num, by trivial⟩
              case measure => simp [intOf]; omega
            · obtain rfl : q = m := by omega
              have hmend2 := mend_any A5 M.length c5 M A4 qs.length c4 qs ess w5 (unhide Hsl5') (by omega) (unhide HR5)
              rw [← unhide HT, mendL_same (fun b hb => by rw [unhide HM] at hb; obtain ⟨h1, h2, _⟩ := mendL_mem hb; exact ⟨h1, h2⟩)] at hmend2
              have Hmend2 := hide hmend2
              clear hmend2
              go_wp2_with fail
              refine (unhide Hmend2).mono ?_
              rintro e w6 ⟨A7, c7, rfl, hO7, HB7⟩
              obtain ⟨A7', c7', hv7, hsl7, _⟩ := hO7.sl
              injection hv7 with v1 _ v3
              rw [← v1, ← v3] at hsl7
              have hsame := sameShv_any A7 A5 M.length c7 M.length c5 M w6 hsl7 ((unhide Hsl5').below HB7)
              have Hsame := hide hsame
              have B6 := hide ((unhide B5).trans (HB7.mono (by omega)))
              clear hO7 HB7 v1 v3 hsl7 hsame
              go_wp2_with (go_at_call 26; refine (unhide Hsame).mono ?_; rintro e w7 ⟨he, nq, hw⟩; subst he; subst hw)
              go_ret
              exact ⟨rfl, below_drewN (unhide B6) nq⟩
end Go.Proofs.YtdpbjigdihajjaaDoor
