/- Joined texts: BkIG. -/
import Derived.Test.YtnpgjdhigcjihaaGreatDoorPP22
import Derived.Test.YtnpgjdhigcjihaaGreatDoorPP24
/- Printed by gen_bk.py. The book, kind Ints: they are grown. -/
namespace Go.Proofs.YtnpgjdhigcjihaaGreatDoor
open Go.RowKit

set_option maxHeartbeats 2000000 in
set_option maxRecDepth 100000 in
theorem kgrowI (b B : Nat) (X : Value) (vs : List Value) (Ls : List (List Int)) (w : World) (c2 : w.cell? ⟨b, 2, none⟩ = some X) (hbB : b < B) (hBw : B ≤ w.heap.size) (hX : KRows eI 3 73 w B X vs Ls) (hm : KMarked mkI Ls) (hn : Ls.length ≤ 1000) (hl : ∀ i, (Ls.getD i []).length ≤ 100000) :
    Calls Tryz.prog 56 #[.pointer (some ⟨b, 0, none⟩)] w fun e w' => (∃ G gs, e = .returned G ∧ KRead eI w' X vs Ls ∧ KRead eI w' G gs (grownK mkI Ls) ∧ ∀ q, OwnX G gs q → InnB vs q ∨ w.heap.size ≤ q) ∧ Chg (InnB vs) w w' := by
  obtain ⟨i0, hi, hz0, hz1, hz2⟩ := info_parts Tryz.kinfI
  obtain ⟨i1, hj0, hj1, hj2, hj3⟩ := info_parts Tryz.kinfsI
  have HX := hide hX
  have Hl := hide hl
  have Hmk := hide hm
  obtain ⟨AX, cX, eX, sX, _⟩ := hX.outer.sl
  subst eX
  have hvl := hX.n
  have bx1 := sX.2.1
  have bx2 := sX.2.2.1
  obtain ⟨m, hm⟩ : ∃ m, m = vs.length := ⟨_, rfl⟩
  have hmL : m ≤ 1000 := by omega
  rw [← hm] at c2 bx1 HX ⊢
  have Hm := hide hm
  have Hvl := hide hvl
  clear hX hl sX hvl hm
  go_enter Tryz.func56, Tryz.ntmps56
  go_wp2_with fail
  go_loopw [3, 4] (fun G i wr => ∃ (k : Nat) (gs : List Value), k ≤ m ∧ i = .int .i64 k ∧ KGrows eI 3 73 mkI w wr B (.slice AX m cX) vs Ls k G gs ∧ Below B w wr) (fun _ i _ => m - (intOf i).toNat)
  case atStart => exact ⟨0, [], Nat.zero_le _, rfl, KGrows.start (unhide HX), Below.refl _ _⟩
  case round =>
    obtain ⟨k, gs, hk, rfl, hG, HB⟩ := hrel
    have d2 := ((bcell HB).1 b 2 hbB).trans c2
    have sr := HB.size
    obtain ⟨AG, cG, eG, sG, _⟩ := hG.gown.sl
    subst eG
    have bg1 := sG.2.1
    have bg2 := sG.2.2.1
    have hgn := hG.n
    rw [hgn] at bg1 hG ⊢
    have HG := hide hG
    clear hG sG
    by_cases hlt : k < m
    · have hkv : k < vs.length := by have := unhide Hm; omega
      have hkL : k < Ls.length := by have := unhide Hvl; omega
      obtain ⟨A', c', hX', hsX, _⟩ := (unhide HG).outer.sl
      have hvm : vs.length = m := (unhide Hm).symm
      rw [hvm] at hX'
      injection hX' with e1 e2 e3
      subst e1 e3
      obtain ⟨gx, ox, ex, lx, rx⟩ := hsX.2.2.2 (by omega)
      subst ex
      have hst := KGrowAt.start ((unhide HG).rest k hkv hkL (Nat.le_refl _))
      obtain ⟨A, c, hvk, hslk⟩ := hst.sl
      have x1 : wr.cell? ⟨gx, ox + k, none⟩ = some (.slice A Ls[k].length c) := by rw [← hvk]; simpa [kV] using rx k hkv 0 (by decide)
      have hmk := unhide Hmk k hkL
      obtain ⟨n, hnn⟩ : ∃ n, n = Ls[k].length := ⟨_, rfl⟩
      have hn6 : n ≤ 100000 := by rw [hnn, ← kgetD_at hkL]; exact unhide Hl k
      rw [← hnn] at x1 hvk hslk hmk
      have bn1 := hslk.2.1
      have bn2 := hslk.2.2.1
      have Hvk := hide hvk
      have Hnn := hide hnn
      have hst' : KGrowAt eI 3 wr wr B vs[k] (.slice A n c) Ls[k] (mks mkI k 0 (n + 0)) := by
        rw [Nat.add_zero, ← hmk, ← hvk]
        exact hst
      have hoff := koff0 ((unhide HX).inner k hkv hkL)
      have Hoff := hide hoff
      have Hst := hide hst'
      clear hsX rx hvk hslk hnn hvm hst hst' hmk hoff
      obtain ⟨wo, rfl⟩ : ∃ wo, wo = wr := ⟨_, rfl⟩
      go_wp2_with fail
      go_loopw [5, 6] (fun s j wr2 => ∃ (j' : Nat), j' ≤ 12 ∧ j = .int .i64 j' ∧ (∃ A c, s = .slice A (n + j') c ∧ KGrowAt eI 3 wo wr2 B vs[k] (.slice A (n + j') c) Ls[k] (mks mkI k 0 (n + j'))) ∧ Below B w wr2) (fun _ j _ => 12 - (intOf j).toNat)
      case atStart => exact ⟨0, by omega, rfl, ⟨A, c, rfl, unhide Hst⟩, HB⟩
      case round =>
        obtain ⟨j, hj, rfl, ⟨As, cs, rfl, hgat⟩, HB2⟩ := hrel
        have s2 := HB2.size
        obtain ⟨A', c', hX', hsX', _⟩ := hgat.own.sl
        rw [mks_len] at hX' hsX'
        injection hX' with e1 e2 e3
        subst e1 e3
        have bs1 := hsX'.2.1
        have bs2 := hsX'.2.2.1
        have Hgat := hide hgat
        clear hsX' hgat
        by_cases hlt2 : j < 12
        · go_wp2_with fail
          refine (kmarkI k (n + j) 1 _ (by omega) (by omega) (by omega)).mono ?_
          rintro e w5 ⟨A5, c5, rfl, ho5, HB5⟩
          have hg5 := (unhide Hgat).below HB5
          have B5 := HB2.trans (HB5.mono (by omega : B ≤ wr.heap.size))
          have s5 := B5.size
          clear HB5
          go_wp2_with (at_builtin; refine wpList_append_two eI rfl _ _ _ rfl B 3 i0 (.int .i64 0) 8 Tryz.underlying73 hi hz0 hz1 hz2 rfl (by decide) (.slice As (n + j) cs) (mks mkI k 0 (n + j)) rfl _ hg5.own A5 1 c5 (mks mkI k (n + j) 1) rfl (ksl ho5) (koneI _) ?c3 ?c4 ?c5 ?_)
          case c3 => rw [mks_len]; unfold maxLen; omega
          case c4 => rw [mks_len]; omega
          case c5 => omega
          intro v1 w1 hown1 hor
          have hg6 := hg5.app (unhide Hoff) hown1 hor
          have hma := mks_app (mk := mkI) k 0 (n + j) 1
          rw [Nat.zero_add] at hma
          rw [hma] at hg6 hown1
          have B6 : Below B w w1 := by
            rcases hor with ⟨_, h⟩ | ⟨_, h⟩
            · exact B5.grown h (by omega) fun q hq => (hg5.own.lt q hq).1
            · exact B5.grown h (by omega) fun q hq => by simp at hq
          obtain ⟨A1, c1, hv1, _, _⟩ := hown1.sl
          rw [mks_len] at hv1
          subst hv1
          have Hg6 := hide hg6
          clear hg5 hown1 hor ho5 hma hg6 HB2 B5
          go_wp2
          go_roundw
          case rel => exact ⟨j + 1, by omega, by go_num, ⟨A1, c1, rfl, unhide Hg6⟩, B6⟩
          case measure => simp [intOf]; omega
        · obtain rfl : j = 12 := by omega
          go_wp2_with fail
          refine (kmarkI k (n + 12) 60 _ (by omega) (by omega) (by omega)).mono ?_
          rintro e w5 ⟨A5, c5, rfl, ho5, HB5⟩
          have hg5 := (unhide Hgat).below HB5
          have B5 := HB2.trans (HB5.mono (by omega : B ≤ wr.heap.size))
          have s5 := B5.size
          clear HB5
          go_wp2_with (at_builtin; refine wpList_append_two eI rfl _ _ _ rfl B 3 i0 (.int .i64 0) 8 Tryz.underlying73 hi hz0 hz1 hz2 rfl (by decide) (.slice As (n + 12) cs) (mks mkI k 0 (n + 12)) rfl _ hg5.own A5 60 c5 (mks mkI k (n + 12) 60) rfl (ksl ho5) (koneI _) ?c3 ?c4 ?c5 ?_)
          case c3 => rw [mks_len]; unfold maxLen; omega
          case c4 => rw [mks_len]; omega
          case c5 => omega
          intro v1 w1 hown1 hor
          have hg6 := hg5.app (unhide Hoff) hown1 hor
          have hma := mks_app (mk := mkI) k 0 (n + 12) 60
          rw [Nat.zero_add] at hma
          rw [hma] at hg6 hown1
          have B6 : Below B w w1 := by
            rcases hor with ⟨_, h⟩ | ⟨_, h⟩
            · exact B5.grown h (by omega) fun q hq => (hg5.own.lt q hq).1
            · exact B5.grown h (by omega) fun q hq => by simp at hq
          obtain ⟨A1, c1, hv1, _, _⟩ := hown1.sl
          rw [mks_len] at hv1
          subst hv1
          have hg7 : KGrowAt eI 3 wo w1 B vs[k] (.slice A1 (n + 12 + 60) c1) Ls[k] (mks mkI k 0 (Ls[k].length + 72)) := by
            rw [← unhide Hnn]
            exact hg6
          have hGo := (unhide HG).gown6 (unhide HX) hkv hkL hg7
          have Hg7 := hide hg7
          have s6 := B6.size
          clear hg5 hown1 hor ho5 hma hg6 HB2 B5 hg7
          go_wp2_with (at_builtin; refine wpList_append_one kV rfl _ _ _ rfl w.heap.size 73 i1 (.slice none 0 0) 24 Tryz.underlying31 hj0 hj1 hj2 hj3 rfl (by decide) (.slice AG k cG) gs rfl _ hGo (.slice A1 (n + 12 + 60) c1) #[.slice A1 (n + 12 + 60) c1] rfl (by simp [Act.eval]) (kV_one _ rfl) ?c3 ?c4 ?c5 ?_)
          case c3 => rw [hgn]; unfold maxLen; omega
          case c4 => rw [hgn]; omega
          case c5 => omega
          intro v2 w2 hown2 hgr2 hloc2
          have hst2 := (unhide HG).step (unhide HX) hkv hkL (unhide Hg7) hown2 hgr2 hloc2
          have hb2 := B6.alloc (by omega : B ≤ w1.heap.size) (.cells #[.slice A1 (n + 12 + 60) c1] 73)
          have B2 : Below B w w2 := hb2.grown hgr2 (Nat.le_trans hBw hb2.size) fun q hq => by
            have := (hGo.lt q hq).1
            omega
          have Hst2 := hide hst2
          clear hst2 hown2 hgr2 hloc2 hb2 hGo B6
          go_wp2
          go_roundw
          case rel => exact ⟨k + 1, _, by omega, by go_num, unhide Hst2, B2⟩
          case measure => simp [intOf]; omega
    · have hkm : k = vs.length := by have := unhide Hm; omega
      have hd := (unhide HG).done (unhide Hvl) hkm
      have Hd := hide hd
      clear hd
      go_wp2
      go_ret
      exact ⟨⟨_, gs, rfl, (unhide Hd).1, (unhide Hd).2, (unhide HG).where_ (Nat.le_of_eq hkm)⟩, HB.os, HB.tape, HB.output, (unhide HG).size, fun q h1 h2 => (unhide HG).same q h1 fun i hi e => h2 ⟨i, hi, e⟩⟩
end Go.Proofs.YtnpgjdhigcjihaaGreatDoor
