/- Joined texts: BkEG, BkSG, BkSJ. -/
import Derived.Test.YtnpgjdhigcjihaaGreatDoorPP10
import Derived.Test.YtnpgjdhigcjihaaGreatDoorPP24
import Derived.Test.YtnpgjdhigcjihaaGreatDoorPP03
import Derived.Deep.RegionLaw
/- Printed by gen_bk.py. The book, kind Extents: they are grown. -/
namespace Go.Proofs.YtnpgjdhigcjihaaGreatDoor
open Go.RowKit

set_option maxHeartbeats 2000000 in
set_option maxRecDepth 100000 in
theorem kgrowE (b B : Nat) (X : Value) (vs : List Value) (Ls : List (List Ext)) (w : World) (c2 : w.cell? ⟨b, 6, none⟩ = some X) (hbB : b < B) (hBw : B ≤ w.heap.size) (hX : KRows eE 146 131 w B X vs Ls) (hm : KMarked mkE Ls) (hn : Ls.length ≤ 1000) (hl : ∀ i, (Ls.getD i []).length ≤ 100000) :
    Calls Tryz.prog 58 #[.pointer (some ⟨b, 0, none⟩)] w fun e w' => (∃ G gs, e = .returned G ∧ KRead eE w' X vs Ls ∧ KRead eE w' G gs (grownK mkE Ls) ∧ ∀ q, OwnX G gs q → InnB vs q ∨ w.heap.size ≤ q) ∧ Chg (InnB vs) w w' := by
  obtain ⟨i0, hi, hz0, hz1, hz2⟩ := info_parts Tryz.kinfE
  obtain ⟨i1, hj0, hj1, hj2, hj3⟩ := info_parts Tryz.kinfsE
  have HX := hide hX
  have Hl := hide hl
  have Hmk := hide hm
  obtain ⟨AX, cX, eX, sX, _⟩ := hX.outer.sl
  subst eX
  have hvl := hX.n
  have bx1 := sX.2.1
  have bx2 := sX.2.2.1
  obtain ⟨m, hm⟩ : ∃ m, m = vs.length := ⟨_, rfl⟩
  have hmL : m ≤ 1000 := by omega
  rw [← hm] at c2 bx1 HX ⊢
  have Hm := hide hm
  have Hvl := hide hvl
  clear hX hl sX hvl hm
  go_enter Tryz.func58, Tryz.ntmps58
  go_wp2_with fail
  go_loopw [3, 4] (fun G i wr => ∃ (k : Nat) (gs : List Value), k ≤ m ∧ i = .int .i64 k ∧ KGrows eE 146 131 mkE w wr B (.slice AX m cX) vs Ls k G gs ∧ Below B w wr) (fun _ i _ => m - (intOf i).toNat)
  case atStart => exact ⟨0, [], Nat.zero_le _, rfl, KGrows.start (unhide HX), Below.refl _ _⟩
  case round =>
    obtain ⟨k, gs, hk, rfl, hG, HB⟩ := hrel
    have d2 := ((bcell HB).1 b 6 hbB).trans c2
    have sr := HB.size
    obtain ⟨AG, cG, eG, sG, _⟩ := hG.gown.sl
    subst eG
    have bg1 := sG.2.1
    have bg2 := sG.2.2.1
    have hgn := hG.n
    rw [hgn] at bg1 hG ⊢
    have HG := hide hG
    clear hG sG
    by_cases hlt : k < m
    · have hkv : k < vs.length := by have := unhide Hm; omega
      have hkL : k < Ls.length := by have := unhide Hvl; omega
      obtain ⟨A', c', hX', hsX, _⟩ := (unhide HG).outer.sl
      have hvm : vs.length = m := (unhide Hm).symm
      rw [hvm] at hX'
      injection hX' with e1 e2 e3
      subst e1 e3
      obtain ⟨gx, ox, ex, lx, rx⟩ := hsX.2.2.2 (by omega)
      subst ex
      have hst := KGrowAt.start ((unhide HG).rest k hkv hkL (Nat.le_refl _))
      obtain ⟨A, c, hvk, hslk⟩ := hst.sl
      have x1 : wr.cell? ⟨gx, ox + k, none⟩ = some (.slice A Ls[k].length c) := by rw [← hvk]; simpa [kV] using rx k hkv 0 (by decide)
      have hmk := unhide Hmk k hkL
      obtain ⟨n, hnn⟩ : ∃ n, n = Ls[k].length := ⟨_, rfl⟩
      have hn6 : n ≤ 100000 := by rw [hnn, ← kgetD_at hkL]; exact unhide Hl k
      rw [← hnn] at x1 hvk hslk hmk
      have bn1 := hslk.2.1
      have bn2 := hslk.2.2.1
      have Hvk := hide hvk
      have Hnn := hide hnn
      have hst' : KGrowAt eE 146 wr wr B vs[k] (.slice A n c) Ls[k] (mks mkE k 0 (n + 0)) := by
        rw [Nat.add_zero, ← hmk, ← hvk]
        exact hst
      have hoff := koff0 ((unhide HX).inner k hkv hkL)
      have Hoff := hide hoff
      have Hst := hide hst'
      clear hsX rx hvk hslk hnn hvm hst hst' hmk hoff
      obtain ⟨wo, rfl⟩ : ∃ wo, wo = wr := ⟨_, rfl⟩
      go_wp2_with fail
      go_loopw [5, 6] (fun s j wr2 => ∃ (j' : Nat), j' ≤ 12 ∧ j = .int .i64 j' ∧ (∃ A c, s = .slice A (n + j') c ∧ KGrowAt eE 146 wo wr2 B vs[k] (.slice A (n + j') c) Ls[k] (mks mkE k 0 (n + j'))) ∧ Below B w wr2) (fun _ j _ => 12 - (intOf j).toNat)
      case atStart => exact ⟨0, by omega, rfl, ⟨A, c, rfl, unhide Hst⟩, HB⟩
      case round =>
        obtain ⟨j, hj, rfl, ⟨As, cs, rfl, hgat⟩, HB2⟩ := hrel
        have s2 := HB2.size
        obtain ⟨A', c', hX', hsX', _⟩ := hgat.own.sl
        rw [mks_len] at hX' hsX'
        injection hX' with e1 e2 e3
        subst e1 e3
        have bs1 := hsX'.2.1
        have bs2 := hsX'.2.2.1
        have Hgat := hide hgat
        clear hsX' hgat
        by_cases hlt2 : j < 12
        · go_wp2_with fail
          refine (kmarkE k (n + j) 1 _ (by omega) (by omega) (by omega)).mono ?_
          rintro e w5 ⟨A5, c5, rfl, ho5, HB5⟩
          have hg5 := (unhide Hgat).below HB5
          have B5 := HB2.trans (HB5.mono (by omega : B ≤ wr.heap.size))
          have s5 := B5.size
          clear HB5
          go_wp2_with (at_builtin; refine wpList_append_two eE rfl _ _ _ rfl B 146 i0 (.agg #[.int .i64 0, .int .i64 0, .int .i64 0]) 24 Tryz.underlying131 hi hz0 hz1 hz2 rfl (by decide) (.slice As (n + j) cs) (mks mkE k 0 (n + j)) rfl _ hg5.own A5 1 c5 (mks mkE k (n + j) 1) rfl (ksl ho5) (koneE _) ?c3 ?c4 ?c5 ?_)
          case c3 => rw [mks_len]; unfold maxLen; omega
          case c4 => rw [mks_len]; omega
          case c5 => omega
          intro v1 w1 hown1 hor
          have hg6 := hg5.app (unhide Hoff) hown1 hor
          have hma := mks_app (mk := mkE) k 0 (n + j) 1
          rw [Nat.zero_add] at hma
          rw [hma] at hg6 hown1
          have B6 : Below B w w1 := by
            rcases hor with ⟨_, h⟩ | ⟨_, h⟩
            · exact B5.grown h (by omega) fun q hq => (hg5.own.lt q hq).1
            · exact B5.grown h (by omega) fun q hq => by simp at hq
          obtain ⟨A1, c1, hv1, _, _⟩ := hown1.sl
          rw [mks_len] at hv1
          subst hv1
          have Hg6 := hide hg6
          clear hg5 hown1 hor ho5 hma hg6 HB2 B5
          go_wp2
          go_roundw
          case rel => exact ⟨j + 1, by omega, by go_num, ⟨A1, c1, rfl, unhide Hg6⟩, B6⟩
          case measure => simp [intOf]; omega
        · obtain rfl : j = 12 := by omega
          go_wp2_with fail
          refine (kmarkE k (n + 12) 60 _ (by omega) (by omega) (by omega)).mono ?_
          rintro e w5 ⟨A5, c5, rfl, ho5, HB5⟩
          have hg5 := (unhide Hgat).below HB5
          have B5 := HB2.trans (HB5.mono (by omega : B ≤ wr.heap.size))
          have s5 := B5.size
          clear HB5
          go_wp2_with (at_builtin; refine wpList_append_two eE rfl _ _ _ rfl B 146 i0 (.agg #[.int .i64 0, .int .i64 0, .int .i64 0]) 24 Tryz.underlying131 hi hz0 hz1 hz2 rfl (by decide) (.slice As (n + 12) cs) (mks mkE k 0 (n + 12)) rfl _ hg5.own A5 60 c5 (mks mkE k (n + 12) 60) rfl (ksl ho5) (koneE _) ?c3 ?c4 ?c5 ?_)
          case c3 => rw [mks_len]; unfold maxLen; omega
          case c4 => rw [mks_len]; omega
          case c5 => omega
          intro v1 w1 hown1 hor
          have hg6 := hg5.app (unhide Hoff) hown1 hor
          have hma := mks_app (mk := mkE) k 0 (n + 12) 60
          rw [Nat.zero_add] at hma
          rw [hma] at hg6 hown1
          have B6 : Below B w w1 := by
            rcases hor with ⟨_, h⟩ | ⟨_, h⟩
            · exact B5.grown h (by omega) fun q hq => (hg5.own.lt q hq).1
            · exact B5.grown h (by omega) fun q hq => by simp at hq
          obtain ⟨A1, c1, hv1, _, _⟩ := hown1.sl
          rw [mks_len] at hv1
          subst hv1
          have hg7 : KGrowAt eE 146 wo w1 B vs[k] (.slice A1 (n + 12 + 60) c1) Ls[k] (mks mkE k 0 (Ls[k].length + 72)) := by
            rw [← unhide Hnn]
            exact hg6
          have hGo := (unhide HG).gown6 (unhide HX) hkv hkL hg7
          have Hg7 := hide hg7
          have s6 := B6.size
          clear hg5 hown1 hor ho5 hma hg6 HB2 B5 hg7
          go_wp2_with (at_builtin; refine wpList_append_one kV rfl _ _ _ rfl w.heap.size 131 i1 (.slice none 0 0) 24 Tryz.underlying33 hj0 hj1 hj2 hj3 rfl (by decide) (.slice AG k cG) gs rfl _ hGo (.slice A1 (n + 12 + 60) c1) #[.slice A1 (n + 12 + 60) c1] rfl (by simp [Act.eval]) (kV_one _ rfl) ?c3 ?c4 ?c5 ?_)
          case c3 => rw [hgn]; unfold maxLen; omega
          case c4 => rw [hgn]; omega
          case c5 => omega
          intro v2 w2 hown2 hgr2 hloc2
          have hst2 := (unhide HG).step (unhide HX) hkv hkL (unhide Hg7) hown2 hgr2 hloc2
          have hb2 := B6.alloc (by omega : B ≤ w1.heap.size) (.cells #[.slice A1 (n + 12 + 60) c1] 131)
          have B2 : Below B w w2 := hb2.grown hgr2 (Nat.le_trans hBw hb2.size) fun q hq => by
            have := (hGo.lt q hq).1
            omega
          have Hst2 := hide hst2
          clear hst2 hown2 hgr2 hloc2 hb2 hGo B6
          go_wp2
          go_roundw
          case rel => exact ⟨k + 1, _, by omega, by go_num, unhide Hst2, B2⟩
          case measure => simp [intOf]; omega
    · have hkm : k = vs.length := by have := unhide Hm; omega
      have hd := (unhide HG).done (unhide Hvl) hkm
      have Hd := hide hd
      clear hd
      go_wp2
      go_ret
      exact ⟨⟨_, gs, rfl, (unhide Hd).1, (unhide Hd).2, (unhide HG).where_ (Nat.le_of_eq hkm)⟩, HB.os, HB.tape, HB.output, (unhide HG).size, fun q h1 h2 => (unhide HG).same q h1 fun i hi e => h2 ⟨i, hi, e⟩⟩
end Go.Proofs.YtnpgjdhigcjihaaGreatDoor
/- Printed by gen_bk.py. The book, kind Shelves: they are grown. -/
namespace Go.Proofs.YtnpgjdhigcjihaaGreatDoor
open Go.RowKit

set_option maxHeartbeats 2000000 in
set_option maxRecDepth 100000 in
theorem kgrowS (b B : Nat) (X : Value) (vs : List Value) (Ls : List (List Shv)) (w : World) (c2 : w.cell? ⟨b, 8, none⟩ = some X) (hbB : b < B) (hBw : B ≤ w.heap.size) (hX : KRows eSh 56 26 w B X vs Ls) (hm : KMarked mkS Ls) (hn : Ls.length ≤ 1000) (hl : ∀ i, (Ls.getD i []).length ≤ 100000) :
    Calls Tryz.prog 59 #[.pointer (some ⟨b, 0, none⟩)] w fun e w' => (∃ G gs, e = .returned G ∧ KRead eSh w' X vs Ls ∧ KRead eSh w' G gs (grownK mkS Ls) ∧ ∀ q, OwnX G gs q → InnB vs q ∨ w.heap.size ≤ q) ∧ Chg (InnB vs) w w' := by
  obtain ⟨i0, hi, hz0, hz1, hz2⟩ := info_parts Tryz.kinfS
  obtain ⟨i1, hj0, hj1, hj2, hj3⟩ := info_parts Tryz.kinfsS
  have HX := hide hX
  have Hl := hide hl
  have Hmk := hide hm
  obtain ⟨AX, cX, eX, sX, _⟩ := hX.outer.sl
  subst eX
  have hvl := hX.n
  have bx1 := sX.2.1
  have bx2 := sX.2.2.1
  obtain ⟨m, hm⟩ : ∃ m, m = vs.length := ⟨_, rfl⟩
  have hmL : m ≤ 1000 := by omega
  rw [← hm] at c2 bx1 HX ⊢
  have Hm := hide hm
  have Hvl := hide hvl
  clear hX hl sX hvl hm
  go_enter Tryz.func59, Tryz.ntmps59
  go_wp2_with fail
  go_loopw [3, 4] (fun G i wr => ∃ (k : Nat) (gs : List Value), k ≤ m ∧ i = .int .i64 k ∧ KGrows eSh 56 26 mkS w wr B (.slice AX m cX) vs Ls k G gs ∧ Below B w wr) (fun _ i _ => m - (intOf i).toNat)
  case atStart => exact ⟨0, [], Nat.zero_le _, rfl, KGrows.start (unhide HX), Below.refl _ _⟩
  case round =>
    obtain ⟨k, gs, hk, rfl, hG, HB⟩ := hrel
    have d2 := ((bcell HB).1 b 8 hbB).trans c2
    have sr := HB.size
    obtain ⟨AG, cG, eG, sG, _⟩ := hG.gown.sl
    subst eG
    have bg1 := sG.2.1
    have bg2 := sG.2.2.1
    have hgn := hG.n
    rw [hgn] at bg1 hG ⊢
    have HG := hide hG
    clear hG sG
    by_cases hlt : k < m
    · have hkv : k < vs.length := by have := unhide Hm; omega
      have hkL : k < Ls.length := by have := unhide Hvl; omega
      obtain ⟨A', c', hX', hsX, _⟩ := (unhide HG).outer.sl
      have hvm : vs.length = m := (unhide Hm).symm
      rw [hvm] at hX'
      injection hX' with e1 e2 e3
      subst e1 e3
      obtain ⟨gx, ox, ex, lx, rx⟩ := hsX.2.2.2 (by omega)
      subst ex
      have hst := KGrowAt.start ((unhide HG).rest k hkv hkL (Nat.le_refl _))
      obtain ⟨A, c, hvk, hslk⟩ := hst.sl
      have x1 : wr.cell? ⟨gx, ox + k, none⟩ = some (.slice A Ls[k].length c) := by rw [← hvk]; simpa [kV] using rx k hkv 0 (by decide)
      have hmk := unhide Hmk k hkL
      obtain ⟨n, hnn⟩ : ∃ n, n = Ls[k].length := ⟨_, rfl⟩
      have hn6 : n ≤ 100000 := by rw [hnn, ← kgetD_at hkL]; exact unhide Hl k
      rw [← hnn] at x1 hvk hslk hmk
      have bn1 := hslk.2.1
      have bn2 := hslk.2.2.1
      have Hvk := hide hvk
      have Hnn := hide hnn
      have hst' : KGrowAt eSh 56 wr wr B vs[k] (.slice A n c) Ls[k] (mks mkS k 0 (n + 0)) := by
        rw [Nat.add_zero, ← hmk, ← hvk]
        exact hst
      have hoff := koff0 ((unhide HX).inner k hkv hkL)
      have Hoff := hide hoff
      have Hst := hide hst'
      clear hsX rx hvk hslk hnn hvm hst hst' hmk hoff
      obtain ⟨wo, rfl⟩ : ∃ wo, wo = wr := ⟨_, rfl⟩
      go_wp2_with fail
      go_loopw [5, 6] (fun s j wr2 => ∃ (j' : Nat), j' ≤ 12 ∧ j = .int .i64 j' ∧ (∃ A c, s = .slice A (n + j') c ∧ KGrowAt eSh 56 wo wr2 B vs[k] (.slice A (n + j') c) Ls[k] (mks mkS k 0 (n + j'))) ∧ Below B w wr2) (fun _ j _ => 12 - (intOf j).toNat)
      case atStart => exact ⟨0, by omega, rfl, ⟨A, c, rfl, unhide Hst⟩, HB⟩
      case round =>
        obtain ⟨j, hj, rfl, ⟨As, cs, rfl, hgat⟩, HB2⟩ := hrel
        have s2 := HB2.size
        obtain ⟨A', c', hX', hsX', _⟩ := hgat.own.sl
        rw [mks_len] at hX' hsX'
        injection hX' with e1 e2 e3
        subst e1 e3
        have bs1 := hsX'.2.1
        have bs2 := hsX'.2.2.1
        have Hgat := hide hgat
        clear hsX' hgat
        by_cases hlt2 : j < 12
        · go_wp2_with fail
          refine (kmarkS k (n + j) 1 _ (by omega) (by omega) (by omega)).mono ?_
          rintro e w5 ⟨A5, c5, rfl, ho5, HB5⟩
          have hg5 := (unhide Hgat).below HB5
          have B5 := HB2.trans (HB5.mono (by omega : B ≤ wr.heap.size))
          have s5 := B5.size
          clear HB5
          go_wp2_with (at_builtin; refine wpList_append_two eSh rfl _ _ _ rfl B 56 i0 (.agg #[.int .i64 0, .int .i64 0, .string ⟨#[]⟩]) 32 Tryz.underlying26 hi hz0 hz1 hz2 rfl (by decide) (.slice As (n + j) cs) (mks mkS k 0 (n + j)) rfl _ hg5.own A5 1 c5 (mks mkS k (n + j) 1) rfl (ksl ho5) (koneS _) ?c3 ?c4 ?c5 ?_)
          case c3 => rw [mks_len]; unfold maxLen; omega
          case c4 => rw [mks_len]; omega
          case c5 => omega
          intro v1 w1 hown1 hor
          have hg6 := hg5.app (unhide Hoff) hown1 hor
          have hma := mks_app (mk := mkS) k 0 (n + j) 1
          rw [Nat.zero_add] at hma
          rw [hma] at hg6 hown1
          have B6 : Below B w w1 := by
            rcases hor with ⟨_, h⟩ | ⟨_, h⟩
            · exact B5.grown h (by omega) fun q hq => (hg5.own.lt q hq).1
            · exact B5.grown h (by omega) fun q hq => by simp at hq
          obtain ⟨A1, c1, hv1, _, _⟩ := hown1.sl
          rw [mks_len] at hv1
          subst hv1
          have Hg6 := hide hg6
          clear hg5 hown1 hor ho5 hma hg6 HB2 B5
          go_wp2
          go_roundw
          case rel => exact ⟨j + 1, by omega, by go_num, ⟨A1, c1, rfl, unhide Hg6⟩, B6⟩
          case measure => simp [intOf]; omega
        · obtain rfl : j = 12 := by omega
          go_wp2_with fail
          refine (kmarkS k (n + 12) 60 _ (by omega) (by omega) (by omega)).mono ?_
          rintro e w5 ⟨A5, c5, rfl, ho5, HB5⟩
          have hg5 := (unhide Hgat).below HB5
          have B5 := HB2.trans (HB5.mono (by omega : B ≤ wr.heap.size))
          have s5 := B5.size
          clear HB5
          go_wp2_with (at_builtin; refine wpList_append_two eSh rfl _ _ _ rfl B 56 i0 (.agg #[.int .i64 0, .int .i64 0, .string ⟨#[]⟩]) 32 Tryz.underlying26 hi hz0 hz1 hz2 rfl (by decide) (.slice As (n + 12) cs) (mks mkS k 0 (n + 12)) rfl _ hg5.own A5 60 c5 (mks mkS k (n + 12) 60) rfl (ksl ho5) (koneS _) ?c3 ?c4 ?c5 ?_)
          case c3 => rw [mks_len]; unfold maxLen; omega
          case c4 => rw [mks_len]; omega
          case c5 => omega
          intro v1 w1 hown1 hor
          have hg6 := hg5.app (unhide Hoff) hown1 hor
          have hma := mks_app (mk := mkS) k 0 (n + 12) 60
          rw [Nat.zero_add] at hma
          rw [hma] at hg6 hown1
          have B6 : Below B w w1 := by
            rcases hor with ⟨_, h⟩ | ⟨_, h⟩
            · exact B5.grown h (by omega) fun q hq => (hg5.own.lt q hq).1
            · exact B5.grown h (by omega) fun q hq => by simp at hq
          obtain ⟨A1, c1, hv1, _, _⟩ := hown1.sl
          rw [mks_len] at hv1
          subst hv1
          have hg7 : KGrowAt eSh 56 wo w1 B vs[k] (.slice A1 (n + 12 + 60) c1) Ls[k] (mks mkS k 0 (Ls[k].length + 72)) := by
            rw [← unhide Hnn]
            exact hg6
          have hGo := (unhide HG).gown6 (unhide HX) hkv hkL hg7
          have Hg7 := hide hg7
          have s6 := B6.size
          clear hg5 hown1 hor ho5 hma hg6 HB2 B5 hg7
          go_wp2_with (at_builtin; refine wpList_append_one kV rfl _ _ _ rfl w.heap.size 26 i1 (.slice none 0 0) 24 Tryz.underlying34 hj0 hj1 hj2 hj3 rfl (by decide) (.slice AG k cG) gs rfl _ hGo (.slice A1 (n + 12 + 60) c1) #[.slice A1 (n + 12 + 60) c1] rfl (by simp [Act.eval]) (kV_one _ rfl) ?c3 ?c4 ?c5 ?_)
          case c3 => rw [hgn]; unfold maxLen; omega
          case c4 => rw [hgn]; omega
          case c5 => omega
          intro v2 w2 hown2 hgr2 hloc2
          have hst2 := (unhide HG).step (unhide HX) hkv hkL (unhide Hg7) hown2 hgr2 hloc2
          have hb2 := B6.alloc (by omega : B ≤ w1.heap.size) (.cells #[.slice A1 (n + 12 + 60) c1] 26)
          have B2 : Below B w w2 := hb2.grown hgr2 (Nat.le_trans hBw hb2.size) fun q hq => by
            have := (hGo.lt q hq).1
            omega
          have Hst2 := hide hst2
          clear hst2 hown2 hgr2 hloc2 hb2 hGo B6
          go_wp2
          go_roundw
          case rel => exact ⟨k + 1, _, by omega, by go_num, unhide Hst2, B2⟩
          case measure => simp [intOf]; omega
    · have hkm : k = vs.length := by have := unhide Hm; omega
      have hd := (unhide HG).done (unhide Hvl) hkm
      have Hd := hide hd
      clear hd
      go_wp2
      go_ret
      exact ⟨⟨_, gs, rfl, (unhide Hd).1, (unhide Hd).2, (unhide HG).where_ (Nat.le_of_eq hkm)⟩, HB.os, HB.tape, HB.output, (unhide HG).size, fun q h1 h2 => (unhide HG).same q h1 fun i hi e => h2 ⟨i, hi, e⟩⟩
end Go.Proofs.YtnpgjdhigcjihaaGreatDoor
/- Printed by gen_bk.py. The book, kind Shelves: one more list. -/
namespace Go.Proofs.YtnpgjdhigcjihaaGreatDoor
open Go.RowKit

set_option maxHeartbeats 4000000 in
set_option maxRecDepth 100000 in
theorem kbookS (b B : Nat) (X Y : Value) (vs us : List Value) (Ls : List (List Shv)) (A : Option Addr) (n c : Nat) (L : List Shv) (w : World) {cs : Array Value} {TB : TypeId} (hblk : w.heap[b]? = some (.cells cs TB)) (hcX : cs[8]? = some X) (hcY : cs[9]? = some Y) (hlt : b < B) (hbw : B ≤ w.heap.size) (h : Kin eSh 56 26 w B X Y vs us Ls) (hn : Ls.length < 250) (hv : Own eSh 56 w B (.slice A n c) L) (hL : L.length ≤ 100000)
    (hf : ∀ q, (Value.slice A n c).ownBlock = some q → X.ownBlock ≠ some q ∧ Y.ownBlock ≠ some q ∧ ∀ i (h : i < vs.length), vs[i].ownBlock ≠ some q) :
    Calls Tryz.prog 13 #[.pointer (some ⟨b, 0, none⟩), .slice A n c] w fun e w' => e = .returned (.tuple #[]) ∧ ∃ X' Y' u, w'.heap[b]? = some (.cells ((cs.setIfInBounds 8 X').setIfInBounds 9 Y') TB) ∧ B ≤ w'.heap.size ∧ Kin eSh 56 26 w' B X' Y' (vs ++ [.slice A n c]) (us ++ [u]) (Ls ++ [L]) ∧ KTouch w w' b X Y X' Y' u := by
  obtain ⟨i1, hj0, hj1, hj2, hj3⟩ := info_parts Tryz.kinfsS
  have c2 : w.cell? ⟨b, 8, none⟩ = some X := by simp [World.cell?, hblk, hcX]
  have c3 : w.cell? ⟨b, 9, none⟩ = some Y := by simp [World.cell?, hblk, hcY]
  have f2 : w.frozen? ⟨b, 8, none⟩ = false := by simp [World.frozen?, hblk]
  have f3 : w.frozen? ⟨b, 9, none⟩ = false := by simp [World.frozen?, hblk]
  have Hblk := hide hblk
  clear hblk hcX hcY
  have hvn := h.rows.n
  have hun := h.copy.n
  have bX : X.ownBlock ≠ some b := fun e => by have := (h.rows.outer.lt b e).1; omega
  have bY : Y.ownBlock ≠ some b := fun e => by have := (h.copy.outer.lt b e).1; omega
  obtain ⟨AX, cX, eX, sX, _⟩ := h.rows.outer.sl
  have bx1 := sX.2.1
  have bx2 := sX.2.2.1
  have oX := h.rows.outer
  have oY := h.copy.outer
  have hnl : n = L.length := by
    obtain ⟨A', c', h1, _⟩ := hv.sl
    injection h1
  have H := hide h
  have Hv := hide hv
  have Hf := hide hf
  have HX := hide oX
  have HY := hide oY
  have sX0 := hide (Sl.same_blk sX (Nat.le_refl _) fun _ _ => rfl)
  clear h hv hf oX oY sX
  subst eX
  obtain ⟨m, hm⟩ : ∃ m, m = vs.length := ⟨_, rfl⟩
  have hm250 : m < 250 := by omega
  rw [← hm] at c2 bx1 H HX bX ⊢
  have Hm := hide hm
  have Hnl := hide hnl
  have HbX := hide bX
  have HbY := hide bY
  have hun' : us.length < 250 := by omega
  have Hun := hide hun
  clear hm hvn hnl bX bY hun
  go_enter Tryz.func13, Tryz.ntmps13
  go_wp2_with (at_builtin; refine wpList_append_one kV rfl _ _ _ rfl B 26 i1 (.slice none 0 0) 24 Tryz.underlying34 hj0 hj1 hj2 hj3 rfl (by decide) (.slice AX m cX) vs rfl _ (unhide HX) (.slice A n c) #[.slice A n c] rfl (by simp [Act.eval]) (kV_one _ rfl) ?c3 ?c4 hbw ?_)
  case c3 => rw [← unhide Hm]; unfold maxLen; omega
  case c4 => rw [← unhide Hm]; omega
  intro v1 w1 hown1 hgr1 hloc1
  obtain ⟨A1, c1, hv1, _⟩ := hown1.sl
  rw [List.length_append, ← unhide Hm, List.length_singleton] at hv1
  subst hv1
  have hal (w : World) (o : Obj) : (w.alloc o).heap.size = w.heap.size + 1 := by show (w.heap.push o).size = _; simp
  have e1 : w1.heap[b]? = w.heap[b]? := (hgr1.block b (by rw [hal]; omega) fun e => unhide HbX e.symm).trans (Below.heap_alloc w _ b (by omega))
  have d2 : w1.cell? ⟨b, 8, none⟩ = some (.slice AX m cX) := (World.cell?_of_block (a := ⟨b, 8, none⟩) e1).trans c2
  have g2 : w1.frozen? ⟨b, 8, none⟩ = false := (World.frozen?_of_block (a := ⟨b, 8, none⟩) e1).trans f2
  have s1 : w.heap.size + 1 ≤ w1.heap.size := hal w _ ▸ hgr1.size
  obtain ⟨W2, hW2⟩ : ∃ W2, W2 = w1.setCell ⟨b, 8, none⟩ (.slice A1 (m + 1) c1) := ⟨_, rfl⟩
  have sW : W2.heap.size = w1.heap.size := by rw [hW2]; simp [World.setCell]
  have k2 : ∀ q, q < w.heap.size → q ≠ b → (Value.slice AX m cX).ownBlock ≠ some q → W2.heap[q]? = w.heap[q]? := fun q h1 h2 h3 => by
    rw [hW2]
    exact (Below.heap_setCell w1 ⟨b, 8, none⟩ (.slice A1 (m + 1) c1) q h2).trans ((hgr1.block q (by rw [hal]; omega) fun e => h3 e.symm).trans (Below.heap_alloc w _ q h1))
  have y3 : W2.cell? ⟨b, 9, none⟩ = some Y := by
    rw [hW2]
    exact (kcell_other w1 b 8 9 (.slice A1 (m + 1) c1) (by decide)).trans ((World.cell?_of_block (a := ⟨b, 9, none⟩) e1).trans c3)
  have z3 : W2.frozen? ⟨b, 9, none⟩ = false := by
    rw [hW2, World.frozen?_setCell]
    exact (World.frozen?_of_block (a := ⟨b, 9, none⟩) e1).trans f3
  have oY2 : Own kV 26 W2 B Y us := (unhide HY).same_block fun q hq => k2 q ((unhide HY).lt q hq).2 (fun e => by have := ((unhide HY).lt q hq).1; omega) fun e => (unhide H).sep q e hq
  have sL2 : Sl eSh W2 A n c L := by
    have h1 := (unhide Hv).same_block (w' := W2) fun q hq => k2 q ((unhide Hv).lt q hq).2 (fun e => by have := ((unhide Hv).lt q hq).1; omega) (by rw [kown_len AX m cX vs.length cX]; exact (unhide Hf q hq).1)
    exact ksl h1
  have Hg1 := hide hgr1
  have Hl1 := hide hloc1
  have Ho1 := hide hown1
  have HoY := hide oY2
  have HsL := hide (show Sl eSh W2.drew A n c L from sL2)
  have Hk2 := hide k2
  clear hgr1 hloc1 hown1 oY2 sL2 e1 k2
  go_wp2
  rw [← hW2]
  have HW2 := hide hW2
  clear hW2
  have s2 : B ≤ W2.heap.size := by omega
  have hbW : b < W2.heap.size := by omega
  go_region_law ((first | (go_simp; go_at_call 35; refine (kcopyS A n c L _ (unhide HsL) (by have := unhide Hnl; omega)).mono ?_; rintro e w4 ⟨A4, c4, rfl, ho4, HB4⟩; have y4 : w4.cell? ⟨b, 9, none⟩ = some Y := ((bcell HB4).1 b 9 hbW).trans y3; have hoY4 := hide ((unhide HoY).same_block (w' := w4) fun q hq => HB4.block q ((unhide HoY).lt q hq).2); have z4 : w4.heap[b]? = W2.heap[b]? := HB4.block b hbW; have q4 : (w4.alloc (.cells #[.slice A4 n c4] 26)).cell? ⟨b, 9, none⟩ = some Y := (World.cell?_alloc_lt _ _ _ (World.block_lt_of_cell? w4 ⟨b, 9, none⟩ y4)).trans y4; have Ho4 := hide ho4; have s4 : W2.heap.size ≤ w4.heap.size := HB4.size; have H4 := hide HB4; clear HB4 ho4) | (rw [if_pos (by rfl)]; refine wp_append_one kV _ _ _ rfl B 26 i1 (.slice none 0 0) 24 Tryz.underlying34 hj0 hj1 hj2 hj3 rfl (by decide) Y us rfl w4 (unhide hoY4) (.slice A4 n c4) #[.slice A4 n c4] rfl (by simp [Act.eval]) (kV_one _ rfl) (by unfold maxLen; omega) (by omega) (by omega) ?_; intro v5 w5 hown5 hgr5 hloc5; obtain ⟨A5, c5, hv5, _⟩ := hown5.sl; rw [List.length_append, List.length_singleton] at hv5; subst hv5; have e5 : w5.heap[b]? = w4.heap[b]? := (hgr5.block b (by rw [hal]; omega) fun e => unhide HbY e.symm).trans (Below.heap_alloc w4 _ b (by omega)); have y5 : w5.cell? ⟨b, 9, none⟩ = some Y := (World.cell?_of_block (a := ⟨b, 9, none⟩) e5).trans y4; have z5 : w5.frozen? ⟨b, 9, none⟩ = false := (World.frozen?_of_block (a := ⟨b, 9, none⟩) (e5.trans z4)).trans z3; have Ho5 := hide hown5; have Hg5 := hide hgr5; have Hl5 := hide hloc5; clear hown5 hgr5 hloc5 e5)))
  all_goals (
    have hW2 := unhide HW2
    subst hW2
    have b4 : Below w1.heap.size (w1.setCell ⟨b, 8, none⟩ (.slice A1 (m + 1) c1)).drew w4 := (unhide H4).mono (Nat.le_of_eq sW.symm)
    have o4 : Own eSh 56 w4 w1.heap.size (.slice A4 n c4) L := (unhide Ho4).lower (Nat.le_of_eq sW.symm)
    have hf : ∀ q, (Value.slice A n c).ownBlock = some q → (Value.slice AX m cX).ownBlock ≠ some q ∧ Y.ownBlock ≠ some q ∧ ∀ i (h : i < vs.length), vs[i].ownBlock ≠ some q := fun q hq => by
      rw [kown_len AX m cX vs.length cX]
      exact unhide Hf q hq
    have hr := hide (Kin.add (f := 8) (unhide Hblk) hlt hbw (unhide H) (unhide Hv) hf (unhide Ho1) (unhide Hg1) (unhide Hl1) b4 o4 (unhide Ho5) (unhide Hg5) (unhide Hl5))
    clear hf b4 o4
    go_end0
    exact ⟨rfl, _, _, _, unhide hr⟩)
end Go.Proofs.YtnpgjdhigcjihaaGreatDoor
