/- Joined texts: BkED, BkSD. -/
import Derived.Test.YtnpgjdhigcjihaaGreatDoorPP10
import Derived.StillTailTactics
/- Printed by gen_bk.py. The book, kind Extents: marks are put. -/
namespace Go.Proofs.YtnpgjdhigcjihaaGreatDoor
open Go.RowKit

def kstE (w : World) (g j : Nat) (x : Ext) : World := ((w.setCell ⟨g, j * 3, none⟩ (.int .i64 x.from_)).setCell ⟨g, j * 3 + 1, none⟩ (.int .i64 x.n)).setCell ⟨g, j * 3 + 2, none⟩ (.int .i64 x.id)
theorem kstoE (w : World) (g j : Nat) (x : Ext) (q : Nat) (hq : q ≠ g) : (kstE w g j x).heap[q]? = w.heap[q]? := (Below.heap_setCell _ ⟨g, j * 3 + 2, none⟩ _ q hq).trans ((Below.heap_setCell _ ⟨g, j * 3 + 1, none⟩ _ q hq).trans (Below.heap_setCell w ⟨g, j * 3, none⟩ _ q hq))
theorem kstsE (w : World) (g j : Nat) (x : Ext) : (kstE w g j x).heap.size = w.heap.size := by simp [kstE, World.setCell]
theorem ksetE {w : World} {e : TypeId} {base g n c j : Nat} {xs : List Ext} (h : Own eE e w base (.slice (some ⟨g, 0, none⟩) n c) xs) (hj : j < xs.length) (x : Ext) :
    Own eE e (kstE w g j x) base (.slice (some ⟨g, 0, none⟩) n c) (xs.set j x) := by
  have key : ∀ q, q < eE.sz → q = 0 ∨ q = 1 ∨ q = 2 := fun q hq => by have : q < 3 := hq; omega
  have h1 := Own.set h (i := j) hj (j := 0) (by decide) (.int .i64 x.from_) ⟨x.from_, xs[j].n, xs[j].id⟩ (fun q hq => by rcases key q hq with rfl | rfl | rfl <;> rfl)
  have l1 : j < (xs.set j ⟨x.from_, xs[j].n, xs[j].id⟩).length := by rw [List.length_set]; exact hj
  have h2 := Own.set h1 (i := j) l1 (j := 1) (by decide) (.int .i64 x.n) ⟨x.from_, x.n, xs[j].id⟩ (fun q hq => by rw [List.getElem_set_self]; rcases key q hq with rfl | rfl | rfl <;> rfl)
  rw [List.set_set] at h2
  have l2 : j < (xs.set j ⟨x.from_, x.n, xs[j].id⟩).length := by rw [List.length_set]; exact hj
  have h3 := Own.set h2 (i := j) l2 (j := 2) (by decide) (.int .i64 x.id) x (fun q hq => by rw [List.getElem_set_self]; rcases key q hq with rfl | rfl | rfl <;> rfl)
  rw [List.set_set] at h3
  exact h3
set_option maxHeartbeats 4000000 in
set_option maxRecDepth 100000 in
theorem kputE (b B : Nat) (X : Value) (vs : List Value) (Ls : List (List Ext)) (w : World) (c2 : w.cell? ⟨b, 6, none⟩ = some X) (hbB : b < B) (hBw : B ≤ w.heap.size) (hX : KRows eE 146 131 w B X vs Ls) (hn : Ls.length ≤ 1000) (hl : ∀ i, (Ls.getD i []).length ≤ 1000000) :
    Calls Tryz.prog 52 #[.pointer (some ⟨b, 0, none⟩)] w fun e w' => e = .returned (.tuple #[]) ∧ (∃ Ms, KRows eE 146 131 w' B X vs Ms ∧ KMarked mkE Ms ∧ Ms.length = Ls.length ∧ ∀ i, (Ms.getD i []).length = (Ls.getD i []).length) ∧ Chg (InnB vs) w w' := by
  have HX := hide hX
  have Hl := hide hl
  obtain ⟨AX, cX, eX, sX, _⟩ := hX.outer.sl
  subst eX
  have hvl := hX.n
  have bx1 := sX.2.1
  have bx2 := sX.2.2.1
  have hIB : ∀ q, InnB vs q → B ≤ q := fun q ⟨i, hi, hq⟩ => ((hX.inner i hi (by omega)).lt q hq).1
  have HIB := hide hIB
  obtain ⟨m, hm⟩ : ∃ m, m = vs.length := ⟨_, rfl⟩
  have hmL : m ≤ 1000 := by omega
  rw [← hm] at c2 bx1 HX ⊢
  have Hm := hide hm
  have Hvl := hide hvl
  clear hX hl sX hvl hm hIB
  go_enter Tryz.func52, Tryz.ntmps52
  go_wp2_with fail
  go_loopw [2] (fun i wr => ∃ (k : Nat) (Ms : List (List Ext)), k ≤ m ∧ i = .int .i64 k ∧ KPut mkE Ls Ms k 0 ∧ KRows eE 146 131 wr B (.slice AX m cX) vs Ms ∧ Chg (InnB vs) w wr) (fun i _ => m - (intOf i).toNat)
  case atStart => exact ⟨0, Ls, Nat.zero_le _, rfl, KPut.start Ls, unhide HX, Chg.refl _ _⟩
  case round =>
    obtain ⟨k, Ms, hk, rfl, hP, hR, HC⟩ := hrel
    have HB : Below B w wr := HC.to_below hBw (unhide HIB)
    have d2 := ((bcell HB).1 b 6 hbB).trans c2
    have sr := HB.size
    have HP := hide hP
    have HR := hide hR
    have HCh := hide HC
    clear hP hR HX HC
    by_cases hlt : k < m
    · have hkv : k < vs.length := by have := unhide Hm; omega
      have hkM : k < Ms.length := by have := (unhide HR).n; omega
      obtain ⟨A', c', hX', hsX, _⟩ := (unhide HR).outer.sl
      have hvm : vs.length = m := (unhide Hm).symm
      rw [hvm] at hX'
      injection hX' with e1 e2 e3
      subst e1 e3
      obtain ⟨gx, ox, ex, lx, rx⟩ := hsX.2.2.2 (by omega)
      subst ex
      obtain ⟨A, c, hvk, hslk, _⟩ := ((unhide HR).inner k hkv hkM).sl
      have x1 : wr.cell? ⟨gx, ox + k, none⟩ = some (.slice A Ms[k].length c) := by rw [← hvk]; simpa [kV] using rx k hkv 0 (by decide)
      obtain ⟨n, hnn⟩ : ∃ n, n = Ms[k].length := ⟨_, rfl⟩
      have hnL : n = (Ls.getD k []).length := by rw [hnn, ← (unhide HP).2.1 k, kgetD_at hkM]
      have hn6 : n ≤ 1000000 := by rw [hnL]; exact unhide Hl k
      rw [← hnn] at x1 hvk hslk
      have bn1 := hslk.2.1
      have bn2 := hslk.2.2.1
      have Hvk := hide hvk
      have HnL := hide hnL
      have HnM := hide hnn
      have Hslk := hide hslk
      clear hsX rx hvk hslk hnL hnn hvm
      go_wp2_with fail
      refine (kmarkE k 0 n _ (by omega) (by omega) hn6).mono ?_
      rintro e w5 ⟨A5, c5, rfl, ho5, HB5⟩
      have s5 := HB5.size
      have d5 := ((bcell HB5).1 b 6 (by omega)).trans d2
      have y1 := ((bcell HB5).1 gx (ox + k) lx).trans x1
      have HC5 := hide ((unhide HCh).trans (Chg.of_below HB5))
      have HR5 := hide ((unhide HR).below HB5)
      have ho5' : Own eE 146 w5 wr.heap.size (.slice A5 n c5) (mks mkE k 0 n) := ho5
      have HO5 := hide ho5'
      have hgl : ∀ q, (vs[k]'hkv).ownBlock = some q → q < wr.heap.size := fun q hq => (((unhide HR).inner k hkv hkM).lt q hq).2
      have Hgl := hide hgl
      have hxv : gx < wr.heap.size := lx
      have hXk : ∀ q, (vs[k]'hkv).ownBlock = some q → (Value.slice (some ⟨gx, ox, none⟩) m cX).ownBlock ≠ some q := fun q hq => (unhide HR).apart k hkv q hq
      have HXk := hide hXk
      clear hXk x1 HB HB5 ho5 ho5' hgl HR
      obtain ⟨wo, rfl⟩ : ∃ wo, wo = wr := ⟨_, rfl⟩
      go_wp2_with fail
      go_loopw [4] (fun j wr2 => ∃ (j' : Nat) (Ms2 : List (List Ext)), j' ≤ n ∧ j = .int .i64 j' ∧ KPut mkE Ls Ms2 k j' ∧ KRows eE 146 131 wr2 B (.slice (some ⟨gx, ox, none⟩) m cX) vs Ms2 ∧ Own eE 146 wr2 wo.heap.size (.slice A5 n c5) (mks mkE k 0 n) ∧ Chg (InnB vs) w wr2 ∧ w5.heap.size ≤ wr2.heap.size ∧ wr2.cell? ⟨gx, ox + k, none⟩ = some (.slice A n c)) (fun j _ => n - (intOf j).toNat)
      case atStart => exact ⟨0, Ms, Nat.zero_le _, rfl, unhide HP, unhide HR5, unhide HO5, unhide HC5, Nat.le_refl _, y1⟩
      case round =>
        obtain ⟨j, Ms2, hj, rfl, hP2, hR2, hO2, HC2, s2, z1⟩ := hrel
        have z2 := ((bcell (HC2.to_below hBw (unhide HIB))).1 b 6 hbB).trans c2
        have hkM2 : k < Ms2.length := by have := hR2.n; omega
        have hnM2 : Ms2[k].length = n := by rw [unhide HnL, ← hP2.2.1 k, kgetD_at hkM2]
        by_cases hlt2 : j < n
        · have ho := hR2.inner k hkv hkM2
          rcases ho.shape with ⟨_, h0⟩ | ⟨g, cap, hvv, hg1, hg2, hcap, hcm⟩
          · rw [h0] at hnM2; simp at hnM2; omega
          · have hA : A = some ⟨g, 0, none⟩ ∧ c = cap := by
              have := (unhide Hvk).symm.trans hvv
              injection this with h1 h2 h3
              exact ⟨h1, h3⟩
            obtain ⟨hA, hcc⟩ := hA
            subst hA hcc
            rw [hvv] at ho
            have f0 := ho.frozen
            have f1 := f0 (j * 3)
            have f2 := f0 (j * 3 + 1)
            have f3 := f0 (j * 3 + 2)
            obtain ⟨y0, c0'⟩ : ∃ y, wr.cell? ⟨g, j * 3, none⟩ = some (.int .i64 y) := ⟨((Ms2[k]'hkM2)[j]'(by rw [hnM2]; exact hlt2)).from_, by simpa [eE] using ho.cell (i := j) (j := 0) (by rw [hnM2]; exact hlt2) (by decide)⟩
            obtain ⟨y1, c1'⟩ : ∃ y, wr.cell? ⟨g, j * 3 + 1, none⟩ = some (.int .i64 y) := ⟨((Ms2[k]'hkM2)[j]'(by rw [hnM2]; exact hlt2)).n, by simpa [eE] using ho.cell (i := j) (j := 1) (by rw [hnM2]; exact hlt2) (by decide)⟩
            obtain ⟨y2, c2'⟩ : ∃ y, wr.cell? ⟨g, j * 3 + 2, none⟩ = some (.int .i64 y) := ⟨((Ms2[k]'hkM2)[j]'(by rw [hnM2]; exact hlt2)).id, by simpa [eE] using ho.cell (i := j) (j := 2) (by rw [hnM2]; exact hlt2) (by decide)⟩
            rcases hO2.shape with ⟨_, h0⟩ | ⟨g5, cap5, hv5, hg51, hg52, _, _⟩
            · have := congrArg List.length h0
              rw [mks_len] at this; simp at this; omega
            · injection hv5 with h51 h52 h53
              subst h51 h53
              clear h52
              have m0 : wr.cell? ⟨g5, j * 3, none⟩ = some (.int .i64 (mkE k ((0 : Nat) + (j : Int))).from_) := by
                have := hO2.cell (i := j) (j := 0) (by rw [mks_len]; exact hlt2) (by decide)
                simpa [eE, mks] using this
              have m1 : wr.cell? ⟨g5, j * 3 + 1, none⟩ = some (.int .i64 (mkE k ((0 : Nat) + (j : Int))).n) := by
                have := hO2.cell (i := j) (j := 1) (by rw [mks_len]; exact hlt2) (by decide)
                simpa [eE, mks] using this
              have m2 : wr.cell? ⟨g5, j * 3 + 2, none⟩ = some (.int .i64 (mkE k ((0 : Nat) + (j : Int))).id) := by
                have := hO2.cell (i := j) (j := 2) (by rw [mks_len]; exact hlt2) (by decide)
                simpa [eE, mks] using this
              obtain ⟨yn, hyn⟩ : ∃ y, y = mkE k ((0 : Nat) + (j : Int)) := ⟨_, rfl⟩
              have hstep := (hP2.step hkM2 (by rw [hnM2]; exact hlt2))
              have hvv' : vs[k]'hkv = .slice (some ⟨g, 0, none⟩) n c := unhide Hvk
              have hgv : (vs[k]'hkv).ownBlock = some g := by rw [hvv']; rfl
              have hgw := unhide Hgl g hgv
              have hst := hR2.store hkv hkM2 hgv (fun q hq => kstoE wr g j (mkE k ((0 : Nat) + (j : Int))) q hq) (by
                have := ksetE (hR2.inner k hkv hkM2 |> fun h => by rw [hvv'] at h; exact h) (by rw [hnM2]; exact hlt2) (mkE k ((0 : Nat) + (j : Int)))
                rw [hvv']; exact this)
              have hO3 := (hO2.same_block (w' := kstE wr g j (mkE k ((0 : Nat) + (j : Int)))) fun q hq => kstoE wr g j _ q fun e => by
                have := (hO2.lt q hq).1
                omega)
              have hxg : gx ≠ g := fun e => unhide HXk g hgv (by rw [e]; rfl)
              have hz9 : (kstE wr g j (mkE k ((0 : Nat) + (j : Int)))).drew.cell? ⟨gx, ox + k, none⟩ = some (.slice (some ⟨g, 0, none⟩) n c) := (World.cell?_of_block (a := ⟨gx, ox + k, none⟩) (kstoE wr g j _ gx hxg)).trans z1
              have hgB : B ≤ g := (hR2.inner k hkv hkM2).lt g hgv |>.1
              rw [← hyn] at m0 m1 m2 hstep hst hO3 hz9; obtain ⟨yn0, yn1, yn2⟩ := yn; dsimp only at m0 m1 m2
              have hC9 := hide ((show Chg (InnB vs) w (kstE wr g j ⟨yn0, yn1, yn2⟩).drew from HC2.trans ⟨rfl, rfl, rfl, Nat.le_of_eq (kstsE wr g j _).symm, fun q _ hq => kstoE wr g j _ q fun e => hq ⟨k, hkv, e ▸ hgv⟩⟩))
              have hs9 : w5.heap.size ≤ (kstE wr g j ⟨yn0, yn1, yn2⟩).drew.heap.size := by
                rw [show (kstE wr g j ⟨yn0, yn1, yn2⟩).drew.heap.size = (kstE wr g j ⟨yn0, yn1, yn2⟩).heap.size from rfl, kstsE]; exact s2
              have Hstep := hide hstep
              have Hst := hide hst
              have HO3 := hide hO3
              clear hP2 hR2 hO2 ho hvv hvv' hgv hnM2 hyn hstep hst hO3 f0 
              go_wp2_with fail
              go_still_tail 12, (by kernel_rfl)
              change wpList _ _ _ _ _ wr.drew
              go_wp2_with fail
              go_roundw
              case rel => exact ⟨j + 1, _, by omega, by go_num, unhide Hstep, (unhide Hst).drew, (unhide HO3).same_block fun _ _ => rfl, unhide hC9, hs9, hz9⟩
              case measure => simp [intOf]; omega
        · have hnx := hide (hP2.next hkM2 (by rw [hnM2]; exact hlt2))
          have hR2h := hide hR2
          clear hP2 hR2 hO2 hnM2
          go_wp2
          go_roundw
          case rel => exact ⟨k + 1, Ms2, by omega, by go_num, unhide hnx, unhide hR2h, HC2⟩
          case measure => simp [intOf]; omega
    · have hd := (unhide HP)
      have hkm : k = Ls.length := by have := unhide Hm; have := unhide Hvl; omega
      subst hkm
      have Hd := hide (hd.done rfl)
      clear hd
      go_wp2
      go_end0
      exact ⟨rfl, ⟨Ms, unhide HR, unhide Hd⟩, unhide HCh⟩
end Go.Proofs.YtnpgjdhigcjihaaGreatDoor
/- Printed by gen_bk.py. The book, kind Shelves: marks are put. -/
namespace Go.Proofs.YtnpgjdhigcjihaaGreatDoor
open Go.RowKit

def kstS (w : World) (g j : Nat) (x : Shv) : World := ((w.setCell ⟨g, j * 3, none⟩ (.int .i64 x.id)).setCell ⟨g, j * 3 + 1, none⟩ (.int .i64 x.refs)).setCell ⟨g, j * 3 + 2, none⟩ (.string x.bytes)
theorem kstoS (w : World) (g j : Nat) (x : Shv) (q : Nat) (hq : q ≠ g) : (kstS w g j x).heap[q]? = w.heap[q]? := (Below.heap_setCell _ ⟨g, j * 3 + 2, none⟩ _ q hq).trans ((Below.heap_setCell _ ⟨g, j * 3 + 1, none⟩ _ q hq).trans (Below.heap_setCell w ⟨g, j * 3, none⟩ _ q hq))
theorem kstsS (w : World) (g j : Nat) (x : Shv) : (kstS w g j x).heap.size = w.heap.size := by simp [kstS, World.setCell]
theorem ksetS {w : World} {e : TypeId} {base g n c j : Nat} {xs : List Shv} (h : Own eSh e w base (.slice (some ⟨g, 0, none⟩) n c) xs) (hj : j < xs.length) (x : Shv) :
    Own eSh e (kstS w g j x) base (.slice (some ⟨g, 0, none⟩) n c) (xs.set j x) := by
  have key : ∀ q, q < eSh.sz → q = 0 ∨ q = 1 ∨ q = 2 := fun q hq => by have : q < 3 := hq; omega
  have h1 := Own.set h (i := j) hj (j := 0) (by decide) (.int .i64 x.id) ⟨x.id, xs[j].refs, xs[j].bytes⟩ (fun q hq => by rcases key q hq with rfl | rfl | rfl <;> rfl)
  have l1 : j < (xs.set j ⟨x.id, xs[j].refs, xs[j].bytes⟩).length := by rw [List.length_set]; exact hj
  have h2 := Own.set h1 (i := j) l1 (j := 1) (by decide) (.int .i64 x.refs) ⟨x.id, x.refs, xs[j].bytes⟩ (fun q hq => by rw [List.getElem_set_self]; rcases key q hq with rfl | rfl | rfl <;> rfl)
  rw [List.set_set] at h2
  have l2 : j < (xs.set j ⟨x.id, x.refs, xs[j].bytes⟩).length := by rw [List.length_set]; exact hj
  have h3 := Own.set h2 (i := j) l2 (j := 2) (by decide) (.string x.bytes) x (fun q hq => by rw [List.getElem_set_self]; rcases key q hq with rfl | rfl | rfl <;> rfl)
  rw [List.set_set] at h3
  exact h3
set_option maxHeartbeats 4000000 in
set_option maxRecDepth 100000 in
theorem kputS (b B : Nat) (X : Value) (vs : List Value) (Ls : List (List Shv)) (w : World) (c2 : w.cell? ⟨b, 8, none⟩ = some X) (hbB : b < B) (hBw : B ≤ w.heap.size) (hX : KRows eSh 56 26 w B X vs Ls) (hn : Ls.length ≤ 1000) (hl : ∀ i, (Ls.getD i []).length ≤ 1000000) :
    Calls Tryz.prog 53 #[.pointer (some ⟨b, 0, none⟩)] w fun e w' => e = .returned (.tuple #[]) ∧ (∃ Ms, KRows eSh 56 26 w' B X vs Ms ∧ KMarked mkS Ms ∧ Ms.length = Ls.length ∧ ∀ i, (Ms.getD i []).length = (Ls.getD i []).length) ∧ Chg (InnB vs) w w' := by
  have HX := hide hX
  have Hl := hide hl
  obtain ⟨AX, cX, eX, sX, _⟩ := hX.outer.sl
  subst eX
  have hvl := hX.n
  have bx1 := sX.2.1
  have bx2 := sX.2.2.1
  have hIB : ∀ q, InnB vs q → B ≤ q := fun q ⟨i, hi, hq⟩ => ((hX.inner i hi (by omega)).lt q hq).1
  have HIB := hide hIB
  obtain ⟨m, hm⟩ : ∃ m, m = vs.length := ⟨_, rfl⟩
  have hmL : m ≤ 1000 := by omega
  rw [← hm] at c2 bx1 HX ⊢
  have Hm := hide hm
  have Hvl := hide hvl
  clear hX hl sX hvl hm hIB
  go_enter Tryz.func53, Tryz.ntmps53
  go_wp2_with fail
  go_loopw [2] (fun i wr => ∃ (k : Nat) (Ms : List (List Shv)), k ≤ m ∧ i = .int .i64 k ∧ KPut mkS Ls Ms k 0 ∧ KRows eSh 56 26 wr B (.slice AX m cX) vs Ms ∧ Chg (InnB vs) w wr) (fun i _ => m - (intOf i).toNat)
  case atStart => exact ⟨0, Ls, Nat.zero_le _, rfl, KPut.start Ls, unhide HX, Chg.refl _ _⟩
  case round =>
    obtain ⟨k, Ms, hk, rfl, hP, hR, HC⟩ := hrel
    have HB : Below B w wr := HC.to_below hBw (unhide HIB)
    have d2 := ((bcell HB).1 b 8 hbB).trans c2
    have sr := HB.size
    have HP := hide hP
    have HR := hide hR
    have HCh := hide HC
    clear hP hR HX HC
    by_cases hlt : k < m
    · have hkv : k < vs.length := by have := unhide Hm; omega
      have hkM : k < Ms.length := by have := (unhide HR).n; omega
      obtain ⟨A', c', hX', hsX, _⟩ := (unhide HR).outer.sl
      have hvm : vs.length = m := (unhide Hm).symm
      rw [hvm] at hX'
      injection hX' with e1 e2 e3
      subst e1 e3
      obtain ⟨gx, ox, ex, lx, rx⟩ := hsX.2.2.2 (by omega)
      subst ex
      obtain ⟨A, c, hvk, hslk, _⟩ := ((unhide HR).inner k hkv hkM).sl
      have x1 : wr.cell? ⟨gx, ox + k, none⟩ = some (.slice A Ms[k].length c) := by rw [← hvk]; simpa [kV] using rx k hkv 0 (by decide)
      obtain ⟨n, hnn⟩ : ∃ n, n = Ms[k].length := ⟨_, rfl⟩
      have hnL : n = (Ls.getD k []).length := by rw [hnn, ← (unhide HP).2.1 k, kgetD_at hkM]
      have hn6 : n ≤ 1000000 := by rw [hnL]; exact unhide Hl k
      rw [← hnn] at x1 hvk hslk
      have bn1 := hslk.2.1
      have bn2 := hslk.2.2.1
      have Hvk := hide hvk
      have HnL := hide hnL
      have HnM := hide hnn
      have Hslk := hide hslk
      clear hsX rx hvk hslk hnL hnn hvm
      go_wp2_with fail
      refine (kmarkS k 0 n _ (by omega) (by omega) hn6).mono ?_
      rintro e w5 ⟨A5, c5, rfl, ho5, HB5⟩
      have s5 := HB5.size
      have d5 := ((bcell HB5).1 b 8 (by omega)).trans d2
      have y1 := ((bcell HB5).1 gx (ox + k) lx).trans x1
      have HC5 := hide ((unhide HCh).trans (Chg.of_below HB5))
      have HR5 := hide ((unhide HR).below HB5)
      have ho5' : Own eSh 56 w5 wr.heap.size (.slice A5 n c5) (mks mkS k 0 n) := ho5
      have HO5 := hide ho5'
      have hgl : ∀ q, (vs[k]'hkv).ownBlock = some q → q < wr.heap.size := fun q hq => (((unhide HR).inner k hkv hkM).lt q hq).2
      have Hgl := hide hgl
      have hxv : gx < wr.heap.size := lx
      have hXk : ∀ q, (vs[k]'hkv).ownBlock = some q → (Value.slice (some ⟨gx, ox, none⟩) m cX).ownBlock ≠ some q := fun q hq => (unhide HR).apart k hkv q hq
      have HXk := hide hXk
      clear hXk x1 HB HB5 ho5 ho5' hgl HR
      obtain ⟨wo, rfl⟩ : ∃ wo, wo = wr := ⟨_, rfl⟩
      go_wp2_with fail
      go_loopw [4] (fun j wr2 => ∃ (j' : Nat) (Ms2 : List (List Shv)), j' ≤ n ∧ j = .int .i64 j' ∧ KPut mkS Ls Ms2 k j' ∧ KRows eSh 56 26 wr2 B (.slice (some ⟨gx, ox, none⟩) m cX) vs Ms2 ∧ Own eSh 56 wr2 wo.heap.size (.slice A5 n c5) (mks mkS k 0 n) ∧ Chg (InnB vs) w wr2 ∧ w5.heap.size ≤ wr2.heap.size ∧ wr2.cell? ⟨gx, ox + k, none⟩ = some (.slice A n c)) (fun j _ => n - (intOf j).toNat)
      case atStart => exact ⟨0, Ms, Nat.zero_le _, rfl, unhide HP, unhide HR5, unhide HO5, unhide HC5, Nat.le_refl _, y1⟩
      case round =>
        obtain ⟨j, Ms2, hj, rfl, hP2, hR2, hO2, HC2, s2, z1⟩ := hrel
        have z2 := ((bcell (HC2.to_below hBw (unhide HIB))).1 b 8 hbB).trans c2
        have hkM2 : k < Ms2.length := by have := hR2.n; omega
        have hnM2 : Ms2[k].length = n := by rw [unhide HnL, ← hP2.2.1 k, kgetD_at hkM2]
        by_cases hlt2 : j < n
        · have ho := hR2.inner k hkv hkM2
          rcases ho.shape with ⟨_, h0⟩ | ⟨g, cap, hvv, hg1, hg2, hcap, hcm⟩
          · rw [h0] at hnM2; simp at hnM2; omega
          · have hA : A = some ⟨g, 0, none⟩ ∧ c = cap := by
              have := (unhide Hvk).symm.trans hvv
              injection this with h1 h2 h3
              exact ⟨h1, h3⟩
            obtain ⟨hA, hcc⟩ := hA
            subst hA hcc
            rw [hvv] at ho
            have f0 := ho.frozen
            have f1 := f0 (j * 3)
            have f2 := f0 (j * 3 + 1)
            have f3 := f0 (j * 3 + 2)
            obtain ⟨y0, c0'⟩ : ∃ y, wr.cell? ⟨g, j * 3, none⟩ = some (.int .i64 y) := ⟨((Ms2[k]'hkM2)[j]'(by rw [hnM2]; exact hlt2)).id, by simpa [eSh] using ho.cell (i := j) (j := 0) (by rw [hnM2]; exact hlt2) (by decide)⟩
            obtain ⟨y1, c1'⟩ : ∃ y, wr.cell? ⟨g, j * 3 + 1, none⟩ = some (.int .i64 y) := ⟨((Ms2[k]'hkM2)[j]'(by rw [hnM2]; exact hlt2)).refs, by simpa [eSh] using ho.cell (i := j) (j := 1) (by rw [hnM2]; exact hlt2) (by decide)⟩
            obtain ⟨y2, c2'⟩ : ∃ y, wr.cell? ⟨g, j * 3 + 2, none⟩ = some (.string y) := ⟨((Ms2[k]'hkM2)[j]'(by rw [hnM2]; exact hlt2)).bytes, by simpa [eSh] using ho.cell (i := j) (j := 2) (by rw [hnM2]; exact hlt2) (by decide)⟩
            rcases hO2.shape with ⟨_, h0⟩ | ⟨g5, cap5, hv5, hg51, hg52, _, _⟩
            · have := congrArg List.length h0
              rw [mks_len] at this; simp at this; omega
            · injection hv5 with h51 h52 h53
              subst h51 h53
              clear h52
              have m0 : wr.cell? ⟨g5, j * 3, none⟩ = some (.int .i64 (mkS k ((0 : Nat) + (j : Int))).id) := by
                have := hO2.cell (i := j) (j := 0) (by rw [mks_len]; exact hlt2) (by decide)
                simpa [eSh, mks] using this
              have m1 : wr.cell? ⟨g5, j * 3 + 1, none⟩ = some (.int .i64 (mkS k ((0 : Nat) + (j : Int))).refs) := by
                have := hO2.cell (i := j) (j := 1) (by rw [mks_len]; exact hlt2) (by decide)
                simpa [eSh, mks] using this
              have m2 : wr.cell? ⟨g5, j * 3 + 2, none⟩ = some (.string (mkS k ((0 : Nat) + (j : Int))).bytes) := by
                have := hO2.cell (i := j) (j := 2) (by rw [mks_len]; exact hlt2) (by decide)
                simpa [eSh, mks] using this
              obtain ⟨yn, hyn⟩ : ∃ y, y = mkS k ((0 : Nat) + (j : Int)) := ⟨_, rfl⟩
              have hstep := (hP2.step hkM2 (by rw [hnM2]; exact hlt2))
              have hvv' : vs[k]'hkv = .slice (some ⟨g, 0, none⟩) n c := unhide Hvk
              have hgv : (vs[k]'hkv).ownBlock = some g := by rw [hvv']; rfl
              have hgw := unhide Hgl g hgv
              have hst := hR2.store hkv hkM2 hgv (fun q hq => kstoS wr g j (mkS k ((0 : Nat) + (j : Int))) q hq) (by
                have := ksetS (hR2.inner k hkv hkM2 |> fun h => by rw [hvv'] at h; exact h) (by rw [hnM2]; exact hlt2) (mkS k ((0 : Nat) + (j : Int)))
                rw [hvv']; exact this)
              have hO3 := (hO2.same_block (w' := kstS wr g j (mkS k ((0 : Nat) + (j : Int)))) fun q hq => kstoS wr g j _ q fun e => by
                have := (hO2.lt q hq).1
                omega)
              have hxg : gx ≠ g := fun e => unhide HXk g hgv (by rw [e]; rfl)
              have hz9 : (kstS wr g j (mkS k ((0 : Nat) + (j : Int)))).drew.cell? ⟨gx, ox + k, none⟩ = some (.slice (some ⟨g, 0, none⟩) n c) := (World.cell?_of_block (a := ⟨gx, ox + k, none⟩) (kstoS wr g j _ gx hxg)).trans z1
              have hgB : B ≤ g := (hR2.inner k hkv hkM2).lt g hgv |>.1
              rw [← hyn] at m0 m1 m2 hstep hst hO3 hz9; obtain ⟨yn0, yn1, yn2⟩ := yn; dsimp only at m0 m1 m2
              have hC9 := hide ((show Chg (InnB vs) w (kstS wr g j ⟨yn0, yn1, yn2⟩).drew from HC2.trans ⟨rfl, rfl, rfl, Nat.le_of_eq (kstsS wr g j _).symm, fun q _ hq => kstoS wr g j _ q fun e => hq ⟨k, hkv, e ▸ hgv⟩⟩))
              have hs9 : w5.heap.size ≤ (kstS wr g j ⟨yn0, yn1, yn2⟩).drew.heap.size := by
                rw [show (kstS wr g j ⟨yn0, yn1, yn2⟩).drew.heap.size = (kstS wr g j ⟨yn0, yn1, yn2⟩).heap.size from rfl, kstsS]; exact s2
              have Hstep := hide hstep
              have Hst := hide hst
              have HO3 := hide hO3
              clear hP2 hR2 hO2 ho hvv hvv' hgv hnM2 hyn hstep hst hO3 f0 
              go_wp2_with fail
              go_still_tail 12, (by kernel_rfl)
              change wpList _ _ _ _ _ wr.drew
              go_wp2_with fail
              go_roundw
              case rel => exact ⟨j + 1, _, by omega, by go_num, unhide Hstep, (unhide Hst).drew, (unhide HO3).same_block fun _ _ => rfl, unhide hC9, hs9, hz9⟩
              case measure => simp [intOf]; omega
        · have hnx := hide (hP2.next hkM2 (by rw [hnM2]; exact hlt2))
          have hR2h := hide hR2
          clear hP2 hR2 hO2 hnM2
          go_wp2
          go_roundw
          case rel => exact ⟨k + 1, Ms2, by omega, by go_num, unhide hnx, unhide hR2h, HC2⟩
          case measure => simp [intOf]; omega
    · have hd := (unhide HP)
      have hkm : k = Ls.length := by have := unhide Hm; have := unhide Hvl; omega
      subst hkm
      have Hd := hide (hd.done rfl)
      clear hd
      go_wp2
      go_end0
      exact ⟨rfl, ⟨Ms, unhide HR, unhide Hd⟩, unhide HCh⟩
end Go.Proofs.YtnpgjdhigcjihaaGreatDoor
