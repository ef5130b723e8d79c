/- Joined texts: BkID. -/
import Derived.Test.YtnpgjdhigcjihaaGreatDoorPP22
import Derived.StillTailTactics
/- Printed by gen_bk.py. The book, kind Ints: marks are put. -/
namespace Go.Proofs.YtnpgjdhigcjihaaGreatDoor
open Go.RowKit

def kstI (w : World) (g j : Nat) (x : Int) : World := w.setCell ⟨g, j, none⟩ (.int .i64 x)
theorem kstoI (w : World) (g j : Nat) (x : Int) (q : Nat) (hq : q ≠ g) : (kstI w g j x).heap[q]? = w.heap[q]? := Below.heap_setCell w ⟨g, j, none⟩ _ q hq
theorem kstsI (w : World) (g j : Nat) (x : Int) : (kstI w g j x).heap.size = w.heap.size := by simp [kstI, World.setCell]
theorem ksetI {w : World} {e : TypeId} {base g n c j : Nat} {xs : List Int} (h : Own eI e w base (.slice (some ⟨g, 0, none⟩) n c) xs) (hj : j < xs.length) (x : Int) :
    Own eI e (kstI w g j x) base (.slice (some ⟨g, 0, none⟩) n c) (xs.set j x) := by
  have := Own.set h (i := j) hj (j := 0) (by decide) (.int .i64 x) x (fun q hq => by
    have : q = 0 := by have : q < 1 := hq; omega
    subst this; rfl)
  simpa [eI, kstI] using this
set_option maxHeartbeats 4000000 in
set_option maxRecDepth 100000 in
theorem kputI (b B : Nat) (X : Value) (vs : List Value) (Ls : List (List Int)) (w : World) (c2 : w.cell? ⟨b, 2, none⟩ = some X) (hbB : b < B) (hBw : B ≤ w.heap.size) (hX : KRows eI 3 73 w B X vs Ls) (hn : Ls.length ≤ 1000) (hl : ∀ i, (Ls.getD i []).length ≤ 1000000) :
    Calls Tryz.prog 50 #[.pointer (some ⟨b, 0, none⟩)] w fun e w' => e = .returned (.tuple #[]) ∧ (∃ Ms, KRows eI 3 73 w' B X vs Ms ∧ KMarked mkI Ms ∧ Ms.length = Ls.length ∧ ∀ i, (Ms.getD i []).length = (Ls.getD i []).length) ∧ Chg (InnB vs) w w' := by
  have HX := hide hX
  have Hl := hide hl
  obtain ⟨AX, cX, eX, sX, _⟩ := hX.outer.sl
  subst eX
  have hvl := hX.n
  have bx1 := sX.2.1
  have bx2 := sX.2.2.1
  have hIB : ∀ q, InnB vs q → B ≤ q := fun q ⟨i, hi, hq⟩ => ((hX.inner i hi (by omega)).lt q hq).1
  have HIB := hide hIB
  obtain ⟨m, hm⟩ : ∃ m, m = vs.length := ⟨_, rfl⟩
  have hmL : m ≤ 1000 := by omega
  rw [← hm] at c2 bx1 HX ⊢
  have Hm := hide hm
  have Hvl := hide hvl
  clear hX hl sX hvl hm hIB
  go_enter Tryz.func50, Tryz.ntmps50
  go_wp2_with fail
  go_loopw [2] (fun i wr => ∃ (k : Nat) (Ms : List (List Int)), k ≤ m ∧ i = .int .i64 k ∧ KPut mkI Ls Ms k 0 ∧ KRows eI 3 73 wr B (.slice AX m cX) vs Ms ∧ Chg (InnB vs) w wr) (fun i _ => m - (intOf i).toNat)
  case atStart => exact ⟨0, Ls, Nat.zero_le _, rfl, KPut.start Ls, unhide HX, Chg.refl _ _⟩
  case round =>
    obtain ⟨k, Ms, hk, rfl, hP, hR, HC⟩ := hrel
    have HB : Below B w wr := HC.to_below hBw (unhide HIB)
    have d2 := ((bcell HB).1 b 2 hbB).trans c2
    have sr := HB.size
    have HP := hide hP
    have HR := hide hR
    have HCh := hide HC
    clear hP hR HX HC
    by_cases hlt : k < m
    · have hkv : k < vs.length := by have := unhide Hm; omega
      have hkM : k < Ms.length := by have := (unhide HR).n; omega
      obtain ⟨A', c', hX', hsX, _⟩ := (unhide HR).outer.sl
      have hvm : vs.length = m := (unhide Hm).symm
      rw [hvm] at hX'
      injection hX' with e1 e2 e3
      subst e1 e3
      obtain ⟨gx, ox, ex, lx, rx⟩ := hsX.2.2.2 (by omega)
      subst ex
      obtain ⟨A, c, hvk, hslk, _⟩ := ((unhide HR).inner k hkv hkM).sl
      have x1 : wr.cell? ⟨gx, ox + k, none⟩ = some (.slice A Ms[k].length c) := by rw [← hvk]; simpa [kV] using rx k hkv 0 (by decide)
      obtain ⟨n, hnn⟩ : ∃ n, n = Ms[k].length := ⟨_, rfl⟩
      have hnL : n = (Ls.getD k []).length := by rw [hnn, ← (unhide HP).2.1 k, kgetD_at hkM]
      have hn6 : n ≤ 1000000 := by rw [hnL]; exact unhide Hl k
      rw [← hnn] at x1 hvk hslk
      have bn1 := hslk.2.1
      have bn2 := hslk.2.2.1
      have Hvk := hide hvk
      have HnL := hide hnL
      have HnM := hide hnn
      have Hslk := hide hslk
      clear hsX rx hvk hslk hnL hnn hvm
      go_wp2_with fail
      refine (kmarkI k 0 n _ (by omega) (by omega) hn6).mono ?_
      rintro e w5 ⟨A5, c5, rfl, ho5, HB5⟩
      have s5 := HB5.size
      have d5 := ((bcell HB5).1 b 2 (by omega)).trans d2
      have y1 := ((bcell HB5).1 gx (ox + k) lx).trans x1
      have HC5 := hide ((unhide HCh).trans (Chg.of_below HB5))
      have HR5 := hide ((unhide HR).below HB5)
      have ho5' : Own eI 3 w5 wr.heap.size (.slice A5 n c5) (mks mkI k 0 n) := ho5
      have HO5 := hide ho5'
      have hgl : ∀ q, (vs[k]'hkv).ownBlock = some q → q < wr.heap.size := fun q hq => (((unhide HR).inner k hkv hkM).lt q hq).2
      have Hgl := hide hgl
      have hxv : gx < wr.heap.size := lx
      have hXk : ∀ q, (vs[k]'hkv).ownBlock = some q → (Value.slice (some ⟨gx, ox, none⟩) m cX).ownBlock ≠ some q := fun q hq => (unhide HR).apart k hkv q hq
      have HXk := hide hXk
      clear hXk x1 HB HB5 ho5 ho5' hgl HR
      obtain ⟨wo, rfl⟩ : ∃ wo, wo = wr := ⟨_, rfl⟩
      go_wp2_with fail
      go_loopw [4] (fun j wr2 => ∃ (j' : Nat) (Ms2 : List (List Int)), j' ≤ n ∧ j = .int .i64 j' ∧ KPut mkI Ls Ms2 k j' ∧ KRows eI 3 73 wr2 B (.slice (some ⟨gx, ox, none⟩) m cX) vs Ms2 ∧ Own eI 3 wr2 wo.heap.size (.slice A5 n c5) (mks mkI k 0 n) ∧ Chg (InnB vs) w wr2 ∧ w5.heap.size ≤ wr2.heap.size ∧ wr2.cell? ⟨gx, ox + k, none⟩ = some (.slice A n c)) (fun j _ => n - (intOf j).toNat)
      case atStart => exact ⟨0, Ms, Nat.zero_le _, rfl, unhide HP, unhide HR5, unhide HO5, unhide HC5, Nat.le_refl _, y1⟩
      case round =>
        obtain ⟨j, Ms2, hj, rfl, hP2, hR2, hO2, HC2, s2, z1⟩ := hrel
        have z2 := ((bcell (HC2.to_below hBw (unhide HIB))).1 b 2 hbB).trans c2
        have hkM2 : k < Ms2.length := by have := hR2.n; omega
        have hnM2 : Ms2[k].length = n := by rw [unhide HnL, ← hP2.2.1 k, kgetD_at hkM2]
        by_cases hlt2 : j < n
        · have ho := hR2.inner k hkv hkM2
          rcases ho.shape with ⟨_, h0⟩ | ⟨g, cap, hvv, hg1, hg2, hcap, hcm⟩
          · rw [h0] at hnM2; simp at hnM2; omega
          · have hA : A = some ⟨g, 0, none⟩ ∧ c = cap := by
              have := (unhide Hvk).symm.trans hvv
              injection this with h1 h2 h3
              exact ⟨h1, h3⟩
            obtain ⟨hA, hcc⟩ := hA
            subst hA hcc
            rw [hvv] at ho
            have f0 := ho.frozen j
            obtain ⟨y0, c0⟩ : ∃ y, wr.cell? ⟨g, j, none⟩ = some (.int .i64 y) := ⟨(Ms2[k]'hkM2)[j]'(by rw [hnM2]; exact hlt2), by simpa [eI] using ho.cell (i := j) (j := 0) (by rw [hnM2]; exact hlt2) (by decide)⟩
            rcases hO2.shape with ⟨_, h0⟩ | ⟨g5, cap5, hv5, hg51, hg52, _, _⟩
            · have := congrArg List.length h0
              rw [mks_len] at this; simp at this; omega
            · injection hv5 with h51 h52 h53
              subst h51 h53
              clear h52
              have m0 : wr.cell? ⟨g5, j, none⟩ = some (.int .i64 (mkI k ((0 : Nat) + (j : Int)))) := by
                have := hO2.cell (i := j) (j := 0) (by rw [mks_len]; exact hlt2) (by decide)
                simpa [eI, mks] using this
              obtain ⟨yn, hyn⟩ : ∃ y, y = mkI k ((0 : Nat) + (j : Int)) := ⟨_, rfl⟩
              have hstep := (hP2.step hkM2 (by rw [hnM2]; exact hlt2))
              have hvv' : vs[k]'hkv = .slice (some ⟨g, 0, none⟩) n c := unhide Hvk
              have hgv : (vs[k]'hkv).ownBlock = some g := by rw [hvv']; rfl
              have hgw := unhide Hgl g hgv
              have hst := hR2.store hkv hkM2 hgv (fun q hq => kstoI wr g j (mkI k ((0 : Nat) + (j : Int))) q hq) (by
                have := ksetI (hR2.inner k hkv hkM2 |> fun h => by rw [hvv'] at h; exact h) (by rw [hnM2]; exact hlt2) (mkI k ((0 : Nat) + (j : Int)))
                rw [hvv']; exact this)
              have hO3 := (hO2.same_block (w' := kstI wr g j (mkI k ((0 : Nat) + (j : Int)))) fun q hq => kstoI wr g j _ q fun e => by
                have := (hO2.lt q hq).1
                omega)
              have hxg : gx ≠ g := fun e => unhide HXk g hgv (by rw [e]; rfl)
              have hz9 : (kstI wr g j (mkI k ((0 : Nat) + (j : Int)))).drew.cell? ⟨gx, ox + k, none⟩ = some (.slice (some ⟨g, 0, none⟩) n c) := (World.cell?_of_block (a := ⟨gx, ox + k, none⟩) (kstoI wr g j _ gx hxg)).trans z1
              have hgB : B ≤ g := (hR2.inner k hkv hkM2).lt g hgv |>.1
              rw [← hyn] at m0 hstep hst hO3 hz9
              have hC9 := hide ((show Chg (InnB vs) w (kstI wr g j yn).drew from HC2.trans ⟨rfl, rfl, rfl, Nat.le_of_eq (kstsI wr g j _).symm, fun q _ hq => kstoI wr g j _ q fun e => hq ⟨k, hkv, e ▸ hgv⟩⟩))
              have hs9 : w5.heap.size ≤ (kstI wr g j yn).drew.heap.size := by
                rw [show (kstI wr g j yn).drew.heap.size = (kstI wr g j yn).heap.size from rfl, kstsI]; exact s2
              have Hstep := hide hstep
              have Hst := hide hst
              have HO3 := hide hO3
              clear hP2 hR2 hO2 ho hvv hvv' hgv hnM2 hyn hstep hst hO3 
              go_wp2_with fail
              go_still_tail 12, (by kernel_rfl)
              change wpList _ _ _ _ _ wr.drew
              go_wp2_with fail
              go_roundw
              case rel => exact ⟨j + 1, _, by omega, by go_num, unhide Hstep, (unhide Hst).drew, (unhide HO3).same_block fun _ _ => rfl, unhide hC9, hs9, hz9⟩
              case measure => simp [intOf]; omega
        · have hnx := hide (hP2.next hkM2 (by rw [hnM2]; exact hlt2))
          have hR2h := hide hR2
          clear hP2 hR2 hO2 hnM2
          go_wp2
          go_roundw
          case rel => exact ⟨k + 1, Ms2, by omega, by go_num, unhide hnx, unhide hR2h, HC2⟩
          case measure => simp [intOf]; omega
    · have hd := (unhide HP)
      have hkm : k = Ls.length := by have := unhide Hm; have := unhide Hvl; omega
      subst hkm
      have Hd := hide (hd.done rfl)
      clear hd
      go_wp2
      go_end0
      exact ⟨rfl, ⟨Ms, unhide HR, unhide Hd⟩, unhide HCh⟩
end Go.Proofs.YtnpgjdhigcjihaaGreatDoor
