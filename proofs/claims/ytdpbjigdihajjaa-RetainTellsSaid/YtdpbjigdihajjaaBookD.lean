/- The book's lists of numbers: marks are put. -/
import Derived.Test.YtdpbjigdihajjaaBookC
import Derived.StillTailTactics
namespace Go.Proofs.Ytdpbjigdihajjaa
open Go.RowKit

theorem Own.same_block {α : Type} {E : Enc α} {e : TypeId} {w w' : World} {base : Nat} {v : Value} {xs : List α} (h : Own E e w base v xs) (hb : ∀ k, v.ownBlock = some k → w'.heap[k]? = w.heap[k]?) : Own E e w' base v xs := by
  obtain ⟨h1, h2⟩ := h
  refine ⟨h1, ?_⟩
  rcases h2 with h2 | ⟨g, cap, cur, rfl, hg, hh, r⟩
  · exact .inl h2
  · exact .inr ⟨g, cap, cur, rfl, hg, (hb g rfl).trans hh, r⟩
theorem RowsI.kept {w w' : World} {B : Nat} {X : Value} {vs : List Value} {Ls : List (List Int)} (h : RowsI w B X vs Ls) (hb : ∀ k, k < w.heap.size → w'.heap[k]? = w.heap[k]?) : RowsI w' B X vs Ls :=
  ⟨h.outer.same_block fun k hk => hb k (h.outer.lt k hk).2, h.n, fun i h1 h2 => (h.inner i h1 h2).same_block fun k hk => hb k ((h.inner i h1 h2).lt k hk).2, h.apart, h.dist⟩
theorem RowsI.drew {w : World} {B : Nat} {X : Value} {vs : List Value} {Ls : List (List Int)} (h : RowsI w B X vs Ls) : RowsI w.drew B X vs Ls := h.kept fun _ _ => rfl
theorem RowsI.below {w w' : World} {B : Nat} {X : Value} {vs : List Value} {Ls : List (List Int)} (h : RowsI w B X vs Ls) (hb : Below w.heap.size w w') : RowsI w' B X vs Ls := h.kept fun k hk => hb.block k hk
/-- One number of one row is another one. -/
theorem RowsI.store {w : World} {B : Nat} {X : Value} {vs : List Value} {Ms : List (List Int)} (h : RowsI w B X vs Ms) {k : Nat} (hk : k < vs.length) (hk2 : k < Ms.length) {g n c : Nat} (hv : vs[k] = .slice (some ⟨g, 0, none⟩) n c) {j : Nat} (hj : j < Ms[k].length) (y : Int) :
    RowsI (w.setCell ⟨g, j, none⟩ (.int .i64 y)) B X vs (Ms.set k (Ms[k].set j y)) := by
  have hg : vs[k].ownBlock = some g := by rw [hv]; rfl
  have hoth : ∀ q, q ≠ g → (w.setCell ⟨g, j, none⟩ (.int .i64 y)).heap[q]? = w.heap[q]? := fun q hq => Below.heap_setCell w ⟨g, j, none⟩ _ q hq
  refine ⟨h.outer.same_block fun q hq => hoth q fun e => h.apart k hk g hg (e ▸ hq), by rw [List.length_set]; exact h.n, fun i h1 h2 => ?_, h.apart, h.dist⟩
  have h2' : i < Ms.length := by simpa using h2
  by_cases e : i = k
  · subst e
    rw [List.getElem_set_self]
    have ho := h.inner i h1 h2'
    rw [hv] at ho ⊢
    have := Own.set ho (i := j) hj (j := 0) (by decide) (.int .i64 y) y (fun q hq => by
      have : q = 0 := by have : q < 1 := hq; omega
      subst this; rfl)
    simpa [eI] using this
  · rw [List.getElem_set_ne (fun e' => e e'.symm)]
    exact (h.inner i h1 h2').same_block fun q hq => hoth q fun e' => h.dist k i hk h1 (fun e2 => e e2.symm) g hg (e' ▸ hq)

/-- So far the marks are put. -/
def PutInv (Ls Ms : List (List Int)) (k j : Nat) : Prop :=
  Ms.length = Ls.length ∧ (∀ i, (Ms.getD i []).length = (Ls.getD i []).length) ∧ (∀ i, i < k → Ms.getD i [] = marks i 0 (Ls.getD i []).length) ∧ ∀ q, q < j → (Ms.getD k [])[q]? = (marks k 0 (Ls.getD k []).length)[q]?
theorem getD_at {Ms : List (List Int)} {k : Nat} (h : k < Ms.length) : Ms.getD k [] = Ms[k] := by rw [List.getD_eq_getElem?_getD, List.getElem?_eq_getElem h, Option.getD_some]
theorem PutInv.start (Ls : List (List Int)) : PutInv Ls Ls 0 0 := ⟨rfl, fun _ => rfl, fun i h => by omega, fun q h => by omega⟩
theorem PutInv.step {Ls Ms : List (List Int)} {k j : Nat} (h : PutInv Ls Ms k j) (hk : k < Ms.length) (hj : j < Ms[k].length) : PutInv Ls (Ms.set k (Ms[k].set j (-1000000 * (k : Int) - ((0 : Nat) + (j : Int)) - 7))) k (j + 1) := by
  obtain ⟨h1, h2, h3, h4⟩ := h
  have hs : (Ms.set k (Ms[k].set j (-1000000 * (k : Int) - ((0 : Nat) + (j : Int)) - 7))).getD k [] = Ms[k].set j (-1000000 * (k : Int) - ((0 : Nat) + (j : Int)) - 7) := by
    rw [List.getD_eq_getElem?_getD, List.getElem?_set_self hk, Option.getD_some]
  have ho : ∀ i, i ≠ k → (Ms.set k (Ms[k].set j (-1000000 * (k : Int) - ((0 : Nat) + (j : Int)) - 7))).getD i [] = Ms.getD i [] := fun i e => by
    rw [List.getD_eq_getElem?_getD, List.getElem?_set_ne (fun e' => e e'.symm), ← List.getD_eq_getElem?_getD]
  have hlen : (Ls.getD k []).length = Ms[k].length := by rw [← h2 k, getD_at hk]
  refine ⟨by rw [List.length_set]; exact h1, fun i => ?_, fun i hi => by rw [ho i (by omega)]; exact h3 i hi, fun q hq => ?_⟩
  · by_cases e : i = k
    · subst e; rw [hs, List.length_set, hlen]
    · rw [ho i e]; exact h2 i
  · rw [hs]
    by_cases e : q = j
    · subst e
      rw [List.getElem?_set_self hj]
      unfold marks
      rw [List.getElem?_map, List.getElem?_range (by omega)]
      rfl
    · rw [List.getElem?_set_ne (fun e' => e e'.symm), ← getD_at hk]
      exact h4 q (by omega)
theorem PutInv.next {Ls Ms : List (List Int)} {k j : Nat} (h : PutInv Ls Ms k j) (hk : k < Ms.length) (hj : ¬ j < Ms[k].length) : PutInv Ls Ms (k + 1) 0 := by
  obtain ⟨h1, h2, h3, h4⟩ := h
  refine ⟨h1, h2, fun i hi => ?_, fun q hq => by omega⟩
  by_cases e : i = k
  · subst e
    apply List.ext_getElem?
    intro q
    by_cases hq : q < j
    · exact h4 q hq
    · have := h2 i
      rw [getD_at hk] at this ⊢
      rw [List.getElem?_eq_none (by omega), List.getElem?_eq_none (by rw [marks_len]; omega)]
  · exact h3 i (by omega)
theorem PutInv.done {Ls Ms : List (List Int)} {k : Nat} (h : PutInv Ls Ms k 0) (hk : k = Ls.length) : Marked Ms ∧ Ms.length = Ls.length ∧ ∀ i, (Ms.getD i []).length = (Ls.getD i []).length := by
  obtain ⟨h1, h2, h3, _⟩ := h
  refine ⟨fun i hi => ?_, h1, h2⟩
  have := h3 i (by omega)
  rw [← h2 i, getD_at hi] at this
  exact this

set_option maxHeartbeats 2000000 in
set_option maxRecDepth 100000 in
theorem put_ints (b B : Nat) (X : Value) (vs : List Value) (Ls : List (List Int)) (w : World) (c2 : w.cell? ⟨b, 2, none⟩ = some X) (hbB : b < B) (hBw : B ≤ w.heap.size) (hX : RowsI w B X vs Ls) (hn : Ls.length ≤ 1000) (hl : ∀ i, (Ls.getD i []).length ≤ 1000000) :
    Calls Try.prog 36 #[.pointer (some ⟨b, 0, none⟩)] w fun e w' => e = .returned (.tuple #[]) ∧ (∃ Ms, RowsI w' B X vs Ms ∧ Marked Ms ∧ Ms.length = Ls.length ∧ ∀ i, (Ms.getD i []).length = (Ls.getD i []).length) ∧ Below B w w' := by
  have HX := hide hX
  have Hl := hide hl
  obtain ⟨AX, cX, eX, sX, _⟩ := hX.outer.sl
  subst eX
  have hvl := hX.n
  have bx1 := sX.2.1
  have bx2 := sX.2.2.1
  obtain ⟨m, hm⟩ : ∃ m, m = vs.length := ⟨_, rfl⟩
  have hmL : m ≤ 1000 := by omega
  rw [← hm] at c2 bx1 HX ⊢
  have Hm := hide hm
  have Hvl := hide hvl
  clear hX hl sX hvl hm
  go_enter Try.func36, Try.ntmps36
  go_wp2_with fail
  go_loopw [2] (fun i wr => ∃ (k : Nat) (Ms : List (List Int)), k ≤ m ∧ i = .int .i64 k ∧ PutInv Ls Ms k 0 ∧ RowsI wr B (.slice AX m cX) vs Ms ∧ Below B w wr) (fun i _ => m - (intOf i).toNat)
  case atStart => exact ⟨0, Ls, Nat.zero_le _, rfl, PutInv.start Ls, unhide HX, Below.refl _ _⟩
  case round =>
    obtain ⟨k, Ms, hk, rfl, hP, hR, HB⟩ := hrel
    have d2 := ((bcell HB).1 b 2 hbB).trans c2
    have sr := HB.size
    have HP := hide hP
    have HR := hide hR
    clear hP hR HX
    by_cases hlt : k < m
    · have hkv : k < vs.length := by have := unhide Hm; omega
      have hkM : k < Ms.length := by have := (unhide HR).n; omega
      obtain ⟨A', c', hX', hsX, _⟩ := (unhide HR).outer.sl
      have hvm : vs.length = m := (unhide Hm).symm
      rw [hvm] at hX'
      injection hX' with e1 e2 e3
      subst e1 e3
      obtain ⟨gx, ox, ex, lx, rx⟩ := hsX.2.2.2 (by omega)
      subst ex
      obtain ⟨A, c, hvk, hslk, _⟩ := ((unhide HR).inner k hkv hkM).sl
      have x1 : wr.cell? ⟨gx, ox + k, none⟩ = some (.slice A Ms[k].length c) := by rw [← hvk]; simpa [eV] using rx k hkv 0 (by decide)
      obtain ⟨n, hnn⟩ : ∃ n, n = Ms[k].length := ⟨_, rfl⟩
      have hnL : n = (Ls.getD k []).length := by rw [hnn, ← (unhide HP).2.1 k, getD_at hkM]
      have hn6 : n ≤ 1000000 := by rw [hnL]; exact unhide Hl k
      rw [← hnn] at x1 hvk hslk
      have bn1 := hslk.2.1
      have bn2 := hslk.2.2.1
      have Hvk := hide hvk
      have HnL := hide hnL
      have HnM := hide hnn
      have Hslk := hide hslk
      clear hsX rx hvk hslk hnL hnn hvm
      go_wp2_with fail
      refine (markInts_any k 0 n _ (by omega) (by omega) hn6).mono ?_
      rintro e w5 ⟨A5, c5, rfl, ho5, HB5⟩
      have s5 := HB5.size
      have d5 := ((bcell HB5).1 b 2 (by omega)).trans d2
      have y1 := ((bcell HB5).1 gx (ox + k) lx).trans x1
      have B5 := HB.trans (HB5.mono (by omega : B ≤ wr.heap.size))
      have HR5 := hide ((unhide HR).below HB5)
      have ho5' : Own eI 3 w5 wr.heap.size (.slice A5 n c5) (marks k 0 n) := ho5
      have HO5 := hide ho5'
      have hgl : ∀ q, (vs[k]'hkv).ownBlock = some q → q < wr.heap.size := fun q hq => (((unhide HR).inner k hkv hkM).lt q hq).2
      have Hgl := hide hgl
      have hxv : gx < wr.heap.size := lx
      have hXk : ∀ q, (vs[k]'hkv).ownBlock = some q → (Value.slice (some ⟨gx, ox, none⟩) m cX).ownBlock ≠ some q := fun q hq => (unhide HR).apart k hkv q hq
      have HXk := hide hXk
      clear hXk x1 HB HB5 ho5 ho5' hgl HR
      obtain ⟨wo, rfl⟩ : ∃ wo, wo = wr := ⟨_, rfl⟩
      go_wp2_with fail
      go_loopw [4] (fun j wr2 => ∃ (j' : Nat) (Ms2 : List (List Int)), j' ≤ n ∧ j = .int .i64 j' ∧ PutInv Ls Ms2 k j' ∧ RowsI wr2 B (.slice (some ⟨gx, ox, none⟩) m cX) vs Ms2 ∧ Own eI 3 wr2 wo.heap.size (.slice A5 n c5) (marks k 0 n) ∧ Below B w wr2 ∧ w5.heap.size ≤ wr2.heap.size ∧ wr2.cell? ⟨gx, ox + k, none⟩ = some (.slice A n c)) (fun j _ => n - (intOf j).toNat)
      case atStart => exact ⟨0, Ms, Nat.zero_le _, rfl, unhide HP, unhide HR5, unhide HO5, B5, Nat.le_refl _, y1⟩
      case round =>
        obtain ⟨j, Ms2, hj, rfl, hP2, hR2, hO2, HB2, s2, z1⟩ := hrel
        have z2 := ((bcell HB2).1 b 2 hbB).trans c2
        have hkM2 : k < Ms2.length := by have := hR2.n; omega
        have hnM2 : Ms2[k].length = n := by rw [unhide HnL, ← hP2.2.1 k, getD_at hkM2]
        by_cases hlt2 : j < n
        · have ho := hR2.inner k hkv hkM2
          rcases ho.shape with ⟨_, h0⟩ | ⟨g, cap, hvv, hg1, hg2, hcap, hcm⟩
          · rw [h0] at hnM2; simp at hnM2; omega
          · have hA : A = some ⟨g, 0, none⟩ ∧ c = cap := by
              have := (unhide Hvk).symm.trans hvv
              injection this with h1 h2 h3
              exact ⟨h1, h3⟩
            obtain ⟨hA, hcc⟩ := hA
            subst hA hcc
            rw [hvv] at ho
            have f0 := ho.frozen j
            have c0 : wr.cell? ⟨g, j, none⟩ = some (.int .i64 (Ms2[k]'hkM2)[j]) := by simpa [eI] using ho.cell (i := j) (j := 0) (by rw [hnM2]; exact hlt2) (by decide)
            rcases hO2.shape with ⟨_, h0⟩ | ⟨g5, cap5, hv5, hg51, hg52, _, _⟩
            · have := congrArg List.length h0
              rw [marks_len] at this; simp at this; omega
            · injection hv5 with h51 h52 h53
              subst h51 h53
              clear h52
              have m0 : wr.cell? ⟨g5, j, none⟩ = some (.int .i64 (-1000000 * (k : Int) - ((0 : Nat) + (j : Int)) - 7)) := by
                have := hO2.cell (i := j) (j := 0) (by rw [marks_len]; exact hlt2) (by decide)
                simpa [eI, marks] using this
              have hstep := hide (hP2.step hkM2 (by rw [hnM2]; exact hlt2))
              have hvv' : vs[k]'hkv = .slice (some ⟨g, 0, none⟩) n c := unhide Hvk
              have hst := hide (hR2.store hkv hkM2 hvv' (by rw [hnM2]; exact hlt2) (-1000000 * (k : Int) - ((0 : Nat) + (j : Int)) - 7))
              have hgw := unhide Hgl g (by rw [hvv']; rfl)
              have hO3 := hide (hO2.same_block (w' := wr.setCell ⟨g, j, none⟩ (.int .i64 (-1000000 * (k : Int) - ((0 : Nat) + (j : Int)) - 7))) fun q hq => Below.heap_setCell wr ⟨g, j, none⟩ _ q fun e => by
                have := (hO2.lt q hq).1
                have e' : q = g := e
                omega)
              have hxg : gx ≠ g := fun e => unhide HXk g (by rw [hvv']; rfl) (by rw [e]; rfl)
              obtain ⟨y0, c1⟩ : ∃ y, wr.cell? ⟨g, j, none⟩ = some (.int .i64 y) := ⟨_, c0⟩
              obtain ⟨yn, hyn⟩ : ∃ y, y = (-1000000 * (k : Int) - ((0 : Nat) + (j : Int)) - 7) := ⟨_, rfl⟩
              rw [← hyn] at m0 hstep hst hO3
              have hgB : B ≤ g := (hR2.inner k hkv hkM2).lt g (by rw [hvv']; rfl) |>.1
              have hz9 : (wr.setCell ⟨g, j, none⟩ (.int .i64 yn)).drew.cell? ⟨gx, ox + k, none⟩ = some (.slice (some ⟨g, 0, none⟩) n c) := (World.cell?_of_block (a := ⟨gx, ox + k, none⟩) (Below.heap_setCell wr ⟨g, j, none⟩ (.int .i64 yn) gx hxg)).trans z1
              have hs9 : w5.heap.size ≤ (wr.setCell ⟨g, j, none⟩ (.int .i64 yn)).drew.heap.size := by
                rw [show (wr.setCell ⟨g, j, none⟩ (.int .i64 yn)).drew.heap.size = (wr.setCell ⟨g, j, none⟩ (.int .i64 yn)).heap.size from rfl, show (wr.setCell ⟨g, j, none⟩ (.int .i64 yn)).heap.size = wr.heap.size by simp [World.setCell]]; exact s2
              clear hP2 hR2 hO2 ho hvv hvv' c0 hnM2 hyn
              go_wp2_with fail
              go_still_tail 12, (by kernel_rfl)
              change wpList _ _ _ _ _ wr.drew
              go_wp2_with fail
              go_roundw
              case rel => exact ⟨j + 1, Ms2.set k (Ms2[k].set j yn), by omega, by go_num, unhide hstep, (unhide hst).drew, (unhide hO3).same_block fun _ _ => rfl, below_drewN (HB2.setCell (p := ⟨g, j, none⟩) hgB _) 1, hs9, hz9⟩
              case measure => simp [intOf]; omega
        · have hnx := hide (hP2.next hkM2 (by rw [hnM2]; exact hlt2))
          have hR2h := hide hR2
          clear hP2 hR2 hO2 hnM2
          go_wp2
          go_roundw
          case rel => exact ⟨k + 1, Ms2, by omega, by go_num, unhide hnx, unhide hR2h, HB2⟩
          case measure => simp [intOf]; omega
    · have hd := (unhide HP)
      have hkm : k = Ls.length := by have := unhide Hm; have := unhide Hvl; omega
      subst hkm
      have Hd := hide (hd.done rfl)
      clear hd
      go_wp2
      go_end0
      exact ⟨rfl, ⟨Ms, unhide HR, unhide Hd⟩, HB⟩
end Go.Proofs.Ytdpbjigdihajjaa
