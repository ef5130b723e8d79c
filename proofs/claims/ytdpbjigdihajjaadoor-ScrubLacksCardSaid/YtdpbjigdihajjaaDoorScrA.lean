/- Walk of package scrub: how often each block is held. -/
import Derived.Test.YtdpbjigdihajjaaDoorFitB
import Derived.Test.YtdpbjigdihajjaaDoorTally
namespace Go.Proofs.YtdpbjigdihajjaaDoor
open Go.RowKit

/-- Points that can be read, with extents as the laws make them. -/
structure PtsIn (w : World) (A : Option Addr) (n c : Nat) (qs : List Pt) (ess : List (List Ext)) : Prop where
  sl : Sl ePt w A n c qs
  len : ess.length = n
  few : n ≤ 12
  ext : ∀ i (h : i < qs.length) (h' : i < ess.length), Sl eE w qs[i].eA qs[i].eN qs[i].eC ess[i]
  fine : ∀ es ∈ ess, Fine es
theorem PtsIn.below {w w' : World} {A : Option Addr} {n c : Nat} {qs : List Pt} {ess : List (List Ext)} (h : PtsIn w A n c qs ess) (hb : Below w.heap.size w w') : PtsIn w' A n c qs ess :=
  ⟨h.sl.below hb, h.len, h.few, fun i h1 h2 => (h.ext i h1 h2).below hb, h.fine⟩
theorem all_choose {α β : Type} (P : α → β → Prop) : ∀ (l : List α), (∀ x ∈ l, ∃ y, P x y) → ∃ m : List β, m.length = l.length ∧ (∀ i (h : i < l.length) (h' : i < m.length), P l[i] m[i]) ∧ ∀ y ∈ m, ∃ x ∈ l, P x y
  | [], _ => ⟨[], rfl, fun i h => by simp at h, fun y h => by simp at h⟩
  | x :: l, h => by
    obtain ⟨y, hy⟩ := h x List.mem_cons_self
    obtain ⟨m, h1, h2, h3⟩ := all_choose P l fun z hz => h z (List.mem_cons_of_mem _ hz)
    refine ⟨y :: m, by simp [h1], fun i h4 h5 => ?_, fun z hz => ?_⟩
    · cases i with
      | zero => exact hy
      | succ i => exact h2 i (by simpa using h4) (by simpa using h5)
    · rcases List.mem_cons.1 hz with rfl | hz
      · exact ⟨x, List.mem_cons_self, hy⟩
      · obtain ⟨x', h6, h7⟩ := h3 z hz
        exact ⟨x', List.mem_cons_of_mem _ h6, h7⟩
theorem Pts.reads {w : World} {B : Nat} {A : Option Addr} {c : Nat} {qs : List Pt} (h : Pts w B (.slice A qs.length c) qs) (h12 : qs.length ≤ 12) : ∃ ess, PtsIn w A qs.length c qs ess := by
  obtain ⟨ess, h1, h2, h3⟩ := all_choose (fun (q : Pt) es => Sl eE w q.eA q.eN q.eC es ∧ Fine es) qs fun q hq => by
    obtain ⟨es, h4, h5⟩ := h.ext q hq
    obtain ⟨A', c', hv, hs, _⟩ := h4.sl
    injection hv with e1 e2 e3
    exact ⟨es, by rw [e1, e2, e3]; exact hs, h5⟩
  obtain ⟨A', c', hv, hs, _⟩ := h.own.sl
  injection hv with e1 e2 e3
  refine ⟨ess, ⟨by rw [e1, e3]; exact hs, h1, h12, fun i h4 h5 => (h2 i h4 h5).1, fun es he => ?_⟩⟩
  obtain ⟨q, _, h5⟩ := h3 es he
  exact h5.2
/-- All blocks that points name. -/
def idsP (ess : List (List Ext)) : List Int := ess.flatMap idsL
theorem idsP_snoc (ess : List (List Ext)) (es : List Ext) : idsP (ess ++ [es]) = idsP ess ++ idsL es := by simp [idsP]
theorem idsP_le (ess : List (List Ext)) (h : ∀ es ∈ ess, Fine es) : (idsP ess).length ≤ 4096 * ess.length := by
  unfold idsP
  induction ess with
  | nil => simp
  | cons x es ih =>
    rw [List.flatMap_cons, List.length_append, List.length_cons]
    have h1 := ih fun y hy => h y (List.mem_cons_of_mem _ hy)
    have h2 := h x List.mem_cons_self
    have h3 := idsL_le x h2.good
    have h4 := h2.1
    omega
theorem idsP_in {ess : List (List Ext)} (h : ∀ es ∈ ess, Fine es) : ∀ i ∈ idsP ess, 1 ≤ i ∧ i ≤ 60 := by
  intro i hi
  obtain ⟨es, he, hm⟩ := List.mem_flatMap.1 hi
  exact ids_fine (h es he) i hm
theorem zeroIntW (w : World) : (zeroValue 3).run Tryd.prog w = .ok (.int .i64 0) w := by kernel_rfl
theorem tally_bd (ks : List Int) (k : Int) : 0 ≤ atN (tally ks) k ∧ atN (tally ks) k ≤ ks.length := by
  rw [(tally_at ks k).1]
  have := List.count_le_length (a := k) (l := ks)
  omega

set_option maxHeartbeats 4000000 in
set_option maxRecDepth 100000 in
theorem wanted_any (A : Option Addr) (n c : Nat) (qs : List Pt) (ess : List (List Ext)) (w : World) (h : PtsIn w A n c qs ess) :
    Calls Tryd.prog 41 #[.slice A n c] w fun e w' => ∃ b, e = .returned (.map (some b)) ∧ MapIs kInt w' b (nV (tally (idsP ess))) ∧ w.heap.size ≤ b ∧ Below w.heap.size w w' := by
  have hmm := @run_makeMap Tryd.prog
  have hn := h.sl.1
  have b1 := h.sl.2.1
  have b2 := h.sl.2.2.1
  have R := hide h.sl.2.2.2
  have hfw := h.few
  have H := hide h
  have Hn := hide hn
  clear h hn
  obtain ⟨W, hW⟩ : ∃ W, W = w.alloc (.map #[] 0) := ⟨_, rfl⟩
  have B0 : Below w.heap.size w W := by rw [hW]; exact (Below.refl _ _).alloc (Nat.le_refl _) _
  have m0 : MapIs kInt W w.heap.size (nV (tally (idsP (ess.take 0)))) := by rw [hW]; exact MapIs.made kInt w
  have M0 := hide m0
  have s0 : w.heap.size + 1 ≤ W.heap.size := by rw [hW]; simp
  clear m0
  go_enter Tryd.func41, Tryd.ntmps41
  go_wp2_with fail
  rw [← hW]
  clear hW
  go_loopw [11] (fun j wr => ∃ k : Nat, k ≤ n ∧ j = .int .i64 k ∧ MapIs kInt wr w.heap.size (nV (tally (idsP (ess.take k)))) ∧ Below w.heap.size w wr ∧ w.heap.size + 1 ≤ wr.heap.size) (fun j _ => n - (intOf j).toNat)
  case atStart => exact ⟨0, Nat.zero_le _, rfl, unhide M0, B0, s0⟩
  case round =>
    obtain ⟨k, hk, rfl, hM, HB, hsz⟩ := hrel
    have HM := hide hM
    clear hM
    obtain ⟨wA, rfl⟩ : ∃ wo : World, wo = wr := ⟨_, rfl⟩
    by_cases hlt : k < n
    · have hkq : k < qs.length := by have := unhide Hn; omega
      have hke : k < ess.length := by have := (unhide H).len; omega
      obtain ⟨b, off, eA, lA, hr⟩ := unhide R (by omega)
      subst eA
      have x0 : wA.cell? ⟨b, off + k * 4, none⟩ = some (.int .i64 qs[k].id) := ((bcell HB).1 _ _ lA).trans (hr k hkq 0 (by decide))
      have x1 : wA.cell? ⟨b, off + k * 4 + 1, none⟩ = some (.int .i64 qs[k].kind) := ((bcell HB).1 _ _ lA).trans (hr k hkq 1 (by decide))
      have x2 : wA.cell? ⟨b, off + k * 4 + 2, none⟩ = some (.int .i64 qs[k].day) := ((bcell HB).1 _ _ lA).trans (hr k hkq 2 (by decide))
      have x3 : wA.cell? ⟨b, off + k * 4 + 3, none⟩ = some (.slice qs[k].eA qs[k].eN qs[k].eC) := ((bcell HB).1 _ _ lA).trans (hr k hkq 3 (by decide))
      have hfin := (unhide H).fine ess[k] (List.getElem_mem hke)
      have hsl := ((unhide H).ext k hkq hke).below HB
      have hsn := hide (show idsP (ess.take (k + 1)) = idsP (ess.take k) ++ idsL ess[k] by rw [← idsP_snoc, List.take_append_getElem hke])
      have hle : (idsP (ess.take k)).length ≤ 4096 * 12 := by
        have h1 := idsP_le (ess.take k) fun y hy => (unhide H).fine y (List.mem_of_mem_take hy)
        rw [List.length_take] at h1
        have := (unhide H).len
        have := (unhide H).few
        omega
      obtain ⟨es, hes⟩ : ∃ y, y = ess[k] := ⟨_, rfl⟩
      rw [← hes] at hfin hsl hsn
      obtain ⟨q, hq⟩ : ∃ y, y = qs[k] := ⟨_, rfl⟩
      rw [← hq] at x0 x1 x2 x3 hsl
      obtain ⟨qi, qk, qd, eA, eN, eC⟩ := q
      have x0 : wA.cell? ⟨b, off + k * 4, none⟩ = some (.int .i64 qi) := x0
      have x1 : wA.cell? ⟨b, off + k * 4 + 1, none⟩ = some (.int .i64 qk) := x1
      have x2 : wA.cell? ⟨b, off + k * 4 + 2, none⟩ = some (.int .i64 qd) := x2
      have x3 : wA.cell? ⟨b, off + k * 4 + 3, none⟩ = some (.slice eA eN eC) := x3
      have hsl : Sl eE wA eA eN eC es := hsl
      have e1 := hsl.2.1
      have e2 := hsl.2.2.1
      obtain ⟨P, hP⟩ : ∃ P, P = idsP (ess.take k) := ⟨_, rfl⟩
      rw [← hP] at HM hsn hle
      have hen : eN ≤ 64 := by have := hsl.1; have := hfin.1; omega
      have hL64 := idsL_le es hfin.good
      have hLen : (idsL es).length ≤ 4096 := by have := hfin.1; omega
      have Hfin := hide hfin
      have Hsl := hide hsl
      clear hr hes hq hP hfin hsl hkq hke hL64
      obtain ⟨w1, hw1⟩ : ∃ V, V = wA.alloc (.cells #[.int .i64 qi, .int .i64 qk, .int .i64 qd, .slice eA eN eC] 79) := ⟨_, rfl⟩
      have B1 : Below wA.heap.size wA w1 := by rw [hw1]; exact (Below.refl _ _).alloc (Nat.le_refl _) _
      have hs1 := hide ((unhide Hsl).below B1)
      have M1 := hide ((unhide HM).below B1)
      have d3 : (wA.alloc (.cells #[.int .i64 qi, .int .i64 qk, .int .i64 qd, .slice eA eN eC] 79)).cell? ⟨wA.heap.size, 3, none⟩ = some (.slice eA eN eC) := World.cell?_alloc_at _ _ _ _ rfl
      have B2 : Below w.heap.size w w1 := HB.trans (B1.mono HB.size)
      have s1 : w.heap.size + 1 ≤ w1.heap.size := by have := B1.size; omega
      clear HB B1 HM Hsl
      go_wp2_with fail
      rw [← hw1]
      clear hw1 d3
      refine (ids_any eA eN eC es w1 (unhide hs1) (unhide Hfin).good hen).mono ?_
      rintro e w3 ⟨A3, c3, rfl, hO3, HB3⟩
      have M3 := hide ((unhide M1).below HB3)
      have O3 := hide hO3
      have B3 : Below w.heap.size w w3 := B2.trans (HB3.mono B2.size)
      have s3 := HB3.size
      have bl3 := hO3.sl
      obtain ⟨A3', c3', hv3, hsl3, _⟩ := bl3
      injection hv3 with v1 v2 v3
      have g1 := hsl3.2.1
      have g2 := hsl3.2.2.1
      rw [← v3] at g1 g2
      obtain ⟨L, hL⟩ : ∃ L, L = idsL es := ⟨_, rfl⟩
      rw [← hL] at O3 g1 hsn hLen ⊢
      obtain ⟨m, hm⟩ : ∃ m, m = L.length := ⟨_, rfl⟩
      rw [← hm] at O3 g1 hLen ⊢
      have Hm := hide hm
      have m3 : MapIs kInt w3 w.heap.size (nV (tally (P ++ L.take 0))) := by rw [List.take_zero, List.append_nil]; exact unhide M3
      have M3' := hide m3
      clear hO3 HB3 hsl3 v1 v2 v3 hL hm m3 M3 M1 B2
      go_wp2_with fail
      go_loopw [19] (fun j w2 => ∃ q : Nat, q ≤ m ∧ j = .int .i64 q ∧ MapIs kInt w2 w.heap.size (nV (tally (P ++ L.take q))) ∧ Own eI 3 w2 w1.heap.size (.slice A3 m c3) L ∧ Below w.heap.size w w2 ∧ w.heap.size + 1 ≤ w2.heap.size) (fun j _ => m - (intOf j).toNat)
      case atStart => exact ⟨0, Nat.zero_le _, rfl, unhide M3', unhide O3, B3, by omega⟩
      case round =>
        obtain ⟨q, hq, rfl, hM2, hO2, HB2, hsz2⟩ := hrel
        have HM2 := hide hM2
        clear hM2 M3' O3
        by_cases hlq : q < m
        · have hqL : q < L.length := by have := unhide Hm; omega
          obtain ⟨A4, c4, hv4, hsl4, hbs4⟩ := hO2.sl
          injection hv4 with v1 v2 v3
          obtain ⟨b4, o4, eA4, lb4, hr4⟩ := hsl4.2.2.2 (by omega)
          rw [eA4] at v1
          subst v1
          have y0 : wr.cell? ⟨b4, o4 + q, none⟩ = some (.int .i64 L[q]) := by simpa [eI] using hr4 q hqL 0 (by decide)
          obtain ⟨x, hx⟩ : ∃ x, x = L[q] := ⟨_, rfl⟩
          rw [← hx] at y0
          have hsq := hide (show tally (P ++ L.take (q + 1)) = putN (tally (P ++ L.take q)) x (atN (tally (P ++ L.take q)) x + 1) by
            rw [← tally_snoc, List.append_assoc, hx, List.take_append_getElem hqL])
          have hbd := tally_bd (P ++ L.take q) x
          have hll : (P ++ L.take q).length ≤ 60000 := by rw [List.length_append, List.length_take]; omega
          obtain ⟨T, hT⟩ : ∃ T, T = tally (P ++ L.take q) := ⟨_, rfl⟩
          rw [← hT] at HM2 hsq hbd
          obtain ⟨y, hy⟩ : ∃ y, atN T x = y := ⟨_, rfl⟩
          rw [hy] at hbd hsq
          obtain ⟨hy0, hy1⟩ := hbd
          have hy2 : y ≤ 60000 := by omega
          have Hy := hide hy
          have HO2 := hide hO2
          have hnb : (Value.slice (some ⟨b4, o4, none⟩) m c3).ownBlock ≠ some w.heap.size := fun e => by have := (hO2.lt _ e).1; omega
          have Hnb := hide hnb
          clear v2 v3 hsl4 hbs4 hr4 hx hT hy hO2 hnb hy1 hll eA4
          go_wp2_with (first | (at_lookup; refine wpList_lookN kInt 86 3 3 Tryd.underlying86 Tryd.underlying3 (zeroIntW _) rfl _ _ rfl T w.heap.size rfl (unhide HM2) x rfl y (unhide Hy) ?_) | (at_mapUpdate; refine wpList_upN kInt 86 3 3 Tryd.underlying86 Tryd.underlying3 rfl _ _ _ rfl T w.heap.size rfl (unhide HM2) x rfl (y + 1) rfl ?_; intro w6 HM6 HG6))
          have O6 := hide ((unhide HO2).grown HG6 (.inr (unhide Hnb)))
          have M6 : MapIs kInt w6 w.heap.size (nV (tally (P ++ L.take (q + 1)))) := by rw [unhide hsq]; exact HM6
          have HM7 := hide M6
          have B6 := HB2.grown HG6 HB2.size fun j hj => by injection hj with hj; omega
          have s6 := HG6.size
          clear HM6 HG6 M6 HB2 HM2 y0 HO2 Hnb
          go_roundw
          case rel => exact ⟨q + 1, by omega, by go_num, unhide HM7, unhide O6, B6, by omega⟩
          case measure => simp [intOf]; omega
        · obtain rfl : q = m := by omega
          have hfinal : MapIs kInt wr w.heap.size (nV (tally (idsP (ess.take (k + 1))))) := by
            have h1 := unhide HM2
            rw [List.take_of_length_le (by have := unhide Hm; omega)] at h1
            rw [unhide hsn]
            exact h1
          have HF := hide hfinal
          clear hfinal hO2
          go_wp2
          go_roundw
          case rel => exact ⟨k + 1, by omega, by go_num, unhide HF, HB2, hsz2⟩
          case measure => simp [intOf]; omega
    · obtain rfl : k = n := by omega
      have hte : ess.take k = ess := List.take_of_length_le (by have := (unhide H).len; omega)
      rw [hte] at HM
      clear hte
      go_wp2
      go_ret
      exact ⟨_, rfl, unhide HM, Nat.le_refl _, HB⟩
end Go.Proofs.YtdpbjigdihajjaaDoor
