/- Points are lent: copied, with one more behind them. -/
import Derived.Test.YtdpbjigdihajjaaLentA
import Derived.Test.YtdpbjigdihajjaaLawDayC
namespace Go.Proofs.Ytdpbjigdihajjaa
open Go.RowKit

/-- Each point's extents can be read. -/
def ExtOk (w : World) (ps : List Pt) : Prop := ∀ i (h : i < ps.length), ps[i].eN ≤ 20 ∧ ∃ es, Sl eE w ps[i].eA ps[i].eN ps[i].eC es
/-- Points that are copies of points, with extents of their own. -/
structure PtCopy (w : World) (base : Nat) (w' : World) (k : Nat) (ps qs : List Pt) : Prop where
  len : qs.length = ps.length
  same : ∀ i (h : i < qs.length) (h' : i < ps.length), qs[i].id = ps[i].id ∧ qs[i].kind = ps[i].kind ∧ qs[i].day = ps[i].day ∧ qs[i].eN = ps[i].eN
  rest : ∀ i (h : i < qs.length) (h' : i < ps.length), k ≤ i → qs[i] = ps[i]
  done : ∀ i (h : i < qs.length) (h' : i < ps.length), i < k → ∃ es, Sl eE w ps[i].eA ps[i].eN ps[i].eC es ∧ Own eE 107 w' base (.slice qs[i].eA qs[i].eN qs[i].eC) es
theorem PtCopy.start (w : World) (base : Nat) (w' : World) (ps : List Pt) : PtCopy w base w' 0 ps ps := ⟨rfl, fun _ _ _ => ⟨rfl, rfl, rfl, rfl⟩, fun _ _ _ _ => rfl, fun i _ _ h => by omega⟩
theorem PtCopy.kept {w : World} {base : Nat} {w' w'' : World} {k : Nat} {ps qs : List Pt} (h : PtCopy w base w' k ps qs) (hb : ∀ q, base ≤ q → q < w'.heap.size → w''.heap[q]? = w'.heap[q]?) : PtCopy w base w'' k ps qs :=
  ⟨h.len, h.same, h.rest, fun i h1 h2 h3 => by
    obtain ⟨es, h4, h5⟩ := h.done i h1 h2 h3
    exact ⟨es, h4, h5.same_block fun q hq => hb q (h5.lt q hq).1 (h5.lt q hq).2⟩⟩
theorem PtCopy.step {w : World} {base : Nat} {w' : World} {k : Nat} {ps qs : List Pt} (h : PtCopy w base w' k ps qs) (hk : k < qs.length) (hk' : k < ps.length) {es : List Ext} (h1 : Sl eE w ps[k].eA ps[k].eN ps[k].eC es) {A : Option Addr} {c : Nat} (h2 : Own eE 107 w' base (.slice A ps[k].eN c) es) :
    PtCopy w base w' (k + 1) ps (qs.set k ⟨qs[k].id, qs[k].kind, qs[k].day, A, ps[k].eN, c⟩) := by
  refine ⟨by rw [List.length_set]; exact h.len, fun i h3 h4 => ?_, fun i h3 h4 h5 => ?_, fun i h3 h4 h5 => ?_⟩
  · by_cases e : i = k
    · subst e
      rw [List.getElem_set_self]
      obtain ⟨a1, a2, a3, _⟩ := h.same i hk hk'
      exact ⟨a1, a2, a3, rfl⟩
    · rw [List.getElem_set_ne (fun e' => e e'.symm)]
      exact h.same i (by simpa using h3) h4
  · rw [List.getElem_set_ne (by omega)]
    exact h.rest i (by simpa using h3) h4 (by omega)
  · by_cases e : i = k
    · subst e
      rw [List.getElem_set_self]
      exact ⟨es, h1, h2⟩
    · rw [List.getElem_set_ne (fun e' => e e'.symm)]
      exact h.done i (by simpa using h3) h4 (by omega)
theorem Own.set_ext {w : World} {e base g n c k : Nat} {xs : List Pt} (h : Own ePt e w base (.slice (some ⟨g, 0, none⟩) n c) xs) (hk : k < xs.length) (A : Option Addr) (m d : Nat) :
    Own ePt e (w.setCell ⟨g, k * 4 + 3, none⟩ (.slice A m d)) base (.slice (some ⟨g, 0, none⟩) n c) (xs.set k ⟨xs[k].id, xs[k].kind, xs[k].day, A, m, d⟩) :=
  Own.set h hk (j := 3) (by decide) (.slice A m d) ⟨xs[k].id, xs[k].kind, xs[k].day, A, m, d⟩ fun j hj => by
    have hj4 : j < 4 := hj
    rcases (show j = 0 ∨ j = 1 ∨ j = 2 ∨ j = 3 by omega) with rfl | rfl | rfl | rfl <;> rfl
set_option maxHeartbeats 2000000 in
set_option maxRecDepth 100000 in
theorem copyPoints_any (A : Option Addr) (n c : Nat) (ps : List Pt) (w : World) (hs : Sl ePt w A n c ps) (hn : n ≤ 1000) (he : ExtOk w ps) :
    Calls Try.prog 23 #[.slice A n c] w fun e w' => (∃ A' c' qs, e = .returned (.slice A' n c') ∧ ∃ base, Own ePt 28 w' w.heap.size (.slice A' n c') qs ∧ (∀ q, (Value.slice A' n c').ownBlock = some q → q < base) ∧ w.heap.size ≤ base ∧ PtCopy w base w' n ps qs) ∧ Below w.heap.size w w' := by
  obtain ⟨i0, hi, hz0, hz1, hz2⟩ := info_parts Try.infoPt
  have hnL : n = ps.length := hs.1
  have HnL := hide hnL
  have He := hide he
  clear he hnL
  go_enter Try.func23, Try.ntmps23
  go_wp2_with (at_builtin; refine wpList_append_sl ePt rfl _ _ _ rfl w.heap.size 28 i0 _ 48 Try.underlying22 hi hz0 hz1 hz2 rfl (by decide) _ [] rfl _ (Own.nil _ _ _ _) A n c ps rfl hs (ePt_one _) ?c3 ?c4 ?c5 ?_)
  case c3 => unfold maxLen; simp; omega
  case c4 => simp; omega
  case c5 => exact Nat.le_refl _
  intro v w1 hown hgr hloc
  have B1 : Below w.heap.size w w1 := (Below.refl _ _).grown hgr (Nat.le_refl _) fun j hj => by simp [Value.ownBlock] at hj
  obtain ⟨A1, c1, hv, sl1, _⟩ := hown.sl
  rw [← unhide HnL] at hv sl1
  subst hv
  have b1 := sl1.2.1
  have b2 := sl1.2.2.1
  have hown' : Own ePt 28 w1 w.heap.size (.slice A1 n c1) ps := hown
  have hlt1 : ∀ q, (Value.slice A1 n c1).ownBlock = some q → q < w1.heap.size := fun q hq => (hown.lt q hq).2
  have Hown := hide hown'
  have Hlt := hide hlt1
  clear hgr hloc hown hown' hlt1 sl1
  go_wp2_with fail
  go_loopw [3] (fun i wr => ∃ (k : Nat) (qs : List Pt), k ≤ n ∧ i = .int .i64 k ∧ Own ePt 28 wr w.heap.size (.slice A1 n c1) qs ∧ PtCopy w w1.heap.size wr k ps qs ∧ Below w.heap.size w wr ∧ w1.heap.size ≤ wr.heap.size) (fun i _ => n - (intOf i).toNat)
  case atStart => exact ⟨0, ps, Nat.zero_le _, rfl, unhide Hown, PtCopy.start _ _ _ _, B1, Nat.le_refl _⟩
  case round =>
    obtain ⟨k, qs, hk, rfl, hO, hP, HB, hs1⟩ := hrel
    have HP := hide hP
    have HO := hide hO
    by_cases hlt : k < n
    · have hkp : k < ps.length := by have := unhide HnL; omega
      have hkq : k < qs.length := by have := hP.len; omega
      have hqk := hP.rest k hkq hkp (Nat.le_refl _)
      obtain ⟨hen, es, hes⟩ := unhide He k hkp
      rcases hO.shape with ⟨_, h0⟩ | ⟨g, cap, hvv, hg1, hg2, _, _⟩
      · subst h0; simp at hkq
      · injection hvv with e1 e2 e3
        subst e1 e3
        clear e2
        have x3 : wr.cell? ⟨g, k * 4 + 3, none⟩ = some (.slice ps[k].eA ps[k].eN ps[k].eC) := by
          have := hO.cell (i := k) (j := 3) hkq (by decide)
          rw [hqk] at this
          simpa [ePt] using this
        have f3 := hO.frozen (k * 4 + 3)
        obtain ⟨m, hm⟩ : ∃ m, m = ps[k].eN := ⟨_, rfl⟩
        obtain ⟨D, hD⟩ : ∃ m, m = ps[k].eA := ⟨_, rfl⟩
        obtain ⟨d, hd⟩ : ∃ m, m = ps[k].eC := ⟨_, rfl⟩
        have hes' := hes.below HB
        rw [← hm, ← hD, ← hd] at x3 hes'
        have Hes' := hide hes'
        have Hes := hide hes
        have Hm := hide hm
        have hm20 : m ≤ 20 := by rw [hm]; exact hen
        clear hO hP hes hes' hm hD hd hqk hen
        go_wp2_with fail
        refine (copyExtents_any D m d es _ (unhide Hes') (by omega)).mono ?_
        rintro e w5 ⟨A5, c5, rfl, ho5, HB5⟩
        have hgl : g < w1.heap.size := unhide Hlt g rfl
        have y3 := ((bcell HB5).1 g (k * 4 + 3) hg2).trans x3
        have f5 := ((bcell HB5).2 g (k * 4 + 3) hg2).trans f3
        have s5 := HB5.size
        have B5 : Below w.heap.size w w5 := HB.trans (HB5.mono HB.size)
        have o5 := ((unhide HO).below HB5).set_ext hkq A5 m c5
        have p5 : PtCopy w w1.heap.size w5 (k + 1) ps (qs.set k ⟨qs[k].id, qs[k].kind, qs[k].day, A5, ps[k].eN, c5⟩) := ((unhide HP).kept fun q _ h2 => HB5.block q h2).step hkq hkp (unhide Hes) (by
          rw [← unhide Hm]
          exact ho5.lower hs1)
        rw [← unhide Hm] at p5
        have p6 := p5.kept (w'' := w5.setCell ⟨g, k * 4 + 3, none⟩ (.slice A5 m c5)) fun q h1 h2 => Below.heap_setCell w5 ⟨g, k * 4 + 3, none⟩ _ q (by show q ≠ g; omega)
        have B6 : Below w.heap.size w (w5.setCell ⟨g, k * 4 + 3, none⟩ (.slice A5 m c5)) := B5.setCell (p := ⟨g, k * 4 + 3, none⟩) hg1 _
        have s6 : w1.heap.size ≤ (w5.setCell ⟨g, k * 4 + 3, none⟩ (.slice A5 m c5)).heap.size := by
          rw [show (w5.setCell ⟨g, k * 4 + 3, none⟩ (.slice A5 m c5)).heap.size = w5.heap.size by simp [World.setCell]]
          omega
        have Ho5 := hide o5
        have Hp6 := hide p6
        clear o5 p5 p6 HB5 ho5 B5 x3
        go_wp2
        go_roundw
        case rel => exact ⟨k + 1, _, by omega, by go_num, unhide Ho5, unhide Hp6, B6, s6⟩
        case measure => simp [intOf]; omega
    · obtain rfl : k = n := by omega
      clear hO hP
      go_wp2
      go_ret
      exact ⟨⟨A1, c1, qs, rfl, w1.heap.size, unhide HO, unhide Hlt, B1.size, unhide HP⟩, HB⟩
end Go.Proofs.Ytdpbjigdihajjaa
