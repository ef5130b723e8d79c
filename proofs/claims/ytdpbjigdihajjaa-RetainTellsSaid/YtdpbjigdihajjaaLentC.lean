/- Points are lent: one more behind them; they stay as they are. -/
import Derived.Test.YtdpbjigdihajjaaLentB
namespace Go.Proofs.Ytdpbjigdihajjaa
open Go.RowKit

theorem Sl.head_of {α : Type} {E : Enc α} {w : World} {A : Option Addr} {m c : Nat} {L M : List α} (h : Sl E w A m c (L ++ M)) : Sl E w A L.length c L := by
  obtain ⟨h1, h2, h3, h4⟩ := h
  rw [List.length_append] at h1
  refine ⟨rfl, by omega, h3, fun h0 => ?_⟩
  obtain ⟨b, off, e, hb, hr⟩ := h4 (by omega)
  refine ⟨b, off, e, hb, fun i hi j hj => ?_⟩
  have := hr i (by rw [List.length_append]; omega) j hj
  rw [List.getElem_append_left hi] at this
  exact this
def spare77 : Pt := ⟨-77, 0, 0, none, 0, 0⟩
/-- Points as they are lent: copies, with one more behind them. -/
def Lent (w w' : World) (B : Nat) (A : Option Addr) (n c : Nat) (ps qs : List Pt) : Prop :=
  Own ePt 28 w' B (.slice A (n + 1) c) (qs ++ [spare77]) ∧ ∃ base, B ≤ base ∧ PtCopy w base w' n ps qs
theorem Lent.below {w w' w'' : World} {B : Nat} {A : Option Addr} {n c : Nat} {ps qs : List Pt} (h : Lent w w' B A n c ps qs) (hb : Below w'.heap.size w' w'') : Lent w w'' B A n c ps qs := by
  obtain ⟨h1, base, h2, h3⟩ := h
  exact ⟨h1.below hb, base, h2, h3.kept fun q _ hq => hb.block q hq⟩
theorem Lent.above {w w' w'' : World} {B B' : Nat} {A : Option Addr} {n c : Nat} {ps qs : List Pt} (h : Lent w w' B A n c ps qs) (hl : w'.heap.size ≤ B') (hb : Below B' w' w'') : Lent w w'' B A n c ps qs := h.below (hb.mono hl)
theorem Lent.drewN {w w' : World} {B : Nat} {A : Option Addr} {n c : Nat} {ps qs : List Pt} (h : Lent w w' B A n c ps qs) (q : Nat) : Lent w (w'.drewN q) B A n c ps qs := h.below (below_drewN (Below.refl _ _) q)
theorem Lent.sl {w w' : World} {B : Nat} {A : Option Addr} {n c : Nat} {ps qs : List Pt} (h : Lent w w' B A n c ps qs) (hn : n = ps.length) : Sl ePt w' A n c qs := by
  obtain ⟨h1, base, h2, h3⟩ := h
  obtain ⟨A', c', h4, h5, _⟩ := h1.sl
  injection h4 with e1 e2 e3
  subst e1 e3
  have := h5.head_of
  rwa [h3.len, ← hn] at this
set_option maxHeartbeats 2000000 in
set_option maxRecDepth 100000 in
theorem lentPoints_any (A : Option Addr) (n c : Nat) (ps : List Pt) (w : World) (hs : Sl ePt w A n c ps) (hn : n ≤ 1000) (he : ExtOk w ps) :
    Calls Try.prog 6 #[.slice A n c] w fun e w' => (∃ A' c' qs, e = .returned (.slice A' n c') ∧ n + 1 ≤ c' ∧ c' ≤ maxLen ∧ Lent w w' w.heap.size A' n c' ps qs) ∧ Below w.heap.size w w' := by
  obtain ⟨i0, hi, hz0, hz1, hz2⟩ := info_parts Try.infoPt
  have hnL : n = ps.length := hs.1
  have HnL := hide hnL
  clear hnL
  go_enter Try.func6, Try.ntmps6
  go_wp2_with fail
  refine (copyPoints_any A n c ps w hs hn he).mono ?_
  rintro e w2 ⟨⟨A2, c2, qs, rfl, base, hO, hlt, hb, hP⟩, HB2⟩
  have hql : qs.length = n := by rw [hP.len]; exact (unhide HnL).symm
  have s2 := HB2.size
  go_wp2_with (at_builtin; refine wpList_append_one ePt rfl _ _ _ rfl w.heap.size 28 i0 _ 48 Try.underlying22 hi hz0 hz1 hz2 rfl (by decide) (.slice A2 n c2) qs rfl _ hO spare77 #[.int .i64 (-77), .int .i64 0, .int .i64 0, .slice none 0 0] rfl (by simp [Act.eval]) (by decide) ?c3 ?c4 ?c5 ?_)
  case c3 => rw [hql]; unfold maxLen; omega
  case c4 => rw [hql]; omega
  case c5 => omega
  intro v w3 hown3 hgr3 hloc3
  have hal (w : World) (o : Obj) : (w.alloc o).heap.size = w.heap.size + 1 := by show (w.heap.push o).size = _; simp
  have hP3 : PtCopy w base w3 n ps qs := hP.kept fun q h1 h2 => (hgr3.block q (by rw [hal]; omega) fun e => by have := hlt q e.symm; omega).trans (Below.heap_alloc w2 _ q h2)
  have B3 : Below w.heap.size w w3 := (HB2.alloc (by omega) _).grown hgr3 (by rw [hal]; omega) fun q hq => (hO.lt q hq).1
  rcases hown3.shape with ⟨_, h0⟩ | ⟨g, cap, rfl, hg1, hg2, hc1, hc2⟩
  · have := congrArg List.length h0; simp at this
  · have hl1 : (qs ++ [spare77]).length = n + 1 := by rw [List.length_append, hql]; rfl
    rw [hl1] at hown3 hc1 ⊢
    have hc2' : cap ≤ 9223372036854775807 := hc2
    have hc3 : n ≤ cap := by omega
    have Hown := hide hown3
    have HP3 := hide hP3
    clear hown3 hP3 hgr3 hloc3 hO hP hl1 hql
    go_wp2
    go_ret
    exact ⟨⟨_, cap, qs, rfl, hc1, hc2, unhide Hown, base, hb, unhide HP3⟩, B3⟩
set_option maxHeartbeats 4000000 in
set_option maxRecDepth 100000 in
theorem samePoints_yes (A1 : Option Addr) (c1 : Nat) (A2 : Option Addr) (c2 n : Nat) (ps qs : List Pt) (w : World) (h1 : Sl ePt w A1 n c1 ps) (h2 : Sl ePt w A2 n c2 qs)
    (h : ∀ i (h1 : i < ps.length) (h2 : i < qs.length), ps[i].id = qs[i].id ∧ ps[i].kind = qs[i].kind ∧ ps[i].day = qs[i].day ∧ ps[i].eN = qs[i].eN ∧ ∃ es, Sl eE w ps[i].eA ps[i].eN ps[i].eC es ∧ Sl eE w qs[i].eA qs[i].eN qs[i].eC es) :
    Calls Try.prog 26 #[.slice A1 n c1, .slice A2 n c2] w fun e w' => e = .returned (.bool true) ∧ ∃ q, w' = w.drewN q := by
  have hn := h1.1
  have hn2 := h2.1
  have b1 := h1.2.1
  have b2 := h1.2.2.1
  have b3 := h2.2.1
  have b4 := h2.2.2.1
  have R1 := hide h1.2.2.2
  have R2 := hide h2.2.2.2
  have hne : ¬ (n : Int) ≠ n := by simp
  have Hn := hide hn
  have Hn2 := hide hn2
  have H := hide h
  clear h1 h2 hn hn2 h
  go_enter Try.func26, Try.ntmps26
  go_wp2_with fail
  go_loopw [5] (fun i wr => ∃ (k q : Nat), k ≤ n ∧ i = .int .i64 k ∧ wr = w.drewN q) (fun i _ => n - (intOf i).toNat)
  case atStart => exact ⟨0, 0, Nat.zero_le _, rfl, rfl⟩
  case round =>
    obtain ⟨k, q, hk, rfl, rfl⟩ := hrel
    by_cases hlt : k < n
    · have hkL : k < ps.length := by have := unhide Hn; omega
      have hkM : k < qs.length := by have := unhide Hn2; omega
      obtain ⟨g1, o1, e1, l1, r1⟩ := unhide R1 (by omega)
      obtain ⟨g2, o2, e2, l2, r2⟩ := unhide R2 (by omega)
      subst e1 e2
      obtain ⟨q1, q2, q3, q4, es, sa, sb⟩ := unhide H k hkL hkM
      have x0 : w.cell? ⟨g1, o1 + k * 4, none⟩ = some (.int .i64 ps[k].id) := r1 k hkL 0 (by decide)
      have x1 : w.cell? ⟨g1, o1 + k * 4 + 1, none⟩ = some (.int .i64 ps[k].kind) := r1 k hkL 1 (by decide)
      have x2 : w.cell? ⟨g1, o1 + k * 4 + 2, none⟩ = some (.int .i64 ps[k].day) := r1 k hkL 2 (by decide)
      have x3 : w.cell? ⟨g1, o1 + k * 4 + 3, none⟩ = some (.slice ps[k].eA ps[k].eN ps[k].eC) := r1 k hkL 3 (by decide)
      have z0 : w.cell? ⟨g2, o2 + k * 4, none⟩ = some (.int .i64 qs[k].id) := r2 k hkM 0 (by decide)
      have z1 : w.cell? ⟨g2, o2 + k * 4 + 1, none⟩ = some (.int .i64 qs[k].kind) := r2 k hkM 1 (by decide)
      have z2 : w.cell? ⟨g2, o2 + k * 4 + 2, none⟩ = some (.int .i64 qs[k].day) := r2 k hkM 2 (by decide)
      have z3 : w.cell? ⟨g2, o2 + k * 4 + 3, none⟩ = some (.slice qs[k].eA qs[k].eN qs[k].eC) := r2 k hkM 3 (by decide)
      rw [← q1] at z0
      rw [← q2] at z1
      rw [← q3] at z2
      rw [← q4] at z3 sb
      obtain ⟨W, hW⟩ : ∃ W, W = w.drewN q := ⟨_, rfl⟩
      have hc : ∀ a, W.cell? a = w.cell? a := by rw [hW]; intro a; rfl
      obtain ⟨a, ha⟩ : ∃ a, a = ps[k].id := ⟨_, rfl⟩
      obtain ⟨b, hb⟩ : ∃ a, a = ps[k].kind := ⟨_, rfl⟩
      obtain ⟨d, hd⟩ : ∃ a, a = ps[k].day := ⟨_, rfl⟩
      obtain ⟨D1, hD1⟩ : ∃ a, a = ps[k].eA := ⟨_, rfl⟩
      obtain ⟨D2, hD2⟩ : ∃ a, a = qs[k].eA := ⟨_, rfl⟩
      obtain ⟨d1, hd1⟩ : ∃ a, a = ps[k].eC := ⟨_, rfl⟩
      obtain ⟨d2, hd2⟩ : ∃ a, a = qs[k].eC := ⟨_, rfl⟩
      obtain ⟨m, hm⟩ : ∃ a, a = ps[k].eN := ⟨_, rfl⟩
      rw [← hD1, ← hd1, ← hm] at sa
      rw [← hD2, ← hd2, ← hm] at sb
      rw [← hc, ← ha] at x0 z0
      rw [← hc, ← hb] at x1 z1
      rw [← hc, ← hd] at x2 z2
      rw [← hc, ← hD1, ← hd1, ← hm] at x3
      rw [← hc, ← hD2, ← hd2, ← hm] at z3
      have hsame : ∀ n, Calls Try.prog 63 #[.slice D1 m d1, .slice D2 m d2] (W.drewN n) fun e w' => e = .returned (.bool true) ∧ ∃ m, w' = (W.drewN n).drewN m := by
        intro n
        rw [hW]
        exact sameExtents_yes D1 d1 D2 d2 m es ((w.drewN q).drewN n) (show Sl eE ((w.drewN q).drewN n) _ _ _ _ from sa) (show Sl eE ((w.drewN q).drewN n) _ _ _ _ from sb)
      have Hsame := hide hsame
      rw [← hW]
      have HW := hide hW
      clear r1 r2 hW hc ha hb hd hD1 hD2 hd1 hd2 hm sa sb q1 q2 q3 q4 hsame
      go_wp2
      go_quiet ((go_at_call 63; refine Calls.quiet_of (unhide Hsame _)))
      go_wp2
      go_roundw
      case rel => exact ⟨k + 1, q + nq, by omega, by go_num, by rw [unhide HW, World.drewN_drewN]⟩
      case measure => simp [intOf]; omega
    · go_wp2
      go_ret
      exact ⟨rfl, q, rfl⟩
set_option maxHeartbeats 2000000 in
set_option maxRecDepth 100000 in
theorem staysPoints_yes (A1 : Option Addr) (c1 : Nat) (A2 : Option Addr) (c2 n B : Nat) (ps qs : List Pt) (w0 w : World) (hL : Lent w0 w B A1 n c1 ps qs) (hc : n + 1 ≤ c1) (hc2 : c1 ≤ maxLen) (h2 : Sl ePt w A2 n c2 ps) (hb : Below w0.heap.size w0 w) :
    Calls Try.prog 15 #[.slice A1 n c1, .slice A2 n c2] w fun e w' => e = .returned (.bool true) ∧ ∃ q, w' = w.drewN q := by
  have hsl := hL.sl h2.1
  obtain ⟨hO, base, hb2, hP⟩ := hL
  have hlq : qs.length = n := by rw [hP.len]; exact h2.1.symm
  have hsame : ∀ i (h1 : i < qs.length) (h2 : i < ps.length), qs[i].id = ps[i].id ∧ qs[i].kind = ps[i].kind ∧ qs[i].day = ps[i].day ∧ qs[i].eN = ps[i].eN ∧ ∃ es, Sl eE w qs[i].eA qs[i].eN qs[i].eC es ∧ Sl eE w ps[i].eA ps[i].eN ps[i].eC es := fun i h3 h4 => by
    obtain ⟨a1, a2, a3, a4⟩ := hP.same i h3 h4
    obtain ⟨es, a5, a6⟩ := hP.done i h3 h4 (by omega)
    obtain ⟨A', c', a7, a8, _⟩ := a6.sl
    injection a7 with e1 e2 e3
    subst e1 e3
    rw [← e2] at a8
    exact ⟨a1, a2, a3, a4, es, a8, a5.below hb⟩
  have Hcall := hide (samePoints_yes A1 c1 A2 c2 n qs ps w hsl h2 hsame)
  rcases hO.shape with ⟨_, h0⟩ | ⟨g, cap, hv, _⟩
  · have := congrArg List.length h0; simp at this
  · injection hv with e1 e2 e3
    subst e1 e3
    have x77 : w.cell? ⟨g, n * 4, none⟩ = some (.int .i64 (-77)) := by
      have := hO.cell (i := n) (j := 0) (by rw [List.length_append, hlq]; simp) (by decide)
      have hq : (qs ++ [spare77])[n]'(by rw [List.length_append, hlq]; simp) = spare77 := by
        rw [List.getElem_append_right (by omega)]; simp [hlq]
      rw [hq] at this
      simpa [ePt, spare77] using this
    have hc2' : c1 ≤ 9223372036854775807 := hc2
    clear hO hP hsame hsl e2 h2 hb
    go_enter Try.func15, Try.ntmps15
    go_wp2_with fail
    refine (unhide Hcall).mono ?_
    rintro e w1 ⟨rfl, q, rfl⟩
    have y77 : (w.drewN q).cell? ⟨g, n * 4, none⟩ = some (.int .i64 (-77)) := x77
    obtain ⟨W, hW⟩ : ∃ W, W = w.drewN q := ⟨_, rfl⟩
    rw [← hW] at y77 ⊢
    have HW := hide hW
    clear hW x77
    go_wp2
    go_ret
    exact ⟨rfl, q, unhide HW⟩
end Go.Proofs.Ytdpbjigdihajjaa
