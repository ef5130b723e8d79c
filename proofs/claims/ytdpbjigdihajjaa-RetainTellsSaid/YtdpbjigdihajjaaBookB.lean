/- The book's lists of numbers: rows of rows; are they what they were, are they marked. -/
import Derived.Test.YtdpbjigdihajjaaBookA
namespace Go.Proofs.Ytdpbjigdihajjaa
open Go.RowKit

def eV : Enc Value := ⟨1, fun v _ => v⟩
/-- Rows of numbers, each in a block of its own, in a row of their own. -/
structure RowsI (w : World) (B : Nat) (X : Value) (vs : List Value) (Ls : List (List Int)) : Prop where
  outer : Own eV 40 w B X vs
  n : vs.length = Ls.length
  inner : ∀ i (h : i < vs.length) (h' : i < Ls.length), Own eI 3 w B vs[i] Ls[i]
  apart : ∀ i (h : i < vs.length) k, vs[i].ownBlock = some k → X.ownBlock ≠ some k
  dist : ∀ i j (h : i < vs.length) (h' : j < vs.length), i ≠ j → ∀ k, vs[i].ownBlock = some k → vs[j].ownBlock ≠ some k
/-- Rows of numbers that can be read. -/
def ReadI (w : World) (X : Value) (vs : List Value) (Ls : List (List Int)) : Prop :=
  ∃ A c, X = .slice A vs.length c ∧ Sl eV w A vs.length c vs ∧ vs.length = Ls.length ∧ ∀ i (h : i < vs.length) (h' : i < Ls.length), ∃ A c, vs[i] = .slice A Ls[i].length c ∧ Sl eI w A Ls[i].length c Ls[i]
theorem RowsI.read {w : World} {B : Nat} {X : Value} {vs : List Value} {Ls : List (List Int)} (h : RowsI w B X vs Ls) : ReadI w X vs Ls := by
  obtain ⟨A, c, h1, h2, _⟩ := h.outer.sl
  refine ⟨A, c, h1, h2, h.n, fun i h3 h4 => ?_⟩
  obtain ⟨A', c', h5, h6, _⟩ := (h.inner i h3 h4).sl
  exact ⟨A', c', h5, h6⟩
theorem ReadI.below {w w' : World} {X : Value} {vs : List Value} {Ls : List (List Int)} (h : ReadI w X vs Ls) (hb : Below w.heap.size w w') : ReadI w' X vs Ls := by
  obtain ⟨A, c, h1, h2, h3, h4⟩ := h
  refine ⟨A, c, h1, h2.below hb, h3, fun i h5 h6 => ?_⟩
  obtain ⟨A', c', h7, h8⟩ := h4 i h5 h6
  exact ⟨A', c', h7, h8.below hb⟩
theorem ReadI.drewN {w : World} {X : Value} {vs : List Value} {Ls : List (List Int)} (h : ReadI w X vs Ls) (n : Nat) : ReadI (w.drewN n) X vs Ls := h

set_option maxHeartbeats 1000000 in
set_option maxRecDepth 100000 in
theorem still_ints (b : Nat) (X Y : Value) (vs us : List Value) (Ls : List (List Int)) (w : World) (c2 : w.cell? ⟨b, 2, none⟩ = some X) (c3 : w.cell? ⟨b, 3, none⟩ = some Y) (hX : ReadI w X vs Ls) (hY : ReadI w Y us Ls) (hn : Ls.length ≤ 1000) :
    Calls Try.prog 28 #[.pointer (some ⟨b, 0, none⟩)] w fun e w' => e = .returned (.bool true) ∧ ∃ q, w' = w.drewN q := by
  obtain ⟨A1, d1, rfl, s1, n1, h1⟩ := hX
  obtain ⟨A2, d2, rfl, s2, n2, h2⟩ := hY
  have R1 := hide s1.2.2.2
  have R2 := hide s2.2.2.2
  have b1 := s1.2.1
  have b2 := s2.2.1
  have b3 := s1.2.2.1
  have b4 := s2.2.2.1
  have H1 := hide h1
  have H2 := hide h2
  clear s1 s2 h1 h2
  go_enter Try.func28, Try.ntmps28
  go_wp2_with fail
  go_loopw [3] (fun i wr => ∃ (k q : Nat), k ≤ vs.length ∧ i = .int .i64 k ∧ wr = w.drewN q) (fun i _ => vs.length - (intOf i).toNat)
  case atStart => exact ⟨0, 0, Nat.zero_le _, rfl, rfl⟩
  case round =>
    obtain ⟨k, q, hk, rfl, rfl⟩ := hrel
    by_cases hlt : k < vs.length
    · have hlt2 : k < us.length := by omega
      obtain ⟨g1, o1, e1, l1, r1⟩ := unhide R1 (by omega)
      obtain ⟨g2, o2, e2, l2, r2⟩ := unhide R2 (by omega)
      subst e1 e2
      obtain ⟨Aa, ca, ea, sa⟩ := unhide H1 k hlt (by omega)
      obtain ⟨Ab, cb, eb, sb⟩ := unhide H2 k hlt2 (by omega)
      have x1 : w.cell? ⟨g1, o1 + k, none⟩ = some (.slice Aa (Ls[k]'(by omega)).length ca) := by rw [← ea]; simpa [eV] using r1 k hlt 0 (by decide)
      have x2 : w.cell? ⟨g2, o2 + k, none⟩ = some (.slice Ab (Ls[k]'(by omega)).length cb) := by rw [← eb]; simpa [eV] using r2 k hlt2 0 (by decide)
      obtain ⟨W, hW⟩ : ∃ W, W = w.drewN q := ⟨_, rfl⟩
      have hsame : ∀ n, Calls Try.prog 12 #[.slice Aa (Ls[k]'(by omega)).length ca, .slice Ab (Ls[k]'(by omega)).length cb] (W.drewN n) fun e w' => e = .returned (.bool true) ∧ ∃ m, w' = (W.drewN n).drewN m := by
        intro n
        rw [hW]
        have := sameInts_any Aa Ab (Ls[k]'(by omega)).length ca (Ls[k]'(by omega)).length cb (Ls[k]'(by omega)) (Ls[k]'(by omega)) ((w.drewN q).drewN n) (show Sl eI ((w.drewN q).drewN n) _ _ _ _ from sa) (show Sl eI ((w.drewN q).drewN n) _ _ _ _ from sb)
        rw [decide_eq_true rfl] at this
        exact this
      have y1 : W.cell? ⟨g1, o1 + k, none⟩ = some (.slice Aa (Ls[k]'(by omega)).length ca) := by rw [hW]; exact x1
      have y2 : W.cell? ⟨g2, o2 + k, none⟩ = some (.slice Ab (Ls[k]'(by omega)).length cb) := by rw [hW]; exact x2
      have y3 : W.cell? ⟨b, 2, none⟩ = some (.slice (some ⟨g1, o1, none⟩) vs.length d1) := by rw [hW]; exact c2
      have y4 : W.cell? ⟨b, 3, none⟩ = some (.slice (some ⟨g2, o2, none⟩) us.length d2) := by rw [hW]; exact c3
      have Hsame := hide hsame
      clear hsame sa sb ea eb r1 r2
      obtain ⟨m, hm⟩ : ∃ m, m = (Ls[k]'(by omega)).length := ⟨_, rfl⟩
      rw [← hm] at y1 y2 Hsame
      rw [← hW]
      have HW := hide hW
      clear hm x1 x2 hW
      go_wp2
      go_quiet ((go_at_call 12; refine Calls.quiet_of (unhide Hsame _)))
      go_wp2
      go_roundw
      case rel => exact ⟨k + 1, q + nq, by omega, by go_num, by rw [unhide HW, World.drewN_drewN]⟩
      case measure => simp [intOf]; omega
    · go_wp2
      go_ret
      exact ⟨rfl, q, rfl⟩
end Go.Proofs.Ytdpbjigdihajjaa
