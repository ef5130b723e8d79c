/- Points are copied, with all that hangs on them: the extents. -/
import Derived.Test.YtdpbjigdihajjaaRetE
import Derived.Test.YtdpbjigdihajjaaBookK
namespace Go.Proofs.Ytdpbjigdihajjaa
open Go.RowKit

structure Ext where
  from_ : Int
  n : Int
  id : Int
def eE : Enc Ext := ⟨3, fun p j => match j with | 0 => .int .i64 p.from_ | 1 => .int .i64 p.n | _ => .int .i64 p.id⟩
theorem eE_one (L : List Ext) : ∀ u ∈ eE.flat L, u.oneCell' = true := by
  intro u hu
  obtain ⟨x, _, hx⟩ := List.mem_flatMap.1 hu
  simp only [Enc.cells, eE, List.mem_map, List.mem_range] at hx
  obtain ⟨j, hj, rfl⟩ := hx
  rcases (show j = 0 ∨ j = 1 ∨ j = 2 by omega) with rfl | rfl | rfl <;> rfl
theorem Try.infoE : ((Try.prog.info? 107).map fun i => (i.zero, i.size, i.bytes)) = some (some (.agg #[.int .i64 0, .int .i64 0, .int .i64 0]), 3, 24) := by kernel_rfl
set_option maxHeartbeats 1000000 in
theorem copyExtents_any (A : Option Addr) (n c : Nat) (L : List Ext) (w : World) (hs : Sl eE w A n c L) (hn : n ≤ 1000) :
    Calls Try.prog 61 #[.slice A n c] w fun e w' => ∃ A' c', e = .returned (.slice A' n c') ∧ Own eE 107 w' w.heap.size (.slice A' n c') L ∧ Below w.heap.size w w' := by
  obtain ⟨i0, hi, hz0, hz1, hz2⟩ := info_parts Try.infoE
  have hnL : n = L.length := hs.1
  have HnL := hide hnL
  go_enter Try.func61, Try.ntmps61
  clear hnL
  go_wp2_with (at_builtin; refine wpList_append_sl eE rfl _ _ _ rfl w.heap.size 107 i0 _ 24 Try.underlying26 hi hz0 hz1 hz2 rfl (by decide) _ [] rfl _ (Own.nil _ _ _ _) A n c L rfl hs (eE_one _) ?c3 ?c4 ?c5 ?_)
  case c3 => unfold maxLen; simp; omega
  case c4 => simp; omega
  case c5 => exact Nat.le_refl _
  intro v w1 hown hgr hloc
  have B1 : Below w.heap.size w w1 := (Below.refl _ _).grown hgr (Nat.le_refl _) fun j hj => by simp [Value.ownBlock] at hj
  obtain ⟨A1, c1, hv, _, _⟩ := hown.sl
  rw [← unhide HnL] at hv
  subst hv
  have Hown := hide hown
  clear hgr hloc hown
  go_wp2
  go_ret
  exact ⟨_, _, rfl, unhide Hown, B1⟩
set_option maxHeartbeats 1000000 in
set_option maxRecDepth 100000 in
theorem sameExtents_yes (A1 : Option Addr) (c1 : Nat) (A2 : Option Addr) (c2 n : Nat) (L : List Ext) (w : World) (h1 : Sl eE w A1 n c1 L) (h2 : Sl eE w A2 n c2 L) :
    Calls Try.prog 63 #[.slice A1 n c1, .slice A2 n c2] w fun e w' => e = .returned (.bool true) ∧ ∃ q, w' = w.drewN q := by
  have hn := h1.1
  have b1 := h1.2.1
  have b2 := h1.2.2.1
  have b3 := h2.2.1
  have b4 := h2.2.2.1
  have R1 := hide h1.2.2.2
  have R2 := hide h2.2.2.2
  have hne : ¬ (n : Int) ≠ n := by simp
  have Hn := hide hn
  clear h1 h2 hn
  go_enter Try.func63, Try.ntmps63
  go_wp2_with fail
  go_loopw [5] (fun i wr => ∃ (k q : Nat), k ≤ n ∧ i = .int .i64 k ∧ wr = w.drewN q) (fun i _ => n - (intOf i).toNat)
  case atStart => exact ⟨0, 0, Nat.zero_le _, rfl, rfl⟩
  case round =>
    obtain ⟨k, q, hk, rfl, rfl⟩ := hrel
    by_cases hlt : k < n
    · have hkL : k < L.length := by have := unhide Hn; omega
      obtain ⟨g1, o1, e1, l1, r1⟩ := unhide R1 (by omega)
      obtain ⟨g2, o2, e2, l2, r2⟩ := unhide R2 (by omega)
      subst e1 e2
      have x0 : w.cell? ⟨g1, o1 + k * 3, none⟩ = some (.int .i64 L[k].from_) := r1 k hkL 0 (by decide)
      have x1 : w.cell? ⟨g1, o1 + k * 3 + 1, none⟩ = some (.int .i64 L[k].n) := r1 k hkL 1 (by decide)
      have x2 : w.cell? ⟨g1, o1 + k * 3 + 2, none⟩ = some (.int .i64 L[k].id) := r1 k hkL 2 (by decide)
      have z0 : w.cell? ⟨g2, o2 + k * 3, none⟩ = some (.int .i64 L[k].from_) := r2 k hkL 0 (by decide)
      have z1 : w.cell? ⟨g2, o2 + k * 3 + 1, none⟩ = some (.int .i64 L[k].n) := r2 k hkL 1 (by decide)
      have z2 : w.cell? ⟨g2, o2 + k * 3 + 2, none⟩ = some (.int .i64 L[k].id) := r2 k hkL 2 (by decide)
      obtain ⟨W, hW⟩ : ∃ W, W = w.drewN q := ⟨_, rfl⟩
      have hc : ∀ a, W.cell? a = w.cell? a := by rw [hW]; intro a; rfl
      obtain ⟨a, ha⟩ : ∃ a, a = L[k].from_ := ⟨_, rfl⟩
      obtain ⟨b, hb⟩ : ∃ a, a = L[k].n := ⟨_, rfl⟩
      obtain ⟨d, hd⟩ : ∃ a, a = L[k].id := ⟨_, rfl⟩
      rw [← hc, ← ha] at x0 z0
      rw [← hc, ← hb] at x1 z1
      rw [← hc, ← hd] at x2 z2
      rw [← hW]
      have HW := hide hW
      clear r1 r2 hW hc ha hb hd
      go_wp2
      go_quiet (fail)
      go_wp2
      go_roundw
      case rel => exact ⟨k + 1, q + nq, by omega, by go_num, by rw [unhide HW, World.drewN_drewN]⟩
      case measure => simp [intOf]; omega
    · go_wp2
      go_ret
      exact ⟨rfl, q, rfl⟩
end Go.Proofs.Ytdpbjigdihajjaa
