/- slices.Compact where no two faults are alike. -/
import Derived.Test.YtdpbjigdihajjaaDoorScrC
import Derived.Deep.CutBlock
namespace Go.Proofs.YtdpbjigdihajjaaDoor
open Go.RowKit

set_option maxHeartbeats 2000000 in
set_option maxRecDepth 100000 in
theorem compact_any (A : Option Addr) (n c : Nat) (L : List (Int × Int)) (w : World) (h : Sl eF w A n c L) (hn : L.Nodup) :
    Calls Tryd.prog 48 #[.slice A n c] w fun e w' => e = .returned (.slice A n c) ∧ ∃ q, w' = w.drewN q := by
  have hl := hide h.1
  have b1 := h.2.1
  have b2 := h.2.2.1
  have R := hide h.2.2.2
  have Hn := hide hn
  clear h hn
  by_cases h2 : n < 2
  · have h2' : (n : Int) < 2 := by omega
    clear h2
    go_enter Tryd.func48, Tryd.ntmps48
    go_wp2
    go_ret
    exact ⟨rfl, 0, rfl⟩
  · obtain ⟨b, o, eA, lb, hr⟩ := unhide R (by omega)
    subst eA
    have Hr := hide hr
    clear hr R
    go_enter Tryd.func48, Tryd.ntmps48
    go_wp2_with fail
    go_loopw [3] (fun j wr => ∃ k q : Nat, 1 ≤ k ∧ k ≤ n ∧ j = .int .i64 k ∧ wr = w.drewN q) (fun j _ => n - (intOf j).toNat)
    case atStart => exact ⟨1, 0, Nat.le_refl _, by omega, rfl, rfl⟩
    case round =>
      obtain ⟨k, q, hk1, hk, rfl, hwr⟩ := hrel
      by_cases hlt : k < n
      · obtain ⟨p, rfl⟩ : ∃ p, k = p + 1 := ⟨k - 1, by omega⟩
        have hp1 : p + 1 < L.length := by have := unhide hl; omega
        have hp0 : p < L.length := by omega
        have hc : ∀ a, wr.cell? a = w.cell? a := by rw [hwr]; intro a; rfl
        have x0 : wr.cell? ⟨b, o + (p + 1) * 2, none⟩ = some (.int .i64 L[p + 1].1) := (hc _).trans ((unhide Hr) (p + 1) hp1 0 (by decide))
        have x1 : wr.cell? ⟨b, o + (p + 1) * 2 + 1, none⟩ = some (.int .i64 L[p + 1].2) := (hc _).trans ((unhide Hr) (p + 1) hp1 1 (by decide))
        have y0 : wr.cell? ⟨b, o + p * 2, none⟩ = some (.int .i64 L[p].1) := (hc _).trans ((unhide Hr) p hp0 0 (by decide))
        have y1 : wr.cell? ⟨b, o + p * 2 + 1, none⟩ = some (.int .i64 L[p].2) := (hc _).trans ((unhide Hr) p hp0 1 (by decide))
        have hne : L[p + 1] ≠ L[p] := fun e => by
          have h1 : L[p + 1]? = L[p]? := by rw [List.getElem?_eq_getElem hp1, List.getElem?_eq_getElem hp0, e]
          have := (List.getElem?_inj hp1 (unhide Hn)).1 h1
          omega
        obtain ⟨x, hx⟩ : ∃ x, x = L[p + 1] := ⟨_, rfl⟩
        obtain ⟨y, hy⟩ : ∃ x, x = L[p] := ⟨_, rfl⟩
        rw [← hx] at x0 x1 hne
        rw [← hy] at y0 y1 hne
        obtain ⟨a1, a2⟩ := x
        obtain ⟨d1, d2⟩ := y
        have x0 : wr.cell? ⟨b, o + (p + 1) * 2, none⟩ = some (.int .i64 a1) := x0
        have x1 : wr.cell? ⟨b, o + (p + 1) * 2 + 1, none⟩ = some (.int .i64 a2) := x1
        have y0 : wr.cell? ⟨b, o + p * 2, none⟩ = some (.int .i64 d1) := y0
        have y1 : wr.cell? ⟨b, o + p * 2 + 1, none⟩ = some (.int .i64 d2) := y1
        have hcast : ((p + 1 : Nat) : Int) = (p : Int) + 1 := by omega
        have hpi : ((p + 1 : Nat) : Int) - 1 = p := by omega
        have Hwr := hide hwr
        have hne2 : ¬ (a1 = d1 ∧ a2 = d2) := fun h => hne (by rw [h.1, h.2])
        clear hx hy hc hne hwr
        go_upto_region 6 with fail
        go_cut [25] from 10 to 59 (fun s25 wx => s25 = .bool false ∧ ∃ nq, wx = wr.drewN nq)
        case first =>
          by_cases h1 : a1 = d1
          · have h2 : ¬ a2 = d2 := fun e => hne2 ⟨h1, e⟩
            have q1 : (a1 == d1) = true := beq_iff_eq.2 h1
            have q2 : (a2 == d2) = false := beq_eq_false_iff_ne.2 h2
            clear h1 h2 hne2
            go_quiet (fail)
            go_wp2_with fail
            go_meet
            case rel => exact ⟨rfl, nq, rfl⟩
          · have q1 : (a1 == d1) = false := beq_eq_false_iff_ne.2 h1
            clear h1 hne2
            go_quiet (fail)
            go_wp2_with fail
            go_meet
            case rel => exact ⟨rfl, nq, rfl⟩
        case rest =>
          obtain ⟨rfl, nq, rfl⟩ := hcut
          go_wp2
          go_roundw
          case rel => exact ⟨p + 1 + 1, q + nq, by omega, by omega, by go_num, by rw [unhide Hwr, World.drewN_drewN]⟩
          case measure => simp [intOf]; omega
      · obtain rfl : k = n := by omega
        go_wp2
        go_ret
        exact ⟨rfl, q, rfl⟩
end Go.Proofs.YtdpbjigdihajjaaDoor
