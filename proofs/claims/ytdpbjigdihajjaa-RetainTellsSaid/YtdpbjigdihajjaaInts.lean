/- Walk of emulsionbook.SameInts: two lists of numbers alike. -/
import Derived.Test.YtdpbjigdihajjaaOwn
namespace Go.Proofs.Ytdpbjigdihajjaa
open Go.RowKit

set_option maxHeartbeats 1000000 in
theorem sameInts_any (A B : Option Addr) (n c m d : Nat) (L M : List Int) (w : World) (hs : Sl eI w A n c L) (ht : Sl eI w B m d M) :
    Calls Try.prog 12 #[.slice A n c, .slice B m d] w fun e w' => e = .returned (.bool (decide (L = M))) ∧ ∃ q, w' = w.drewN q := by
  obtain rfl := hs.1
  obtain rfl := ht.1
  have h1 := hs.2.1
  have h2 := hs.2.2.1
  have h3 := ht.2.1
  have h4 := ht.2.2.1
  by_cases hl : L.length = M.length
  · have q1 : ((L.length : Int) == (M.length : Int)) = true := beq_iff_eq.2 (by omega)
    have Hl := hide hl
    clear hl
    go_enter Try.func12, Try.ntmps12
    go_wp2
    go_loopw [5] (fun i wr => ∃ k : Nat, k ≤ L.length ∧ i = .int .i64 k ∧ (∀ j, j < k → L[j]? = M[j]?) ∧ ∃ q, wr = w.drewN q) (fun i _ => L.length - (intOf i).toNat)
    case atStart => exact ⟨0, Nat.zero_le _, rfl, fun j hj => by omega, 0, rfl⟩
    case round =>
      obtain ⟨k, hk, rfl, heq, q, rfl⟩ := hrel
      have Heq := hide heq
      clear heq
      by_cases hlt : k < L.length
      · have hlm : k < M.length := by have := unhide Hl; omega
        obtain ⟨b, off, hA', hb, hrd⟩ := hs.2.2.2 (by omega)
        obtain ⟨b2, off2, hB', hb2, hrd2⟩ := ht.2.2.2 (by omega)
        subst hA'
        subst hB'
        obtain ⟨y, hy⟩ : ∃ y, y = L[k] := ⟨_, rfl⟩
        obtain ⟨z, hz⟩ : ∃ z, z = M[k] := ⟨_, rfl⟩
        have x0 : w.cell? ⟨b, off + k, none⟩ = some (.int .i64 y) := by rw [hy]; simpa [eI] using hrd k hlt 0 (by decide)
        have x1 : w.cell? ⟨b2, off2 + k, none⟩ = some (.int .i64 z) := by rw [hz]; simpa [eI] using hrd2 k hlm 0 (by decide)
        have Hy := hide hy
        have Hz := hide hz
        clear hy hz
        by_cases he : y = z
        · have e1 : (y == z) = true := beq_iff_eq.2 he
          have He := hide he
          clear he
          go_wp2
          go_quiet (fail)
          go_wp2
          go_roundw
          case rel =>
            refine ⟨k + 1, by omega, by go_num, fun j hj => ?_, _, rfl⟩
            rcases Nat.lt_or_ge j k with h | h
            · exact unhide Heq j h
            · obtain rfl : j = k := by omega
              rw [List.getElem?_eq_getElem hlt, List.getElem?_eq_getElem hlm, ← unhide Hy, ← unhide Hz, unhide He]
          case measure => simp [intOf]; omega
        · have e1 : (y == z) = false := beq_eq_false_iff_ne.2 he
          have He := hide he
          clear he
          go_wp2
          go_quiet (fail)
          go_wp2
          go_ret
          refine ⟨ret_bool (Eq.symm (decide_eq_false fun e => ?_)), _, World.drewN_drewN _ _ _⟩
          apply unhide He
          rw [unhide Hy, unhide Hz]
          subst e
          rfl
      · have hLM : L = M := by
          apply List.ext_getElem?
          intro j
          rcases Nat.lt_or_ge j L.length with h | h
          · exact unhide Heq j (by omega)
          · rw [List.getElem?_eq_none h, List.getElem?_eq_none (by have := unhide Hl; omega)]
        have HLM := hide hLM
        clear hLM
        go_wp2
        go_ret
        exact ⟨ret_bool (Eq.symm (decide_eq_true (unhide HLM))), q, rfl⟩
  · have q1 : ((L.length : Int) == (M.length : Int)) = false := beq_eq_false_iff_ne.2 (by omega)
    have hne : L ≠ M := fun e => hl (by rw [e])
    rw [decide_eq_false hne]
    have H := hide hl
    clear hl hne
    go_enter Try.func12, Try.ntmps12
    go_wp2
    go_ret
    exact ⟨rfl, 0, rfl⟩
end Go.Proofs.Ytdpbjigdihajjaa
