/- Are points few, and their maps short enough? -/
import Derived.Test.YtdpbjigdihajjaaDoorPt
import Derived.Test.YtdpbjigdihajjaaDoorExt
namespace Go.Proofs.YtdpbjigdihajjaaDoor
open Go.RowKit

/-- What the answer says. -/
def LightR (n : Nat) (ps : List Pt) (b : Bool) : Prop := b = true → n ≤ 20 ∧ ∀ i (h : i < ps.length), ps[i].eN ≤ 80
def LightE (n : Nat) (ps : List Pt) (e : Ending) : Prop := ∃ b, e = .returned (.bool b) ∧ LightR n ps b
set_option maxHeartbeats 1000000 in
set_option maxRecDepth 100000 in
theorem light_any (A : Option Addr) (n c : Nat) (ps : List Pt) (w : World) (hs : Sl ePt w A n c ps) (he : ∀ i (h : i < ps.length), ∃ es, Sl eE w ps[i].eA ps[i].eN ps[i].eC es) :
    Calls Tryd.prog 19 #[.slice A n c] w fun e w' => LightE n ps e ∧ w' = w := by
  have hn := hs.1
  have b1 := hs.2.1
  have b2 := hs.2.2.1
  have R := hide hs.2.2.2
  have Hn := hide hn
  have He := hide he
  clear hs hn he
  go_enter Tryd.func19, Tryd.ntmps19
  go_wp2_with fail
  go_loopw [3] (fun j wr => ∃ k : Nat, k ≤ n ∧ k ≤ 30 ∧ j = .int .i64 k ∧ (∀ i (h : i < ps.length), i < k → ps[i].eN ≤ 80) ∧ wr = w) (fun j _ => n - (intOf j).toNat)
  case atStart => exact ⟨0, Nat.zero_le _, Nat.zero_le _, rfl, fun i _ h => by omega, rfl⟩
  case round =>
    obtain ⟨k, hk, hk3, rfl, hall, hwr⟩ := hrel
    obtain rfl := hwr.symm
    have Hall := hide hall
    clear hall
    by_cases hlt : k < n
    · by_cases h30 : k < 30
      · have hkp : k < ps.length := by have := unhide Hn; omega
        obtain ⟨b, off, eA, lA, hr⟩ := unhide R (by omega)
        subst eA
        have x3 : w.cell? ⟨b, off + k * 4 + 3, none⟩ = some (.slice ps[k].eA ps[k].eN ps[k].eC) := hr k hkp 3 (by decide)
        obtain ⟨es, hse⟩ := unhide He k hkp
        have m1 := hse.2.1
        have m2 := hse.2.2.1
        obtain ⟨m, hm⟩ : ∃ y, y = ps[k].eN := ⟨_, rfl⟩
        obtain ⟨d, hd⟩ : ∃ y, y = ps[k].eC := ⟨_, rfl⟩
        rw [← hm, ← hd] at x3 m1
        rw [← hd] at m2
        have Hm := hide hm
        clear hr hse hm hd
        by_cases h80 : 80 < m
        · go_wp2
          go_ret
          exact ⟨⟨false, rfl, fun h => by cases h⟩, rfl⟩
        · go_wp2
          go_roundw
          case rel =>
            refine ⟨k + 1, by omega, by omega, by go_num, fun i h1 h2 => ?_, trivial⟩
            by_cases e : i = k
            · subst e
              rw [← unhide Hm]; omega
            · exact unhide Hall i h1 (by omega)
          case measure => simp [intOf]; omega
      · have h20 : ¬ n ≤ 20 := by omega
        have h21 : decide ((n : Int) ≤ 20) = false := decide_eq_false (by omega)
        go_wp2
        go_ret
        exact ⟨⟨false, rfl, fun h => by cases h⟩, rfl⟩
    · have hkn : k = n := by omega
      subst hkn
      have hfin := hide (show decide ((k : Int) ≤ 20) = true → k ≤ 20 ∧ ∀ i (h : i < ps.length), ps[i].eN ≤ 80 from fun h => ⟨by have := of_decide_eq_true h; omega, fun i h1 => unhide Hall i h1 (by have := unhide Hn; omega)⟩)
      go_wp2
      go_ret
      exact ⟨⟨_, rfl, unhide hfin⟩, rfl⟩
end Go.Proofs.YtdpbjigdihajjaaDoor
