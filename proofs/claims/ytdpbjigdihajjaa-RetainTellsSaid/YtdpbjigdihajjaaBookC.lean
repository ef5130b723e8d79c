/- The book's lists of numbers: are they marked. -/
import Derived.Test.YtdpbjigdihajjaaBookB
import Derived.Deep.RegionHeld3
namespace Go.Proofs.Ytdpbjigdihajjaa
open Go.RowKit

theorem own_sl5 {w : World} {B : Nat} {A : Option Addr} {n c : Nat} {L : List Int} (h : Own eI 3 w B (.slice A n c) L) : Sl eI w A n c L := by
  obtain ⟨A', c', hv, hs, _⟩ := h.sl
  injection hv with h1 h2 h3
  subst h1 h2 h3
  exact hs
/-- Each list is marked. -/
def Marked (Ls : List (List Int)) : Prop := ∀ i (h : i < Ls.length), Ls[i] = marks i 0 Ls[i].length
set_option maxHeartbeats 2000000 in
set_option maxRecDepth 100000 in
theorem marked_ints (Z : Value) (zs : List Value) (Ls : List (List Int)) (w : World) (hZ : ReadI w Z zs Ls) (hm : Marked Ls) (hn : Ls.length ≤ 1000) (hl : ∀ i (h : i < Ls.length), Ls[i].length ≤ 1000000) :
    Calls Try.prog 49 #[Z] w fun e w' => e = .returned (.bool true) ∧ Below w.heap.size w w' := by
  obtain ⟨A1, d1, rfl, s1, n1, h1⟩ := hZ
  have R1 := hide s1.2.2.2
  have b1 := s1.2.1
  have b3 := s1.2.2.1
  have H1 := hide h1
  have Hm := hide hm
  have Hl := hide hl
  have hzn : zs.length ≤ Ls.length := by omega
  have N1 := hide n1
  clear s1 h1 hm hl n1
  go_enter Try.func49, Try.ntmps49
  go_wp2_with fail
  go_loopw [3] (fun i wr => ∃ (k : Nat), k ≤ zs.length ∧ i = .int .i64 k ∧ Below w.heap.size w wr) (fun i _ => zs.length - (intOf i).toNat)
  case atStart => exact ⟨0, Nat.zero_le _, rfl, Below.refl _ _⟩
  case round =>
    obtain ⟨k, hk, rfl, HB⟩ := hrel
    by_cases hlt : k < zs.length
    · have hlt2 : k < Ls.length := by omega
      obtain ⟨g1, o1, e1, l1, r1⟩ := unhide R1 (by omega)
      subst e1
      obtain ⟨Aa, ca, ea, sa⟩ := unhide H1 k hlt hlt2
      obtain ⟨m, hmm⟩ : ∃ m, m = Ls[k].length := ⟨_, rfl⟩
      have hmk := unhide Hm k hlt2
      have hlk := unhide Hl k hlt2
      rw [← hmm] at hmk hlk sa
      have x1 : wr.cell? ⟨g1, o1 + k, none⟩ = some (.slice Aa m ca) := by
        rw [(bcell HB).1 _ _ l1, hmm, ← ea]
        simpa [eV] using r1 k hlt 0 (by decide)
      have sr := HB.size
      rw [hmk] at sa
      have hml : (marks k 0 m).length = m := marks_len k 0 m
      have hsa := sa.below HB
      have Sa := hide (show Sl eI wr.drew Aa m ca (marks k 0 m) from hsa)
      clear hsa
      have hlt3 : g1 < wr.heap.size := by omega
      clear ea r1 hmm hmk sa hml
      go_wp2
      go_region_held3 (fun W => W.cell? ⟨g1, o1 + k, none⟩ = some (.slice Aa m ca))
        (first | go_keep | exact ((bcell HB5).1 g1 (o1 + k) hlt3).trans x1)
        ((first | (go_at_call 70; refine (markInts_any k 0 m _ (by omega) (by omega) (by omega)).mono ?_; rintro e w5 ⟨A5, c5, rfl, ho5, HB5⟩) | (go_at_call 12; refine (sameInts_any Aa A5 m ca m c5 (marks k 0 m) (marks k 0 m) _ ((unhide Sa).below HB5) (own_sl5 ho5)).mono ?_; rintro e w6 ⟨rfl, q6, rfl⟩)))
      have B5 : Below w.heap.size w w5 := HB.trans ⟨HB5.os, HB5.tape, HB5.output, HB5.size, fun j hj => HB5.block j (Nat.lt_of_lt_of_le hj sr)⟩
      clear HB HB5 ho5
      go_wp2
      go_roundw
      case rel => exact ⟨k + 1, by omega, by go_num, below_drewN B5 _⟩
      case measure => simp [intOf]; omega
    · go_wp2
      go_ret
      exact ⟨rfl, HB⟩
end Go.Proofs.Ytdpbjigdihajjaa
