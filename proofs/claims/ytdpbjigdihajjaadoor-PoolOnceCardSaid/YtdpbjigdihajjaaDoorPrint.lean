/- Walks of package print: Turn, Mix, Of. -/
import Derived.Test.YtdpbjigdihajjaaDoorLib
namespace Go.Proofs.YtdpbjigdihajjaaDoor
open Go.RowKit

def turnI (x : Int) : Int := bits .or .u32 (x * 32 % 4294967296) (x / 134217728)
def mixI (a b : Int) : Int := bits .xor .u32 (turnI a) b * 2654435761 % 4294967296
theorem wrap_bd (n : Int) : 0 ≤ IntKind.u32.wrap n ∧ IntKind.u32.wrap n < 4294967296 := by
  rw [IntKind.wrap_u32]; omega
theorem turn_bd (x : Int) : 0 ≤ turnI x ∧ turnI x < 4294967296 := wrap_bd _
theorem mix_bd (a b : Int) : 0 ≤ mixI a b ∧ mixI a b < 4294967296 := by unfold mixI; omega
theorem turn_any (x : Int) (w : World) (_ : 0 ≤ x) (_ : x < 4294967296) :
    Calls Tryd.prog 87 #[.int .u32 x, .int .i64 5] w fun e w' => e = .returned (.int .u32 (turnI x)) ∧ w' = w := by
  have hb : bits .and .u64 5 31 = 5 := by kernel_rfl
  go_enter Tryd.func87, Tryd.ntmps87
  go_wp2
  go_ret
  exact ⟨rfl, rfl⟩
theorem mix_any (a b : Int) (w : World) (h0 : 0 ≤ a) (h1 : a < 4294967296) :
    Calls Tryd.prog 62 #[.int .u32 a, .int .u32 b] w fun e w' => e = .returned (.int .u32 (mixI a b)) ∧ w' = w := by
  obtain ⟨t, ht⟩ : ∃ t, t = turnI a := ⟨_, rfl⟩
  have hm : mixI a b = bits .xor .u32 t b * 2654435761 % 4294967296 := by rw [ht]; rfl
  rw [hm]
  have hx : 0 ≤ bits .xor .u32 t b ∧ bits .xor .u32 t b < 4294967296 := wrap_bd _
  have hx0 := hx.1
  have hx1 := hx.2
  have Ht := hide ht
  clear ht hm hx
  go_enter Tryd.func62, Tryd.ntmps62
  go_wp2_with (go_at_call 87; refine (turn_any a w h0 h1).mono ?_; rintro e w' ⟨he, hw⟩; subst he; subst hw; rw [← unhide Ht])
  go_ret
  exact ⟨rfl, rfl⟩
/-- The fingerprint of the first so many bytes, on the way. -/
def ofL (l : List UInt8) : Int := l.foldl (fun x b => mixI x (b.toNat : Int)) 2166136261
/-- A text's fingerprint. -/
def ofI (s : ByteArray) : Int := mixI (ofL s.data.toList) (s.size : Int)
theorem ofL_bd (l : List UInt8) : 0 ≤ ofL l ∧ ofL l < 4294967296 := by
  unfold ofL
  suffices h : ∀ (l : List UInt8) (x : Int), 0 ≤ x ∧ x < 4294967296 → 0 ≤ l.foldl (fun x b => mixI x (b.toNat : Int)) x ∧ l.foldl (fun x b => mixI x (b.toNat : Int)) x < 4294967296 from h l _ (by omega)
  intro l
  induction l with
  | nil => exact fun x h => h
  | cons a l ih => exact fun x _ => ih _ (mix_bd _ _)
theorem ofI_bd (s : ByteArray) : 0 ≤ ofI s ∧ ofI s < 4294967296 := mix_bd _ _
theorem ofL_snoc (l : List UInt8) (b : UInt8) : ofL (l ++ [b]) = mixI (ofL l) (b.toNat : Int) := by simp [ofL]
theorem take_snoc (s : ByteArray) (k : Nat) (h : k < s.size) : s.data.toList.take (k + 1) = s.data.toList.take k ++ [s[k]] := by
  rw [List.take_succ_eq_append_getElem (by simpa using h)]; rfl
set_option maxHeartbeats 1000000 in
theorem of_any (s : ByteArray) (w : World) (hs : s.size ≤ 1000000) :
    Calls Tryd.prog 38 #[.string s] w fun e w' => e = .returned (.int .u32 (ofI s)) ∧ w' = w := by
  go_enter Tryd.func38, Tryd.ntmps38
  go_wp2_with fail
  go_loop [3, 7] (fun x i => ∃ (k : Nat) (z : Int), k ≤ s.size ∧ i = .int .i64 k ∧ x = .int .u32 z ∧ z = ofL (s.data.toList.take k)) (fun _ i => s.size - (intOf i).toNat)
  case atStart => exact ⟨0, 2166136261, Nat.zero_le _, rfl, rfl, rfl⟩
  case round =>
    obtain ⟨k, z, hk, rfl, rfl, hz⟩ := hrel
    have hb := ofL_bd (s.data.toList.take k)
    rw [← hz] at hb
    have hb0 := hb.1
    have hb1 := hb.2
    have Hz := hide hz
    clear hz hb
    by_cases hlt : k < s.size
    · have Hsn := hide (take_snoc s k hlt)
      go_wp2_with (go_at_call 62; refine (mix_any z _ w hb0 hb1).mono ?_; rintro e w' ⟨he, hw⟩; subst he; subst hw)
      go_round
      case rel => exact ⟨k + 1, _, by omega, by go_num, rfl, by rw [unhide Hsn, ofL_snoc, ← unhide Hz, Int.emod_eq_of_lt (by omega) (by have := s[k].toNat_lt; omega)]⟩
      case measure => simp [intOf]; omega
    · obtain rfl : k = s.size := by omega
      have Hof := hide (show ofI s = mixI z (s.size : Int) by
        unfold ofI
        rw [unhide Hz, List.take_of_length_le (by simp)])
      go_wp2_with (go_at_call 62; refine (mix_any z _ w hb0 hb1).mono ?_; rintro e w' ⟨he, hw⟩; subst he; subst hw)
      go_ret
      exact ⟨by rw [unhide Hof]; rfl, rfl⟩
end Go.Proofs.YtdpbjigdihajjaaDoor
