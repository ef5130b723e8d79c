/- Walks of package shelf: Sizes, Len. -/
import Derived.Test.YtdpbjigdihajjaaShelfP
namespace Go.Proofs.Ytdpbjigdihajjaa
open Go.RowKit

theorem Try.infoIn : (Try.prog.info? 3).map (fun i => (i.zero, i.size, i.bytes)) = some (some (.int .i64 0), 1, 8) := by kernel_rfl
/-- How many each bucket has. -/
def sizesB (bs : List (List (Int × Int))) : List Int := bs.map fun L => (L.length : Int)
theorem sizesB_len {bs : List (List (Int × Int))} : (sizesB bs).length = bs.length := by simp [sizesB]
theorem sizesB_succ {bs : List (List (Int × Int))} {k : Nat} (h : k < bs.length) : sizesB (bs.take (k + 1)) = sizesB (bs.take k) ++ [(bs[k].length : Int)] := by
  unfold sizesB
  rw [List.take_succ_eq_append_getElem h, List.map_append]; rfl
theorem sum_sizesB (bs : List (List (Int × Int))) : (sizesB bs).sum = (lenB bs : Int) := by
  unfold sizesB lenB
  induction bs with
  | nil => rfl
  | cons a bs ih => simp only [List.map_cons, List.sum_cons]; rw [ih]; omega

theorem one_int (n : Int) : ∀ u ∈ (#[Value.int .i64 n] : Array Value).toList, u.oneCell' = true := by
  intro u hu
  simp at hu
  subst hu
  rfl

set_option maxHeartbeats 1000000 in
theorem sizes_any {F : Nat → Prop} {s : Value} {bs : List (List (Int × Int))} (w : World) (h : ShelfIs w F s bs) :
    Calls Try.prog 59 #[s] w fun e w' => ∃ v, e = .returned v ∧ Own eI 3 w' w.heap.size v (sizesB bs) ∧ Below w.heap.size w w' := by
  have hS := h
  obtain ⟨i0, hi, hz0, hz1, hz2⟩ := info_parts Try.infoIn
  obtain ⟨p, g, vs, rfl, h2, h3, h4, h5, h6, h7, h8, h9, h10, h11, h12, h13, h14⟩ := h
  have hcell : ∀ k (hk : k < bs.length), ∃ A c, w.cell? ⟨g, k, none⟩ = some (.slice A bs[k].length c) := by
    intro k hk
    have hkv : k < vs.length := by omega
    obtain ⟨A, c, hv, _, _⟩ := (h12 k hk hkv).sl
    refine ⟨A, c, ?_⟩
    rw [← hv]
    simp [World.cell?, h11, hkv]
  have HS := hide hS
  have HC := hide hcell
  clear h12 h13 h14 h11 h10 hS hcell
  go_enter Try.func59, Try.ntmps59
  go_wp2_with (go_at_call 55; refine (none_any _ (unhide HS)).mono ?_; rintro e w' ⟨he, hw⟩; subst he; subst hw)
  go_loopw [3, 13] (fun v i wr => ∃ k : Nat, k ≤ bs.length ∧ i = .int .i64 k ∧ (∃ A c, v = .slice A k c ∧ Own eI 3 wr w'.heap.size (.slice A k c) (sizesB (bs.take k))) ∧ Below w'.heap.size w' wr)
    (fun _ i _ => bs.length - (intOf i).toNat)
  case atStart => exact ⟨0, Nat.zero_le _, rfl, ⟨none, 0, rfl, Own.nil _ _ _ _⟩, Below.refl _ _⟩
  case round =>
    obtain ⟨k, hk, rfl, ⟨Av, cv, rfl, hown⟩, HB⟩ := hrel
    by_cases hlt : k < bs.length
    · obtain ⟨A, c, hc⟩ := unhide HC k hlt
      have hc1 := ((bcell HB).1 g k h3).trans hc
      have Hsu := hide (sizesB_succ hlt)
      obtain ⟨n, hn⟩ : ∃ n, n = bs[k].length := ⟨_, rfl⟩
      rw [← hn] at hc1
      have Hn := hide hn
      have hl : (sizesB (bs.take k)).length = k := by rw [sizesB_len, List.length_take]; omega
      have Hl := hide hl
      clear hc hn hl
      go_wp2_with (at_builtin; refine wpList_append_one eI rfl _ _ _ rfl w'.heap.size 3 i0 (.int .i64 0) 8 Try.underlying40 hi hz0 hz1 hz2 rfl (by decide) _ (sizesB (bs.take k)) rfl _ hown (n : Int) #[.int .i64 n] rfl rfl (one_int _) ?c3 ?c4 ?c5 ?_)
      case c3 => rw [unhide Hl]; unfold maxLen; omega
      case c4 => rw [unhide Hl]; omega
      case c5 => exact HB.size
      intro v1 w1 hown1 hgr hloc
      have hb := HB.alloc (Nat.le_trans HB.size (Nat.le_refl _)) (.cells #[.int .i64 n] 3)
      have B2 : Below w'.heap.size w' w1 := hb.grown hgr hb.size fun j hj => (hown.lt j hj).1
      obtain ⟨A1, c1, hv1, _, _⟩ := hown1.sl
      rw [List.length_append, unhide Hl, List.length_singleton] at hv1
      subst hv1
      clear hgr hloc hb hown HB hc1
      go_wp2
      go_roundw
      case rel => exact ⟨k + 1, by omega, by go_num, ⟨A1, c1, rfl, by rw [unhide Hsu, ← unhide Hn]; exact hown1⟩, B2⟩
      case measure => simp [intOf]; omega
    · obtain rfl : k = bs.length := by omega
      rw [List.take_length] at hown
      go_wp2
      go_ret
      exact ⟨_, rfl, hown, HB⟩

/-- How many there are, as Len counts. -/
theorem sum_take_succ {L : List Int} {k : Nat} (h : k < L.length) : (L.take (k + 1)).sum = (L.take k).sum + L[k] := by
  rw [List.take_succ_eq_append_getElem h, List.sum_append]; simp
theorem sizes_take {bs : List (List (Int × Int))} (k : Nat) : 0 ≤ ((sizesB bs).take k).sum ∧ ((sizesB bs).take k).sum ≤ (lenB bs : Int) := by
  have h : (sizesB bs).take k = sizesB (bs.take k) := by unfold sizesB; rw [List.map_take]
  rw [h, sum_sizesB]
  refine ⟨by omega, ?_⟩
  have : lenB (bs.take k) ≤ lenB bs := by
    conv => rhs; rw [← List.take_append_drop k bs]
    unfold lenB
    rw [List.map_append, List.sum_append]
    omega
  omega
set_option maxHeartbeats 1000000 in
theorem len_any {F : Nat → Prop} {s : Value} {bs : List (List (Int × Int))} (w : World) (h : ShelfIs w F s bs) (hl : lenB bs ≤ 1000000000) :
    Calls Try.prog 21 #[s] w fun e w' => e = .returned (.int .i64 (lenB bs)) ∧ Below w.heap.size w w' := by
  obtain ⟨p, g, vs, rfl, h2, h3, h4, h5, h6, h7, h8, h9, h10, h11, h12, h13, h14⟩ := id h
  have HS := hide h
  obtain ⟨L, hL⟩ : ∃ L, L = sizesB bs := ⟨_, rfl⟩
  have hLl : L.length = bs.length := by rw [hL]; exact sizesB_len
  have hsum : L.sum = (lenB bs : Int) := by rw [hL]; exact sum_sizesB bs
  have htk : ∀ k, 0 ≤ (L.take k).sum ∧ (L.take k).sum ≤ (lenB bs : Int) := fun k => by rw [hL]; exact sizes_take k
  have HL := hide hL
  have Hsum := hide hsum
  have Htk := hide htk
  have hLb : L.length ≤ 100 := by omega
  clear hL hsum htk hLl h h12 h13 h14 h11 h10 h7
  go_enter Try.func21, Try.ntmps21
  go_wp2_with fail
  refine (sizes_any _ (unhide HS)).mono ?_
  rintro e w1 ⟨v, rfl, hown, HB⟩
  rw [← unhide HL] at hown
  obtain ⟨A, c, hv, hsl, _⟩ := hown.sl
  subst hv
  have hc1 := hsl.2.1
  have hc2 := hsl.2.2.1
  have hrd := hsl.2.2.2
  have Hrd := hide hrd
  clear hown hsl hrd
  go_wp2_with fail
  go_loopw [3, 9] (fun s i wr => ∃ k : Nat, k ≤ L.length ∧ i = .int .i64 k ∧ s = .int .i64 (L.take k).sum ∧ wr = w1) (fun _ i _ => L.length - (intOf i).toNat)
  case atStart => exact ⟨0, Nat.zero_le _, rfl, rfl, rfl⟩
  case round =>
    obtain ⟨k, hk, rfl, rfl, rfl⟩ := hrel
    have hb1 := unhide Htk k
    have hb2 := unhide Htk (k + 1)
    by_cases hlt : k < L.length
    · obtain ⟨b, off, hA', hb, hr⟩ := unhide Hrd (by omega)
      subst hA'
      obtain ⟨y, hy⟩ : ∃ y, y = L[k] := ⟨_, rfl⟩
      have x0 : wr.cell? ⟨b, off + k, none⟩ = some (.int .i64 y) := by rw [hy]; simpa [eI] using hr k hlt 0 (by decide)
      have Hs := hide (sum_take_succ hlt)
      have hb3 := hb2
      rw [unhide Hs, ← hy] at hb3
      have Hy := hide hy
      clear hy hr hb2
      go_wp2
      go_roundw
      case rel => exact ⟨k + 1, by omega, by go_num, by rw [unhide Hs, unhide Hy], trivial⟩
      case measure => simp [intOf]; omega
    · obtain rfl : k = L.length := by omega
      have Hfin := hide (show (L.take L.length).sum = (lenB bs : Int) by rw [List.take_length]; exact unhide Hsum)
      go_wp2
      go_ret
      exact ⟨ret_int (unhide Hfin), HB⟩

end Go.Proofs.Ytdpbjigdihajjaa
