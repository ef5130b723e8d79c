/- Joined texts: PoolC. -/
import Derived.Test.YtnpgjdhigcjihaaGreatDoorPP14
import Derived.Deep.RegionHeld3
import Derived.DeepKeys2
/- Walk of package pool: Find. -/
namespace Go.Proofs.YtnpgjdhigcjihaaGreatDoor
open Go.RowKit

/-- The shelf has just the blocks' fingerprints. -/
def PInv (es : List (Int × Blk)) (bs : List (List (Int × Int))) : Prop := ∀ x id, hasB bs x id ↔ ∃ t r, lkE es id = some (t, r) ∧ ofI t = x
theorem ShelfIs.drewN {w : World} {G : Nat → Prop} {s : Value} {bs : List (List (Int × Int))} (h : ShelfIs w G s bs) (n : Nat) : ShelfIs (w.drewN n) G s bs := h
/-- The number of the block with these bytes; 0: none has them. -/
def IsAt (es : List (Int × Blk)) (b : ByteArray) (R : Int) : Prop := (∃ r, lkE es R = some (b, r) ∧ ∀ id' r', lkE es id' = some (b, r') → id' = R) ∨ (R = 0 ∧ ∀ id' r', lkE es id' ≠ some (b, r'))

theorem bytes_ne {t b : ByteArray} (h : t ≠ b) : (t.toList == b.toList) = false := by
  rw [← Go.beq_toListBytes]
  cases hb : (t == b) with
  | false => rfl
  | true =>
    exfalso
    apply h
    have h1 : (t.data == b.data) = true := hb
    have h2 := eq_of_beq h1
    cases t; cases b; simp at h2; subst h2; rfl
/-- None of the first so many has these bytes. -/
def NotYet (es : List (Int × Blk)) (L : List Int) (b : ByteArray) (k : Nat) : Prop := ∀ j (hj : j < L.length), j < k → ∀ r, lkE es L[j] ≠ some (b, r)

section
variable {w : World} {G : Nat → Prop} {s : Value} {most : Int} {es : List (Int × Blk)} {bs : List (List (Int × Int))}
set_option maxHeartbeats 2000000 in
set_option maxRecDepth 100000 in
theorem pfind_any (b : ByteArray) (h : PoolIs w G s most es bs) (hi : PInv es bs) (hl : lenB bs < 1000000) (hb : b.size ≤ 1000000) (R : Int) (hR : IsAt es b R) :
    Calls Tryz.prog 19 #[s, .string b] w fun e w' => e = .returned (.int .i64 R) ∧ Below w.heap.size w w' := by
  have HP := hide h
  obtain ⟨p, m, q, rfl, h2, h3, h4, h5, h6, h7, h8, h9, h10, h11⟩ := h
  obtain ⟨x, hx⟩ : ∃ x, x = ofI b := ⟨_, rfl⟩
  have hxb := ofI_bd b
  rw [← hx] at hxb
  have hx0 := hxb.1
  have hx1 := hxb.2
  obtain ⟨L, hL⟩ : ∃ L, L = findL bs x := ⟨_, rfl⟩
  have hLl : L.length < 1000000 := by
    rw [hL]
    unfold findL
    rw [List.length_mergeSort, List.length_map]
    exact Nat.lt_of_le_of_lt (Nat.le_trans (List.length_filter_le _ _) (le_lenB _)) hl
  have hmem : ∀ id, id ∈ L ↔ ∃ t r, lkE es id = some (t, r) ∧ ofI t = x := fun id => by rw [hL, mem_findL]; exact hi x id
  have HX := hide hx
  have HL := hide hL
  have HM := hide hmem
  have HR := hide hR
  have hof : ∀ w1 : World, Calls Tryz.prog 40 #[.string b] w1 fun e w' => e = .returned (.int .u32 x) ∧ w' = w1 := fun w1 => by rw [hx]; exact pof_any b w1 hb
  have Hof := hide hof
  have HS := hide h11
  have HMp := hide h10
  have hf0 := field0
  clear hx hL hmem hR hi hof hxb h11 h10
  go_enter Tryz.func19, Tryz.ntmps19
  go_wp2_with (go_at_call 27; refine (pnone_any (unhide HP)).mono ?_; rintro e w' ⟨he, hw⟩; subst he; subst hw)
  go_region_held3 (fun w1 => w1.cell? ⟨p, 2, none⟩ = some (.pointer (some ⟨q, 0, none⟩)))
    (first | go_keep | exact ((bcell HB).1 p 2 h2).trans h9)
    ((first | (go_at_call 40; refine (unhide Hof _).mono ?_; rintro e w1 ⟨rfl, rfl⟩) | (go_at_call 39; refine (findG x (ShelfIs.drewN (unhide HS) _) hx0 hx1 hl L (unhide HL).symm).mono ?_; rintro e w1 ⟨A, c, rfl, ho, hS, HB⟩)))
  have B1 : Below w'.heap.size w' w1 := (below_drewN (Below.refl _ _) 1).trans HB
  have c1 := ((bcell B1).1 p 1 h2).trans h8
  have HMp1 := hide ((unhide HMp).below B1)
  obtain ⟨_, _, hv, hsl, _⟩ := ho.sl
  injection hv with hv1 _ hv2
  subst hv1 hv2
  have HRd := hide hsl.2.2.2
  clear HB ho hS hsl HMp
  go_wp2_with fail
  go_loop [17] (fun i => ∃ k : Nat, k ≤ L.length ∧ i = .int .i64 k ∧ NotYet es L b k) (fun i => L.length - (intOf i).toNat)
  case atStart => exact ⟨0, Nat.zero_le _, rfl, fun j _ h => absurd h (Nat.not_lt_zero _)⟩
  case round =>
    obtain ⟨k, hk, rfl, hne⟩ := hrel
    have Hne := hide hne
    clear hne
    by_cases hlt : k < L.length
    · obtain ⟨bb, off, hA', hbb, hr⟩ := unhide HRd (by omega)
      subst hA'
      have x0 : w1.cell? ⟨bb, off + k, none⟩ = some (.int .i64 L[k]) := by simpa [eI] using hr k hlt 0 (by decide)
      obtain ⟨id, hid⟩ : ∃ id, id = L[k] := ⟨_, rfl⟩
      obtain ⟨t, r, htr, hoft⟩ := (unhide HM id).1 (by rw [hid]; exact List.getElem_mem hlt)
      rw [← hid] at x0
      have Htr := hide (show (lkE es id).getD (⟨#[]⟩, 0) = (t, r) by rw [htr]; rfl)
      have Htr2 := hide htr
      have Hid := hide hid
      clear hr hid htr hoft
      by_cases he : t = b
      · go_wp2_with (at_lookup; refine wpList_lookup_blk rfl _ _ rfl es m rfl (unhide HMp1) id rfl t r (unhide Htr) ?_)
        have hRid : R = id := by
          have h := unhide Htr2
          rw [he] at h
          rcases unhide HR with ⟨r0, _, hu⟩ | ⟨_, hn⟩
          · exact (hu id r h).symm
          · exact absurd h (hn id r)
        go_ret
        exact ⟨ret_int hRid.symm, B1⟩
      · have He := hide he
        have q1 := bytes_ne he
        clear he
        go_wp2_with (at_lookup; refine wpList_lookup_blk rfl _ _ rfl es m rfl (unhide HMp1) id rfl t r (unhide Htr) ?_)
        go_round
        case rel =>
          refine ⟨k + 1, by omega, by go_num, fun j hj hjk r' h => ?_⟩
          rcases Nat.lt_or_ge j k with h1 | h1
          · exact unhide Hne j hj h1 r' h
          · obtain rfl : j = k := by omega
            rw [← unhide Hid, unhide Htr2] at h
            injection h with h
            injection h with h _
            exact unhide He h
        case measure => simp [intOf]; omega
    · have hR0 : R = 0 := by
        rcases unhide HR with ⟨r0, h0, _⟩ | ⟨h, _⟩
        · exfalso
          have hm := (unhide HM R).2 ⟨b, r0, h0, (unhide HX).symm⟩
          obtain ⟨j, hj, e⟩ := List.mem_iff_getElem.1 hm
          exact unhide Hne j hj (by omega) r0 (by rw [e]; exact h0)
        · exact h
      have HR0 := hide hR0
      clear hR0
      go_wp2
      go_ret
      exact ⟨ret_int (unhide HR0).symm, B1⟩
end
end Go.Proofs.YtnpgjdhigcjihaaGreatDoor
