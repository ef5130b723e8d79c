/- Walk of the law PoolFull. -/
import Derived.Test.YtdpbjigdihajjaaDoorLawFullA
import Derived.Laws.BytesArg
namespace Go.Proofs.YtdpbjigdihajjaaDoor
open Go.RowKit

theorem conv2 (W : World) (a b : Int) : (convert 28 9 (.slice (some ⟨W.heap.size, 0, none⟩) 2 2)).run Tryd.prog (W.alloc (.cells #[.int .u8 a, .int .u8 b] 5)) = .ok (.string (strOfNums [a, b])) (W.alloc (.cells #[.int .u8 a, .int .u8 b] 5)) :=
  run_convert_bytes_arg _ _ _ Tryd.underlying28 Tryd.underlying5 _ 0 2 2 [a, b] rfl (fun i hi => by
    rw [World.cell?_alloc_at _ _ _ _ rfl]
    rcases (show i = 0 ∨ i = 1 by omega) with rfl | rfl <;> rfl) _ Tryd.underlying9
/-- The name of the block with this place. -/
def nameB (i : Nat) : ByteArray := ⟨#[98, 108, 111, 99, 107, 45, UInt8.ofNat (65 + i / 30), UInt8.ofNat (65 + i % 30)]⟩
theorem nameB_size (i : Nat) : (nameB i).size = 8 := rfl
theorem nameB_zero (i : Nat) : zeroB (nameB i) = false := by
  unfold zeroB nameB
  simp
theorem nameB_inj {i j : Nat} (hi : i < 60) (hj : j < 60) (h : nameB i = nameB j) : i = j := by
  have h1 := congrArg (fun b : ByteArray => b.data.toList[6]?) h
  have h2 := congrArg (fun b : ByteArray => b.data.toList[7]?) h
  simp [nameB] at h1 h2
  have a1 := congrArg UInt8.toNat h1
  have a2 := congrArg UInt8.toNat h2
  simp at a1 a2
  omega
theorem nameB_eq (k : Nat) : (⟨#[98, 108, 111, 99, 107, 45]⟩ : ByteArray) ++ strOfNums [65 + (k : Int) / 30, 65 + (k : Int) % 30] = nameB k := by
  have h1 : (65 + (k : Int) / 30).toNat = 65 + k / 30 := by omega
  have h2 : (65 + (k : Int) % 30).toNat = 65 + k % 30 := by omega
  apply ByteArray.ext
  rw [ByteArray.data_append]
  unfold strOfNums nameB
  simp only [List.map_cons, List.map_nil, h1, h2]
  rfl
/-- anew0000 -/
def sNew : ByteArray := ⟨#[97, 110, 101, 119, 48, 48, 48, 48]⟩
theorem nameB_new (i : Nat) : nameB i ≠ sNew := fun h => by
  have h1 := congrArg (fun b : ByteArray => b.data.toList[0]?) h
  simp [nameB, sNew] at h1
/-- The first so many names, each held once. -/
def FullE (es : List (Int × Blk)) (k : Nat) : Prop := es.length = k ∧ ∀ id, lkE es id = if 1 ≤ id ∧ id ≤ (k : Int) then some (nameB (id - 1).toNat, 1) else none
theorem FullE.nil : FullE [] 0 := ⟨rfl, fun id => by rw [if_neg (by omega)]; rfl⟩
theorem FullE.least {es : List (Int × Blk)} {k : Nat} (h : FullE es k) : Least es ((k : Int) + 1) :=
  ⟨by omega, by rw [h.2, if_neg (by omega)], fun j h1 h2 => ⟨_, _, by rw [h.2, if_pos (by omega)], by omega⟩⟩
theorem FullE.next {es : List (Int × Blk)} {k : Nat} (h : FullE es k) : FullE (putE es ((k : Int) + 1) (nameB k, 1)) (k + 1) := by
  refine ⟨by rw [putE_new_len _ h.least.2.1, h.1], fun id => ?_⟩
  by_cases e : id = (k : Int) + 1
  · subst e
    rw [lkE_put_same, if_pos (by omega), show ((k : Int) + 1 - 1).toNat = k by omega]
  · rw [lkE_put_other _ _ e, h.2]
    by_cases h1 : 1 ≤ id ∧ id ≤ (k : Int)
    · rw [if_pos h1, if_pos (by omega)]
    · rw [if_neg h1, if_neg (by omega)]
theorem FullE.no {es : List (Int × Blk)} {k : Nat} (h : FullE es k) {b : ByteArray} (hb : ∀ i, i < k → nameB i ≠ b) : ∀ id r, lkE es id ≠ some (b, r) := fun id r e => by
  rw [h.2] at e
  split at e
  · cases e
    exact hb _ (by omega) rfl
  · cases e

theorem nameB_first : nameB 0 = ⟨#[98, 108, 111, 99, 107, 45, 65, 65]⟩ := rfl
theorem FullE.at {es : List (Int × Blk)} {k : Nat} (h : FullE es k) {id : Int} (h1 : 1 ≤ id) (h2 : id ≤ k) : lkE es id = some (nameB (id - 1).toNat, 1) := by rw [h.2, if_pos ⟨h1, h2⟩]
theorem FullE.again {es : List (Int × Blk)} {k : Nat} (h : FullE es k) (hk : 1 ≤ k) : FullE (putE (putE es 1 (nameB 0, 1 + 1)) 1 (nameB 0, 1 + 1 - 1)) k := by
  have h1 := h.at (Int.le_refl 1) (by omega)
  refine ⟨by rw [putE_old_len _ _ (lkE_put_same _ _ _), putE_old_len _ _ h1, h.1], fun id => ?_⟩
  by_cases e : id = 1
  · subst e
    rw [lkE_put_same, if_pos (by omega)]; rfl
  · rw [lkE_put_other _ _ e, lkE_put_other _ _ e, h.2]
theorem FullE.hole {es : List (Int × Blk)} {k : Nat} (h : FullE es k) {q : Int} (h1 : 1 ≤ q) (h2 : q ≤ k) : Least (delE es q) q :=
  ⟨h1, by rw [lkE_del, if_pos rfl], fun j h3 h4 => ⟨_, _, by rw [lkE_del, if_neg (by omega), h.at h3 (by omega)], by omega⟩⟩
theorem FullE.hole_no {es : List (Int × Blk)} {k : Nat} (h : FullE es k) {q : Int} {b : ByteArray} (hb : ∀ i, i < k → nameB i ≠ b) : ∀ id r, lkE (delE es q) id ≠ some (b, r) := fun id r e => by
  rw [lkE_del] at e
  split at e
  · cases e
  · exact h.no hb id r e
set_option maxHeartbeats 1000000 in
set_option maxRecDepth 100000 in
theorem full_out (most drop : Int) (w : World) (h : most < 1 ∨ 60 < most) :
    Calls Tryd.prog 3 #[.int .i64 most, .int .i64 drop] w fun e w' => e = .returned (.bool true) ∧ Below w.heap.size w w' := by
  rcases h with h | h
  · go_enter Tryd.func3, Tryd.ntmps3
    go_wp2_with (go_at_call 8; refine (alive9 _).mono ?_; rintro e w1 ⟨he, B1⟩; subst he)
    go_ret
    exact ⟨rfl, B1⟩
  · have h' : ¬ most < 1 := by omega
    go_enter Tryd.func3, Tryd.ntmps3
    go_wp2_with (go_at_call 8; refine (alive9 _).mono ?_; rintro e w1 ⟨he, B1⟩; subst he)
    go_ret
    exact ⟨rfl, B1⟩

set_option maxHeartbeats 4000000 in
set_option maxRecDepth 100000 in
theorem full_in (M : Nat) (drop : Int) (w : World) (h1 : 1 ≤ M) (h2 : M ≤ 60) :
    Calls Tryd.prog 3 #[.int .i64 M, .int .i64 drop] w fun e w' => e = .returned (.bool true) ∧ Below w.heap.size w w' := by
  have hG : ∀ W : World, w.heap.size ≤ W.heap.size → ∀ k, W.heap.size ≤ k → w.heap.size ≤ k := fun W h k hk => Nat.le_trans h hk
  have HG := hide hG
  have qa : decide ((M : Int) < 1) = false := decide_eq_false (by omega)
  have qb : decide (60 < (M : Int)) = false := decide_eq_false (by omega)
  clear hG
  go_enter Tryd.func3, Tryd.ntmps3
  go_wp2_with fail
  refine (alive9 _).mono ?_
  rintro e w1 ⟨rfl, B1⟩
  have s1 := B1.size
  go_wp2_with fail
  refine (pl_new (G := fun k => w.heap.size ≤ k) M w1 (unhide HG w1 s1)).mono ?_
  rintro e w2 ⟨p, rfl, hP, HB2⟩
  rw [show min (max (M : Int) 0) 60 = M by omega] at hP
  have B2 := B1.trans (HB2.mono s1)
  have HP2 := hide hP
  clear hP HB2
  go_wp2_with fail
  go_loopw [6] (fun i wr => ∃ k : Nat, k ≤ M ∧ i = .int .i64 k ∧ (∃ es, Pl wr (fun k => w.heap.size ≤ k) (.pointer (some ⟨p, 0, none⟩)) M es ∧ FullE es k) ∧ Below w.heap.size w wr) (fun i _ => M - (intOf i).toNat)
  case atStart => exact ⟨0, Nat.zero_le _, rfl, ⟨[], unhide HP2, FullE.nil⟩, B2⟩
  case round =>
    obtain ⟨k, hk, rfl, ⟨es, hP, hE⟩, HB⟩ := hrel
    have HP := hide hP
    have HE := hide hE
    have sr := HB.size
    clear hP hE HP2 B2
    by_cases hlt : k < M
    · have hcv := conv2
      go_wp2_with fail
      rw [nameB_eq]
      obtain ⟨W1, hW1⟩ : ∃ W1, W1 = wr.alloc (.cells #[.int .u8 (65 + (k : Int) / 30), .int .u8 (65 + (k : Int) % 30)] 5) := ⟨_, rfl⟩
      have BW : Below wr.heap.size wr W1 := by rw [hW1]; exact (Below.refl _ _).alloc (Nat.le_refl _) _
      have sW := BW.size
      rw [← hW1]
      clear hW1
      refine (pl_put_new (nameB k) ((k : Int) + 1) ((unhide HP).below BW) (unhide HG W1 (by omega)) rfl (nameB_zero k) ((unhide HE).no fun i hi e => by have := nameB_inj (by omega) (by omega) e; omega) (by omega) (by omega) (by rw [(unhide HE).1]; omega) (unhide HE).least (by omega)).mono ?_
      rintro e w3 ⟨rfl, hP3, HC3⟩
      have HP3 := hide hP3
      have HE3 := hide (unhide HE).next
      have B3 := (HB.trans (BW.mono sr)).trans (HC3.to_below (by omega) fun k hk => hk)
      clear HB BW HC3 hP3 HP HE
      go_wp2
      go_roundw
      case rel => exact ⟨k + 1, by omega, by go_num, ⟨_, unhide HP3, unhide HE3⟩, B3⟩
      case measure => simp [intOf]; omega
    · obtain rfl : k = M := by omega
      obtain ⟨wA, rfl⟩ : ∃ wo : World, wo = wr := ⟨_, rfl⟩
      have HE0 := unhide HE
      have hlen := HE0.1
      have hm1 : 0 ≤ drop.tmod k % (k : Int) := Int.emod_nonneg _ (by omega)
      have hm2 : drop.tmod k % (k : Int) < k := Int.emod_lt_of_pos _ (by omega)
      have hkk : ∃ q : Int, q = 1 + drop.tmod k % (k : Int) ∧ 1 ≤ q ∧ q ≤ k := ⟨_, rfl, by omega, by omega⟩
      have hd1 : 0 ≤ drop.tmod k + k := by
        have := Int.lt_tmod_of_pos drop (show (0 : Int) < k by omega); omega
      have hd2 : drop.tmod k + k ≤ 120 := by
        have := Int.tmod_lt_of_pos drop (show (0 : Int) < k by omega); omega
      obtain ⟨q, hq, hq1, hq2⟩ := hkk
      have Hq := hide hq
      clear hq HE0
      go_wp2_with fail
      refine (pl_put_full sNew (unhide HP) rfl rfl ((unhide HE).no fun i _ => nameB_new i) (by omega) (by omega) (by omega)).mono ?_
      rintro e w3 ⟨rfl, hP3, HB3⟩
      have s3 := HB3.size
      have B3 := HB.trans (HB3.mono sr)
      have HP3 := hide hP3
      clear hP3 HB HB3 HP
      go_wp2_with fail
      refine (zeros8 w3).mono ?_
      rintro e w4 ⟨rfl, HB4⟩
      have s4 := HB4.size
      have B4 := B3.trans (HB4.mono (by omega))
      have HP4 := hide ((unhide HP3).below HB4)
      clear B3 HB4 HP3
      go_wp2_with fail
      refine (pl_put_zero sZero (unhide HP4) rfl rfl).mono ?_
      rintro e w5 ⟨rfl, hP5, HB5⟩
      have s5 := HB5.size
      have B5 := B4.trans (HB5.mono (by omega))
      have HP5 := hide hP5
      clear hP5 B4 HB5 HP4
      go_wp2_with fail
      rw [← nameB_first]
      refine (pl_put_had (nameB 0) 1 1 (unhide HP5) (unhide HG w5 (by omega)) (by omega) ((unhide HE).at (Int.le_refl 1) (by omega)) (by omega)).mono ?_
      rintro e w6 ⟨rfl, hP6, HC6⟩
      have s6 := HC6.size
      have B6 := B5.trans (HC6.to_below (by omega) fun k hk => hk)
      have HP6 := hide hP6
      have hl6 : (putE es 1 (nameB 0, 1 + 1)).length = k := by rw [putE_old_len _ _ ((unhide HE).at (Int.le_refl 1) (by omega)), (unhide HE).1]
      have Hl6 := hide hl6
      clear hP6 B5 HC6 HP5 hl6
      go_wp2_with fail
      refine (pl_room (unhide HP6) (by omega) (by omega) (by rw [unhide Hl6]; omega) 0 (by rw [unhide Hl6]; omega)).mono ?_
      rintro e w7 ⟨rfl, n7, rfl⟩
      have HP7 := hide ((unhide HP6).drewN n7)
      have B7 := below_drewN B6 n7
      clear B6 HP6
      go_wp2_with fail
      refine (pl_drop_down 1 (nameB 0) (1 + 1) (unhide HP7) (unhide HG (w6.drewN n7) (by show w.heap.size ≤ w6.heap.size; omega)) (lkE_put_same _ _ _) (by omega) (by omega)).mono ?_
      rintro e w8 ⟨rfl, hP8, HC8⟩
      have s8 : w6.heap.size ≤ w8.heap.size := HC8.size
      have B8 := B7.trans (HC8.to_below (by show w.heap.size ≤ w6.heap.size; omega) fun k hk => hk)
      have HP8 := hide hP8
      have HE8 := hide ((unhide HE).again (by omega))
      clear hP8 B7 HC8 HP7 HE
      go_wp2_with fail
      rw [← unhide Hq]
      refine (pl_drop_last q _ (unhide HP8) (unhide HG w8 (by omega)) ((unhide HE8).at hq1 hq2)).mono ?_
      rintro e w9 ⟨rfl, hP9, HC9⟩
      have s9 := HC9.size
      have B9 := B8.trans (HC9.to_below (by omega) fun k hk => hk)
      have HP9 := hide hP9
      have hl9 : (delE (putE (putE es 1 (nameB 0, 1 + 1)) 1 (nameB 0, 1 + 1 - 1)) q).length + 1 = k := by rw [delE_len (unhide HP8).nodup ((unhide HE8).at hq1 hq2), (unhide HE8).1]
      have Hl9 := hide hl9
      clear hP9 B8 HC9 HP8 hl9
      go_wp2_with fail
      refine (pl_len (unhide HP9) ((k : Int) - 1) (by have := unhide Hl9; omega)).mono ?_
      rintro e w10 ⟨he, hw⟩
      subst he hw
      go_wp2_with fail
      refine (pl_put_new sNew q (unhide HP9) (unhide HG w10 (by omega)) rfl rfl ((unhide HE8).hole_no fun i _ => nameB_new i) (by omega) (by omega) (by have := unhide Hl9; omega) ((unhide HE8).hole hq1 hq2) (by omega)).mono ?_
      rintro e w11 ⟨rfl, hP11, HC11⟩
      have B11 := B9.trans (HC11.to_below (by omega) fun k hk => hk)
      have HP11 := hide hP11
      clear hP11 B9 HC11 HP9
      go_wp2_with fail
      refine (pl_len (unhide HP11) (k : Int) (by rw [putE_new_len _ ((unhide HE8).hole hq1 hq2).2.1]; have := unhide Hl9; omega)).mono ?_
      rintro e w12 ⟨he, hw⟩
      subst he hw
      go_wp2
      go_ret
      exact ⟨rfl, B11⟩

theorem full_all (most drop : Int) (w : World) :
    Calls Tryd.prog 3 #[.int .i64 most, .int .i64 drop] w fun e w' => e = .returned (.bool true) ∧ Below w.heap.size w w' := by
  by_cases h : most < 1 ∨ 60 < most
  · exact full_out most drop w h
  · obtain ⟨M, rfl⟩ : ∃ M : Nat, most = M := ⟨most.toNat, by omega⟩
    exact full_in M drop w (by omega) (by omega)
end Go.Proofs.YtdpbjigdihajjaaDoor
