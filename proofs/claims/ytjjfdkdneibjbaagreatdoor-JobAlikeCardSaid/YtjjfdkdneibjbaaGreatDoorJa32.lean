/- Joined texts: Unlike. -/
import Derived.Test.YtjjfdkdneibjbaaGreatDoorJa31
import Derived.Test.YtjjfdkdneibjbaaGreatDoorJa07
/- Walk of film.Unlike: which blocks are not alike. -/
namespace Go.Proofs.YtjjfdkdneibjbaaGreatDoor
open Go.RowKit

/-- Spans of one block each, put in one by one where two volumes are not alike. -/
def unlikeR (a b : ByteArray) : Nat → List Sp
  | 0 => []
  | k + 1 => if blkB a k = blkB b k then unlikeR a b k else putR (unlikeR a b k) [⟨(k : Int), 1⟩]
theorem putR_one {R : List Sp} (hR : WhL R) {k : Nat} : WhL (putR R [⟨(k : Int), 1⟩]) ∧ (putR R [⟨(k : Int), 1⟩]).length ≤ R.length + 1 := by
  have := putR_ok hR [⟨(k : Int), 1⟩] 1 (Nat.le_refl _)
  exact this
theorem unlikeR_ok (a b : ByteArray) (n : Nat) (hn : n ≤ 64) : ∀ k, k ≤ n → WhL (unlikeR a b k) ∧ (unlikeR a b k).length ≤ k
  | 0, _ => ⟨fun x h => by simp [unlikeR] at h, Nat.le_refl _⟩
  | k + 1, h => by
    obtain ⟨i1, i2⟩ := unlikeR_ok a b n hn k (by omega)
    rw [unlikeR]
    split
    · exact ⟨i1, by omega⟩
    · have := putR_one i1 (k := k)
      exact ⟨this.1, by omega⟩
theorem bytes_neq {t b : ByteArray} (h : t ≠ b) : (t.toList == b.toList) = false := by
  rw [← Go.beq_toListBytes]
  cases hb : (t == b) with
  | false => rfl
  | true =>
    exfalso
    apply h
    have h1 : (t.data == b.data) = true := hb
    have h2 := eq_of_beq h1
    cases t; cases b; simp at h2; subst h2; rfl
set_option maxHeartbeats 4000000 in
set_option maxRecDepth 100000 in
theorem unlike_any {w : World} {p1 g1 c1 p2 g2 c2 : Nat} {a b : ByteArray} (n : Nat) (h1 : FilmIs w p1 g1 c1 a.data.toList) (h2 : FilmIs w p2 g2 c2 b.data.toList) (ha : a.size = 8 * n) (hb : b.size = 8 * n) (hn : n ≤ 64) :
    Calls Tryz.prog 25 #[.pointer (some ⟨p1, 0, none⟩), .pointer (some ⟨p2, 0, none⟩)] w fun e w' => (∃ A c, e = .returned (.slice A (unlikeR a b n).length c) ∧ Own eSp 59 w' w.heap.size (.slice A (unlikeR a b n).length c) (unlikeR a b n)) ∧ Below w.heap.size w w' := by
  have hal : a.data.toList.length = 8 * n := by rw [← sizeB]; exact ha
  have hbl : b.data.toList.length = 8 * n := by rw [← sizeB]; exact hb
  have H1 := hide h1
  have H2 := hide h2
  have HA := hide hal
  have HB := hide hbl
  obtain ⟨NU, hNU⟩ : ∃ n', n' = (unlikeR a b n).length := ⟨_, rfl⟩
  have HNU := hide hNU
  rw [← hNU]
  have Hof := hide (of_rn w none 0 0 [] (Sl.nil_ _ _) (by decide))
  clear h1 h2 ha hb hal hbl hNU
  go_enter Tryz.func25, Tryz.ntmps25
  go_wp2_with fail
  refine (unhide Hof).mono ?_
  rintro e w1 ⟨⟨r, rfl, hr, hR⟩, B1⟩
  have s1 := B1.size
  have F1 := hide ((unhide H1).below B1)
  have F2 := hide ((unhide H2).below B1)
  have HR := hide hR
  have HB1 := hide B1
  have rl := hR.lt
  have Hb1 := hide (blocks_any n (unhide F1) (unhide HA))
  have Hb2 := hide (blocks_any n (unhide F2) (unhide HB))
  clear Hof hR B1
  go_wp2_with fail
  refine (unhide Hb1).mono ?_
  rintro e w2 ⟨rfl, hw2⟩
  subst hw2
  go_wp2_with fail
  refine (unhide Hb2).mono ?_
  rintro e w3 ⟨rfl, hw3⟩
  subst hw3
  clear Hb1 Hb2
  go_wp2_with fail
  go_loopw [6, 7, 8, 9, 10, 17] (fun _ _ _ _ _ j wr => ∃ k : Nat, k ≤ n ∧ j = .int .i64 (k : Int) ∧ RunsIs wr r (unlikeR a b k) ∧ Below w.heap.size w wr) (fun _ _ _ _ _ j _ => n - (intOf j).toNat)
  case atStart => exact ⟨0, Nat.zero_le _, rfl, unhide HR, unhide HB1⟩
  case round =>
    obtain ⟨k, hk, rfl, hR, hB⟩ := hrel
    have hok := unlikeR_ok a b n hn k hk
    have sr := hB.size
    have rlr := hR.lt
    by_cases hlt : k < n
    · have hlt' : (k : Int) < n := by omega
      have b1 := block_any n k ((unhide H1).below hB) (unhide HA) hlt
      have b2 := block_any n k ((unhide H2).below hB) (unhide HB) hlt
      have eu : unlikeR a b (k + 1) = if blkB a k = blkB b k then unlikeR a b k else putR (unlikeR a b k) [⟨(k : Int), 1⟩] := rfl
      obtain ⟨x, hx⟩ : ∃ x, x = blkB a k := ⟨_, rfl⟩
      obtain ⟨y, hy⟩ : ∃ y, y = blkB b k := ⟨_, rfl⟩
      have e1 : cutS a.data.toList (8 * k) 8 = x := hx.symm
      have e2 : cutS b.data.toList (8 * k) 8 = y := hy.symm
      rw [e1] at b1
      rw [e2] at b2
      rw [← hx, ← hy] at eu
      have Hb1 := hide b1
      have Hb2 := hide b2
      have HRk := hide hR
      have HBk := hide hB
      have Hok := hide hok
      clear b1 b2 hx hy e1 e2 hR hB hok
      by_cases hxy : x = y
      · have HE := hide (eu.trans (if_pos hxy))
        subst hxy
        clear eu
        go_wp2_with fail
        refine (unhide Hb1).mono ?_
        rintro e w4 ⟨rfl, hw4⟩
        subst hw4
        go_wp2_with fail
        refine (unhide Hb2).mono ?_
        rintro e w5 ⟨rfl, hw5⟩
        subst hw5
        go_wp2_with fail
        go_roundw
        case rel => exact ⟨k + 1, by omega, by go_num, by rw [unhide HE]; exact unhide HRk, unhide HBk⟩
        case measure => simp [intOf]; omega
      · have HE := hide (eu.trans (if_neg hxy))
        have qn := bytes_neq hxy
        clear eu hxy
        go_wp2_with fail
        refine (unhide Hb1).mono ?_
        rintro e w4 ⟨rfl, hw4⟩
        subst hw4
        go_wp2_with fail
        refine (unhide Hb2).mono ?_
        rintro e w5 ⟨rfl, hw5⟩
        subst hw5
        obtain ⟨w6, hw6⟩ : ∃ W, W = w5.alloc (.cells #[.int .i64 (k : Int), .int .i64 1] 59) := ⟨_, rfl⟩
        have B6 : Below w5.heap.size w5 w6 := by rw [hw6]; exact (Below.refl _ _).alloc (Nat.le_refl _) _
        have R6 := (unhide HRk).below B6
        have o6 : Own eSp 59 w6 w5.heap.size (.slice (some ⟨w5.heap.size, 0, none⟩) 1 1) [⟨(k : Int), 1⟩] := by rw [hw6]; exact Own.lit w5 #[.int .i64 (k : Int), .int .i64 1] 1 rfl rfl (by unfold maxLen; omega) (Nat.le_refl _)
        have sl6 : Sl eSp w6 (some ⟨w5.heap.size, 0, none⟩) 1 1 [⟨(k : Int), 1⟩] := by
          obtain ⟨A', c', hv, hs', _⟩ := o6.sl
          injection hv with v1 _ v3
          subst v1; subst v3
          exact hs'
        have Hp := hide (put_rn R6 (unhide Hok).1 (some ⟨w5.heap.size, 0, none⟩) 1 1 [⟨(k : Int), 1⟩] sl6 (fun _ b' off' e => by injection e with e; injection e with e _; omega) (by have := (unhide Hok).2; omega))
        have B6' := hide ((unhide HBk).trans (B6.mono sr))
        have s6 := B6.size
        clear R6 o6 sl6 B6 Hb1 Hb2
        go_wp2_with fail
        rw [← hw6]
        clear hw6
        refine (unhide Hp).mono ?_
        rintro e w7 ⟨⟨S, rfl⟩, hR7, hC7⟩
        have HR7 := hide hR7
        have B7 := hide ((unhide B6').trans (hC7.to_below (by omega) fun q hq => by omega))
        clear hR7 hC7 Hp B6'
        go_wp2_with fail
        go_roundw
        case rel => exact ⟨k + 1, by omega, by go_num, by rw [unhide HE]; exact unhide HR7, unhide B7⟩
        case measure => simp [intOf]; omega
    · obtain rfl : k = n := by omega
      have hlt' : ¬ (k : Int) < k := by omega
      have Ha := hide (all_rn hR (by omega))
      rw [← unhide HNU] at Ha
      have HBk := hide hB
      clear hR hB hok
      go_wp2_with fail
      refine (unhide Ha).mono ?_
      rintro e w4 ⟨⟨A, c, rfl, ho⟩, B4⟩
      have HO := hide (ho.lower sr)
      have BF := hide ((unhide HBk).trans (B4.mono sr))
      clear ho B4 Ha
      go_wp2_with fail
      go_ret
      exact ⟨⟨A, c, rfl, unhide HO⟩, unhide BF⟩
end Go.Proofs.YtjjfdkdneibjbaaGreatDoor
