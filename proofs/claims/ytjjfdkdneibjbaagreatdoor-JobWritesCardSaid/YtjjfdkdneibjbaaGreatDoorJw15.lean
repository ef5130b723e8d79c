/- Joined texts: JobE, PoolN, StillJ, JobF, JobG, FilmG. -/
import Derived.Test.YtjjfdkdneibjbaaGreatDoorJw14
import Derived.Test.YtjjfdkdneibjbaaGreatDoorJw13
import Derived.Test.YtjjfdkdneibjbaaGreatDoorJw04
import Derived.Test.YtjjfdkdneibjbaaGreatDoorJw01
/- Walk of package job: a job is made. -/
namespace Go.Proofs.YtjjfdkdneibjbaaGreatDoor
open Go.RowKit

/-- A job's cells but for what is left. -/
def JC (W : World) (J : Nat) (kd day : Int) (q : Nat) (v : Value) : Prop := J < W.heap.size ∧ W.cell? ⟨J, 0, none⟩ = some (.int .i64 kd) ∧ W.cell? ⟨J, 1, none⟩ = some (.int .i64 day) ∧ W.cell? ⟨J, 3, none⟩ = some (.pointer (some ⟨q, 0, none⟩)) ∧
  W.cell? ⟨J, 4, none⟩ = some v ∧ W.cell? ⟨J, 5, none⟩ = some (.slice none 0 0) ∧ W.frozen? ⟨J, 2, none⟩ = false ∧ W.frozen? ⟨J, 5, none⟩ = false
section
variable {w W W' : World} {J : Nat} {kd day : Int} {q : Nat} {v : Value}
theorem JC.block (h : JC W J kd day q v) (hs : W.heap.size ≤ W'.heap.size) (hb : W'.heap[J]? = W.heap[J]?) : JC W' J kd day q v := by
  obtain ⟨h0, h1, h2, h3, h4, h5, h6, h7⟩ := h
  exact ⟨by omega, (World.cell?_of_block (a := ⟨J, 0, none⟩) hb).trans h1, (World.cell?_of_block (a := ⟨J, 1, none⟩) hb).trans h2, (World.cell?_of_block (a := ⟨J, 3, none⟩) hb).trans h3, (World.cell?_of_block (a := ⟨J, 4, none⟩) hb).trans h4,
    (World.cell?_of_block (a := ⟨J, 5, none⟩) hb).trans h5, (World.frozen?_of_block (a := ⟨J, 2, none⟩) hb).trans h6, (World.frozen?_of_block (a := ⟨J, 5, none⟩) hb).trans h7⟩
theorem JC.set2 (h : JC W J kd day q v) (u : Value) : JC (W.setCell ⟨J, 2, none⟩ u) J kd day q v := by
  obtain ⟨h0, h1, h2, h3, h4, h5, h6, h7⟩ := h
  have hc : ∀ i, i ≠ 2 → (W.setCell ⟨J, 2, none⟩ u).cell? ⟨J, i, none⟩ = W.cell? ⟨J, i, none⟩ := fun i hi => World.cell?_setCell_other _ ⟨J, 2, none⟩ ⟨J, i, none⟩ _ (by simp)
  exact ⟨by simpa [World.setCell] using h0, (hc 0 (by decide)).trans h1, (hc 1 (by decide)).trans h2, (hc 3 (by decide)).trans h3, (hc 4 (by decide)).trans h4, (hc 5 (by decide)).trans h5, by rw [World.frozen?_setCell]; exact h6, by rw [World.frozen?_setCell]; exact h7⟩
end
/-- The blocks that are to be looked at. -/
def todoL (kd : Int) (P : Nat → Bool) (n : Nat) : List Nat := (List.range n).filter fun k => decide (kd = 1) || P k
theorem todoL_succ (kd : Int) (P : Nat → Bool) (n : Nat) : todoL kd P (n + 1) = todoL kd P n ++ if decide (kd = 1) || P n then [n] else [] := by
  unfold todoL
  rw [List.range_succ, List.filter_append]
  rw [List.filter_cons, List.filter_nil]
theorem todoL_len (kd : Int) (P : Nat → Bool) (n : Nat) : (todoL kd P n).length ≤ n := by
  unfold todoL
  have := List.length_filter_le (fun k => decide (kd = 1) || P k) (List.range n)
  simpa using this
theorem todoL_lt (kd : Int) (P : Nat → Bool) (n : Nat) : ∀ k ∈ todoL kd P n, k < n := fun k hk => List.mem_range.1 (List.mem_filter.1 hk).1
theorem todoL_ord (kd : Int) (P : Nat → Bool) (n : Nat) : (todoL kd P n).Pairwise (· < ·) := List.pairwise_lt_range.filter _
theorem todoL_full (P : Nat → Bool) (n : Nat) : todoL 1 P n = List.range n := by
  unfold todoL
  simp
section
variable {w : World} {q : Nat} {F I : Nat → Prop} {n : Nat} {was : ByteArray} {gone : Nat → Bool}
theorem Stl.now (h : Stl w q F I n was gone) : ∃ p, Calls Tryz.prog 53 #[.pointer (some ⟨q, 0, none⟩)] w (fun e w' => e = .returned (.pointer (some ⟨p, 0, none⟩)) ∧ w' = w) ∧
    ∀ W, Below w.heap.size w W → Calls Tryz.prog 53 #[.pointer (some ⟨q, 0, none⟩)] W (fun e w' => e = .returned (.pointer (some ⟨p, 0, none⟩)) ∧ w' = W) ∧ Calls Tryz.prog 55 #[.pointer (some ⟨p, 0, none⟩)] W fun e w' => e = .returned (.int .i64 (n : Int)) ∧ w' = W := by
  obtain ⟨m, p, g, c, cur, K, G, h1, h2, h3, h4, h5, _⟩ := h
  exact ⟨p, now_st h1, fun W hb => ⟨now_st (h1.below hb), blocks_any n (h1.below hb).film (by rw [← sizeB]; exact h4.c)⟩⟩
set_option maxHeartbeats 8000000 in
set_option maxRecDepth 100000 in
theorem new_jb (kd day : Int) (hk : kd = 1 ∨ kd = 2) (hd : 0 ≤ day ∧ day ≤ 100000) (td : Value) (P : Nat → Bool) (h : Stl w q F I n was gone) (n64 : n ≤ 64)
    (hh : kd = 2 → ∀ k : Nat, k < n → ∀ W, Below w.heap.size w W → Calls Tryz.prog 56 #[td, .int .i64 (k : Int)] W fun e w' => e = .returned (.bool (P k)) ∧ Below W.heap.size W w')
    (A : Option Addr) (m c : Nat) (old : List Ext) (ho : Sl eE w A m c old) (m64 : m ≤ 64) :
    Calls Tryz.prog 13 #[.int .i64 kd, .int .i64 day, td, .pointer (some ⟨q, 0, none⟩), .slice A m c] w fun e w' => (∃ J H, e = .returned (.tuple #[.pointer (some ⟨J, 0, none⟩), .int .i64 0]) ∧ JobIs w' J H kd day (todoL kd P n) q old [] ∧ ∀ b, H b → w.heap.size ≤ b) ∧ Below w.heap.size w w' := by
  obtain ⟨i0, hi, hz0, hz1, hz2⟩ := info_parts Tryz.infoIn
  obtain ⟨p, hn1, hn2⟩ := h.now
  have Hn1 := hide hn1
  have Hn2 := hide hn2
  have Hcl := hide (clone_ex A m c old w ho m64)
  have Hh := hide hh
  obtain ⟨d1, d2⟩ := hd
  clear h hn1 hn2 ho hh
  have q1 : (kd != 1 && kd != 2) = false := by rcases hk with rfl | rfl <;> rfl
  rcases hk with rfl | rfl
  · go_enter Tryz.func13, Tryz.ntmps13
    go_wp2_with fail
    refine (unhide Hn1).mono ?_
    rintro e w1 ⟨rfl, hw1⟩
    subst hw1
    go_wp2_with fail
    refine (unhide Hcl).mono ?_
    rintro e w2 ⟨⟨A2, c2, rfl, ho2⟩, HB2⟩
    obtain ⟨w3, hw3⟩ : ∃ w3, w3 = w2.alloc (.cells #[.int .i64 1, .int .i64 day, .slice none 0 0, .pointer (some ⟨q, 0, none⟩), .slice A2 m c2, .slice none 0 0] 123) := ⟨_, rfl⟩
    obtain ⟨J, hJ⟩ : ∃ J, J = w2.heap.size := ⟨_, rfl⟩
    have sz2 := HB2.size
    have B3 : Below w1.heap.size w1 w3 := by rw [hw3]; exact HB2.alloc sz2 _
    have s3 : w3.heap.size = J + 1 := by rw [hw3, hJ]; simp
    have hp : w3.heap[J]? = some (.cells #[.int .i64 1, .int .i64 day, .slice none 0 0, .pointer (some ⟨q, 0, none⟩), .slice A2 m c2, .slice none 0 0] 123 (0, 0)) := by rw [hw3, hJ]; exact heap_new _ _
    have jc : JC w3 J 1 day q (.slice A2 m c2) := ⟨by omega, cell_of_heap hp rfl, cell_of_heap hp rfl, cell_of_heap hp rfl, cell_of_heap hp rfl, cell_of_heap hp rfl, by simp [World.frozen?, hp], by simp [World.frozen?, hp]⟩
    have j2 : w3.cell? ⟨J, 2, none⟩ = some (.slice none 0 0) := cell_of_heap hp rfl
    have ho3 : Own eE 107 w3 w1.heap.size (.slice A2 m c2) old := by rw [hw3]; exact ho2.alloc _
    have lo3 : ∀ b, (Value.slice A2 m c2).ownBlock = some b → w1.heap.size ≤ b ∧ b < J := fun b e => by rw [hJ]; exact ho2.lt b e
    have J1 : w1.heap.size ≤ J := by omega
    have HJC := hide jc
    have HO3 := hide ho3
    have HL3 := hide lo3
    have Hnow := hide (unhide Hn2 w3 B3).1
    have Hblk := hide (unhide Hn2 w3 B3).2
    clear Hn1 Hcl ho2 HB2 hp jc ho3 lo3 sz2 Hn2
    go_wp2_with fail
    rw [← hw3, ← hJ]
    clear hw3 hJ
    refine (unhide Hnow).mono ?_
    rintro e w4 ⟨rfl, hw4⟩
    subst hw4
    go_wp2_with fail
    refine (unhide Hblk).mono ?_
    rintro e w5 ⟨rfl, hw5⟩
    subst hw5
    clear Hnow Hblk
    go_wp2_with fail
    go_loopw [13, 43] (fun _ j wr => ∃ k : Nat, k ≤ n ∧ j = .int .i64 (k : Int) ∧ JC wr J 1 day q (.slice A2 m c2) ∧ (∃ A a c, wr.cell? ⟨J, 2, none⟩ = some (.slice A a c) ∧ Own eI 3 wr (J + 1) (.slice A a c) ((todoL 1 P k).map Int.ofNat)) ∧ Below w1.heap.size w1 wr ∧ Own eE 107 wr w1.heap.size (.slice A2 m c2) old ∧ J + 1 ≤ wr.heap.size) (fun _ j _ => n - (intOf j).toNat)
    case atStart => exact ⟨0, Nat.zero_le _, rfl, unhide HJC, ⟨none, 0, 0, j2, Own.nil _ _ _ _⟩, B3, unhide HO3, by omega⟩
    case round =>
      obtain ⟨k, hk, rfl, hjc, ⟨At, a, ct, j2, hot⟩, HB, hoo, hsz⟩ := hrel
      have HJr := hide hjc
      have HOo := hide hoo
      have HOt := hide hot
      clear hjc hoo HJC HO3 B3
      by_cases hlt : k < n
      · have hlt' : (k : Int) < n := by omega
        obtain ⟨g0, g1, g2, g3, g4, g5, g6, g7⟩ := unhide HJr
        have hTl := todoL_len 1 P k
        have HB := hide HB
        go_wp2_with (at_builtin; refine wpList_append_one eI rfl _ _ _ rfl (J + 1) 3 i0 _ 8 Tryz.underlying52 hi hz0 hz1 hz2 rfl (by decide) (.slice At a ct) ((todoL 1 P k).map Int.ofNat) rfl _ (unhide HOt) (k : Int) #[.int .i64 (k : Int)] rfl (by simp [Act.eval]) (one_int _) ?c3 ?c4 hsz ?_)
        case c3 => unfold maxLen; rw [List.length_map]; omega
        case c4 => rw [List.length_map]; omega
        intro v4 w4 hown4 hgr4 hloc4
        have hsz4 := hgr4.size
        have hal := hal wr (.cells #[.int .i64 (k : Int)] 3)
        have B4 : Below w1.heap.size w1 w4 := ((unhide HB).alloc (by omega) _).grown hgr4 (by omega) fun b e => by have := ((unhide HOt).lt b e).1; omega
        have eb : ∀ b, b < wr.heap.size → (∀ x, (Value.slice At a ct).ownBlock = some x → b ≠ x) → w4.heap[b]? = wr.heap[b]? := fun b hb hx => (hgr4.block b (by omega) fun e => hx b e.symm rfl).trans (((Below.refl wr.heap.size wr).alloc (Nat.le_refl _) (.cells #[.int .i64 (k : Int)] 3)).block b hb)
        have ebJ := eb J g0 fun x e => by have := ((unhide HOt).lt x e).1; omega
        have jc4 := (unhide HJr).block (W' := w4) (by omega) ebJ
        have j24 := (World.cell?_of_block (a := ⟨J, 2, none⟩) ebJ).trans j2
        have z24 := jc4.2.2.2.2.2.2.1
        have ho4 : Own eE 107 w4 w1.heap.size (.slice A2 m c2) old := (unhide HOo).of_block fun b e => eb b ((unhide HOo).lt b e).2 fun x hx => by have h1 := (unhide HL3 b e).2; have h2 := ((unhide HOt).lt x hx).1; omega
        have eT : (todoL 1 P k).map Int.ofNat ++ [(k : Int)] = (todoL 1 P (k + 1)).map Int.ofNat := by rw [todoL_succ]; simp 
        rw [eT] at hown4
        obtain ⟨A4, c4, rfl, _, _⟩ := hown4.sl
        obtain ⟨a4, ha4⟩ : ∃ a4, a4 = ((todoL 1 P (k + 1)).map Int.ofNat).length := ⟨_, rfl⟩
        rw [← ha4] at hown4 ⊢
        have JC4 := hide jc4
        have OT4 := hide hown4
        have OE4 := hide ho4
        have BB4 := hide B4
        clear ha4 eT hgr4 hloc4 jc4 hown4 ho4 B4 eb ebJ g0 g1 g2 g3 g4 g5 g6 g7
        go_wp2_with fail
        go_roundw
        case rel => exact ⟨k + 1, by omega, by go_num, (unhide JC4).set2 _, ⟨A4, a4, c4, World.cell?_setCell_same _ _ _ j24, (unhide OT4).of_block fun b e => Below.heap_setCell _ _ _ _ (by have := ((unhide OT4).lt b e).1; show b ≠ J; omega)⟩, (unhide BB4).setCell (p := ⟨J, 2, none⟩) J1 _, (unhide OE4).of_block fun b e => Below.heap_setCell _ _ _ _ (by have := (unhide HL3 b e).2; show b ≠ J; omega), by simp [World.setCell]; omega⟩
        case measure => simp [intOf]; omega
      · obtain rfl : k = n := by omega
        have hJ9 := hide (unhide HJr)
        go_wp2_with fail
        go_ret2
        refine ⟨⟨J, fun b => b = J ∨ (Value.slice At a ct).ownBlock = some b ∨ (Value.slice A2 m c2).ownBlock = some b, rfl, ?_, ?_⟩, HB⟩
        · obtain ⟨g0, g1, g2, g3, g4, g5, g6, g7⟩ := unhide HJr
          have hot := unhide HOt
          have hoo := unhide HOo
          obtain ⟨A', c', hv, hs, _⟩ := hot.sl
          injection hv with v1 v2 v3
          have hbt : ∀ b, (Value.slice At a ct).ownBlock = some b → b ≠ J := fun b e => by have := (hot.lt b e).1; omega
          have hbo : ∀ b, (Value.slice A2 m c2).ownBlock = some b → b ≠ J := fun b e => by have := (unhide HL3 b e).2; omega
          refine ⟨g0, .inl rfl, fun b hb => ?_, g1, g2, g3, ⟨At, a, ct, j2, ?_, fun b off e => ?_⟩, ⟨_, g4, hoo.lower (Nat.zero_le _), fun b e => ⟨.inr (.inr e), hbo b e⟩⟩, ⟨_, g5, Own.nil _ _ _ _, fun b e => by cases e⟩, g6, g7⟩
          · rcases hb with rfl | e | e
            · exact g0
            · exact (hot.lt b e).2
            · exact (hoo.lt b e).2
          · rw [v1, v2, v3]; exact hs
          · have e2 : (Value.slice At a ct).ownBlock = some b := by rw [e]; rfl
            exact ⟨.inr (.inl e2), hbt b e2⟩
        · rintro b (rfl | e | e)
          · exact J1
          · have := ((unhide HOt).lt b e).1; omega
          · exact (unhide HL3 b e).1
  · have Hh2 := hide (unhide Hh rfl)
    clear Hh
    go_enter Tryz.func13, Tryz.ntmps13
    go_wp2_with fail
    refine (unhide Hn1).mono ?_
    rintro e w1 ⟨rfl, hw1⟩
    subst hw1
    go_wp2_with fail
    refine (unhide Hcl).mono ?_
    rintro e w2 ⟨⟨A2, c2, rfl, ho2⟩, HB2⟩
    obtain ⟨w3, hw3⟩ : ∃ w3, w3 = w2.alloc (.cells #[.int .i64 2, .int .i64 day, .slice none 0 0, .pointer (some ⟨q, 0, none⟩), .slice A2 m c2, .slice none 0 0] 123) := ⟨_, rfl⟩
    obtain ⟨J, hJ⟩ : ∃ J, J = w2.heap.size := ⟨_, rfl⟩
    have sz2 := HB2.size
    have B3 : Below w1.heap.size w1 w3 := by rw [hw3]; exact HB2.alloc sz2 _
    have s3 : w3.heap.size = J + 1 := by rw [hw3, hJ]; simp
    have hp : w3.heap[J]? = some (.cells #[.int .i64 2, .int .i64 day, .slice none 0 0, .pointer (some ⟨q, 0, none⟩), .slice A2 m c2, .slice none 0 0] 123 (0, 0)) := by rw [hw3, hJ]; exact heap_new _ _
    have jc : JC w3 J 2 day q (.slice A2 m c2) := ⟨by omega, cell_of_heap hp rfl, cell_of_heap hp rfl, cell_of_heap hp rfl, cell_of_heap hp rfl, cell_of_heap hp rfl, by simp [World.frozen?, hp], by simp [World.frozen?, hp]⟩
    have j2 : w3.cell? ⟨J, 2, none⟩ = some (.slice none 0 0) := cell_of_heap hp rfl
    have ho3 : Own eE 107 w3 w1.heap.size (.slice A2 m c2) old := by rw [hw3]; exact ho2.alloc _
    have lo3 : ∀ b, (Value.slice A2 m c2).ownBlock = some b → w1.heap.size ≤ b ∧ b < J := fun b e => by rw [hJ]; exact ho2.lt b e
    have J1 : w1.heap.size ≤ J := by omega
    have HJC := hide jc
    have HO3 := hide ho3
    have HL3 := hide lo3
    have Hnow := hide (unhide Hn2 w3 B3).1
    have Hblk := hide (unhide Hn2 w3 B3).2
    clear Hn1 Hcl ho2 HB2 hp jc ho3 lo3 sz2 Hn2
    go_wp2_with fail
    rw [← hw3, ← hJ]
    clear hw3 hJ
    refine (unhide Hnow).mono ?_
    rintro e w4 ⟨rfl, hw4⟩
    subst hw4
    go_wp2_with fail
    refine (unhide Hblk).mono ?_
    rintro e w5 ⟨rfl, hw5⟩
    subst hw5
    clear Hnow Hblk
    go_wp2_with fail
    go_loopw [13, 43] (fun _ j wr => ∃ k : Nat, k ≤ n ∧ j = .int .i64 (k : Int) ∧ JC wr J 2 day q (.slice A2 m c2) ∧ (∃ A a c, wr.cell? ⟨J, 2, none⟩ = some (.slice A a c) ∧ Own eI 3 wr (J + 1) (.slice A a c) ((todoL 2 P k).map Int.ofNat)) ∧ Below w1.heap.size w1 wr ∧ Own eE 107 wr w1.heap.size (.slice A2 m c2) old ∧ J + 1 ≤ wr.heap.size) (fun _ j _ => n - (intOf j).toNat)
    case atStart => exact ⟨0, Nat.zero_le _, rfl, unhide HJC, ⟨none, 0, 0, j2, Own.nil _ _ _ _⟩, B3, unhide HO3, by omega⟩
    case round =>
      obtain ⟨k, hk, rfl, hjc, ⟨At, a, ct, j2, hot⟩, HB, hoo, hsz⟩ := hrel
      have HJr := hide hjc
      have HOo := hide hoo
      have HOt := hide hot
      clear hjc hoo HJC HO3 B3
      by_cases hlt : k < n
      · have hlt' : (k : Int) < n := by omega
        have l0 := (unhide HJr).1
        have Hhas := hide (unhide Hh2 k hlt wr HB)
        obtain ⟨pk, hpk⟩ : ∃ pk, pk = P k := ⟨_, rfl⟩
        rw [← hpk] at Hhas
        have Hpk := hide hpk
        clear hpk
        go_wp2_with fail
        refine (unhide Hhas).mono ?_
        rintro e w7 ⟨rfl, HB7⟩
        have HJr := hide ((unhide HJr).block HB7.size (HB7.block _ l0))
        have j2 := ((bcell HB7).1 _ 2 l0).trans j2
        have HOt := hide ((unhide HOt).below HB7)
        have HOo := hide ((unhide HOo).below HB7)
        have hsz7 := HB7.size
        have hsz : J + 1 ≤ w7.heap.size := by omega
        have HB : Below w1.heap.size w1 w7 := HB.trans (HB7.mono (by omega))
        clear HB7 Hhas
        cases pk with
        | true =>
          obtain ⟨g0, g1, g2, g3, g4, g5, g6, g7⟩ := unhide HJr
          have hTl := todoL_len 2 P k
          have HB := hide HB
          go_wp2_with (at_builtin; refine wpList_append_one eI rfl _ _ _ rfl (J + 1) 3 i0 _ 8 Tryz.underlying52 hi hz0 hz1 hz2 rfl (by decide) (.slice At a ct) ((todoL 2 P k).map Int.ofNat) rfl _ (unhide HOt) (k : Int) #[.int .i64 (k : Int)] rfl (by simp [Act.eval]) (one_int _) ?c3 ?c4 hsz ?_)
          case c3 => unfold maxLen; rw [List.length_map]; omega
          case c4 => rw [List.length_map]; omega
          intro v4 w4 hown4 hgr4 hloc4
          have hsz4 := hgr4.size
          have hal := hal w7 (.cells #[.int .i64 (k : Int)] 3)
          have B4 : Below w1.heap.size w1 w4 := ((unhide HB).alloc (by omega) _).grown hgr4 (by omega) fun b e => by have := ((unhide HOt).lt b e).1; omega
          have eb : ∀ b, b < w7.heap.size → (∀ x, (Value.slice At a ct).ownBlock = some x → b ≠ x) → w4.heap[b]? = w7.heap[b]? := fun b hb hx => (hgr4.block b (by omega) fun e => hx b e.symm rfl).trans (((Below.refl w7.heap.size w7).alloc (Nat.le_refl _) (.cells #[.int .i64 (k : Int)] 3)).block b hb)
          have ebJ := eb J g0 fun x e => by have := ((unhide HOt).lt x e).1; omega
          have jc4 := (unhide HJr).block (W' := w4) (by omega) ebJ
          have j24 := (World.cell?_of_block (a := ⟨J, 2, none⟩) ebJ).trans j2
          have z24 := jc4.2.2.2.2.2.2.1
          have ho4 : Own eE 107 w4 w1.heap.size (.slice A2 m c2) old := (unhide HOo).of_block fun b e => eb b ((unhide HOo).lt b e).2 fun x hx => by have h1 := (unhide HL3 b e).2; have h2 := ((unhide HOt).lt x hx).1; omega
          have eT : (todoL 2 P k).map Int.ofNat ++ [(k : Int)] = (todoL 2 P (k + 1)).map Int.ofNat := by rw [todoL_succ]; simp [← unhide Hpk]
          rw [eT] at hown4
          obtain ⟨A4, c4, rfl, _, _⟩ := hown4.sl
          obtain ⟨a4, ha4⟩ : ∃ a4, a4 = ((todoL 2 P (k + 1)).map Int.ofNat).length := ⟨_, rfl⟩
          rw [← ha4] at hown4 ⊢
          have JC4 := hide jc4
          have OT4 := hide hown4
          have OE4 := hide ho4
          have BB4 := hide B4
          clear ha4 eT hgr4 hloc4 jc4 hown4 ho4 B4 eb ebJ g0 g1 g2 g3 g4 g5 g6 g7
          go_wp2_with fail
          go_roundw
          case rel => exact ⟨k + 1, by omega, by go_num, (unhide JC4).set2 _, ⟨A4, a4, c4, World.cell?_setCell_same _ _ _ j24, (unhide OT4).of_block fun b e => Below.heap_setCell _ _ _ _ (by have := ((unhide OT4).lt b e).1; show b ≠ J; omega)⟩, (unhide BB4).setCell (p := ⟨J, 2, none⟩) J1 _, (unhide OE4).of_block fun b e => Below.heap_setCell _ _ _ _ (by have := (unhide HL3 b e).2; show b ≠ J; omega), by simp [World.setCell]; omega⟩
          case measure => simp [intOf]; omega
        | false =>
          have eT : todoL 2 P (k + 1) = todoL 2 P k := by rw [todoL_succ]; simp [← unhide Hpk]
          have HeT := hide eT
          clear eT
          go_wp2_with fail
          go_roundw
          case rel => exact ⟨k + 1, by omega, by go_num, unhide HJr, ⟨At, a, ct, j2, by rw [unhide HeT]; exact unhide HOt⟩, HB, unhide HOo, hsz⟩
          case measure => simp [intOf]; omega
      · obtain rfl : k = n := by omega
        have hJ9 := hide (unhide HJr)
        go_wp2_with fail
        go_ret2
        refine ⟨⟨J, fun b => b = J ∨ (Value.slice At a ct).ownBlock = some b ∨ (Value.slice A2 m c2).ownBlock = some b, rfl, ?_, ?_⟩, HB⟩
        · obtain ⟨g0, g1, g2, g3, g4, g5, g6, g7⟩ := unhide HJr
          have hot := unhide HOt
          have hoo := unhide HOo
          obtain ⟨A', c', hv, hs, _⟩ := hot.sl
          injection hv with v1 v2 v3
          have hbt : ∀ b, (Value.slice At a ct).ownBlock = some b → b ≠ J := fun b e => by have := (hot.lt b e).1; omega
          have hbo : ∀ b, (Value.slice A2 m c2).ownBlock = some b → b ≠ J := fun b e => by have := (unhide HL3 b e).2; omega
          refine ⟨g0, .inl rfl, fun b hb => ?_, g1, g2, g3, ⟨At, a, ct, j2, ?_, fun b off e => ?_⟩, ⟨_, g4, hoo.lower (Nat.zero_le _), fun b e => ⟨.inr (.inr e), hbo b e⟩⟩, ⟨_, g5, Own.nil _ _ _ _, fun b e => by cases e⟩, g6, g7⟩
          · rcases hb with rfl | e | e
            · exact g0
            · exact (hot.lt b e).2
            · exact (hoo.lt b e).2
          · rw [v1, v2, v3]; exact hs
          · have e2 : (Value.slice At a ct).ownBlock = some b := by rw [e]; rfl
            exact ⟨.inr (.inl e2), hbt b e2⟩
        · rintro b (rfl | e | e)
          · exact J1
          · have := ((unhide HOt).lt b e).1; omega
          · exact (unhide HL3 b e).1
end
end Go.Proofs.YtjjfdkdneibjbaaGreatDoor
/- Walk of package pool: a block's bytes. -/
namespace Go.Proofs.YtjjfdkdneibjbaaGreatDoor
open Go.RowKit

section
variable {w : World} {G : Nat → Prop} {s : Value} {most : Int} {es : List (Int × Blk)} {bs : List (List (Int × Int))}
set_option maxHeartbeats 1000000 in
theorem pget_zero (h : PoolIs w G s most es bs) :
    Calls Tryz.prog 18 #[s, .int .i64 0] w fun e w' => e = .returned (.tuple #[.string ⟨#[0, 0, 0, 0, 0, 0, 0, 0]⟩, .int .i64 0]) ∧ Below w.heap.size w w' := by
  have HT := hide (there_zero h)
  have hr : Calls Tryz.prog 66 #[.string ⟨#[0]⟩, .int .i64 8] w fun e w' => e = .returned (.string ⟨#[0, 0, 0, 0, 0, 0, 0, 0]⟩) ∧ Below w.heap.size w w' := Tryz.strings_Repeat_main ⟨#[0]⟩ 8 w (by decide) (by decide) (by decide) (by decide)
  have HR := hide hr
  obtain ⟨p, rfl⟩ := h.ptr
  clear h hr
  go_enter Tryz.func18, Tryz.ntmps18
  go_wp2_with fail
  refine (unhide HT).mono ?_
  rintro e w2 ⟨rfl, hw2⟩
  subst hw2
  go_wp2_with fail
  refine (unhide HR).mono ?_
  rintro e w3 ⟨rfl, HB⟩
  go_wp2_with fail
  go_ret2
  exact ⟨rfl, HB⟩
set_option maxHeartbeats 1000000 in
theorem pget_there (id : Int) (h : PoolIs w G s most es bs) (h0 : id ≠ 0) (t : ByteArray) (r : Int) (hn : lkE es id = some (t, r)) (hr : r ≠ 0) :
    Calls Tryz.prog 18 #[s, .int .i64 id] w fun e w' => e = .returned (.tuple #[.string t, .int .i64 0]) ∧ w' = w := by
  have HT := hide (there_yes id h h0 t r hn hr)
  have htr : (lkE es id).getD (⟨#[]⟩, 0) = (t, r) := by rw [hn]; rfl
  have Htr := hide htr
  have q0 : (id == 0) = false := beq_eq_false_iff_ne.2 h0
  obtain ⟨p, m, q, rfl, h2, h3, h4, h5, h6, h7, h8, h9, h10, h11⟩ := h
  clear h11 hn htr h0
  have f0 := field0 t r
  go_enter Tryz.func18, Tryz.ntmps18
  go_wp2_with fail
  refine (unhide HT).mono ?_
  rintro e w2 ⟨rfl, hw2⟩
  subst hw2
  go_wp2_with (at_lookup; refine wpList_lookup_blk rfl _ _ rfl es m rfl h10 id rfl t r (unhide Htr) ?_)
  go_ret2
  exact ⟨rfl, rfl⟩
set_option maxHeartbeats 1000000 in
theorem pget_no (id : Int) (h : PoolIs w G s most es bs) (h0 : id ≠ 0) (hn : lkE es id = none) :
    Calls Tryz.prog 18 #[s, .int .i64 id] w fun e w' => e = .returned (.tuple #[.string ⟨#[]⟩, .int .i64 2]) ∧ w' = w := by
  have HT := hide (there_no id h h0 hn)
  obtain ⟨p, rfl⟩ := h.ptr
  clear h hn
  go_enter Tryz.func18, Tryz.ntmps18
  go_wp2_with fail
  refine (unhide HT).mono ?_
  rintro e w2 ⟨rfl, hw2⟩
  subst hw2
  go_wp2_with fail
  go_ret2
  exact ⟨rfl, rfl⟩
theorem plt_get (id : Int) (t : ByteArray) (h : Plt w G s most es) (hg : GetE es id t) :
    Calls Tryz.prog 18 #[s, .int .i64 id] w fun e w' => e = .returned (.tuple #[.string t, .int .i64 0]) ∧ Below w.heap.size w w' := by
  obtain ⟨⟨bs, h1, h2⟩, _⟩ := h
  rcases hg with ⟨rfl, hz, h8⟩ | ⟨h0, r, hl⟩
  · rw [zeroB_eq hz h8]
    exact pget_zero h1
  · exact (pget_there id h1 (by omega) t r hl (by have := (h2.good _ _ _ hl).2.1; omega)).mono fun _ _ ⟨a, b⟩ => ⟨a, by rw [b]; exact Below.refl _ _⟩
end
end Go.Proofs.YtjjfdkdneibjbaaGreatDoor
/- Walk of package still: which blocks are kept, when all were let go. -/
namespace Go.Proofs.YtjjfdkdneibjbaaGreatDoor
open Go.RowKit
variable {w : World} {q n : Nat} {F I : Nat → Prop} {was : ByteArray} {gone : Nat → Bool}
set_option maxHeartbeats 2000000 in
set_option maxRecDepth 20000 in
theorem stl_kept_none (h : Stl w q F I n was gone) (hg : ∀ k, k < n → gone k = true) : Calls Tryz.prog 19 #[.pointer (some ⟨q, 0, none⟩)] w fun e w' => e = .returned (.slice none 0 0) ∧ w' = w := by
  obtain ⟨m, p, g, c, cur, K, G, h1, h2, h3, h4, h5, _⟩ := h
  have hno : ∀ k : Nat, lk K (k : Int) = none := fun k => by
    cases hl : lk K (k : Int) with
    | none => rfl
    | some v =>
      obtain ⟨j, e1, e2, e3⟩ := h4.d _ _ hl
      rw [hg j e2] at e3
      cases e3
  have c0 := h1.c0
  have c1 := h1.c1
  have Hn := hide (none_st h1)
  have Hb := hide (blocks_any n h1.film (by rw [← sizeB]; exact h4.c))
  have Hno := hide hno
  have HM := hide h1.map
  clear h1 h4 h5 hno hg
  go_enter Tryz.func19, Tryz.ntmps19
  go_wp2_with fail
  refine (unhide Hn).mono ?_
  rintro e w2 ⟨rfl, hw2⟩
  subst hw2
  go_wp2_with fail
  refine (unhide Hb).mono ?_
  rintro e w3 ⟨rfl, hw3⟩
  subst hw3
  clear Hn Hb
  go_wp2_with fail
  go_loopw [3, 4, 5, 6, 14] (fun v _ _ _ j wr => ∃ k : Nat, k ≤ n ∧ j = .int .i64 (k : Int) ∧ v = .slice none 0 0 ∧ wr = w3) (fun _ _ _ _ j _ => n - (intOf j).toNat)
  case atStart => exact ⟨0, Nat.zero_le _, rfl, rfl, rfl⟩
  case round =>
    obtain ⟨k, hk, rfl, rfl, hw⟩ := hrel
    subst hw
    by_cases hlt : k < n
    · have hlt' : (k : Int) < n := by omega
      have hr := run_lookup_is (P := Tryz.prog) (unhide HM) Tryz.underlying118 Tryz.underlying3 (zeroString wr) (k : Int) true
      rw [unhide Hno k] at hr
      have hr : (Instr.lookup 118 (.map (some m)) (.int .i64 (k : Int)) true).run Tryz.prog wr = .ok (.tuple #[.string ⟨#[]⟩, .bool false]) wr := hr
      go_wp2_with fail
      go_roundw
      case rel => exact ⟨k + 1, by omega, by go_num, rfl, trivial⟩
      case measure => simp [intOf]; omega
    · have hlt' : ¬ (k : Int) < n := by omega
      go_wp2_with fail
      go_ret
      exact ⟨rfl, rfl⟩
end Go.Proofs.YtjjfdkdneibjbaaGreatDoor
/- A job that goes on over its still and its pool: what its calls do, with all that is theirs in one set of blocks. -/
namespace Go.Proofs.YtjjfdkdneibjbaaGreatDoor
open Go.RowKit

/-- The job J, over the still q and the pool sp: so many of the blocks T were taken; O has all blocks that are theirs. -/
def Run (sp : Value) (most : Int) (J : Nat) (kd day : Int) (T : List Nat) (old : List Ext) (q n : Nat) (was : ByteArray) (s0 : JS) (m r : Nat) (O I : Nat → Prop) (w : World) : Prop :=
  ∃ G F H, Trio w sp most G J H kd day (T.drop r) old q F I n was (goneF (fun _ => false) (T.take r)) (runT was (T.take r) s0) ∧ JInv n was (m + r) (T.drop r) (runT was (T.take r) s0) ∧ r ≤ T.length ∧ T.Pairwise (· < ·) ∧ ∀ b, O b ↔ (G b ∨ F b ∨ H b)
section
variable {w w' : World} {sp : Value} {most : Int} {J : Nat} {kd day : Int} {T : List Nat} {old : List Ext} {q n : Nat} {was : ByteArray} {s0 : JS} {m r : Nat} {O I X : Nat → Prop}
theorem Run.chg (h : Run sp most J kd day T old q n was s0 m r O I w) (hc : Chg X w w') (hO : ∀ b, O b → ¬ X b) (hI : ∀ b, I b → ¬ X b) : Run sp most J kd day T old q n was s0 m r O I w' := by
  obtain ⟨G, F, H, h1, h2, h3, h4, h5⟩ := h
  exact ⟨G, F, H, h1.chg hc (fun b hb => hO b ((h5 b).2 (.inl hb))) (fun b hb => hO b ((h5 b).2 (.inr (.inl hb)))) (fun b hb => hO b ((h5 b).2 (.inr (.inr hb)))) hI, h2, h3, h4, h5⟩
theorem Run.below (h : Run sp most J kd day T old q n was s0 m r O I w) (hb : Below w.heap.size w w') : Run sp most J kd day T old q n was s0 m r O I w' := h.chg (Chg.of_below (F := fun _ => False) hb) (fun _ _ e => e) fun _ _ e => e
theorem Run.lt (h : Run sp most J kd day T old q n was s0 m r O I w) : ∀ b, O b → b < w.heap.size := by
  obtain ⟨G, F, H, h1, h2, h3, h4, h5⟩ := h
  intro b hb
  rcases (h5 b).1 hb with h | h | h
  · exact h1.pool.lt b h
  · exact h1.still.lt b h
  · exact h1.job.hlt b h
theorem Run.ptr (h : Run sp most J kd day T old q n was s0 m r O I w) : ∃ p, sp = .pointer (some ⟨p, 0, none⟩) := by
  obtain ⟨G, F, H, h1, h2, h3, h4, h5⟩ := h
  exact h1.pool.pl.ptr
theorem goneF_two (g : Nat → Bool) (D E : List Nat) : goneF (goneF g D) E = goneF g (D ++ E) := by
  funext j
  unfold goneF
  rw [Bool.or_assoc]
  congr 1
  rw [Bool.eq_iff_iff]
  simp
theorem run_step (N : Nat) (h : Run sp most J kd day T old q n was s0 m r O I w) (hm : ((m + T.length : Nat) : Int) ≤ most) (hm60 : most ≤ 60) (hkd : kd ≠ 2 ∨ old = []) (hN : 1 ≤ N) :
    Calls Tryz.prog 15 #[.pointer (some ⟨J, 0, none⟩), sp, .int .i64 (N : Int)] w fun e w' => e = .returned (.tuple #[.int .i64 ((min N (T.length - r) : Nat) : Int), .int .i64 0]) ∧ (∃ O', Run sp most J kd day T old q n was s0 m (r + min N (T.length - r)) O' I w' ∧ Went O O' w) ∧ Chg O w w' := by
  obtain ⟨G, F, H, h1, h2, h3, h4, h5⟩ := h
  have hlen : (T.drop r).length = T.length - r := List.length_drop
  refine (step_jb N (m + r) (min N (T.length - r)) (by rw [hlen]) h1 h2 (by rw [hlen]; omega) hm60 (fun k hk => ?_) hkd hN).mono ?_
  · unfold goneF
    rw [Bool.false_or, decide_eq_false_iff_not]
    intro hk2
    obtain ⟨i, hi, e⟩ := List.getElem_of_mem hk2
    obtain ⟨j, hj, e2⟩ := List.getElem_of_mem hk
    rw [List.getElem_take] at e
    rw [List.getElem_drop] at e2
    rw [List.length_take] at hi
    rw [List.length_drop] at hj
    have := (List.pairwise_iff_getElem.1 h4) i (r + j) (by omega) (by omega) (by omega)
    omega
  · rintro e w' ⟨rfl, G1, H1, t1, t2, t3, t4, t5⟩
    obtain ⟨M, hM⟩ : ∃ M, M = min N (T.length - r) := ⟨_, rfl⟩
    rw [← hM] at t1 t2 ⊢
    have e1 : (T.drop r).drop M = T.drop (r + M) := by rw [List.drop_drop]
    have e2 : T.take r ++ (T.drop r).take M = T.take (r + M) := (List.take_add).symm
    rw [e1, ← runT_app, e2, goneF_two, e2] at t1
    rw [e1, ← runT_app, e2, Nat.add_assoc] at t2
    refine ⟨rfl, ⟨fun b => G1 b ∨ F b ∨ H1 b, ⟨G1, F, H1, t1, t2, by omega, h4, fun b => Iff.rfl⟩, ⟨fun b hb => ?_⟩⟩, t5.mono fun b hb hx => ?_⟩
    · rcases hb with hb | hb | hb
      · exact (t3.from' b hb).imp (fun h => (h5 b).2 (.inl h)) id
      · exact .inl ((h5 b).2 (.inr (.inl hb)))
      · exact (t4.from' b hb).imp (fun h => (h5 b).2 (.inr (.inr h))) id
    · rcases hx with hx | hx
      · exact (h5 b).2 hx
      · omega
theorem run_write (a : Int) (b : ByteArray) (h : Run sp most J kd day T old q n was s0 m r O I w) : Calls Tryz.prog 14 #[.pointer (some ⟨q, 0, none⟩), .int .i64 a, .string b] w fun e w' => (∃ x, e = .returned (.int .i64 x)) ∧ Run sp most J kd day T old q n was s0 m r O I w' ∧ Chg (fun b => O b ∨ I b) w w' := by
  obtain ⟨G, F, H, h1, h2, h3, h4, h5⟩ := h
  refine (stl_write a b h1.still).mono ?_
  rintro e w' ⟨hx, hS, hC⟩
  exact ⟨hx, ⟨G, F, H, h1.wrote hS hC, h2, h3, h4, h5⟩, hC.mono fun b _ hb => hb.imp (fun hb => (h5 b).2 (.inr (.inl hb))) id⟩
theorem run_point (id : Int) (h : Run sp most J kd day T old q n was s0 m T.length O I w) : Calls Tryz.prog 16 #[.pointer (some ⟨J, 0, none⟩), .int .i64 id] w fun e w' => (∃ A c, e = .returned (.tuple #[.agg #[.int .i64 id, .int .i64 kd, .int .i64 day, .slice A (extsL (runT was T s0).1 64).length c], .bool true]) ∧ Own eE 107 w' w.heap.size (.slice A (extsL (runT was T s0).1 64).length c) (extsL (runT was T s0).1 64)) ∧ Below w.heap.size w w' := by
  obtain ⟨G, F, H, h1, h2, h3, h4, h5⟩ := h
  rw [List.take_length] at h1 h2
  rw [List.drop_length] at h1
  exact point_done id h1.job (exts_fine _ h2.inp).1
theorem run_kept (h : Run sp most J kd day (List.range n) old q n was s0 m n O I w) : Calls Tryz.prog 19 #[.pointer (some ⟨q, 0, none⟩)] w fun e w' => e = .returned (.slice none 0 0) ∧ w' = w := by
  obtain ⟨G, F, H, h1, h2, h3, h4, h5⟩ := h
  refine stl_kept_none h1.still fun k hk => ?_
  unfold goneF
  rw [Bool.false_or, decide_eq_true_eq, List.take_of_length_le (by simp)]
  exact List.mem_range.2 hk
theorem run_get (id : Int) (t : ByteArray) (h : Run sp most J kd day T old q n was s0 m r O I w) (hg : GetE (runT was (T.take r) s0).2 id t) : Calls Tryz.prog 18 #[sp, .int .i64 id] w fun e w' => e = .returned (.tuple #[.string t, .int .i64 0]) ∧ Below w.heap.size w w' := by
  obtain ⟨G, F, H, h1, h2, h3, h4, h5⟩ := h
  exact plt_get id t h1.pool hg
end
/-- A job at its start. -/
theorem Run.start {w : World} {sp : Value} {most : Int} {G F H I : Nat → Prop} {J : Nat} {kd day : Int} {T : List Nat} {old : List Ext} {q n : Nat} {was : ByteArray} {s0 : JS} {m : Nat}
    (hj : JobIs w J H kd day T q old (extsL s0.1 64)) (hs : Stl w q F I n was fun _ => false) (hp : Plt w G sp most s0.2) (hd : Dj G F H I) (hi : JInv n was m T s0) : Run sp most J kd day T old q n was s0 m 0 (fun b => G b ∨ F b ∨ H b) I w :=
  ⟨G, F, H, ⟨hj, by rw [List.take_zero, goneF_nil]; exact hs, hp, hd⟩, hi, Nat.zero_le _, hi.ord, fun _ => Iff.rfl⟩
theorem noneL_get (j : Nat) (h : j < 64) : (noneL 64).getD j 0 = -1 := by
  rw [List.getD_eq_getElem?_getD, noneL_at (Nat.le_refl _), if_pos h]; rfl
theorem extsL_none : extsL (noneL 64) 64 = [] := by
  have := extsL_rest (L := noneL 64) (k := 0) (fun j _ h2 => by rw [noneL_get j h2]; omega) 64 (by omega)
  rw [Nat.zero_add] at this
  exact this
/-- Nothing was taken, there is nothing in the pool. -/
theorem JInv.fresh {n : Nat} {was : ByteArray} (hn : n ≤ 64) (hw : was.size = 8 * n) (kd : Int) (P : Nat → Bool) : JInv n was 0 (todoL kd P n) (noneL 64, []) where
  n64 := hn
  was := hw
  len := noneL_len (Nat.le_refl _)
  inp := InPool.none
  ok := EOk.nil
  few := Nat.le_refl _
  refs := fun _ _ _ h => by cases h
  lt := todoL_lt kd P n
  ord := todoL_ord kd P n
  rest := fun _ _ j _ h => by
    show (noneL 64).getD j 0 < 0
    rw [noneL_get j h]; omega
/-- What is told of all blocks that were taken. -/
theorem told_run {n m : Nat} {was : ByteArray} {s : JS} : ∀ (T D : List Nat), JInv n was m T s → m + T.length ≤ 60 → Told was D s → (∀ k ∈ T, k ∉ D) → Told was (D ++ T) (runT was T s) ∧ JInv n was (m + T.length) [] (runT was T s) := by
  intro T
  induction T generalizing m s with
  | nil => intro D hi _ ht _; rw [List.append_nil]; exact ⟨ht, hi⟩
  | cons k T ih =>
    intro D hi hm ht hD
    rw [List.length_cons] at hm
    have ho := (List.pairwise_cons.1 hi.ord).1
    have h1 := ih (D ++ [k]) (hi.next (by omega)) (by omega) (ht.next hi (by omega) (hD k List.mem_cons_self)) (fun j hj hm => by
      rcases List.mem_append.1 hm with h | h
      · exact hD j (List.mem_cons_of_mem _ hj) h
      · rw [List.mem_singleton] at h
        have := ho j hj
        omega)
    rw [List.append_assoc] at h1
    refine ⟨h1.1, ?_⟩
    rw [List.length_cons, Nat.add_comm T.length 1, ← Nat.add_assoc]
    exact h1.2
end Go.Proofs.YtjjfdkdneibjbaaGreatDoor
/- What is set, as a map: read back it is what was set. -/
namespace Go.Proofs.YtjjfdkdneibjbaaGreatDoor
open Go.RowKit

theorem alone_of {f n i : Int} (h1 : 0 ≤ f) (h2 : 1 ≤ n) (h3 : f + n ≤ 64) (h4 : 0 ≤ i) (h5 : i ≠ 0 → i + n ≤ 61) : aloneB f n i = true := by
  unfold aloneB wholeB
  simp
  omega
theorem setL_one (L : List Int) {f i : Int} {k : Nat} (hf : f = k) (hk : k < 64) (h4 : 0 ≤ i) (h5 : i ≤ 60) : setL L f 1 i = L.set k i := by
  subst hf
  unfold setL
  rw [if_pos (alone_of (by omega) (by omega) (by omega) h4 (fun _ => by omega))]
  show (setTo L (k : Int).toNat i 0).set ((k : Int).toNat + 0) (if 0 < i then i + ((0 : Nat) : Int) else 0) = _
  have e : (k : Int).toNat + 0 = k := by omega
  have e2 : (if 0 < i then i + ((0 : Nat) : Int) else 0) = i := by split <;> omega
  rw [e, e2]
  rfl
theorem setL_more (L : List Int) {f n i : Int} {k : Nat} (h1 : 0 ≤ f) (h2 : 1 ≤ n) (h3 : f + n = k) (hk : k < 64) (h4 : 0 ≤ i) (h5 : i ≠ 0 → i + n ≤ 60) : setL L f (n + 1) i = (setL L f n i).set k (if 0 < i then i + n else 0) := by
  unfold setL
  rw [if_pos (alone_of h1 (by omega) (by omega) h4 (fun h => by have := h5 h; omega)), if_pos (alone_of h1 h2 (by omega) h4 (fun h => by have := h5 h; omega))]
  have e : (n + 1).toNat = n.toNat + 1 := by omega
  rw [e, setTo]
  have e2 : f.toNat + n.toNat = k := by omega
  have e3 : ((n.toNat : Nat) : Int) = n := by omega
  rw [e2, e3]
theorem getD_set {L : List Int} {k : Nat} (hk : k < L.length) (x : Int) (j : Nat) : (L.set k x).getD j 0 = if j = k then x else L.getD j 0 := by
  split
  · rename_i h; subst h; exact getD_set_eq hk x
  · rename_i h; exact getD_set_ne h x
/-- The map of what is set says of each block what was set. -/
theorem ofL_exts (L : List Int) (hL : InPool L) : ∀ k, k ≤ 64 → ∀ j, j < 64 → (ofL (extsL L k)).getD j 0 = if j < k ∧ 0 ≤ L.getD j 0 then L.getD j 0 else -1 := by
  intro k
  induction k with
  | zero =>
    intro _ j hj
    rw [if_neg (by omega)]
    exact noneL_get j hj
  | succ k ih =>
    intro hk j hj
    have ih := ih (by omega) j hj
    have hb := hL k
    have hT := tidy_ext L hL (k + 1) hk
    have key : 0 ≤ L.getD k 0 → ofL (extsL L (k + 1)) = (ofL (extsL L k)).set k (L.getD k 0) := fun h0 => by
      obtain ⟨l, x, e1, e2, e3, e4⟩ := hT.last (by omega) h0
      have e3 : x.id = 0 ↔ L.getD k 0 = 0 := e3
      have e4 : 0 < x.id → x.id + x.n - 1 = L.getD k 0 := e4
      have hg := hT.good x (by rw [e1]; simp)
      rw [extsL, if_neg (by omega)] at e1 ⊢
      by_cases hj : joinB L k = true
      · rw [if_pos hj] at e1 ⊢
        have hj2 := hj
        unfold joinB at hj2
        simp only [Bool.and_eq_true, Bool.or_eq_true, decide_eq_true_eq, beq_iff_eq] at hj2
        obtain ⟨g1, g2⟩ := hj2
        obtain ⟨l', y, f1, f2, f3, f4⟩ := (tidy_ext L hL k (by omega)).last g1 (by omega)
        have hy := (tidy_ext L hL k (by omega)).good y (by rw [f1]; simp)
        rw [f1, grow1_snoc] at e1 ⊢
        have e5 := (List.append_inj' e1 rfl).2
        simp only [List.cons.injEq, and_true] at e5
        subst e5
        have e3 : y.id = 0 ↔ L.getD k 0 = 0 := e3
        have e4 : 0 < y.id → y.id + (y.n + 1) - 1 = L.getD k 0 := e4
        rw [ofL_snoc, ofL_snoc]
        show setL (ofL l') y.from_ (y.n + 1) y.id = (setL (ofL l') y.from_ y.n y.id).set k (L.getD k 0)
        rw [setL_more (ofL l') hy.1 hy.2.1 f2 (by omega) hy.2.2.2.1 (fun h => by have := e4 (by omega); omega)]
        congr 1
        split
        · have := e4 (by omega); omega
        · have := e3.1 (by omega); omega
      · rw [if_neg hj, ofL_snoc]
        exact setL_one _ rfl (by omega) h0 hb.2
    by_cases h1 : L.getD k 0 < 0
    · rw [extsL, if_pos h1, ih]
      by_cases hjk : j = k
      · subst hjk
        rw [if_neg (by omega), if_neg (by omega)]
      · by_cases h2 : j < k ∧ 0 ≤ L.getD j 0
        · rw [if_pos h2, if_pos ⟨by omega, h2.2⟩]
        · rw [if_neg h2, if_neg (fun h => h2 ⟨by omega, h.2⟩)]
    · rw [key (by omega), getD_set (by rw [ofL_len]; omega)]
      by_cases hjk : j = k
      · subst hjk
        rw [if_pos rfl, if_pos ⟨by omega, by omega⟩]
      · rw [if_neg hjk, ih]
        by_cases h2 : j < k ∧ 0 ≤ L.getD j 0
        · rw [if_pos h2, if_pos ⟨by omega, h2.2⟩]
        · rw [if_neg h2, if_neg (fun h => h2 ⟨by omega, h.2⟩)]
end Go.Proofs.YtjjfdkdneibjbaaGreatDoor
/- A volume that is written to from its first byte on. -/
namespace Go.Proofs.YtjjfdkdneibjbaaGreatDoor
open Go.RowKit
variable {w : World} {p g c : Nat}
theorem layL_eq {cur b : ByteArray} {a : Nat} : (layB cur a b).data.toList = layL cur.data.toList a b := by
  simp [layB, layL]
/-- Any bytes that fit are written. -/
theorem flm_write (a : Nat) (s cur : ByteArray) (h : FilmIs w p g c cur.data.toList) (ha : a + s.size ≤ cur.size) : Calls Tryz.prog 10 #[.pointer (some ⟨p, 0, none⟩), .int .i64 (a : Int), .string s] w fun e w' => e = .returned (.int .i64 0) ∧ FilmIs w' p g c (layB cur a s).data.toList ∧ Chg (fun b => b = g) w w' := by
  rw [sizeB cur] at ha
  by_cases hs : s.size = 0
  · refine (film_write_none a s h (by omega) hs).mono ?_
    rintro e w' ⟨rfl, rfl⟩
    rw [layB_none _ _ _ hs]
    exact ⟨rfl, h, Chg.refl _ _⟩
  · refine (film_write a s h ha (by omega)).mono ?_
    rintro e w' ⟨rfl, rfl⟩
    rw [layL_eq]
    exact ⟨rfl, h.lay a s ha, setCells_chg _ _ _ _⟩
end Go.Proofs.YtjjfdkdneibjbaaGreatDoor
