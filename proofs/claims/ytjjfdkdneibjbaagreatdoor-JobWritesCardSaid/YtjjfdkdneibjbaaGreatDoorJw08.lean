/- Joined texts: ExtC, ExtS, ShelfD, JobA, ShelfA. -/
import Derived.Test.YtjjfdkdneibjbaaGreatDoorJw07
import Derived.Test.YtjjfdkdneibjbaaGreatDoorJw01
import Derived.Test.YtjjfdkdneibjbaaGreatDoorJw02
import Derived.Test.YtjjfdkdneibjbaaGreatDoorJw04
import Derived.Deep.RegionHeld3
/- Walk of package extent: a map says nothing of a span: it stays. -/
namespace Go.Proofs.YtjjfdkdneibjbaaGreatDoor
open Go.RowKit

theorem add_ex (v : Value) (l : List Ext) (x : Ext) (base : Nat) (w : World) (hv : Own eE 107 w base v l) (hb : base ≤ w.heap.size) (hl : l.length ≤ 64) (hg : ∀ y ∈ l, WhE y) (hx : WhE x) : Calls Tryz.prog 167 #[v, .agg #[.int .i64 x.from_, .int .i64 x.n, .int .i64 x.id]] w fun e w' => (∃ v', e = .returned v' ∧ Own eE 107 w' base v' (addE l x)) ∧ Below base w w' := by
  rcases List.eq_nil_or_concat l with rfl | ⟨m, y, rfl⟩
  · exact add_nil v x.from_ x.n x.id base w hv hb
  · rw [List.concat_eq_append] at *
    rw [addE_snoc]
    have := add_more v m y.from_ y.n y.id x.from_ x.n x.id base w hv hb (by simp at hl; omega) (hg y (by simp)) hx
    rw [List.append_assoc] at this
    exact this
/-- The box of a span and the box of an extent. -/
def Cu (w W : World) (b p : Nat) (g m f n i : Int) : Prop := Below w.heap.size w W ∧ b < W.heap.size ∧ p < W.heap.size ∧ (W.cell? ⟨b, 0, none⟩ = some (.int .i64 g) ∧ W.cell? ⟨b, 1, none⟩ = some (.int .i64 m) ∧ W.cell? ⟨p, 0, none⟩ = some (.int .i64 f) ∧ W.cell? ⟨p, 1, none⟩ = some (.int .i64 n) ∧ W.cell? ⟨p, 2, none⟩ = some (.int .i64 i))
theorem Cu.below {w W W' : World} {b p : Nat} {g m f n i : Int} (h : Cu w W b p g m f n i) (hb : Below W.heap.size W W') (hs : w.heap.size ≤ W.heap.size) : Cu w W' b p g m f n i := by
  obtain ⟨B, s, t, c0, c1, c2, c3, c4⟩ := h
  have := hb.size
  exact ⟨B.trans (hb.mono hs), by omega, by omega, ((bcell hb).1 _ _ s).trans c0, ((bcell hb).1 _ _ s).trans c1, ((bcell hb).1 _ _ t).trans c2, ((bcell hb).1 _ _ t).trans c3, ((bcell hb).1 _ _ t).trans c4⟩
theorem Cu.drew {w W : World} {b p : Nat} {g m f n i : Int} (h : Cu w W b p g m f n i) : Cu w W.drew b p g m f n i := ⟨h.1.drew, h.2⟩
theorem Cu.s {w W : World} {b p : Nat} {g m f n i : Int} (h : Cu w W b p g m f n i) : W.cell? ⟨b, 0, none⟩ = some (.int .i64 g) ∧ W.cell? ⟨b, 1, none⟩ = some (.int .i64 m) ∧ W.cell? ⟨p, 0, none⟩ = some (.int .i64 f) ∧ W.cell? ⟨p, 1, none⟩ = some (.int .i64 n) ∧ W.cell? ⟨p, 2, none⟩ = some (.int .i64 i) := h.2.2.2
set_option maxHeartbeats 8000000 in
set_option maxRecDepth 100000 in
theorem cut_ex (A : Option Addr) (n c : Nat) (l : List Ext) (g m : Int) (w : World) (hs : Sl eE w A n c l) (h64 : n ≤ 64) (hw : ∀ x ∈ l, WhE x) (hN : NoOne l) (hk : WhS g m) (ho : ∀ x ∈ l, Off x.from_ x.n g m) :
    Calls Tryz.prog 165 #[.slice A n c, .agg #[.int .i64 g, .int .i64 m]] w fun e w' => (∃ v', e = .returned v' ∧ Own eE 107 w' w.heap.size v' l) ∧ Below w.heap.size w w' := by
  obtain ⟨w1, hw1, B1, s1, c0, c1⟩ := box2 w g m 59
  have s1e : w1.heap.size = w.heap.size + 1 := by rw [hw1, hal]
  obtain ⟨b, hb⟩ : ∃ b, b = w.heap.size := ⟨_, rfl⟩
  obtain ⟨B, hB⟩ : ∃ B, B = w.heap.size + 1 := ⟨_, rfl⟩
  have hbB : b < B := by omega
  have hwB : w.heap.size ≤ B := by omega
  have hBw : B ≤ w.heap.size + 1 := by omega
  have sB : B ≤ w1.heap.size := by omega
  have hn := hs.1
  have b1 := hs.2.1
  have b2 := hs.2.2.1
  have R := hide hs.2.2.2
  have Hn := hide hn
  have Hw := hide hw
  have HN := hide hN
  have Ho := hide ho
  have Hk := hide hk
  clear hs hn hw hN ho hk
  go_enter Tryz.func165, Tryz.ntmps165
  go_wp2_with fail
  rw [← hw1, ← hb]
  rw [← hb] at c0 c1
  clear hw1 s1 s1e
  have Hb := hide hb
  have HB0 := hide hB
  clear hb hB
  go_loopw [5, 12] (fun v j wr => ∃ k : Nat, k ≤ n ∧ j = .int .i64 k ∧ Own eE 107 wr B v (l.take k) ∧ Below w.heap.size w wr ∧ B ≤ wr.heap.size ∧ wr.cell? ⟨b, 0, none⟩ = some (.int .i64 g) ∧ wr.cell? ⟨b, 1, none⟩ = some (.int .i64 m)) (fun _ j _ => n - (intOf j).toNat)
  case atStart => exact ⟨0, Nat.zero_le _, rfl, Own.nil _ _ _ _, B1, sB, c0, c1⟩
  case round =>
    obtain ⟨k, hk, rfl, hown, HB, hsz, y0, y1⟩ := hrel
    have O1 := hide hown
    clear hown
    by_cases hlt : k < n
    · have hke : k < l.length := by have := unhide Hn; omega
      obtain ⟨ba, off, eA, lA, hr⟩ := unhide R (by omega)
      subst eA
      have x0 : wr.cell? ⟨ba, off + k * 3, none⟩ = some (.int .i64 l[k].from_) := ((bcell HB).1 _ _ lA).trans (hr k hke 0 (by decide))
      have x1 : wr.cell? ⟨ba, off + k * 3 + 1, none⟩ = some (.int .i64 l[k].n) := ((bcell HB).1 _ _ lA).trans (hr k hke 1 (by decide))
      have x2 : wr.cell? ⟨ba, off + k * 3 + 2, none⟩ = some (.int .i64 l[k].id) := ((bcell HB).1 _ _ lA).trans (hr k hke 2 (by decide))
      have hx := unhide Hw l[k] (List.getElem_mem hke)
      have hof := unhide Ho l[k] (List.getElem_mem hke)
      have ha := addE_anew (unhide HN) hke
      obtain ⟨x, hxe⟩ : ∃ x, x = l[k] := ⟨_, rfl⟩
      rw [← hxe] at x0 x1 x2 hx hof ha
      have Ha := hide ha
      obtain ⟨f, nn, i⟩ := x
      have x0 : wr.cell? ⟨ba, off + k * 3, none⟩ = some (.int .i64 f) := x0
      have x1 : wr.cell? ⟨ba, off + k * 3 + 1, none⟩ = some (.int .i64 nn) := x1
      have x2 : wr.cell? ⟨ba, off + k * 3 + 2, none⟩ = some (.int .i64 i) := x2
      have Hx := hide hx
      have Hof := hide (show Off f nn g m from hof)
      have Hwh := hide (show WhS f nn from ⟨hx.1, hx.2.1, hx.2.2.1⟩)
      clear hr ha hxe hx hof lA
      obtain ⟨w2, hw2⟩ : ∃ W, W = wr.alloc (.cells #[.int .i64 f, .int .i64 nn, .int .i64 i] 107) := ⟨_, rfl⟩
      obtain ⟨p, hp⟩ : ∃ p, p = wr.heap.size := ⟨_, rfl⟩
      have T : Cu w w2 b p g m f nn i := by
        rw [hw2, hp]
        have e := hal wr (.cells #[.int .i64 f, .int .i64 nn, .int .i64 i] 107)
        exact ⟨HB.alloc HB.size _, by omega, by omega, alloc_cell y0, alloc_cell y1, World.cell?_alloc_at _ _ _ _ rfl, World.cell?_alloc_at _ _ _ _ rfl, World.cell?_alloc_at _ _ _ _ rfl⟩
      have O2 := hide (show Own eE 107 w2 B u5 (l.take k) by rw [hw2]; exact (unhide O1).alloc _)
      have s2 : B ≤ w2.heap.size := by rw [hw2, hal]; omega
      go_wp2_with fail
      rw [← hw2, ← hp]
      clear hw2 hp HB O1 hsz y0 y1 x0 x1 x2
      replace T := T.drew
      replace O2 := hide ((unhide O2).drewN 1)
      have s2 : w.heap.size ≤ w2.drew.heap.size := by show w.heap.size ≤ w2.heap.size; omega
      go_region_held3 (fun W => W.cell? ⟨b, 0, none⟩ = some (.int .i64 g) ∧ W.cell? ⟨b, 1, none⟩ = some (.int .i64 m) ∧ W.cell? ⟨p, 0, none⟩ = some (.int .i64 f) ∧ W.cell? ⟨p, 1, none⟩ = some (.int .i64 nn) ∧ W.cell? ⟨p, 2, none⟩ = some (.int .i64 i))
        (with_reducible exact T.s)
        ((first
          | (go_at_call 166; refine (own_ex _ _ _ _).mono ?_; intro e v hv; obtain ⟨he, HB⟩ := hv; subst he; replace T : Cu w v b p g m f nn i := T.below HB s2; replace O2 : Hid (Own eE 107 v B u5 (l.take k)) := hide ((unhide O2).below HB); replace s2 : w.heap.size ≤ v.heap.size := Nat.le_trans s2 HB.size; clear HB)
          | (go_at_call 189; refine (less_no _ _ _ _ _ (unhide Hwh) (unhide Hk) (unhide Hof)).mono ?_; intro e v hv; obtain ⟨⟨q, he, hq1, hq2, q0, q1⟩, HB⟩ := hv; subst he; replace T : Cu w v b p g m f nn i := T.below HB s2; replace O2 : Hid (Own eE 107 v B u5 (l.take k)) := hide ((unhide O2).below HB); replace s2 : w.heap.size ≤ v.heap.size := Nat.le_trans s2 HB.size; have s5 := HB.size; clear HB)))
      have sv : B ≤ v.heap.size := by have h1 := T.2.1; have h2 := unhide Hb; have h3 := unhide HB0; omega
      clear s2
      go_wp2_with fail
      go_loopw [5, 21] (fun v' j' W => (j' = .int .i64 0 ∧ v' = u5 ∧ W = v) ∨ (j' = .int .i64 1 ∧ Own eE 107 W B v' (l.take (k + 1)) ∧ Below w.heap.size w W ∧ B ≤ W.heap.size ∧ W.cell? ⟨b, 0, none⟩ = some (.int .i64 g) ∧ W.cell? ⟨b, 1, none⟩ = some (.int .i64 m))) (fun _ j _ => 1 - (intOf j).toNat)
      case atStart => exact .inl ⟨rfl, rfl, rfl⟩
      case round =>
        rcases hrel with ⟨rfl, rfl, hwr⟩ | ⟨rfl, ho8, HB, hsz, y0, y1⟩
        · subst hwr
          obtain ⟨w6, hw6⟩ : ∃ W, W = wr.alloc (.cells #[.int .i64 f, .int .i64 nn] 59) := ⟨_, rfl⟩
          obtain ⟨t, ht⟩ : ∃ t, t = wr.heap.size := ⟨_, rfl⟩
          have B6 : Below wr.heap.size wr w6 := by rw [hw6]; exact (Below.refl _ _).alloc (Nat.le_refl _) _
          have T6 := T.below B6 (by have := unhide Hb; have := T.2.1; omega)
          have O6 := hide ((unhide O2).below B6)
          have t0 : w6.cell? ⟨t, 0, none⟩ = some (.int .i64 f) := by rw [hw6, ht]; exact World.cell?_alloc_at _ _ _ _ rfl
          have t1 : w6.cell? ⟨t, 1, none⟩ = some (.int .i64 nn) := by rw [hw6, ht]; exact World.cell?_alloc_at _ _ _ _ rfl
          have s6 : B ≤ w6.heap.size := by have := B6.size; omega
          have pl : p < wr.heap.size := T.2.2.1
          have p0 := T.2.2.2.2.2.1
          have p1 := T.2.2.2.2.2.2.1
          have p2 := T.2.2.2.2.2.2.2
          go_wp2_with fail
          rw [← hw6]
          clear hw6 p0 p1 p2
          refine (part_ex f nn i w6 (unhide Hx)).mono ?_
          rintro e w7 ⟨rfl, HB7⟩
          have T7 := T6.below HB7 (by omega)
          have o7 := (unhide O6).below HB7
          have s7 : B ≤ w7.heap.size := by have := HB7.size; omega
          go_wp2_with fail
          have hlt := List.length_take_le k l
          refine (add_ex _ (l.take k) ⟨f, nn, i⟩ B w7 o7 s7 (by have := unhide Hn; omega) (fun y hy => unhide Hw y (List.mem_of_mem_take hy)) (unhide Hx)).mono ?_
          rintro e w8 ⟨⟨v', rfl, ho8⟩, HB8⟩
          rw [unhide Ha] at ho8
          have y0 := ((bcell HB8).1 b 0 hbB).trans T7.2.2.2.1
          have y1 := ((bcell HB8).1 b 1 hbB).trans T7.2.2.2.2.1
          have B8 : Below w.heap.size w w8 := T7.1.trans (HB8.mono hwB)
          have s8 : B ≤ w8.heap.size := by have := HB8.size; omega
          have O8 := hide ho8
          clear ho8 o7 T T6 T7 HB7 HB8 B6 t0 t1
          go_wp2_with fail
          go_roundw
          case rel => exact .inr ⟨by go_num, unhide O8, B8, s8, y0, y1⟩
          case measure => simp [intOf]
        · have O8 := hide ho8
          clear ho8 T q0 q1
          go_wp2_with fail
          go_roundw
          case rel => exact ⟨k + 1, by omega, by go_num, unhide O8, HB, hsz, y0, y1⟩
          case measure => simp [intOf]; omega
    · obtain rfl : k = n := by omega
      have e := hide (show l.take k = l by rw [unhide Hn, List.take_length])
      go_wp2
      go_ret
      exact ⟨⟨_, rfl, by have := (unhide O1); rw [unhide e] at this; exact this.lower hwB⟩, HB⟩
end Go.Proofs.YtjjfdkdneibjbaaGreatDoor
/- Walk of package extent: a map with one extent behind it (Set). -/
namespace Go.Proofs.YtjjfdkdneibjbaaGreatDoor
open Go.RowKit

set_option maxHeartbeats 8000000 in
set_option maxRecDepth 100000 in
theorem set_ex (A : Option Addr) (n c : Nat) (l : List Ext) (x : Ext) (w : World) (hs : Sl eE w A n c l) (h64 : n ≤ 64) (hw : ∀ y ∈ l, WhE y) (hN : NoOne l) (hx : WhE x) (ho : ∀ y ∈ l, y.from_ + y.n ≤ x.from_) :
    Calls Tryz.prog 127 #[.slice A n c, .agg #[.int .i64 x.from_, .int .i64 x.n, .int .i64 x.id]] w fun e w' => (∃ v', e = .returned v' ∧ Own eE 107 w' w.heap.size v' (addE l x)) ∧ Below w.heap.size w w' := by
  obtain ⟨f, nn, i⟩ := x
  have ho : ∀ y ∈ l, y.from_ + y.n ≤ f := ho
  show Calls Tryz.prog 127 #[.slice A n c, .agg #[.int .i64 f, .int .i64 nn, .int .i64 i]] w _
  obtain ⟨w1, hw1, B1, s1, c0, c1, c2⟩ := box3 w f nn i 107
  have hnl := hs.1
  have Hs := hide (hs.below (w' := w1) B1)
  have Hw := hide hw
  have HN := hide hN
  have Ho := hide ho
  have Hx := hide hx
  have Hnl := hide hnl
  clear hs hw hN ho hx hnl
  go_enter Tryz.func127, Tryz.ntmps127
  go_wp2_with fail
  rw [← hw1]
  clear hw1
  go_wp2_with fail
  refine (single_ex f nn i w1 (unhide Hx)).mono ?_
  rintro e w2 ⟨rfl, HB2⟩
  have c0 := ((bcell HB2).1 _ 0 s1).trans c0
  have c1 := ((bcell HB2).1 _ 1 s1).trans c1
  have c2 := ((bcell HB2).1 _ 2 s1).trans c2
  have B2 : Below w.heap.size w w2 := B1.trans (HB2.mono (by omega))
  have s2 : w.heap.size < w2.heap.size := by have := HB2.size; omega
  have Hs2 := hide ((unhide Hs).below HB2)
  clear HB2 B1 Hs
  go_wp2_with fail
  refine (own_ex f nn i w2).mono ?_
  rintro e w3 ⟨rfl, HB2⟩
  have c0 := ((bcell HB2).1 _ 0 s2).trans c0
  have c1 := ((bcell HB2).1 _ 1 s2).trans c1
  have c2 := ((bcell HB2).1 _ 2 s2).trans c2
  have B3 : Below w.heap.size w w3 := B2.trans (HB2.mono (by omega))
  have s3 : w.heap.size < w3.heap.size := by have := HB2.size; omega
  have Hs3 := hide ((unhide Hs2).below HB2)
  clear HB2 B2 Hs2
  go_wp2_with fail
  refine (cut_ex A n c l f nn w3 (unhide Hs3) h64 (unhide Hw) (unhide HN) ⟨(unhide Hx).1, (unhide Hx).2.1, (unhide Hx).2.2.1⟩ (fun y hy => .inl (unhide Ho y hy))).mono ?_
  rintro e w4 ⟨⟨v4, rfl, ho4⟩, HB2⟩
  have c0 := ((bcell HB2).1 _ 0 s3).trans c0
  have c1 := ((bcell HB2).1 _ 1 s3).trans c1
  have c2 := ((bcell HB2).1 _ 2 s3).trans c2
  have B4 : Below w.heap.size w w4 := B3.trans (HB2.mono (by omega))
  have s4 : w.heap.size < w4.heap.size := by have := HB2.size; omega
  clear HB2 B3 Hs3
  obtain ⟨A4, d4, rfl, hs4, _⟩ := ho4.sl
  obtain ⟨N, hN'⟩ : ∃ N, N = l.length := ⟨_, rfl⟩
  rw [← hN'] at hs4 ⊢
  have b1 := hs4.2.1
  have b2 := hs4.2.2.1
  have R := hide hs4.2.2.2
  have HNl := hide hN'
  have h64 : N ≤ 64 := by have := unhide Hnl; omega
  obtain ⟨B, hB⟩ : ∃ B, B = w4.heap.size := ⟨_, rfl⟩
  have sB : B ≤ w4.heap.size := by omega
  have sB2 : w.heap.size < B := by omega
  have HBe := hide hB
  clear hs4 ho4 hN' hB s1 s2 s3
  go_wp2_with fail
  go_loopw [5, 6, 20] (fun v d j wr => ∃ k : Nat, k ≤ N ∧ j = .int .i64 k ∧ d = .bool false ∧ Own eE 107 wr B v (l.take k) ∧ Below B w4 wr ∧ B ≤ wr.heap.size) (fun _ _ j _ => N - (intOf j).toNat)
  case atStart => exact ⟨0, Nat.zero_le _, rfl, rfl, Own.nil _ _ _ _, Below.refl _ _, sB⟩
  case round =>
    obtain ⟨k, hk, rfl, rfl, hown, HB, hsz⟩ := hrel
    have e0 := ((bcell HB).1 _ 0 sB2).trans c0
    have e1 := ((bcell HB).1 _ 1 sB2).trans c1
    have e2 := ((bcell HB).1 _ 2 sB2).trans c2
    by_cases hlt : k < N
    · have hke : k < l.length := by have := unhide HNl; omega
      obtain ⟨ba, off, eA, lA, hr⟩ := unhide R (by omega)
      subst eA
      have lB : ba < B := by have := unhide HBe; omega
      have x0 : wr.cell? ⟨ba, off + k * 3, none⟩ = some (.int .i64 l[k].from_) := ((bcell HB).1 _ _ lB).trans (hr k hke 0 (by decide))
      have x1 : wr.cell? ⟨ba, off + k * 3 + 1, none⟩ = some (.int .i64 l[k].n) := ((bcell HB).1 _ _ lB).trans (hr k hke 1 (by decide))
      have x2 : wr.cell? ⟨ba, off + k * 3 + 2, none⟩ = some (.int .i64 l[k].id) := ((bcell HB).1 _ _ lB).trans (hr k hke 2 (by decide))
      have hy := unhide Hw l[k] (List.getElem_mem hke)
      have hof := unhide Ho l[k] (List.getElem_mem hke)
      have ha := addE_anew (unhide HN) hke
      obtain ⟨y, hye⟩ : ∃ y, y = l[k] := ⟨_, rfl⟩
      rw [← hye] at x0 x1 x2 hy hof ha
      have Ha := hide ha
      obtain ⟨p, q, r⟩ := y
      have x0 : wr.cell? ⟨ba, off + k * 3, none⟩ = some (.int .i64 p) := x0
      have x1 : wr.cell? ⟨ba, off + k * 3 + 1, none⟩ = some (.int .i64 q) := x1
      have x2 : wr.cell? ⟨ba, off + k * 3 + 2, none⟩ = some (.int .i64 r) := x2
      have hpf : ¬ f < p := by have h1 : p + q ≤ f := hof; have h2 : 1 ≤ q := hy.2.1; omega
      have Hy := hide hy
      clear hr ha hye hy hof lA
      obtain ⟨w5, hw5⟩ : ∃ W, W = wr.alloc (.cells #[.int .i64 p, .int .i64 q, .int .i64 r] 107) := ⟨_, rfl⟩
      have o5 := hide (show Own eE 107 w5 B u5 (l.take k) by rw [hw5]; exact hown.alloc _)
      have B5 : Below B w4 w5 := by rw [hw5]; exact HB.alloc hsz _
      have s5 : B ≤ w5.heap.size := by rw [hw5, hal]; omega
      have hl0 : w.heap.size < wr.heap.size := by omega
      clear hown
      go_wp2_with fail
      rw [← hw5]
      clear hw5
      have hlt' := List.length_take_le k l
      refine (add_ex _ (l.take k) ⟨p, q, r⟩ B w5 (unhide o5) s5 (by have := unhide HNl; omega) (fun y hy => unhide Hw y (List.mem_of_mem_take hy)) (unhide Hy)).mono ?_
      rintro e w8 ⟨⟨v', rfl, ho8⟩, HB8⟩
      rw [unhide Ha] at ho8
      have O8 := hide ho8
      have B8 := B5.trans HB8
      have s8 : B ≤ w8.heap.size := by have := HB8.size; omega
      clear ho8 o5 HB8 B5 HB
      go_wp2_with fail
      go_roundw
      case rel => exact ⟨k + 1, by omega, by go_num, rfl, unhide O8, B8, s8⟩
      case measure => simp [intOf]; omega
    · obtain rfl : k = N := by omega
      have e := hide (show l.take k = l by rw [unhide HNl, List.take_length])
      have o5 := hide hown
      clear hown
      go_wp2_with fail
      have hlt' : l.length ≤ 64 := by have := unhide HNl; omega
      refine (add_ex _ l ⟨f, nn, i⟩ B wr (by have := (unhide o5); rw [unhide e] at this; exact this) hsz hlt' (unhide Hw) (unhide Hx)).mono ?_
      rintro e w8 ⟨⟨v', rfl, ho8⟩, HB8⟩
      have O8 := hide ho8
      have B8 : Below w.heap.size w w8 := B4.trans ((HB.trans HB8).mono (by omega))
      clear ho8 HB8
      go_wp2_with fail
      go_ret
      exact ⟨⟨_, rfl, (unhide O8).lower (by omega)⟩, B8⟩
end Go.Proofs.YtjjfdkdneibjbaaGreatDoor
/- What a shelf is: its blocks, its buckets; what a change may touch. -/
namespace Go.Proofs.YtjjfdkdneibjbaaGreatDoor
open Go.RowKit

/-- A thing: its fingerprint, its number. -/
def eTh : Enc (Int × Int) := ⟨2, fun t j => if j = 0 then .int .u32 t.1 else .int .i64 t.2⟩
theorem eTh_one (L : List (Int × Int)) : ∀ u ∈ eTh.flat L, u.oneCell' = true := by
  intro u hu
  unfold Enc.flat at hu
  rw [List.mem_flatMap] at hu
  obtain ⟨t, _, hu⟩ := hu
  simp [Enc.cells, eTh, List.range_succ] at hu
  rcases hu with rfl | rfl <;> rfl

/-- The shelf s has these buckets; all its blocks are of F. -/
def ShelfIs (w : World) (F : Nat → Prop) (s : Value) (bs : List (List (Int × Int))) : Prop :=
  ∃ (p g : Nat) (vs : List Value), s = .pointer (some ⟨p, 0, none⟩) ∧ p < w.heap.size ∧ g < w.heap.size ∧ F p ∧ F g ∧ p ≠ g ∧
    w.cell? ⟨p, 0, none⟩ = some (.slice (some ⟨g, 0, none⟩) bs.length bs.length) ∧ 0 < bs.length ∧ bs.length ≤ 100 ∧ vs.length = bs.length ∧
    w.heap[g]? = some (.cells vs.toArray 231 (0, 0)) ∧
    (∀ i (h : i < bs.length) (h' : i < vs.length), Own eTh 234 w 0 vs[i] bs[i]) ∧
    (∀ v ∈ vs, ∀ k, v.ownBlock = some k → F k ∧ k ≠ p ∧ k ≠ g) ∧
    (∀ i j (h : i < vs.length) (h' : j < vs.length), i ≠ j → ∀ k, vs[i].ownBlock = some k → vs[j].ownBlock ≠ some k)

theorem Own.of_block {α : Type} {E : Enc α} {e : TypeId} {w w' : World} {base : Nat} {v : Value} {xs : List α} (h : Own E e w base v xs) (hb : ∀ k, v.ownBlock = some k → w'.heap[k]? = w.heap[k]?) : Own E e w' base v xs := by
  obtain ⟨h1, h2⟩ := h
  refine ⟨h1, ?_⟩
  rcases h2 with h2 | ⟨g, cap, cur, rfl, hg, hh, r⟩
  · exact .inl h2
  · exact .inr ⟨g, cap, cur, rfl, hg, (hb g rfl).trans hh, r⟩
theorem ShelfIs.keep {w w' : World} {F : Nat → Prop} {s : Value} {bs : List (List (Int × Int))} (h : ShelfIs w F s bs) (hs : w.heap.size ≤ w'.heap.size) (hb : ∀ k, k < w.heap.size → F k → w'.heap[k]? = w.heap[k]?) : ShelfIs w' F s bs := by
  obtain ⟨p, g, vs, h1, h2, h3, h4, h5, h6, h7, h8, h9, h10, h11, h12, h13, h14⟩ := h
  refine ⟨p, g, vs, h1, by omega, by omega, h4, h5, h6, (World.cell?_of_block (a := ⟨p, 0, none⟩) (hb p h2 h4)).trans h7, h8, h9, h10, (hb g h3 h5).trans h11, fun i hi hi' => (h12 i hi hi').of_block fun k hk => ?_, h13, h14⟩
  exact hb k ((h12 i hi hi').lt k hk).2 (h13 _ (List.getElem_mem hi') k hk).1
theorem ShelfIs.below {w w' : World} {F : Nat → Prop} {s : Value} {bs : List (List (Int × Int))} (h : ShelfIs w F s bs) (hb : Below w.heap.size w w') : ShelfIs w' F s bs :=
  h.keep hb.size fun k hk _ => hb.block k hk
theorem ShelfIs.chg {w w' : World} {F G : Nat → Prop} {s : Value} {bs : List (List (Int × Int))} (h : ShelfIs w F s bs) (hc : Chg G w w') (hd : ∀ k, F k → ¬ G k) : ShelfIs w' F s bs :=
  h.keep hc.size fun k hk hf => hc.block k hk (hd k hf)
theorem ShelfIs.mono {w : World} {F G : Nat → Prop} {s : Value} {bs : List (List (Int × Int))} (h : ShelfIs w F s bs) (hG : ∀ k, F k → G k) : ShelfIs w G s bs := by
  obtain ⟨p, g, vs, h1, h2, h3, h4, h5, h6, h7, h8, h9, h10, h11, h12, h13, h14⟩ := h
  exact ⟨p, g, vs, h1, h2, h3, hG _ h4, hG _ h5, h6, h7, h8, h9, h10, h11, h12, fun v hv k hk => ⟨hG _ (h13 v hv k hk).1, (h13 v hv k hk).2⟩, h14⟩
/-- Bucket k is another one now, in its own block or in a new one. -/
theorem ShelfIs.set {w w1 w2 : World} {F F' : Nat → Prop} {p g : Nat} {vs : List Value} {bs : List (List (Int × Int))} {k : Nat} {v' : Value} {L : List (Int × Int)}
    (h2 : p < w.heap.size) (h3 : g < w.heap.size) (h4 : F p) (h5 : F g) (h6 : p ≠ g) (h7 : w.cell? ⟨p, 0, none⟩ = some (.slice (some ⟨g, 0, none⟩) bs.length bs.length)) (h8 : 0 < bs.length) (h9 : bs.length ≤ 100)
    (h10 : vs.length = bs.length) (h11 : w.heap[g]? = some (.cells vs.toArray 231 (0, 0)))
    (h12 : ∀ i (h : i < bs.length) (h' : i < vs.length), Own eTh 234 w 0 vs[i] bs[i])
    (h13 : ∀ v ∈ vs, ∀ k, v.ownBlock = some k → F k ∧ k ≠ p ∧ k ≠ g)
    (h14 : ∀ i j (h : i < vs.length) (h' : j < vs.length), i ≠ j → ∀ k, vs[i].ownBlock = some k → vs[j].ownBlock ≠ some k)
    (hk : k < vs.length) (hFF : ∀ j, F j → F' j)
    (hsz : w.heap.size ≤ w1.heap.size) (hold : ∀ j, j < w.heap.size → vs[k].ownBlock ≠ some j → w1.heap[j]? = w.heap[j]?)
    (hown : Own eTh 234 w1 0 v' L) (hv : ∀ j, v'.ownBlock = some j → F' j ∧ (vs[k].ownBlock = some j ∨ w.heap.size ≤ j))
    (hw2 : w2 = w1.setCell ⟨g, k, none⟩ v') : ShelfIs w2 F' (.pointer (some ⟨p, 0, none⟩)) (bs.set k L) := by
  subst hw2
  have hgk : vs[k].ownBlock ≠ some g := fun e => (h13 _ (List.getElem_mem hk) g e).2.2 rfl
  have hpk : vs[k].ownBlock ≠ some p := fun e => (h13 _ (List.getElem_mem hk) p e).2.1 rfl
  have hg1 : w1.heap[g]? = some (.cells vs.toArray 231 (0, 0)) := (hold g h3 hgk).trans h11
  have hvg : ∀ j, v'.ownBlock = some j → j ≠ g ∧ j ≠ p := fun j hj => by
    rcases (hv j hj).2 with h | h
    · exact ⟨fun e => hgk (by rw [← e]; exact h), fun e => hpk (by rw [← e]; exact h)⟩
    · exact ⟨by omega, by omega⟩
  have hset : ∀ j, j ≠ g → (w1.setCell ⟨g, k, none⟩ v').heap[j]? = w1.heap[j]? := fun j hj => Below.heap_setCell _ ⟨g, k, none⟩ v' j hj
  refine ⟨p, g, vs.set k v', rfl, by simp; omega, by simp; omega, hFF _ h4, hFF _ h5, h6, ?_, by simpa using h8, by simpa using h9, by simpa using h10, ?_, ?_, ?_, ?_⟩
  · have e1 : (w1.setCell ⟨g, k, none⟩ v').heap[p]? = w.heap[p]? := (hset p h6).trans (hold p h2 hpk)
    rw [World.cell?_of_block (w := w) (a := ⟨p, 0, none⟩) e1, h7, List.length_set]
  · simp [World.setCell, Array.getElem?_modify, hg1]
  · intro i hi hi'
    have hib : i < bs.length := by simpa using hi
    have hiv : i < vs.length := by simpa using hi'
    by_cases hik : i = k
    · subst hik
      simp only [List.getElem_set_self]
      exact hown.of_block fun j hj => hset j (hvg j hj).1
    · simp only [List.getElem_set_ne (fun e => hik e.symm)]
      refine (h12 i hib hiv).of_block fun j hj => ?_
      have hlt := ((h12 i hib hiv).lt j hj).2
      rw [hset j (h13 _ (List.getElem_mem hiv) j hj).2.2, hold j hlt (h14 i k hiv hk hik j hj)]
  · intro v hv' j hj
    rcases List.mem_or_eq_of_mem_set hv' with hm | rfl
    · have := h13 v hm j hj
      exact ⟨hFF _ this.1, this.2⟩
    · exact ⟨(hv j hj).1, (hvg j hj).2, (hvg j hj).1⟩
  · intro i j hi hj hij q hq
    have hiv : i < vs.length := by simpa using hi
    have hjv : j < vs.length := by simpa using hj
    by_cases hik : i = k
    · subst hik
      simp only [List.getElem_set_self] at hq
      simp only [List.getElem_set_ne hij]
      intro hq'
      rcases (hv q hq).2 with h | h
      · exact h14 i j hiv hjv hij q h hq'
      · have := ((h12 j (by omega) hjv).lt q hq').2; omega
    · simp only [List.getElem_set_ne (fun e => hik e.symm)] at hq
      by_cases hjk : j = k
      · subst hjk
        simp only [List.getElem_set_self]
        intro hq'
        rcases (hv q hq').2 with h | h
        · exact h14 i j hiv hjv hij q hq h
        · have := ((h12 i (by omega) hiv).lt q hq).2; omega
      · simp only [List.getElem_set_ne (fun e => hjk e.symm)]
        exact h14 i j hiv hjv hij q hq
end Go.Proofs.YtjjfdkdneibjbaaGreatDoor
/- What a job is: its form; whether there is one, how many blocks are left. -/
namespace Go.Proofs.YtjjfdkdneibjbaaGreatDoor
open Go.RowKit

/-- A job: its block J, its own blocks H, what it is of, what is left, its still, the map ahead, the map that is made. -/
structure JobIs (w : World) (J : Nat) (H : Nat → Prop) (kd day : Int) (T : List Nat) (q : Nat) (old set : List Ext) : Prop where
  lt : J < w.heap.size
  hJ : H J
  hlt : ∀ k, H k → k < w.heap.size
  c0 : w.cell? ⟨J, 0, none⟩ = some (.int .i64 kd)
  c1 : w.cell? ⟨J, 1, none⟩ = some (.int .i64 day)
  c3 : w.cell? ⟨J, 3, none⟩ = some (.pointer (some ⟨q, 0, none⟩))
  todo : ∃ A n c, w.cell? ⟨J, 2, none⟩ = some (.slice A n c) ∧ Sl eI w A n c (T.map Int.ofNat) ∧ ∀ b off, A = some ⟨b, off, none⟩ → H b ∧ b ≠ J
  old : ∃ v, w.cell? ⟨J, 4, none⟩ = some v ∧ Own eE 107 w 0 v old ∧ ∀ b, v.ownBlock = some b → H b ∧ b ≠ J
  set : ∃ v, w.cell? ⟨J, 5, none⟩ = some v ∧ Own eE 107 w 0 v set ∧ ∀ b, v.ownBlock = some b → H b ∧ b ≠ J
  z2 : w.frozen? ⟨J, 2, none⟩ = false
  z5 : w.frozen? ⟨J, 5, none⟩ = false
section
variable {w w' : World} {J q : Nat} {H X : Nat → Prop} {kd day : Int} {T : List Nat} {old set : List Ext}
theorem Sl.kept {α : Type} {E : Enc α} {A : Option Addr} {n c : Nat} {xs : List α} (h : Sl E w A n c xs) (hs : w.heap.size ≤ w'.heap.size) (hb : ∀ b off, A = some ⟨b, off, none⟩ → w'.heap[b]? = w.heap[b]?) : Sl E w' A n c xs := by
  refine ⟨h.1, h.2.1, h.2.2.1, fun hn => ?_⟩
  obtain ⟨b, off, e, hlt, hr⟩ := h.2.2.2 hn
  exact ⟨b, off, e, by omega, fun i hi j hj => (World.cell?_of_block (a := ⟨b, off + i * E.sz + j, none⟩) (hb b off e)).trans (hr i hi j hj)⟩
theorem JobIs.keep (h : JobIs w J H kd day T q old set) (hs : w.heap.size ≤ w'.heap.size) (hb : ∀ k, k < w.heap.size → H k → w'.heap[k]? = w.heap[k]?) : JobIs w' J H kd day T q old set := by
  have e := hb J h.lt h.hJ
  have hc : ∀ i, w'.cell? ⟨J, i, none⟩ = w.cell? ⟨J, i, none⟩ := fun i => World.cell?_of_block (a := ⟨J, i, none⟩) e
  have hf : ∀ i, w'.frozen? ⟨J, i, none⟩ = w.frozen? ⟨J, i, none⟩ := fun i => World.frozen?_of_block (a := ⟨J, i, none⟩) e
  have own : ∀ (v : Value) (l : List Ext), Own eE 107 w 0 v l → (∀ b, v.ownBlock = some b → H b ∧ b ≠ J) → Own eE 107 w' 0 v l := fun v l ho hH => ho.of_block fun k hk => hb k (ho.lt k hk).2 (hH k hk).1
  obtain ⟨A, n, c, t1, t2, t3⟩ := h.todo
  obtain ⟨v, o1, o2, o3⟩ := h.old
  obtain ⟨u, s1, s2, s3⟩ := h.set
  exact ⟨Nat.lt_of_lt_of_le h.lt hs, h.hJ, fun k hk => Nat.lt_of_lt_of_le (h.hlt k hk) hs, (hc 0).trans h.c0, (hc 1).trans h.c1, (hc 3).trans h.c3, ⟨A, n, c, (hc 2).trans t1, t2.kept hs fun b off e => hb b (h.hlt b (t3 b off e).1) (t3 b off e).1, t3⟩,
    ⟨v, (hc 4).trans o1, own v old o2 o3, o3⟩, ⟨u, (hc 5).trans s1, own u set s2 s3, s3⟩, (hf 2).trans h.z2, (hf 5).trans h.z5⟩
theorem JobIs.chg (h : JobIs w J H kd day T q old set) (hc : Chg X w w') (hd : ∀ k, H k → ¬ X k) : JobIs w' J H kd day T q old set := h.keep hc.size fun k hk hH => hc.block k hk (hd k hH)
theorem JobIs.below (h : JobIs w J H kd day T q old set) (hb : Below w.heap.size w w') : JobIs w' J H kd day T q old set := h.keep hb.size fun k hk _ => hb.block k hk
/-- Another map is made. -/
theorem JobIs.setSet (h : JobIs w J H kd day T q old set) {v : Value} {l : List Ext} (hv : Own eE 107 w 0 v l) (hn : ∀ b, v.ownBlock = some b → b ≠ J) :
    JobIs (w.setCell ⟨J, 5, none⟩ v) J (fun k => H k ∨ v.ownBlock = some k) kd day T q old l := by
  have hsz : (w.setCell ⟨J, 5, none⟩ v).heap.size = w.heap.size := by simp [World.setCell]
  have hb : ∀ b, b ≠ J → (w.setCell ⟨J, 5, none⟩ v).heap[b]? = w.heap[b]? := fun b hb => Below.heap_setCell _ _ _ _ hb
  have hc : ∀ i, i ≠ 5 → (w.setCell ⟨J, 5, none⟩ v).cell? ⟨J, i, none⟩ = w.cell? ⟨J, i, none⟩ := fun i hi => World.cell?_setCell_other _ ⟨J, 5, none⟩ ⟨J, i, none⟩ _ (by simp)
  obtain ⟨A, n, c, t1, t2, t3⟩ := h.todo
  obtain ⟨u, o1, o2, o3⟩ := h.old
  obtain ⟨x, s1, _, _⟩ := h.set
  refine ⟨by rw [hsz]; exact h.lt, .inl h.hJ, fun k hk => by rw [hsz]; exact hk.elim (h.hlt k) fun e => (hv.lt k e).2, (hc 0 (by decide)).trans h.c0, (hc 1 (by decide)).trans h.c1, (hc 3 (by decide)).trans h.c3,
    ⟨A, n, c, (hc 2 (by decide)).trans t1, t2.kept (by rw [hsz]; exact Nat.le_refl _) fun b off e => hb b (t3 b off e).2, fun b off e => ⟨.inl (t3 b off e).1, (t3 b off e).2⟩⟩,
    ⟨u, (hc 4 (by decide)).trans o1, o2.of_block fun k hk => hb k (o3 k hk).2, fun b e => ⟨.inl (o3 b e).1, (o3 b e).2⟩⟩,
    ⟨v, World.cell?_setCell_same _ _ _ s1, hv.of_block fun k hk => hb k (hn k hk), fun b e => ⟨.inr e, hn b e⟩⟩, by rw [World.frozen?_setCell]; exact h.z2, by rw [World.frozen?_setCell]; exact h.z5⟩
/-- Fewer blocks are left. -/
theorem JobIs.setTodo (h : JobIs w J H kd day T q old set) {A : Option Addr} {n c : Nat} {U : List Nat} (hv : Sl eI w A n c (U.map Int.ofNat)) (hn : ∀ b off, A = some ⟨b, off, none⟩ → H b ∧ b ≠ J) :
    JobIs (w.setCell ⟨J, 2, none⟩ (.slice A n c)) J H kd day U q old set := by
  have hsz : (w.setCell ⟨J, 2, none⟩ (.slice A n c)).heap.size = w.heap.size := by simp [World.setCell]
  have hb : ∀ b, b ≠ J → (w.setCell ⟨J, 2, none⟩ (.slice A n c)).heap[b]? = w.heap[b]? := fun b hb => Below.heap_setCell _ _ _ _ hb
  have hc : ∀ i, i ≠ 2 → (w.setCell ⟨J, 2, none⟩ (.slice A n c)).cell? ⟨J, i, none⟩ = w.cell? ⟨J, i, none⟩ := fun i _ => World.cell?_setCell_other _ ⟨J, 2, none⟩ ⟨J, i, none⟩ _ (by simp)
  obtain ⟨A0, n0, d0, t1, t2, t3⟩ := h.todo
  obtain ⟨u, o1, o2, o3⟩ := h.old
  obtain ⟨x, s1, s2, s3⟩ := h.set
  exact ⟨by rw [hsz]; exact h.lt, h.hJ, fun k hk => by rw [hsz]; exact h.hlt k hk, (hc 0 (by decide)).trans h.c0, (hc 1 (by decide)).trans h.c1, (hc 3 (by decide)).trans h.c3,
    ⟨A, n, c, World.cell?_setCell_same _ _ _ t1, hv.kept (by rw [hsz]; exact Nat.le_refl _) fun b off e => hb b (hn b off e).2, hn⟩,
    ⟨u, (hc 4 (by decide)).trans o1, o2.of_block fun k hk => hb k (o3 k hk).2, o3⟩,
    ⟨x, (hc 5 (by decide)).trans s1, s2.of_block fun k hk => hb k (s3 k hk).2, s3⟩, by rw [World.frozen?_setCell]; exact h.z2, by rw [World.frozen?_setCell]; exact h.z5⟩
set_option maxHeartbeats 1000000 in
theorem none_jb (h : JobIs w J H kd day T q old set) : Calls Tryz.prog 61 #[.pointer (some ⟨J, 0, none⟩)] w fun e w' => e = .returned (.bool false) ∧ w' = w := by
  have c3 := h.c3
  clear h
  go_enter Tryz.func61, Tryz.ntmps61
  go_wp2
  go_ret
  exact ⟨rfl, rfl⟩
set_option maxHeartbeats 1000000 in
theorem left_jb (h : JobIs w J H kd day T q old set) : Calls Tryz.prog 26 #[.pointer (some ⟨J, 0, none⟩)] w fun e w' => e = .returned (.int .i64 (T.length : Int)) ∧ w' = w := by
  have Hn := hide (none_jb h)
  obtain ⟨A, n, c, c2, hs, _⟩ := h.todo
  have hl := hs.1
  rw [List.length_map] at hl
  rw [← hl]
  have b1 := hs.2.1
  have b2 := hs.2.2.1
  clear h hl hs
  go_enter Tryz.func26, Tryz.ntmps26
  go_wp2_with fail
  refine (unhide Hn).mono ?_
  rintro e w2 ⟨rfl, hw2⟩
  subst hw2
  clear Hn
  go_wp2_with fail
  go_ret
  exact ⟨rfl, rfl⟩
set_option maxHeartbeats 1000000 in
theorem done_jb (h : JobIs w J H kd day T q old set) : Calls Tryz.prog 46 #[.pointer (some ⟨J, 0, none⟩)] w fun e w' => e = .returned (.bool (decide (T.length = 0))) ∧ w' = w := by
  have Hn := hide (none_jb h)
  obtain ⟨A, n, c, c2, hs, _⟩ := h.todo
  have hl := hs.1
  rw [List.length_map] at hl
  rw [← hl]
  have b1 := hs.2.1
  have b2 := hs.2.2.1
  obtain ⟨B, hB⟩ : ∃ B, B = decide (n = 0) := ⟨_, rfl⟩
  have hB2 : ((n : Int) == 0) = B := by rw [hB, Bool.eq_iff_iff]; simp
  rw [← hB]
  clear h hl hs hB
  go_enter Tryz.func46, Tryz.ntmps46
  go_wp2_with fail
  refine (unhide Hn).mono ?_
  rintro e w2 ⟨rfl, hw2⟩
  subst hw2
  clear Hn
  go_wp2_with fail
  go_ret
  exact ⟨rfl, rfl⟩
end
end Go.Proofs.YtjjfdkdneibjbaaGreatDoor
/- Walks of package shelf: the bucket, none, where a thing stands. -/
namespace Go.Proofs.YtjjfdkdneibjbaaGreatDoor
open Go.RowKit

theorem bucket_any (x n : Int) (w : World) (h0 : 0 ≤ x) (h1 : x < 4294967296) (h2 : 1 ≤ n) (h3 : n ≤ 100) :
    Calls Tryz.prog 184 #[.int .u32 x, .int .i64 n] w fun e w' => e = .returned (.int .i64 (x % n)) ∧ w' = w := by
  have b0 : 0 ≤ x % n := Int.emod_nonneg _ (by omega)
  have b1 : x % n < n := Int.emod_lt_of_pos _ (by omega)
  go_enter Tryz.func184, Tryz.ntmps184
  go_wp2
  go_ret
  refine ⟨ret_int ?_, rfl⟩
  simp

theorem none_any {F : Nat → Prop} {s : Value} {bs : List (List (Int × Int))} (w : World) (h : ShelfIs w F s bs) :
    Calls Tryz.prog 183 #[s] w fun e w' => e = .returned (.bool false) ∧ w' = w := by
  obtain ⟨p, g, vs, rfl, h2, h3, h4, h5, h6, h7, h8, _⟩ := h
  have q1 : ((bs.length : Int) == 0) = false := beq_eq_false_iff_ne.2 (by omega)
  go_enter Tryz.func183, Tryz.ntmps183
  go_wp2
  go_ret
  exact ⟨rfl, rfl⟩

/-- The first place of t; -1: none. -/
def ix (L : List (Int × Int)) (t : Int × Int) : Int := if t ∈ L then (L.idxOf t : Int) else -1
theorem ix_at {L : List (Int × Int)} {t : Int × Int} {k : Nat} (hk : k < L.length) (h : L[k] = t) (hn : ∀ j (hj : j < L.length), j < k → L[j] ≠ t) : ix L t = k := by
  have hm : t ∈ L := h ▸ List.getElem_mem hk
  unfold ix
  rw [if_pos hm]
  have h1 : L.idxOf t < L.length := List.idxOf_lt_length_of_mem hm
  have h2 : L[L.idxOf t] = t := List.getElem_idxOf h1
  rcases Nat.lt_trichotomy (L.idxOf t) k with h3 | h3 | h3
  · exact absurd h2 (hn _ h1 h3)
  · rw [h3]
  · exfalso
    have := List.not_of_lt_findIdx (p := (· == t)) (xs := L) (i := k) h3
    simp [h] at this
theorem ix_none {L : List (Int × Int)} {t : Int × Int} (hn : ∀ j (hj : j < L.length), L[j] ≠ t) : ix L t = -1 := by
  unfold ix
  rw [if_neg]
  intro hm
  obtain ⟨j, hj, e⟩ := List.mem_iff_getElem.1 hm
  exact hn j hj e

set_option maxHeartbeats 1000000 in
theorem index_any (A : Option Addr) (n c : Nat) (L : List (Int × Int)) (x id : Int) (w : World) (hs : Sl eTh w A n c L) :
    Calls Tryz.prog 210 #[.slice A n c, .agg #[.int .u32 x, .int .i64 id]] w
      fun e w' => e = .returned (.int .i64 (ix L (x, id))) ∧ Below w.heap.size w w' := by
  obtain rfl := hs.1
  have hc1 := hs.2.1
  have hc2 := hs.2.2.1
  have B0 : Below w.heap.size w (w.alloc (.cells #[.int .u32 x, .int .i64 id] 234)) := (Below.refl _ _).alloc (Nat.le_refl _) _
  have c0 : (w.alloc (.cells #[.int .u32 x, .int .i64 id] 234)).cell? ⟨w.heap.size, 0, none⟩ = some (.int .u32 x) := World.cell?_alloc_at _ _ _ _ rfl
  have c1 : (w.alloc (.cells #[.int .u32 x, .int .i64 id] 234)).cell? ⟨w.heap.size, 1, none⟩ = some (.int .i64 id) := World.cell?_alloc_at _ _ _ _ rfl
  have s0 : w.heap.size < (w.alloc (.cells #[.int .u32 x, .int .i64 id] 234)).heap.size := by simp
  go_enter Tryz.func210, Tryz.ntmps210
  go_wp2
  go_loopw [8] (fun i wr => ∃ k : Nat, k ≤ L.length ∧ i = .int .i64 k ∧ (∀ j (hj : j < L.length), j < k → L[j] ≠ (x, id)) ∧ Below w.heap.size w wr ∧ w.heap.size < wr.heap.size ∧
      wr.cell? ⟨w.heap.size, 0, none⟩ = some (.int .u32 x) ∧ wr.cell? ⟨w.heap.size, 1, none⟩ = some (.int .i64 id))
    (fun i _ => L.length - (intOf i).toNat)
  case atStart => exact ⟨0, Nat.zero_le _, rfl, fun j _ hj => by omega, B0, s0, c0, c1⟩
  case round =>
    obtain ⟨k, hk, rfl, hne, HB, hsz, d0, d1⟩ := hrel
    by_cases hlt : k < L.length
    · obtain ⟨b, off, hA', hb, hrd⟩ := hs.2.2.2 (by omega)
      subst hA'
      have x0 : wr.cell? ⟨b, off + k * 2, none⟩ = some (.int .u32 L[k].1) := by rw [(bcell HB).1 _ _ hb]; simpa [eTh] using hrd k hlt 0 (by decide)
      have x1 : wr.cell? ⟨b, off + k * 2 + 1, none⟩ = some (.int .i64 L[k].2) := by rw [(bcell HB).1 _ _ hb]; simpa [eTh] using hrd k hlt 1 (by decide)
      have Hne := hide hne
      clear hne
      by_cases he : L[k] = (x, id)
      · have e1 : L[k].1 = x := by rw [he]
        have e2 : L[k].2 = id := by rw [he]
        rw [e1] at x0
        rw [e2] at x1
        have He := hide he
        clear he e1 e2
        go_wp2
        go_quiet (fail)
        go_wp2
        go_ret
        refine ⟨ret_int (ix_at hlt (unhide He) (unhide Hne)).symm, below_drewN HB _⟩
      · obtain ⟨y, hy⟩ : ∃ y, y = L[k] := ⟨_, rfl⟩
        rw [← hy] at x0 x1 he
        have Hy := hide hy
        have He := hide he
        clear he hy
        by_cases e1 : x = y.1
        · have e2 : (id == y.2) = false := beq_eq_false_iff_ne.2 fun e => unhide He (Prod.ext e1.symm e.symm)
          have E1 := hide e1
          rw [← e1] at x0
          clear e1
          go_wp2
          go_quiet (fail)
          go_wp2
          go_roundw
          case rel =>
            refine ⟨k + 1, by omega, by go_num, fun j hj hjk => ?_, below_drewN HB _, by simpa using hsz, d0, d1⟩
            rcases Nat.lt_or_ge j k with h | h
            · exact unhide Hne j hj h
            · obtain rfl : j = k := by omega
              rw [← unhide Hy]; exact unhide He
          case measure => simp [intOf]; omega
        · have e2 : (x == y.1) = false := beq_eq_false_iff_ne.2 e1
          have E1 := hide e1
          clear e1
          go_wp2
          go_quiet (fail)
          go_wp2
          go_roundw
          case rel =>
            refine ⟨k + 1, by omega, by go_num, fun j hj hjk => ?_, below_drewN HB _, by simpa using hsz, d0, d1⟩
            rcases Nat.lt_or_ge j k with h | h
            · exact unhide Hne j hj h
            · obtain rfl : j = k := by omega
              rw [← unhide Hy]; exact unhide He
          case measure => simp [intOf]; omega
    · have HN := hide (ix_none (L := L) (t := (x, id)) fun j hj => hne j hj (by omega))
      clear hne
      go_wp2
      go_ret
      exact ⟨ret_int (unhide HN).symm, HB⟩
end Go.Proofs.YtjjfdkdneibjbaaGreatDoor
