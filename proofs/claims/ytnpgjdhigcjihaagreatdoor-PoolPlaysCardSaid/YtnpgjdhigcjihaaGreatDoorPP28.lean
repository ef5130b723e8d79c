/- Joined texts: BkF, BkG, BkGS. -/
import Derived.Test.YtnpgjdhigcjihaaGreatDoorPP23
import Derived.Test.YtnpgjdhigcjihaaGreatDoorPP25
import Derived.Test.YtnpgjdhigcjihaaGreatDoorPP26
import Derived.Test.YtnpgjdhigcjihaaGreatDoorPP27
import Derived.Test.YtnpgjdhigcjihaaGreatDoorPP04
import Derived.Test.YtnpgjdhigcjihaaGreatDoorPP10
/- Printed by gen_bkf.py. The book of numbers, extents, blocks: each list is as it was, none shares memory with another one. -/
namespace Go.Proofs.YtnpgjdhigcjihaaGreatDoor
open Go.RowKit

/-- One kind's lists: as they were told, as they were copied. -/
structure Part (α : Type) where
  X : Value
  Y : Value
  vs : List Value
  us : List Value
  Ls : List (List α)
def Part.own {α : Type} (p : Part α) (q : Nat) : Prop := KOwn p.X p.Y p.vs p.us q
def Part.none (α : Type) : Part α := ⟨.slice .none 0 0, .slice .none 0 0, [], [], []⟩
/-- The book. -/
structure Bk (w : World) (b B : Nat) (i : Part Int) (e : Part Ext) (s : Part Shv) : Prop where
  blk : w.heap[b]? = some (.cells #[.slice none 0 0, .slice none 0 0, i.X, i.Y, .slice none 0 0, .slice none 0 0, e.X, e.Y, s.X, s.Y, .slice none 0 0, .slice none 0 0, .slice none 0 0, .slice none 0 0] 38)
  lt : b < B
  bw : B ≤ w.heap.size
  ki : Kin eI 3 73 w B i.X i.Y i.vs i.us i.Ls
  ke : Kin eE 146 131 w B e.X e.Y e.vs e.us e.Ls
  ks : Kin eSh 56 26 w B s.X s.Y s.vs s.us s.Ls
  ie : ∀ q, i.own q → ¬ e.own q
  is_ : ∀ q, i.own q → ¬ s.own q
  es : ∀ q, e.own q → ¬ s.own q
theorem own_x {X Y : Value} {vs us : List Value} {q : Nat} (h : OwnX X vs q) : KOwn X Y vs us q := h.elim .inl fun h => .inr (.inr (.inl h))
theorem own_in {X Y : Value} {vs us : List Value} {q : Nat} (h : InnB vs q) : KOwn X Y vs us q := .inr (.inr (.inl h))
theorem bkb {w : World} {b B : Nat} {i : Part Int} {e : Part Ext} {s : Part Shv} (h : Bk w b B i e s) : (∀ q, InnB i.vs q → b < q ∧ q < w.heap.size) ∧ (∀ q, InnB e.vs q → b < q ∧ q < w.heap.size) ∧ ∀ q, InnB s.vs q → b < q ∧ q < w.heap.size := by
  have hlt := h.lt
  exact ⟨fun q hq => by have := h.ki.lt (own_in hq); omega, fun q hq => by have := h.ke.lt (own_in hq); omega, fun q hq => by have := h.ks.lt (own_in hq); omega⟩
set_option maxHeartbeats 16000000 in
set_option maxRecDepth 100000 in
theorem bk_apart (b B : Nat) (i : Part Int) (e : Part Ext) (s : Part Shv) (w : World) (h : Bk w b B i e s) (hn : i.Ls.length ≤ 250 ∧ e.Ls.length ≤ 250 ∧ s.Ls.length ≤ 250) (hl : (∀ j, (i.Ls.getD j []).length ≤ 90000) ∧ (∀ j, (e.Ls.getD j []).length ≤ 90000) ∧ ∀ j, (s.Ls.getD j []).length ≤ 90000) :
    Calls Tryz.prog 23 #[.pointer (some ⟨b, 0, none⟩)] w fun e w' => e = .returned (.bool true) ∧ Below b w w' := by
  obtain ⟨bI, bE, bS⟩ := bkb h
  obtain ⟨XI, YI, vI, uI, LI⟩ := i
  obtain ⟨XE, YE, vE, uE, LE⟩ := e
  obtain ⟨XS, YS, vS, uS, LS⟩ := s
  obtain ⟨blk, hlt, hbw, kI, kE, kS, dIE, dIS, dES⟩ := h
  dsimp only [Part.own] at blk kI kE kS dIE dIS dES hn hl bI bE bS
  obtain ⟨nI, nE, nS⟩ := hn
  obtain ⟨hlI, hlE, hlS⟩ := hl
  have zIE : ∀ q, OwnX XI vI q → ¬ InnB vE q := fun q h1 h2 => dIE q (own_x h1) (own_in h2)
  have zIS : ∀ q, OwnX XI vI q → ¬ InnB vS q := fun q h1 h2 => dIS q (own_x h1) (own_in h2)
  have zEI : ∀ q, OwnX XE vE q → ¬ InnB vI q := fun q h1 h2 => dIE q (own_in h2) (own_x h1)
  have zES : ∀ q, OwnX XE vE q → ¬ InnB vS q := fun q h1 h2 => dES q (own_x h1) (own_in h2)
  have zSI : ∀ q, OwnX XS vS q → ¬ InnB vI q := fun q h1 h2 => dIS q (own_in h2) (own_x h1)
  have zSE : ∀ q, OwnX XS vS q → ¬ InnB vE q := fun q h1 h2 => dES q (own_in h2) (own_x h1)
  have HKI := hide kI
  have HLI := hide hlI
  have HbI := hide bI
  have HKE := hide kE
  have HLE := hide hlE
  have HbE := hide bE
  have HKS := hide kS
  have HLS := hide hlS
  have HbS := hide bS
  have ZIE := hide zIE
  have ZIS := hide zIS
  have ZEI := hide zEI
  have ZES := hide zES
  have ZSI := hide zSI
  have ZSE := hide zSE
  have Hblk := hide blk
  have B0 := hide (Below.refl b w)
  have hw0 : w.heap.size ≤ w.heap.size := Nat.le_refl _
  clear kI kE kS dIE dIS dES hlI hlE hlS bI bE bS zIE zIS zEI zES zSI zSE blk
  go_enter Tryz.func23, Tryz.ntmps23
  go_wp2_with fail
  refine (still0Texts b _ (kblk_cell (unhide Hblk) 0 _ rfl)).mono ?_
  rintro e w' ⟨rfl, hw⟩; obtain rfl := hw.symm
  go_wp2_with fail
  refine (kstillI b XI YI vI uI LI _ (kblk_cell (unhide Hblk) 2 _ rfl) (kblk_cell (unhide Hblk) 3 _ rfl) (unhide HKI).rows.read (unhide HKI).copy.read (by omega)).mono ?_
  rintro e w1 ⟨rfl, q1, hq⟩
  have Bx1 := hide (show Below b w w1 by rw [hq]; exact below_drewN (unhide B0) _)
  have Hblk1 := hide ((congrArg (fun W : World => W.heap[b]?) hq).trans (unhide Hblk))
  have hs1 : w.heap.size ≤ w1.heap.size := by rw [hq]; exact hw0
  have HKI1 := hide (show Kin eI 3 73 w1 B XI YI vI uI LI by rw [hq]; exact (unhide HKI).keep fun _ _ _ => rfl)
  have HKE1 := hide (show Kin eE 146 131 w1 B XE YE vE uE LE by rw [hq]; exact (unhide HKE).keep fun _ _ _ => rfl)
  have HKS1 := hide (show Kin eSh 56 26 w1 B XS YS vS uS LS by rw [hq]; exact (unhide HKS).keep fun _ _ _ => rfl)
  clear hq HKI HKE HKS
  go_wp2_with fail
  refine (still0Spans b _ (kblk_cell (unhide Hblk1) 4 _ rfl)).mono ?_
  rintro e w' ⟨rfl, hw⟩; obtain rfl := hw.symm
  go_wp2_with fail
  refine (kstillE b XE YE vE uE LE _ (kblk_cell (unhide Hblk1) 6 _ rfl) (kblk_cell (unhide Hblk1) 7 _ rfl) (unhide HKE1).rows.read (unhide HKE1).copy.read (by omega)).mono ?_
  rintro e w2 ⟨rfl, q2, hq⟩
  have Bx2 := hide (show Below b w w2 by rw [hq]; exact below_drewN (unhide Bx1) _)
  have Hblk2 := hide ((congrArg (fun W : World => W.heap[b]?) hq).trans (unhide Hblk1))
  have hs2 : w.heap.size ≤ w2.heap.size := by rw [hq]; exact hs1
  have HKI2 := hide (show Kin eI 3 73 w2 B XI YI vI uI LI by rw [hq]; exact (unhide HKI1).keep fun _ _ _ => rfl)
  have HKE2 := hide (show Kin eE 146 131 w2 B XE YE vE uE LE by rw [hq]; exact (unhide HKE1).keep fun _ _ _ => rfl)
  have HKS2 := hide (show Kin eSh 56 26 w2 B XS YS vS uS LS by rw [hq]; exact (unhide HKS1).keep fun _ _ _ => rfl)
  clear hq HKI1 HKE1 HKS1
  go_wp2_with fail
  refine (kstillS b XS YS vS uS LS _ (kblk_cell (unhide Hblk2) 8 _ rfl) (kblk_cell (unhide Hblk2) 9 _ rfl) (unhide HKS2).rows.read (unhide HKS2).copy.read (by omega)).mono ?_
  rintro e w3 ⟨rfl, q3, hq⟩
  have Bx3 := hide (show Below b w w3 by rw [hq]; exact below_drewN (unhide Bx2) _)
  have Hblk3 := hide ((congrArg (fun W : World => W.heap[b]?) hq).trans (unhide Hblk2))
  have hs3 : w.heap.size ≤ w3.heap.size := by rw [hq]; exact hs2
  have HKI3 := hide (show Kin eI 3 73 w3 B XI YI vI uI LI by rw [hq]; exact (unhide HKI2).keep fun _ _ _ => rfl)
  have HKE3 := hide (show Kin eE 146 131 w3 B XE YE vE uE LE by rw [hq]; exact (unhide HKE2).keep fun _ _ _ => rfl)
  have HKS3 := hide (show Kin eSh 56 26 w3 B XS YS vS uS LS by rw [hq]; exact (unhide HKS2).keep fun _ _ _ => rfl)
  clear hq HKI2 HKE2 HKS2
  go_wp2_with fail
  refine (still0Pairs b _ (kblk_cell (unhide Hblk3) 10 _ rfl)).mono ?_
  rintro e w' ⟨rfl, hw⟩; obtain rfl := hw.symm
  go_wp2_with fail
  refine (still0Points b _ (kblk_cell (unhide Hblk3) 12 _ rfl)).mono ?_
  rintro e w' ⟨rfl, hw⟩; obtain rfl := hw.symm
  have HRI := hide (unhide HKI3).rows
  have HRE := hide (unhide HKE3).rows
  have HRS := hide (unhide HKS3).rows
  clear HKI3 HKE3 HKS3
  go_wp2_with fail
  refine (put0Points b _ (kblk_cell (unhide Hblk3) 12 _ rfl)).mono ?_
  rintro e w' ⟨rfl, hw⟩; obtain rfl := hw.symm
  go_wp2_with fail
  refine (put0Texts b _ (kblk_cell (unhide Hblk3) 0 _ rfl)).mono ?_
  rintro e w' ⟨rfl, hw⟩; obtain rfl := hw.symm
  go_wp2_with fail
  refine (kputI b B XI vI LI _ (kblk_cell (unhide Hblk3) 2 _ rfl) hlt (by omega) (unhide HRI) (by omega) (fun j => Nat.le_trans (unhide HLI j) (by omega))).mono ?_
  rintro e w4 ⟨rfl, ⟨MI, R2, hM, hMl, hMn⟩, HC⟩
  have Bx4 := hide (show Below b w w4 from (unhide Bx3).trans (HC.to_below (B := b) (by omega) fun q hq => Nat.le_of_lt (unhide HbI q hq).1))
  have Hblk4 := hide ((HC.block b (by omega) fun hq => Nat.lt_irrefl _ (unhide HbI b hq).1).trans (unhide Hblk3))
  have hs4 : w.heap.size ≤ w4.heap.size := Nat.le_trans (by omega) HC.size
  have HRI4 := hide R2
  have HMI := hide hM
  have HMLI := hide (show ∀ j, (MI.getD j []).length ≤ 90000 from fun j => by rw [hMn j]; exact unhide HLI j)
  have nMI : MI.length ≤ 250 := by omega
  have HRE4 := hide ((unhide HRE).chg HC (unhide ZEI))
  have HRS4 := hide ((unhide HRS).chg HC (unhide ZSI))
  clear R2 hM hMl hMn HC HRI HRE HRS
  go_wp2_with fail
  refine (put0Spans b _ (kblk_cell (unhide Hblk4) 4 _ rfl)).mono ?_
  rintro e w' ⟨rfl, hw⟩; obtain rfl := hw.symm
  go_wp2_with fail
  refine (kputE b B XE vE LE _ (kblk_cell (unhide Hblk4) 6 _ rfl) hlt (by omega) (unhide HRE4) (by omega) (fun j => Nat.le_trans (unhide HLE j) (by omega))).mono ?_
  rintro e w5 ⟨rfl, ⟨ME, R2, hM, hMl, hMn⟩, HC⟩
  have Bx5 := hide (show Below b w w5 from (unhide Bx4).trans (HC.to_below (B := b) (by omega) fun q hq => Nat.le_of_lt (unhide HbE q hq).1))
  have Hblk5 := hide ((HC.block b (by omega) fun hq => Nat.lt_irrefl _ (unhide HbE b hq).1).trans (unhide Hblk4))
  have hs5 : w.heap.size ≤ w5.heap.size := Nat.le_trans (by omega) HC.size
  have HRE5 := hide R2
  have HME := hide hM
  have HMLE := hide (show ∀ j, (ME.getD j []).length ≤ 90000 from fun j => by rw [hMn j]; exact unhide HLE j)
  have nME : ME.length ≤ 250 := by omega
  have HRI5 := hide ((unhide HRI4).chg HC (unhide ZIE))
  have HRS5 := hide ((unhide HRS4).chg HC (unhide ZSE))
  clear R2 hM hMl hMn HC HRI4 HRE4 HRS4
  go_wp2_with fail
  refine (kputS b B XS vS LS _ (kblk_cell (unhide Hblk5) 8 _ rfl) hlt (by omega) (unhide HRS5) (by omega) (fun j => Nat.le_trans (unhide HLS j) (by omega))).mono ?_
  rintro e w6 ⟨rfl, ⟨MS, R2, hM, hMl, hMn⟩, HC⟩
  have Bx6 := hide (show Below b w w6 from (unhide Bx5).trans (HC.to_below (B := b) (by omega) fun q hq => Nat.le_of_lt (unhide HbS q hq).1))
  have Hblk6 := hide ((HC.block b (by omega) fun hq => Nat.lt_irrefl _ (unhide HbS b hq).1).trans (unhide Hblk5))
  have hs6 : w.heap.size ≤ w6.heap.size := Nat.le_trans (by omega) HC.size
  have HRS6 := hide R2
  have HMS := hide hM
  have HMLS := hide (show ∀ j, (MS.getD j []).length ≤ 90000 from fun j => by rw [hMn j]; exact unhide HLS j)
  have nMS : MS.length ≤ 250 := by omega
  have HRI6 := hide ((unhide HRI5).chg HC (unhide ZIS))
  have HRE6 := hide ((unhide HRE5).chg HC (unhide ZES))
  clear R2 hM hMl hMn HC HRI5 HRE5 HRS5
  go_wp2_with fail
  refine (put0Pairs b _ (kblk_cell (unhide Hblk6) 10 _ rfl)).mono ?_
  rintro e w' ⟨rfl, hw⟩; obtain rfl := hw.symm
  go_wp2_with fail
  refine (grow0Texts b _ (kblk_cell (unhide Hblk6) 0 _ rfl)).mono ?_
  rintro e w' ⟨rfl, hw⟩; obtain rfl := hw.symm
  go_wp2_with fail
  refine (kgrowI b B XI vI MI _ (kblk_cell (unhide Hblk6) 2 _ rfl) hlt (by omega) (unhide HRI6) (unhide HMI) (by omega) (fun j => Nat.le_trans (unhide HMLI j) (by omega))).mono ?_
  rintro e w7 ⟨⟨GI, gI, rfl, rd, rg, hpl⟩, HC⟩
  have Bx7 := hide (show Below b w w7 from (unhide Bx6).trans (HC.to_below (B := b) (by omega) fun q hq => Nat.le_of_lt (unhide HbI q hq).1))
  have Hblk7 := hide ((HC.block b (by omega) fun hq => Nat.lt_irrefl _ (unhide HbI b hq).1).trans (unhide Hblk6))
  have hs7 : w.heap.size ≤ w7.heap.size := Nat.le_trans (by omega) HC.size
  have HPlI := hide (show ∀ q, OwnX GI gI q → InnB vI q ∨ w.heap.size ≤ q from fun q hq => (hpl q hq).imp id fun h => by omega)
  obtain ⟨AGI, cGI, nGI, eG⟩ : ∃ A c n, GI = .slice A n c := by
    obtain ⟨A, c, h, _⟩ := rg
    exact ⟨A, c, _, h⟩
  subst eG
  have HDI7 := hide rd
  have HGI7 := hide rg
  have HRE7 := hide ((unhide HRE6).chg HC (unhide ZEI))
  have HRS7 := hide ((unhide HRS6).chg HC (unhide ZSI))
  clear rd rg hpl HC HRE6 HRS6 HRI6
  go_wp2_with fail
  refine (grow0Spans b _ (kblk_cell (unhide Hblk7) 4 _ rfl)).mono ?_
  rintro e w' ⟨rfl, hw⟩; obtain rfl := hw.symm
  go_wp2_with fail
  refine (kgrowE b B XE vE ME _ (kblk_cell (unhide Hblk7) 6 _ rfl) hlt (by omega) (unhide HRE7) (unhide HME) (by omega) (fun j => Nat.le_trans (unhide HMLE j) (by omega))).mono ?_
  rintro e w8 ⟨⟨GE, gE, rfl, rd, rg, hpl⟩, HC⟩
  have Bx8 := hide (show Below b w w8 from (unhide Bx7).trans (HC.to_below (B := b) (by omega) fun q hq => Nat.le_of_lt (unhide HbE q hq).1))
  have Hblk8 := hide ((HC.block b (by omega) fun hq => Nat.lt_irrefl _ (unhide HbE b hq).1).trans (unhide Hblk7))
  have hs8 : w.heap.size ≤ w8.heap.size := Nat.le_trans (by omega) HC.size
  have HPlE := hide (show ∀ q, OwnX GE gE q → InnB vE q ∨ w.heap.size ≤ q from fun q hq => (hpl q hq).imp id fun h => by omega)
  obtain ⟨AGE, cGE, nGE, eG⟩ : ∃ A c n, GE = .slice A n c := by
    obtain ⟨A, c, h, _⟩ := rg
    exact ⟨A, c, _, h⟩
  subst eG
  have HDE8 := hide rd
  have HGE8 := hide rg
  have HDI8 := hide ((unhide HDI7).chg HC fun q _ hq => unhide ZIE q hq)
  have HGI8 := hide ((unhide HGI7).chg HC fun q _ hq hq2 => by
    rcases unhide HPlI q hq with h | h
    · exact unhide ZIE q (.inr h) hq2
    · have := (unhide HbE q hq2).2; omega)
  have HRS8 := hide ((unhide HRS7).chg HC (unhide ZSE))
  clear rd rg hpl HC HDI7 HGI7 HRS7 HRE7
  go_wp2_with fail
  refine (kgrowS b B XS vS MS _ (kblk_cell (unhide Hblk8) 8 _ rfl) hlt (by omega) (unhide HRS8) (unhide HMS) (by omega) (fun j => Nat.le_trans (unhide HMLS j) (by omega))).mono ?_
  rintro e w9 ⟨⟨GS, gS, rfl, rd, rg, hpl⟩, HC⟩
  have Bx9 := hide (show Below b w w9 from (unhide Bx8).trans (HC.to_below (B := b) (by omega) fun q hq => Nat.le_of_lt (unhide HbS q hq).1))
  have Hblk9 := hide ((HC.block b (by omega) fun hq => Nat.lt_irrefl _ (unhide HbS b hq).1).trans (unhide Hblk8))
  have hs9 : w.heap.size ≤ w9.heap.size := Nat.le_trans (by omega) HC.size
  have HPlS := hide (show ∀ q, OwnX GS gS q → InnB vS q ∨ w.heap.size ≤ q from fun q hq => (hpl q hq).imp id fun h => by omega)
  obtain ⟨AGS, cGS, nGS, eG⟩ : ∃ A c n, GS = .slice A n c := by
    obtain ⟨A, c, h, _⟩ := rg
    exact ⟨A, c, _, h⟩
  subst eG
  have HDS9 := hide rd
  have HGS9 := hide rg
  have HDI9 := hide ((unhide HDI8).chg HC fun q _ hq => unhide ZIS q hq)
  have HGI9 := hide ((unhide HGI8).chg HC fun q _ hq hq2 => by
    rcases unhide HPlI q hq with h | h
    · exact unhide ZIS q (.inr h) hq2
    · have := (unhide HbS q hq2).2; omega)
  have HDE9 := hide ((unhide HDE8).chg HC fun q _ hq => unhide ZES q hq)
  have HGE9 := hide ((unhide HGE8).chg HC fun q _ hq hq2 => by
    rcases unhide HPlE q hq with h | h
    · exact unhide ZES q (.inr h) hq2
    · have := (unhide HbS q hq2).2; omega)
  clear rd rg hpl HC HDI8 HGI8 HDE8 HGE8 HRS8
  go_wp2_with fail
  refine (grow0Pairs b _ (kblk_cell (unhide Hblk9) 10 _ rfl)).mono ?_
  rintro e w' ⟨rfl, hw⟩; obtain rfl := hw.symm
  go_wp2_with fail
  refine (grow0Points b _ (kblk_cell (unhide Hblk9) 12 _ rfl)).mono ?_
  rintro e w' ⟨rfl, hw⟩; obtain rfl := hw.symm
  have hg6I := hide (show ∀ j (h : j < (grownK mkI MI).length), (grownK mkI MI)[j].length ≤ 1000000 from fun j h => by
    have h' : j < MI.length := by rw [grownK_len] at h; exact h
    rw [grownK_at h' h, mks_len]
    have := unhide HMLI j
    rw [kgetD_at h'] at this
    omega)
  have hm6I := hide (show ∀ j (h : j < MI.length), MI[j].length ≤ 1000000 from fun j h => by
    have := unhide HMLI j
    rw [kgetD_at h] at this
    omega)
  have hglI := hide (show (grownK mkI MI).length ≤ 1000 by rw [grownK_len]; omega)
  have hg6E := hide (show ∀ j (h : j < (grownK mkE ME).length), (grownK mkE ME)[j].length ≤ 1000000 from fun j h => by
    have h' : j < ME.length := by rw [grownK_len] at h; exact h
    rw [grownK_at h' h, mks_len]
    have := unhide HMLE j
    rw [kgetD_at h'] at this
    omega)
  have hm6E := hide (show ∀ j (h : j < ME.length), ME[j].length ≤ 1000000 from fun j h => by
    have := unhide HMLE j
    rw [kgetD_at h] at this
    omega)
  have hglE := hide (show (grownK mkE ME).length ≤ 1000 by rw [grownK_len]; omega)
  have hg6S := hide (show ∀ j (h : j < (grownK mkS MS).length), (grownK mkS MS)[j].length ≤ 1000000 from fun j h => by
    have h' : j < MS.length := by rw [grownK_len] at h; exact h
    rw [grownK_at h' h, mks_len]
    have := unhide HMLS j
    rw [kgetD_at h'] at this
    omega)
  have hm6S := hide (show ∀ j (h : j < MS.length), MS[j].length ≤ 1000000 from fun j h => by
    have := unhide HMLS j
    rw [kgetD_at h] at this
    omega)
  have hglS := hide (show (grownK mkS MS).length ≤ 1000 by rw [grownK_len]; omega)
  have rr := kblk_cell (unhide Hblk9) 0 _ rfl
  go_wp2_with fail
  clear rr
  refine (marked0Texts _).mono ?_
  rintro e w' ⟨rfl, hw⟩; obtain rfl := hw.symm
  have rr := kblk_cell (unhide Hblk9) 0 _ rfl
  go_wp2_with fail
  clear rr
  refine (marked0Texts _).mono ?_
  rintro e w' ⟨rfl, hw⟩; obtain rfl := hw.symm
  have rr := kblk_cell (unhide Hblk9) 2 _ rfl
  go_wp2_with fail
  clear rr
  refine (kmarkedI (.slice AGI nGI cGI) gI (grownK mkI MI) _ (unhide HGI9) grownK_marked (unhide hglI) (unhide hg6I)).mono ?_
  rintro e w10 ⟨rfl, HBx⟩
  have Bx10 := hide ((unhide Bx9).trans (HBx.mono (by omega)))
  have Hblk10 := hide ((HBx.block b (by omega)).trans (unhide Hblk9))
  have hs10 : w.heap.size ≤ w10.heap.size := Nat.le_trans (by omega) HBx.size
  have HDI10 := hide ((unhide HDI9).below HBx)
  have HGI10 := hide ((unhide HGI9).below HBx)
  have HDE10 := hide ((unhide HDE9).below HBx)
  have HGE10 := hide ((unhide HGE9).below HBx)
  have HDS10 := hide ((unhide HDS9).below HBx)
  have HGS10 := hide ((unhide HGS9).below HBx)
  clear HBx HDI9 HGI9 HDE9 HGE9 HDS9 HGS9
  have rr := kblk_cell (unhide Hblk10) 2 _ rfl
  go_wp2_with fail
  clear rr
  refine (kmarkedI XI vI MI _ (unhide HDI10) (unhide HMI) (by omega) (unhide hm6I)).mono ?_
  rintro e w11 ⟨rfl, HBx⟩
  have Bx11 := hide ((unhide Bx10).trans (HBx.mono (by omega)))
  have Hblk11 := hide ((HBx.block b (by omega)).trans (unhide Hblk10))
  have hs11 : w.heap.size ≤ w11.heap.size := Nat.le_trans (by omega) HBx.size
  have HDI11 := hide ((unhide HDI10).below HBx)
  have HGI11 := hide ((unhide HGI10).below HBx)
  have HDE11 := hide ((unhide HDE10).below HBx)
  have HGE11 := hide ((unhide HGE10).below HBx)
  have HDS11 := hide ((unhide HDS10).below HBx)
  have HGS11 := hide ((unhide HGS10).below HBx)
  clear HBx HDI10 HGI10 HDE10 HGE10 HDS10 HGS10
  have rr := kblk_cell (unhide Hblk11) 4 _ rfl
  go_wp2_with fail
  clear rr
  refine (marked0Spans _).mono ?_
  rintro e w' ⟨rfl, hw⟩; obtain rfl := hw.symm
  have rr := kblk_cell (unhide Hblk11) 4 _ rfl
  go_wp2_with fail
  clear rr
  refine (marked0Spans _).mono ?_
  rintro e w' ⟨rfl, hw⟩; obtain rfl := hw.symm
  have rr := kblk_cell (unhide Hblk11) 6 _ rfl
  go_wp2_with fail
  clear rr
  refine (kmarkedE (.slice AGE nGE cGE) gE (grownK mkE ME) _ (unhide HGE11) grownK_marked (unhide hglE) (unhide hg6E)).mono ?_
  rintro e w12 ⟨rfl, HBx⟩
  have Bx12 := hide ((unhide Bx11).trans (HBx.mono (by omega)))
  have Hblk12 := hide ((HBx.block b (by omega)).trans (unhide Hblk11))
  have hs12 : w.heap.size ≤ w12.heap.size := Nat.le_trans (by omega) HBx.size
  have HDI12 := hide ((unhide HDI11).below HBx)
  have HGI12 := hide ((unhide HGI11).below HBx)
  have HDE12 := hide ((unhide HDE11).below HBx)
  have HGE12 := hide ((unhide HGE11).below HBx)
  have HDS12 := hide ((unhide HDS11).below HBx)
  have HGS12 := hide ((unhide HGS11).below HBx)
  clear HBx HDI11 HGI11 HDE11 HGE11 HDS11 HGS11
  have rr := kblk_cell (unhide Hblk12) 6 _ rfl
  go_wp2_with fail
  clear rr
  refine (kmarkedE XE vE ME _ (unhide HDE12) (unhide HME) (by omega) (unhide hm6E)).mono ?_
  rintro e w13 ⟨rfl, HBx⟩
  have Bx13 := hide ((unhide Bx12).trans (HBx.mono (by omega)))
  have Hblk13 := hide ((HBx.block b (by omega)).trans (unhide Hblk12))
  have hs13 : w.heap.size ≤ w13.heap.size := Nat.le_trans (by omega) HBx.size
  have HDI13 := hide ((unhide HDI12).below HBx)
  have HGI13 := hide ((unhide HGI12).below HBx)
  have HDE13 := hide ((unhide HDE12).below HBx)
  have HGE13 := hide ((unhide HGE12).below HBx)
  have HDS13 := hide ((unhide HDS12).below HBx)
  have HGS13 := hide ((unhide HGS12).below HBx)
  clear HBx HDI12 HGI12 HDE12 HGE12 HDS12 HGS12
  have rr := kblk_cell (unhide Hblk13) 8 _ rfl
  go_wp2_with fail
  clear rr
  refine (kmarkedS (.slice AGS nGS cGS) gS (grownK mkS MS) _ (unhide HGS13) grownK_marked (unhide hglS) (unhide hg6S)).mono ?_
  rintro e w14 ⟨rfl, HBx⟩
  have Bx14 := hide ((unhide Bx13).trans (HBx.mono (by omega)))
  have Hblk14 := hide ((HBx.block b (by omega)).trans (unhide Hblk13))
  have hs14 : w.heap.size ≤ w14.heap.size := Nat.le_trans (by omega) HBx.size
  have HDI14 := hide ((unhide HDI13).below HBx)
  have HGI14 := hide ((unhide HGI13).below HBx)
  have HDE14 := hide ((unhide HDE13).below HBx)
  have HGE14 := hide ((unhide HGE13).below HBx)
  have HDS14 := hide ((unhide HDS13).below HBx)
  have HGS14 := hide ((unhide HGS13).below HBx)
  clear HBx HDI13 HGI13 HDE13 HGE13 HDS13 HGS13
  have rr := kblk_cell (unhide Hblk14) 8 _ rfl
  go_wp2_with fail
  clear rr
  refine (kmarkedS XS vS MS _ (unhide HDS14) (unhide HMS) (by omega) (unhide hm6S)).mono ?_
  rintro e w15 ⟨rfl, HBx⟩
  have Bx15 := hide ((unhide Bx14).trans (HBx.mono (by omega)))
  have Hblk15 := hide ((HBx.block b (by omega)).trans (unhide Hblk14))
  have hs15 : w.heap.size ≤ w15.heap.size := Nat.le_trans (by omega) HBx.size
  have HDI15 := hide ((unhide HDI14).below HBx)
  have HGI15 := hide ((unhide HGI14).below HBx)
  have HDE15 := hide ((unhide HDE14).below HBx)
  have HGE15 := hide ((unhide HGE14).below HBx)
  have HDS15 := hide ((unhide HDS14).below HBx)
  have HGS15 := hide ((unhide HGS14).below HBx)
  clear HBx HDI14 HGI14 HDE14 HGE14 HDS14 HGS14
  have rr := kblk_cell (unhide Hblk15) 10 _ rfl
  go_wp2_with fail
  clear rr
  refine (marked0Pairs _).mono ?_
  rintro e w' ⟨rfl, hw⟩; obtain rfl := hw.symm
  have rr := kblk_cell (unhide Hblk15) 10 _ rfl
  go_wp2_with fail
  clear rr
  refine (marked0Pairs _).mono ?_
  rintro e w' ⟨rfl, hw⟩; obtain rfl := hw.symm
  have rr := kblk_cell (unhide Hblk15) 12 _ rfl
  go_wp2_with fail
  clear rr
  refine (marked0Points _).mono ?_
  rintro e w' ⟨rfl, hw⟩; obtain rfl := hw.symm
  have rr := kblk_cell (unhide Hblk15) 12 _ rfl
  go_wp2_with fail
  clear rr
  refine (marked0Points _).mono ?_
  rintro e w' ⟨rfl, hw⟩; obtain rfl := hw.symm
  go_wp2
  go_ret
  exact ⟨rfl, unhide Bx15⟩
end Go.Proofs.YtnpgjdhigcjihaaGreatDoor
/- Printed by gen_bkg.py. The book as one thing: its own blocks, how many lists of a kind there are at most. -/
namespace Go.Proofs.YtnpgjdhigcjihaaGreatDoor
open Go.RowKit

section
variable {α : Type} {E : Enc α} {T TT : TypeId}
theorem KOwn.add {w w' : World} {b q : Nat} {X Y X' Y' u v : Value} {vs us : List Value} (k : KTouch w w' b X Y X' Y' u) (h : KOwn X' Y' (vs ++ [v]) (us ++ [u]) q) : KOwn X Y vs us q ∨ v.ownBlock = some q ∨ w.heap.size ≤ q := by
  rcases h with h | h | ⟨i, hi, h⟩ | ⟨i, hi, h⟩
  · exact (k.x q h).elim (fun h => .inl (.inl h)) fun h => .inr (.inr h)
  · exact (k.y q h).elim (fun h => .inl (.inr (.inl h))) fun h => .inr (.inr h)
  · by_cases h2 : i < vs.length
    · rw [List.getElem_append_left h2] at h
      exact .inl (.inr (.inr (.inl ⟨i, h2, h⟩)))
    · have h3 : i = vs.length := by simp at hi; omega
      subst h3
      simp at h
      exact .inr (.inl h)
  · by_cases h2 : i < us.length
    · rw [List.getElem_append_left h2] at h
      exact .inl (.inr (.inr (.inr ⟨i, h2, h⟩)))
    · have h3 : i = us.length := by simp at hi; omega
      subst h3
      simp at h
      exact .inr (.inr (k.u q h))
theorem kgetD_snoc {Ls : List (List α)} {L : List α} {m : Nat} (h : ∀ j, (Ls.getD j []).length ≤ m) (hL : L.length ≤ m) (j : Nat) : ((Ls ++ [L]).getD j []).length ≤ m := by
  rw [List.getD_eq_getElem?_getD, List.getElem?_append]
  split
  · rw [← List.getD_eq_getElem?_getD]; exact h j
  · cases h2 : j - Ls.length with
    | zero => simpa using hL
    | succ k => simp
end
/-- The book. -/
structure Bok (w : World) (H : Nat → Prop) (b n : Nat) : Prop where
  ex : ∃ i e s, Bk w b (b + 1) i e s ∧ (i.Ls.length ≤ n ∧ e.Ls.length ≤ n ∧ s.Ls.length ≤ n) ∧ ((∀ j, (i.Ls.getD j []).length ≤ 90000) ∧ (∀ j, (e.Ls.getD j []).length ≤ 90000) ∧ ∀ j, (s.Ls.getD j []).length ≤ 90000) ∧ (∀ q, i.own q → H q) ∧ (∀ q, e.own q → H q) ∧ ∀ q, s.own q → H q
  own : H b
  lt : ∀ q, H q → b ≤ q ∧ q < w.heap.size
theorem Bok.new {w : World} {b : Nat} (h : w.heap[b]? = some (.cells #[.slice none 0 0, .slice none 0 0, .slice none 0 0, .slice none 0 0, .slice none 0 0, .slice none 0 0, .slice none 0 0, .slice none 0 0, .slice none 0 0, .slice none 0 0, .slice none 0 0, .slice none 0 0, .slice none 0 0, .slice none 0 0] 38)) (hb : b < w.heap.size) : Bok w (fun q => q = b) b 0 where
  ex := ⟨Part.none Int, Part.none Ext, Part.none Shv, ⟨h, by omega, by omega, Kin.nil _ _, Kin.nil _ _, Kin.nil _ _, fun q h => absurd h (KOwn.nil q), fun q h => absurd h (KOwn.nil q), fun q h => absurd h (KOwn.nil q)⟩, ⟨Nat.le_refl _, Nat.le_refl _, Nat.le_refl _⟩, ⟨fun j => by simp [Part.none], fun j => by simp [Part.none], fun j => by simp [Part.none]⟩, fun q h => absurd h (KOwn.nil q), fun q h => absurd h (KOwn.nil q), fun q h => absurd h (KOwn.nil q)⟩
  own := rfl
  lt := fun q h => by omega
theorem Bok.chg {w w' : World} {H F : Nat → Prop} {b n : Nat} (h : Bok w H b n) (hc : Chg F w w') (hd : ∀ q, H q → ¬ F q) : Bok w' H b n := by
  obtain ⟨⟨i, e, s, hB, hn, hl, oi, oe, os⟩, hb, hlt⟩ := h
  have hs := hc.size
  exact ⟨⟨i, e, s, ⟨(hc.block b (by have := hlt b hb; omega) (hd b hb)).trans hB.blk, hB.lt, Nat.le_trans hB.bw hs, hB.ki.keep fun k h1 h2 => hc.block k h1 (hd k (oi k h2)), hB.ke.keep fun k h1 h2 => hc.block k h1 (hd k (oe k h2)), hB.ks.keep fun k h1 h2 => hc.block k h1 (hd k (os k h2)), hB.ie, hB.is_, hB.es⟩, hn, hl, oi, oe, os⟩, hb, fun q hq => ⟨(hlt q hq).1, Nat.lt_of_lt_of_le (hlt q hq).2 hs⟩⟩
theorem Bok.below {w w' : World} {H : Nat → Prop} {b n : Nat} (h : Bok w H b n) (hb : Below w.heap.size w w') : Bok w' H b n := h.chg (F := fun _ => False) (Chg.of_below hb) fun _ _ h => h
theorem Bok.drewN {w : World} {H : Nat → Prop} {b n : Nat} (h : Bok w H b n) (k : Nat) : Bok (w.drewN k) H b n := by
  obtain ⟨⟨i, e, s, hB, hn, hl, oi, oe, os⟩, hb, hlt⟩ := h
  exact ⟨⟨i, e, s, ⟨hB.blk, hB.lt, hB.bw, hB.ki.keep fun _ _ _ => rfl, hB.ke.keep fun _ _ _ => rfl, hB.ks.keep fun _ _ _ => rfl, hB.ie, hB.is_, hB.es⟩, hn, hl, oi, oe, os⟩, hb, hlt⟩
theorem bok_apart {w : World} {H : Nat → Prop} {b n : Nat} (h : Bok w H b n) (hn : n ≤ 250) :
    Calls Tryz.prog 23 #[.pointer (some ⟨b, 0, none⟩)] w fun e w' => e = .returned (.bool true) ∧ Below b w w' := by
  obtain ⟨⟨i, e, s, hB, hn', hl, _⟩, _⟩ := h
  exact bk_apart b (b + 1) i e s w hB (by omega) hl
end Go.Proofs.YtnpgjdhigcjihaaGreatDoor
/- Printed by gen_bkg.py. The book takes one more list, kind Shelves. -/
namespace Go.Proofs.YtnpgjdhigcjihaaGreatDoor
open Go.RowKit


set_option maxHeartbeats 1000000 in
theorem bok_shelves {w : World} {H : Nat → Prop} {b n : Nat} (A : Option Addr) (m c : Nat) (L : List Shv) (h : Bok w H b n) (hn : n < 250) (hv : Own eSh 56 w (b + 1) (.slice A m c) L) (hL : L.length ≤ 90000) (hd : ∀ q, (Value.slice A m c).ownBlock = some q → ¬ H q) :
    Calls Tryz.prog 13 #[.pointer (some ⟨b, 0, none⟩), .slice A m c] w fun e w' => e = .returned (.tuple #[]) ∧ ∃ H', Bok w' H' b (n + 1) ∧ Chg H w w' ∧ ∀ q, H' q → H q ∨ (Value.slice A m c).ownBlock = some q ∨ w.heap.size ≤ q := by
  obtain ⟨⟨i, e, s, hB, ⟨ni, ne, ns⟩, ⟨hli, hle, hls⟩, oi, oe, os⟩, hb, hlt⟩ := h
  refine (kbookS b (b + 1) s.X s.Y s.vs s.us s.Ls A m c L w hB.blk rfl rfl (by omega) hB.bw hB.ks (by omega) hv (by omega) fun q hq => ⟨fun e1 => hd q hq (os q (.inl e1)), fun e1 => hd q hq (os q (.inr (.inl e1))), fun i hi e1 => hd q hq (os q (.inr (.inr (.inl ⟨i, hi, e1⟩))))⟩).mono ?_
  rintro x w' ⟨hx, X', Y', u, hb1, hb2, k1, T⟩
  have nlt : ∀ q, KOwn X' Y' (s.vs ++ [.slice A m c]) (s.us ++ [u]) q → b + 1 ≤ q ∧ q < w'.heap.size := fun q hq => k1.lt hq
  have nown : ∀ q, KOwn X' Y' (s.vs ++ [.slice A m c]) (s.us ++ [u]) q → (H q ∨ (Value.slice A m c).ownBlock = some q ∨ w.heap.size ≤ q) ∧ q < w'.heap.size := fun q hq => ⟨(KOwn.add T hq).elim (fun h3 => .inl (os q h3)) .inr, (nlt q hq).2⟩
  have hblt := (hlt b hb).2
  refine ⟨hx, fun q => (H q ∨ (Value.slice A m c).ownBlock = some q ∨ w.heap.size ≤ q) ∧ q < w'.heap.size, ⟨⟨i, e, ⟨X', Y', s.vs ++ [Value.slice A m c], s.us ++ [u], s.Ls ++ [L]⟩, ⟨hb1, by omega, hb2, hB.ki.keep fun k h1 h2 => T.same k h1 (fun e1 => by have := (hB.ki.lt h2).1; omega) (fun e1 => hB.is_ k h2 (.inl e1)) fun e1 => hB.is_ k h2 (.inr (.inl e1)), hB.ke.keep fun k h1 h2 => T.same k h1 (fun e1 => by have := (hB.ke.lt h2).1; omega) (fun e1 => hB.es k h2 (.inl e1)) fun e1 => hB.es k h2 (.inr (.inl e1)), k1, hB.ie, fun q h1 h2 => (KOwn.add T h2).elim (hB.is_ q h1) fun h3 => h3.elim (fun h4 => hd q h4 (oi q h1)) fun h4 => by have := (hB.ki.lt h1).2; omega, fun q h1 h2 => (KOwn.add T h2).elim (hB.es q h1) fun h3 => h3.elim (fun h4 => hd q h4 (oe q h1)) fun h4 => by have := (hB.ke.lt h1).2; omega⟩, ⟨by omega, by omega, by simp; omega⟩, ⟨hli, hle, kgetD_snoc hls hL⟩, fun q hq => ⟨.inl (oi q hq), Nat.lt_of_lt_of_le (hlt q (oi q hq)).2 T.size⟩, fun q hq => ⟨.inl (oe q hq), Nat.lt_of_lt_of_le (hlt q (oe q hq)).2 T.size⟩, nown⟩, ⟨.inl hb, by have := T.size; omega⟩, fun q hq => ⟨?_, hq.2⟩⟩, ⟨T.below.os, T.below.tape, T.below.output, T.size, fun q h1 h2 => T.same q h1 (fun e1 => h2 (by rw [e1]; exact hb)) (fun e1 => h2 (os q (.inl e1))) fun e1 => h2 (os q (.inr (.inl e1)))⟩, fun q hq => hq.1⟩
  rcases hq.1 with h1 | h1 | h1
  · exact (hlt q h1).1
  · have := (hv.lt q h1).1; omega
  · omega
end Go.Proofs.YtnpgjdhigcjihaaGreatDoor
