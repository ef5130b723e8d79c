/- Walk of the law PoolOnce. -/
import Derived.Test.YtdpbjigdihajjaaDoorOnceB
namespace Go.Proofs.YtdpbjigdihajjaaDoor
open Go.RowKit

set_option maxHeartbeats 1000000 in
set_option maxRecDepth 100000 in
theorem once_many (A : Option Addr) (n c : Nat) (w : World) (hn : 50 < n) :
    Calls Tryd.prog 4 #[.slice A n c] w fun e w' => e = .returned (.bool true) ∧ Below w.heap.size w w' := by
  go_enter Tryd.func4, Tryd.ntmps4
  go_wp2_with (go_at_call 8; refine (alive9 _).mono ?_; rintro e w1 ⟨he, B1⟩; subst he)
  go_ret
  exact ⟨rfl, B1⟩

/-- What a Put of a text of eight bytes does. -/
theorem once_put {w : World} {G : Nat → Prop} {s : Value} {es : List (Int × Blk)} {I C : TN} {k : Nat} (b : ByteArray) (h : Pl w G s 60 es) (hG : ∀ k, w.heap.size ≤ k → G k) (hI : OnceInv k es I C) (hk : k < 50) (hb : b.size = 8) :
    ∃ (id : Int) (z : Bool) (y : Int) (q : Bool) (y2 : Int) (es' : List (Int × Blk)), (id == 0) = z ∧ zeroB b = z ∧ (lkT I b).getD 0 = y ∧ (lkT I b).isSome = q ∧ (q = true → y = id) ∧ (lkT C b).getD 0 = y2 ∧ (0 ≤ y2 ∧ y2 ≤ 50) ∧
      OnceInv (k + 1) es' (putT I b id) (putT C b (y2 + 1)) ∧ Calls Tryd.prog 10 #[s, .string b] w fun e w' => e = .returned (.tuple #[.int .i64 id, .int .i64 0]) ∧ Pl w' G s 60 es' ∧ Chg G w w' := by
  have hlen := hI.len
  have hy2 : 0 ≤ (lkT C b).getD 0 ∧ (lkT C b).getD 0 ≤ 50 := by
    cases hc : lkT C b with
    | none => simp
    | some c => have := hI.cc b c hc; simp; omega
  cases hz : zeroB b with
  | true =>
    refine ⟨0, true, _, _, _, es, rfl, rfl, rfl, rfl, fun hq => ?_, rfl, hy2, hI.zero (fun id b' r h1 => (h.good h1).2.2.2) hz, (pl_put_zero b h hb hz).mono fun _ _ ⟨a, b, c⟩ => ⟨a, b, Chg.of_below c⟩⟩
    cases hl : lkT I b with
    | none => rfl
    | some id =>
      rcases hI.ii b id hl with ⟨_, h1⟩ | ⟨h1, _⟩
      · rw [h1]; rfl
      · rw [hz] at h1; cases h1
  | false =>
    cases hl : lkT I b with
    | none =>
      have hC : lkT C b = none := (hI.ic b).2 hl
      obtain ⟨R, hR, hR2⟩ := least_ex es fun id t r h1 => (h.good h1).2.1
      refine ⟨R, false, 0, false, 0, _, beq_eq_false_iff_ne.2 (by have := hR.1; omega), rfl, rfl, rfl, (fun hq => by cases hq), by rw [hC]; rfl, by omega, hI.fresh hz hl hR.2.1, (pl_put_new b R h hG hb hz (hI.no hl) (by omega) (by omega) (by omega) hR (by omega)).mono fun _ _ h => h⟩
    | some id =>
      rcases hI.ii b id hl with ⟨h1, _⟩ | ⟨_, c, hC, hE⟩
      · rw [hz] at h1; cases h1
      · have hg := h.good hE
        have hc := hI.cc b c hC
        refine ⟨id, false, id, true, c, _, beq_eq_false_iff_ne.2 (by omega), rfl, rfl, rfl, fun _ => rfl, by rw [hC]; rfl, by omega, hI.had hz hl hC hE, (pl_put_had b id c h hG (by omega) hE (by omega)).mono fun _ _ h => h⟩

set_option maxHeartbeats 4000000 in
set_option maxRecDepth 100000 in
theorem once_few (A : Option Addr) (n c : Nat) (l : List ByteArray) (w : World) (hs : Sl eS w A n c l) (hn : n ≤ 50) :
    Calls Tryd.prog 4 #[.slice A n c] w fun e w' => e = .returned (.bool true) ∧ Below w.heap.size w w' := by
  have hmm := @run_makeMap Tryd.prog
  obtain rfl := hs.1
  have hc1 := hs.2.1
  have hc2 := hs.2.2.1
  have HR := hide hs.2.2.2
  have qa : decide (50 < (l.length : Int)) = false := decide_eq_false (by omega)
  clear hs
  go_enter Tryd.func4, Tryd.ntmps4
  go_wp2_with fail
  refine (alive9 _).mono ?_
  rintro e w1 ⟨rfl, B1⟩
  have s1 := B1.size
  go_wp2_with fail
  refine (pl_new (G := fun k => w.heap.size ≤ k) 60 w1 (fun k hk => Nat.le_trans s1 hk)).mono ?_
  rintro e w2 ⟨p, rfl, hP, HB2⟩
  rw [show min (max (60 : Int) 0) 60 = 60 by decide] at hP
  have s2 := HB2.size
  have B2 := B1.trans (HB2.mono s1)
  clear HB2 B1
  obtain ⟨W3, hW3⟩ : ∃ W3, W3 = (w2.alloc (.map #[] 0)).alloc (.map #[] 0) := ⟨_, rfl⟩
  have HB3 : Below w2.heap.size w2 W3 := by rw [hW3]; exact ((Below.refl _ _).alloc (Nat.le_refl _) _).alloc (by simp) _
  have s3 : W3.heap.size = w2.heap.size + 2 := by rw [hW3]; simp
  have HMi : MapIs kStr W3 w2.heap.size (tnV []) := by rw [hW3]; exact (MapIs.made kStr w2).alloc _
  have HMn : MapIs kStr W3 (w2.heap.size + 1) (tnV []) := by
    have := MapIs.made kStr (w2.alloc (.map #[] 0))
    rw [hW3]
    show MapIs kStr _ _ []
    simpa using this
  have hP3 := hP.split HB3 (w2.heap.size + 2)
  have hz : OnceW (Split (fun k => w.heap.size ≤ k) w2.heap.size (w2.heap.size + 2)) p w2.heap.size (w2.heap.size + 1) W3 0 := ⟨[], [], [], hP3, HMi, HMn, OnceInv.made⟩
  have Hz := hide hz
  have B3 := B2.trans (HB3.mono (by omega))
  have HW3 := hide hW3
  clear hz hP3 HMi HMn HB3 hP B2 s3 hW3
  go_wp2_with fail
  rw [← unhide HW3]
  obtain ⟨bi, hbi⟩ : ∃ bi, bi = w2.heap.size := ⟨_, rfl⟩
  obtain ⟨G, hGd⟩ : ∃ G, G = Split (fun k => w.heap.size ≤ k) bi (bi + 2) := ⟨_, rfl⟩
  have hG : ∀ W : World, bi + 2 ≤ W.heap.size → ∀ k, W.heap.size ≤ k → G k := fun W h k hk => by rw [hGd]; exact .inr (by omega)
  have hGi : ¬ G bi := by rw [hGd]; rintro (h | h); exact absurd h.2 (Nat.lt_irrefl _); omega
  have hGn : ¬ G (bi + 1) := by rw [hGd]; rintro (h | h); exact absurd h.2 (by omega); omega
  have hGB : ∀ k, G k → w.heap.size ≤ k := fun k hk => by rw [hGd] at hk; rcases hk with h | h; exact h.1; omega
  have sW3 : bi + 2 ≤ W3.heap.size := by have := unhide HW3; rw [this, hbi]; simp
  have sbi : w.heap.size ≤ bi := by omega
  rw [← hbi, ← hGd] at Hz
  rw [← hbi]
  have HG := hide hG
  have HGi := hide hGi
  have HGn := hide hGn
  have HGB := hide hGB
  clear hG hGi hGn hGB hGd HW3 hbi s1 s2
  go_loopw [6] (fun i wr => ∃ k : Nat, k ≤ l.length ∧ i = .int .i64 k ∧ OnceW G p bi (bi + 1) wr k ∧ Below w.heap.size w wr ∧ bi + 2 ≤ wr.heap.size) (fun i _ => l.length - (intOf i).toNat)
  case atStart => exact ⟨0, Nat.zero_le _, rfl, unhide Hz, B3, sW3⟩
  case round =>
    obtain ⟨k, hk, rfl, hW, HB, hsz⟩ := hrel
    obtain ⟨es, I, C, hP, hMi, hMn, hInv⟩ := hW
    clear Hz B3
    by_cases hlt : k < l.length
    · obtain ⟨bb, off, hA', hbb, hr⟩ := unhide HR (by omega)
      subst hA'
      have x0 : wr.cell? ⟨bb, off + k, none⟩ = some (.string l[k]) := by rw [(bcell HB).1 _ _ hbb]; simpa [eS] using hr k hlt 0 (by decide)
      obtain ⟨b, hb⟩ : ∃ b, b = l[k] := ⟨_, rfl⟩
      rw [← hb] at x0
      clear hr hb
      have HP := hide hP
      have HMi := hide hMi
      have HMn := hide hMn
      have HInv := hide hInv
      have hl1 := hInv.len
      have sr := HB.size
      clear hP hMi hMn hInv
      by_cases h60 : 60 < b.size
      · go_wp2
        go_ret
        exact ⟨rfl, HB⟩
      · by_cases h8 : b.size = 8
        · obtain ⟨id, z, y, q, y2, es', f1, f2, f3, f4, f5, f6, ⟨f8, f9⟩, f7, hput⟩ := once_put b (unhide HP) (unhide HG wr hsz) (unhide HInv) (by omega) h8
          have q1 : ((b.size : Int) != 8) = false := by simp; omega
          have q2 : ((b.size : Int) == 8) = true := beq_iff_eq.2 (by omega)
          have hb6 : b.size ≤ 1000000 := by omega
          have F3 := hide f3
          have F4 := hide f4
          have F6 := hide f6
          have F7 := hide f7
          have Hput := hide hput
          have hrz : ∀ w1 : World, Calls Tryd.prog 15 #[.string b] w1 fun e w' => e = .returned (.bool z) ∧ w' = w1 := fun w1 => by
            have := refZero b w1 hb6
            rw [f2] at this
            exact this
          have Hrz := hide hrz
          have q5 : q = true → (y != id) = false := fun h => by rw [f5 h]; simp
          clear f2 f3 f4 f5 f6 f7 hput hrz h8 HInv
          go_wp2_with fail
          refine (unhide Hput).mono ?_
          rintro e w5 ⟨rfl, hP5, hC5⟩
          have HP5 := hide hP5
          have HM5 := hide ((unhide HMi).chg hC5 (unhide HGi))
          have HN5 := hide ((unhide HMn).chg hC5 (unhide HGn))
          have s5 := hC5.size
          have B5 := HB.trans (hC5.to_below (by omega) (unhide HGB))
          have x5 : w5.cell? ⟨bb, off + k, none⟩ = some (.string b) := by rw [(hC5.to_below sr (unhide HGB)).cell (p := ⟨bb, off + k, none⟩) hbb]; exact x0
          clear hP5 hC5 HP HMi HMn x0 HB Hput
          have l5 : bb < w5.heap.size := by omega
          have n5 : some bb ≠ some bi := fun e => by injection e with e; omega
          have n6 : some (bi + 1) ≠ some bi := fun e => by injection e with e; omega
          have n7 : some bi ≠ some (bi + 1) := fun e => by injection e with e; omega
          cases q
          all_goals
            cases z
            all_goals
              go_wp2_with (first | (at_lookup; refine wpList_lookT2 rfl _ _ rfl I bi rfl (unhide HM5) b rfl y _ (unhide F3) (unhide F4) ?_) | (go_at_call 15; refine (unhide Hrz _).mono ?_; rintro e w' ⟨he, hw⟩; subst he; subst hw) | (at_mapUpdate; refine wpList_updT rfl _ _ _ rfl I bi rfl (unhide HM5) b rfl id rfl ?_; intro w6 HM6 HG6; have x6 := (HG6.cell_far ⟨bb, off + k, none⟩ l5 n5).trans x5; have HN6 := hide ((unhide HN5).grown HG6 n6)) | (at_lookup; refine wpList_lookT rfl _ _ rfl C (bi + 1) rfl (unhide HN6) b rfl y2 (unhide F6) ?_) | (at_mapUpdate; refine wpList_updT rfl _ _ _ rfl C (bi + 1) rfl (unhide HN6) b rfl (y2 + 1) rfl ?_; intro w7 HM7 HG7))
              have hP7 := ((unhide HP5).grown HG6 (unhide HGi)).grown HG7 (unhide HGn)
              have hM7 := HM6.grown HG7 n7
              have B6 := B5.grown HG6 B5.size fun j hj => by injection hj with hj; omega
              have B7 := B6.grown HG7 B6.size fun j hj => by injection hj with hj; omega
              have s7 : bi + 2 ≤ w7.heap.size := by have h1 := HG6.size; have h2 := HG7.size; omega
              have HP7 := hide hP7
              have HMf := hide hM7
              have HNf := hide HM7
              clear hP7 hM7 HM6 HM7 HG6 HG7 B5 B6 HP5 HM5 HN5 HN6 x5 x6
              go_roundw
              case rel => exact ⟨k + 1, by omega, by go_num, ⟨es', _, _, unhide HP7, unhide HMf, unhide HNf, unhide F7⟩, B7, s7⟩
              case measure => simp [intOf]; omega
        · have q1 : ((b.size : Int) != 8) = true := by simp; omega
          have q2 : ((b.size : Int) == 8) = false := beq_eq_false_iff_ne.2 (by omega)
          have H8 := hide h8
          clear h8
          go_wp2_with (go_at_call 10; refine (pl_put_bad b (unhide HP) (unhide H8)).mono ?_; rintro e w' ⟨he, hw⟩; subst he; subst hw)
          go_roundw
          case rel => exact ⟨k + 1, by omega, by go_num, ⟨es, I, C, unhide HP, unhide HMi, unhide HMn, (unhide HInv).skip⟩, HB, hsz⟩
          case measure => simp [intOf]; omega
    · obtain rfl : k = l.length := by omega
      obtain ⟨wA, rfl⟩ : ∃ wo : World, wo = wr := ⟨_, rfl⟩
      have HInv := hide hInv
      have hnI : (I.map (·.1)).Nodup := by rw [← tnV_keys]; exact hMi.nodup
      have HnI := hide hnI
      obtain ⟨W1, hW1⟩ : ∃ W1, W1 = wA.alloc (.map #[] 0) := ⟨_, rfl⟩
      have HB1 : Below wA.heap.size wA W1 := by rw [hW1]; exact (Below.refl _ _).alloc (Nat.le_refl _) _
      have sW1 : W1.heap.size = wA.heap.size + 1 := by rw [hW1]; simp
      have HMs1 := hide (show MapIs kInt W1 wA.heap.size [] by rw [hW1]; exact MapIs.made kInt wA)
      have HMi1 := hide (hMi.below HB1)
      have HMn1 := hide (hMn.below HB1)
      have HPA := hide hP
      have HHB1 := hide HB1
      have HBA := hide HB
      have HsW1 := hide sW1
      have HW1 := hide hW1
      clear hP hMi hMn hInv hnI HB1 HB hW1 sW1
      go_wp2_with (at_range; rw [← unhide HW1]; refine wpList_range_is rfl _ 34 rfl kStr (tnV I) 9 3 Tryd.underlying34 bi rfl (unhide HMi1) ?_; intro w0 hrg0 HB0 hs0)
      go_frame
      obtain ⟨r1, hr1⟩ : ∃ r1, r1 = W1.heap.size := ⟨_, rfl⟩
      obtain ⟨bs, hbs⟩ : ∃ bs, bs = wA.heap.size := ⟨_, rfl⟩
      have hb0 : Below wA.heap.size wA w0 := (unhide HHB1).trans (HB0.mono (unhide HHB1).size)
      have hP0 := (unhide HPA).split hb0 (bs + 2)
      have hM0 := (unhide HMs1).below HB0
      have hN0 := (unhide HMn1).below HB0
      have B0 := (unhide HBA).trans (hb0.mono (unhide HBA).size)
      have sz0 : w0.heap.size = bs + 2 := by have := unhide HsW1; omega
      have hrb : r1 = bs + 1 := by have := unhide HsW1; omega
      have sbs : bi + 2 ≤ bs := by omega
      rw [← hbs] at hP0 hM0
      rw [← hr1] at hrg0 ⊢
      rw [← hbs]
      obtain ⟨G1, hG1d⟩ : ∃ G1, G1 = Split G bs (bs + 2) := ⟨_, rfl⟩
      rw [← hG1d] at hP0
      have hGs : ¬ G1 bs := by rw [hG1d]; rintro (h | h); exact absurd h.2 (Nat.lt_irrefl _); omega
      have hGr : ¬ G1 r1 := by rw [hG1d, hrb]; rintro (h | h); exact absurd h.2 (by omega); omega
      have HP0 := hide hP0
      have HR0 := hide hrg0
      have HM0 := hide hM0
      have HN0 := hide hN0
      have HGs := hide hGs
      have HGr := hide hGr
      have HG1d := hide hG1d
      have Hrb := hide hrb
      clear hP0 hrg0 hM0 hN0 hGs hGr HPA HMs1 HMn1 HMi1 HHB1 HBA HsW1 HW1 HB0 hb0 hs0 hr1 hbs hG1d hrb
      go_loopw [13] (fun _ wr => ∃ done S, RangeIs kStr wr bi r1 (tnV I) done ∧ SeenIs S I done ∧ MapIs kInt wr bs S ∧ Pl wr G1 (.pointer (some ⟨p, 0, none⟩)) 60 es ∧ MapIs kStr wr (bi + 1) (tnV C) ∧ Below w.heap.size w wr ∧ bs + 2 ≤ wr.heap.size) (fun _ wr => wr.rangeLeft bi r1)
      case atStart => exact ⟨[], [], unhide HR0, SeenIs.nil I, unhide HM0, unhide HP0, unhide HN0, B0, by omega⟩
      case round =>
        obtain ⟨done, S, hrg, hsn, hMs, hP, hMn, HB, hsz1⟩ := hrel
        clear HP0 HR0 HM0 HN0 B0
        have HRg := hide hrg
        have HSn := hide hsn
        have HMs := hide hMs
        have HP := hide hP
        have HMn := hide hMn
        clear hrg hsn hMs hP hMn
        go_wp2_with (at_next; refine wpList_next_is rfl _ rfl kStr (tnV I) done bi r1 rfl (unhide HRg) ?_ ?_)
        · intro _
          obtain ⟨wB, rfl⟩ : ∃ wo : World, wo = wr := ⟨_, rfl⟩
          have HMi2 := hide (unhide HRg).map
          have HBB := hide HB
          clear HB HSn HMs HRg
          go_wp2_with (at_range; refine wpList_range_is rfl _ 34 rfl kStr (tnV I) 9 3 Tryd.underlying34 bi rfl (unhide HMi2) ?_; intro w0 hrg0 HB0 hs0)
          go_frame
          obtain ⟨r2, hr2⟩ : ∃ r2, r2 = wB.heap.size := ⟨_, rfl⟩
          have hP0 := (unhide HP).split HB0 (r2 + 1)
          have hN0 := (unhide HMn).below HB0
          have B0 := (unhide HBB).trans (HB0.mono (unhide HBB).size)
          have sr2 : bs + 2 ≤ r2 := by omega
          have sz0 : w0.heap.size = r2 + 1 := by omega
          rw [← hr2] at hP0 hrg0 ⊢
          obtain ⟨G2, hG2d⟩ : ∃ G2, G2 = Split G1 r2 (r2 + 1) := ⟨_, rfl⟩
          rw [← hG2d] at hP0
          have hG2r : ¬ G2 r2 := by rw [hG2d]; rintro (h | h); exact absurd h.2 (Nat.lt_irrefl _); omega
          have hG2i : ¬ G2 bi := by
            rw [hG2d]; rintro (⟨h, _⟩ | h)
            · rw [unhide HG1d] at h
              rcases h with h | h
              · exact unhide HGi h.1
              · omega
            · omega
          have hG2n : ¬ G2 (bi + 1) := by
            rw [hG2d]; rintro (⟨h, _⟩ | h)
            · rw [unhide HG1d] at h
              rcases h with h | h
              · exact unhide HGn h.1
              · omega
            · omega
          have hG2B : ∀ k, G2 k → w.heap.size ≤ k := fun k hk => by
            rw [hG2d] at hk
            rcases hk with ⟨h, _⟩ | h
            · rw [unhide HG1d] at h
              rcases h with h | h
              · exact unhide HGB k h.1
              · omega
            · omega
          have hG2 : ∀ W : World, r2 + 1 ≤ W.heap.size → ∀ k, W.heap.size ≤ k → G2 k := fun W h k hk => by rw [hG2d]; exact .inr (by omega)
          have HG2r := hide hG2r
          have HG2i := hide hG2i
          have HG2n := hide hG2n
          have HG2B := hide hG2B
          have HG2 := hide hG2
          have HP0 := hide hP0
          have HR0 := hide hrg0
          have HN0 := hide hN0
          clear hG2r hG2i hG2n hG2B hG2 hG2d hP0 hrg0 hN0 HB0 hs0 hr2 HP HMn HMi2 HBB
          go_loopw [17] (fun _ wr => ∃ done es', RangeIs kStr wr bi r2 (tnV I) done ∧ GoneE es done es' ∧ Pl wr G2 (.pointer (some ⟨p, 0, none⟩)) 60 es' ∧ MapIs kStr wr (bi + 1) (tnV C) ∧ Below w.heap.size w wr ∧ r2 + 1 ≤ wr.heap.size) (fun _ wr => wr.rangeLeft bi r2)
          case atStart => exact ⟨[], es, unhide HR0, GoneE.nil es, unhide HP0, unhide HN0, B0, by omega⟩
          case round =>
            obtain ⟨done, es', hrg, hge, hP, hMn, HB, hsz2⟩ := hrel
            clear HP0 HR0 HN0 B0
            have HRg := hide hrg
            have HGe := hide hge
            have HP := hide hP
            have HMn := hide hMn
            clear hrg hge hP hMn
            go_wp2_with (at_next; refine wpList_next_is rfl _ rfl kStr (tnV I) done bi r2 rfl (unhide HRg) ?_ ?_)
            · intro hall
              have hnil : es' = [] := (unhide HGe).all fun id b r h => by
                have hm := lkT_mem ((unhide HInv).ie id b r h)
                exact hall _ _ hm
              have HP' := hide (show Pl wr G2 (.pointer (some ⟨p, 0, none⟩)) 60 [] by rw [← hnil]; exact unhide HP)
              clear hall hnil HP
              go_wp2_with (first | (go_at_call 14; refine (pl_len (unhide HP') 0 rfl).mono ?_; rintro e w' ⟨he, hw⟩; subst he; subst hw) | (go_at_call 12; refine (pl_room (unhide HP') (by omega) (by omega) (by decide) 60 (by decide)).mono ?_; rintro e w5 ⟨he, q5, hw⟩; subst he; subst hw))
              go_ret
              exact ⟨rfl, below_drewN HB _⟩
            · intro b v w1 hmem hnd hrg1 hg1 hs1 hen
              obtain ⟨id, rfl, hI⟩ := mem_tnV (unhide HnI) hmem
              have hen' : (Instr.entry (.pointer (some ⟨r2, 0, none⟩))).run Tryd.prog w1 = .ok (.tuple #[.string b, .int .i64 id]) w1 := hen
              have hPl := (unhide HP).grown hg1 (unhide HG2r)
              have hN1 := (unhide HMn).grown hg1 (by intro e; injection e with e; omega)
              have B1 := HB.grown hg1 HB.size fun j hj => by injection hj with hj; omega
              have HRg1 := hide hrg1
              have HP1 := hide hPl
              have HN1 := hide hN1
              have HI := hide hI
              have Hnd := hide hnd
              have hleft := hrg1.left
              have hleft0 := (unhide HRg).left
              have hlt2 : w1.rangeLeft bi r2 < wr.rangeLeft bi r2 := by rw [List.length_cons] at hleft; omega
              have Hlt2 := hide hlt2
              obtain ⟨cc, hcc⟩ : ∃ cc, lkT C b = some cc := by
                cases h : lkT C b with
                | some x => exact ⟨x, rfl⟩
                | none => have := ((unhide HInv).ic b).1 h; rw [hI] at this; cases this
              have hcb := (unhide HInv).cc b cc hcc
              have HCc := hide hcc
              have s1C : r2 + 1 ≤ w1.heap.size := by omega
              obtain ⟨wC, rfl⟩ : ∃ wo : World, wo = wr := ⟨_, rfl⟩
              clear hmem hnd hrg1 hg1 hs1 hen hPl hN1 HB HP HMn hI hleft hleft0 hlt2 hcc
              by_cases h0 : id = 0
              · have hno : ∀ id' r, lkE es id' ≠ some (b, r) := fun id' r h => by
                  have h1 := (unhide HInv).ie _ _ _ h
                  rw [unhide HI, h0] at h1
                  injection h1 with h1
                  subst h1
                  rcases (unhide HInv).ii b id (unhide HI) with ⟨hz, _⟩ | ⟨_, c2, _, h2⟩
                  · have hd : b ∉ done := unhide Hnd
                    have := (unhide HP1).good ((unhide HGe).1 _ _ _ h hd)
                    omega
                  · have hd : b ∉ done := unhide Hnd
                    have := (unhide HP1).good ((unhide HGe).1 _ _ _ h2 hd)
                    omega
                have Hz := hide ((unhide HGe).zero hno)
                have q1 : ¬ (0 : Int) < id := by omega
                have q2 : decide ((0 : Int) < id) = false := decide_eq_false q1
                clear hno h0
                go_wp2_with fail
                go_loopw [18] (fun j wr => j = .int .i64 0 ∧ wr = w1) (fun _ _ => 0)
                case atStart => exact ⟨rfl, rfl⟩
                case round =>
                  obtain ⟨rfl, rfl⟩ := hrel
                  go_wp2
                  exact ⟨⟨b :: done, es', unhide HRg1, unhide Hz, unhide HP1, unhide HN1, B1, by omega⟩, unhide Hlt2⟩
              · obtain ⟨c', hC, hE⟩ : ∃ c', lkT C b = some c' ∧ lkE es id = some (b, c') := by
                  rcases (unhide HInv).ii b id (unhide HI) with ⟨_, h⟩ | ⟨_, c', h1, h2⟩
                  · exact absurd h h0
                  · exact ⟨c', h1, h2⟩
                have hcc : cc = c' := by have := unhide HCc; rw [hC] at this; injection this with this; exact this.symm
                subst hcc
                have hE' := (unhide HGe).1 _ _ _ hE (unhide Hnd)
                have hgd := (unhide HP1).good hE'
                have hid1 : 0 < id := by omega
                have hcpos : 1 ≤ cc := hgd.2.1
                have hccb : cc ≤ 100000 := by omega
                have hb6 : b.size ≤ 1000000 := by omega
                have hu : ∀ id' r, lkE es id' = some (b, r) → id' = id := fun id' r h => by
                  have h1 := (unhide HInv).ie _ _ _ h
                  rw [unhide HI] at h1
                  injection h1 with h1
                  exact h1.symm
                have hlen' : es'.length ≤ 1000 := by have := (unhide HGe).2.2; have := (unhide HInv).len; omega
                have q1 : (0 : Int) < id := hid1
                have q2 : decide ((0 : Int) < id) = true := decide_eq_true q1
                have HMs := hide (MidE.start hE' (by omega))
                have HE := hide hE
                have Hu := hide hu
                have Hs1C := hide s1C
                clear hC hE hE' hgd hu h0 hcb
                go_wp2_with fail
                go_loopw [18] (fun j wr => ∃ (k : Nat) (e2 : List (Int × Blk)), (k : Int) ≤ cc ∧ j = .int .i64 k ∧ MidE es' id b cc k e2 ∧ RangeIs kStr wr bi r2 (tnV I) (b :: done) ∧ Pl wr G2 (.pointer (some ⟨p, 0, none⟩)) 60 e2 ∧ MapIs kStr wr (bi + 1) (tnV C) ∧ Below w.heap.size w wr ∧ r2 + 1 ≤ wr.heap.size) (fun j _ => (cc - intOf j).toNat)
                case atStart => exact ⟨0, es', by omega, rfl, unhide HMs, unhide HRg1, unhide HP1, unhide HN1, B1, unhide Hs1C⟩
                case round =>
                  obtain ⟨k, e2, hk2, rfl, hmid, hrg2, hP2, hN2, HB2, hsz3⟩ := hrel
                  have hlk := lookC hN2 (unhide HCc)
                  have Hmid := hide hmid
                  have HRg2 := hide hrg2
                  have HP2 := hide hP2
                  have HN2 := hide hN2
                  have he2 := hmid.2
                  clear hmid hrg2 hP2 hN2 HRg1 HP1 HN1 B1 HMs
                  by_cases hlt3 : (k : Int) < cc
                  · obtain ⟨e3, hmid3, hdrop⟩ : ∃ e3, MidE es' id b cc (k + 1) e3 ∧ Calls Tryd.prog 13 #[.pointer (some ⟨p, 0, none⟩), .int .i64 id] wr fun e w' => e = .returned (.int .i64 0) ∧ Pl w' G2 (.pointer (some ⟨p, 0, none⟩)) 60 e3 ∧ Chg G2 wr w' := by
                      by_cases hl : (k : Int) + 1 < cc
                      · obtain ⟨h1, h2⟩ := (unhide Hmid).down hl
                        exact ⟨_, h2, pl_drop_down id b _ (unhide HP2) (unhide HG2 wr hsz3) h1 (by omega) (by omega)⟩
                      · obtain ⟨h1, h2⟩ := (unhide Hmid).last (unhide HP2).nodup (by omega)
                        exact ⟨_, h2, pl_drop_last id b (unhide HP2) (unhide HG2 wr hsz3) h1⟩
                    have Hmid3 := hide hmid3
                    have Hdrop := hide hdrop
                    clear hmid3 hdrop
                    go_wp2_with fail
                    refine (unhide Hdrop).mono ?_
                    rintro e w3 ⟨rfl, hP3, hC3⟩
                    have HP3 := hide hP3
                    have HR3 := hide ((unhide HRg2).chg hC3 (unhide HG2i) (unhide HG2r))
                    have HN3 := hide ((unhide HN2).chg hC3 (unhide HG2n))
                    have s3 := hC3.size
                    have B3 := HB2.trans (hC3.to_below HB2.size (unhide HG2B))
                    clear hP3 hC3 HB2 HRg2 HP2 HN2 hlk Hdrop Hmid
                    go_wp2
                    go_roundw
                    case rel => exact ⟨k + 1, e3, by omega, by go_num, unhide Hmid3, unhide HR3, unhide HP3, unhide HN3, B3, by omega⟩
                    case measure => simp [intOf]; omega
                  · have hgone := (unhide Hmid).done hlt3 (unhide HGe) (unhide HE) (unhide Hu)
                    have hno : lkE e2 id = none := by rw [(unhide Hmid).1, if_pos rfl, if_neg hlt3]
                    have hat : IsAt e2 b 0 := isAt_none fun id' r h => (hgone.2.1 id' b r h).2 List.mem_cons_self
                    have Hno := hide hno
                    have Hat := hide hat
                    have Hgone := hide hgone
                    have Hle := hide (show e2.length ≤ 1000 by omega)
                    clear hno hat hgone
                    go_wp2_with fail
                    refine (pl_drop_none id (unhide HP2) (by omega) (unhide Hno)).mono ?_
                    rintro e w3 ⟨he, hw⟩
                    subst he hw
                    go_wp2_with fail
                    refine (pl_find b 0 (unhide HP2) (unhide Hle) hb6 (unhide Hat)).mono ?_
                    rintro e w4 ⟨rfl, hP4, hB4⟩
                    have HP4 := hide hP4
                    have HR4 := hide ((unhide HRg2).below hB4)
                    have HN4 := hide ((unhide HN2).below hB4)
                    have B4 := HB2.trans (hB4.mono HB2.size)
                    have s4 := hB4.size
                    have hl4 : w4.rangeLeft bi r2 < wC.rangeLeft bi r2 := by
                      have h1 := ((unhide HRg2).below hB4).left
                      have h2 := unhide Hlt2
                      have h3 := (unhide HRg).left
                      rw [List.length_cons] at h1
                      omega
                    have Hl4 := hide hl4
                    clear hP4 hB4 HB2 HRg2 HP2 HN2 hlk hl4
                    go_wp2
                    exact ⟨⟨b :: done, e2, unhide HR4, unhide Hgone, unhide HP4, unhide HN4, B4, by omega⟩, unhide Hl4⟩
        · intro b v w1 hmem hnd hrg1 hg1 hs1 hen
          obtain ⟨id, rfl, hI⟩ := mem_tnV (unhide HnI) hmem
          have hen' : (Instr.entry (.pointer (some ⟨r1, 0, none⟩))).run Tryd.prog w1 = .ok (.tuple #[.string b, .int .i64 id]) w1 := hen
          have hPl := (unhide HP).grown hg1 (unhide HGr)
          have hrb := unhide Hrb
          have hM1 := (unhide HMs).grown hg1 (by intro e; injection e with e; omega)
          have hN1 := (unhide HMn).grown hg1 (by intro e; injection e with e; omega)
          have B1 := HB.grown hg1 HB.size fun j hj => by injection hj with hj; omega
          have HRg1 := hide hrg1
          have HP1 := hide hPl
          have HM1 := hide hM1
          have HN1 := hide hN1
          have HI := hide hI
          have Hnd := hide hnd
          have hleft := hrg1.left
          have hleft0 := (unhide HRg).left
          have hlt : w1.rangeLeft bi r1 < wr.rangeLeft bi r1 := by rw [List.length_cons] at hleft; omega
          have Hlt := hide hlt
          clear hmem hnd hrg1 hg1 hen hPl hM1 hN1 hrb HB HP HMs HMn hI hleft hleft0 hlt
          by_cases h0 : id = 0
          · have H0 := hide h0
            have q1 : (id == 0) = true := beq_iff_eq.2 h0
            clear h0
            go_wp2_with fail
            exact ⟨⟨b :: done, S, unhide HRg1, (unhide HSn).zero (unhide H0 ▸ unhide HI), unhide HM1, unhide HP1, unhide HN1, B1, by omega⟩, unhide Hlt⟩
          · have hic := (unhide HInv).ii b id (unhide HI)
            obtain ⟨c', hC, hE⟩ : ∃ c', lkT C b = some c' ∧ lkE es id = some (b, c') := by
              rcases hic with ⟨_, h⟩ | ⟨_, c', h1, h2⟩
              · exact absurd h h0
              · exact ⟨c', h1, h2⟩
            have hlkS : lk S id = none := (unhide HSn).2 id fun ⟨b', hb', h1, _⟩ => by
              rcases (unhide HInv).ii b' id h1 with ⟨_, h⟩ | ⟨_, c2, _, h2⟩
              · exact h0 h
              · rw [hE] at h2
                cases h2
                exact unhide Hnd hb'
            have hlkN := LkN.of (unhide HM1) (unhide HN1) hlkS hC
            have hl1 := hlkN.1
            have hl2 := hlkN.2
            have q1 : (id == 0) = false := beq_eq_false_iff_ne.2 h0
            have Hlk := hide hlkS
            have HE := hide hE
            have HC := hide hC
            have H0 := hide h0
            have HlN := hide hlkN
            have Hll := hide (show es.length ≤ 1000 by have := (unhide HInv).len; omega)
            have hb8 := ((unhide HP1).good hE).2.2.1
            have hb6 : b.size ≤ 1000000 := by omega
            have HAt := hide (show IsAt es b id from .inl ⟨c', hE, fun id' r' h => (unhide HP1).uniq hE h⟩)
            have Htr := hide (show (lkE es id).getD (⟨#[]⟩, 0) = (b, c') by rw [hE]; rfl)
            clear hic hlkS hE hC h0 hlkN hl1 hl2 hb8
            go_wp2_with (go_at_call 16; refine (pl_get id b c' (unhide HP1) (unhide HE)).mono ?_; rintro e w' ⟨he, hw⟩; subst he; subst hw)
            have hst : LkN w'.drew bs (bi + 1) id b c' := LkN.ofb (unhide HM1) (unhide HN1) (unhide Hlk) (unhide HC) fun _ _ => rfl
            have hst6 := hide hst.six
            have qb : (b.toList == b.toList) = true := beq_self_eq_true _
            clear hst
            go_region_held3 (fun W => ((Instr.lookup 37 (.map (some bs)) (.int .i64 id) false).run Tryd.prog W = .ok (.bool false) W) ∧ ((Instr.lookup 37 (.map (some bs)) (.int .i64 id) false).run Tryd.prog W.drew = .ok (.bool false) W.drew) ∧ ((Instr.lookup 34 (.map (some (bi + 1))) (.string b) false).run Tryd.prog W = .ok (.int .i64 c') W) ∧ ((Instr.lookup 34 (.map (some (bi + 1))) (.string b) false).run Tryd.prog W.drew = .ok (.int .i64 c') W.drew) ∧ (∀ n, (Instr.lookup 37 (.map (some bs)) (.int .i64 id) false).run Tryd.prog (W.drewN n) = .ok (.bool false) (W.drewN n)) ∧ (∀ n, (Instr.lookup 34 (.map (some (bi + 1))) (.string b) false).run Tryd.prog (W.drewN n) = .ok (.int .i64 c') (W.drewN n)))
              (first | exact unhide hst6 | exact LkN.six (LkN.ofb (unhide HM1) (unhide HN1) (unhide Hlk) (unhide HC) fun k hk => HB5.block k hk) | go_keep)
              ((first | (go_at_call 17; refine (pl_refs id ((unhide HP1).drewN _) b c' (unhide Htr)).mono ?_; rintro e w5 ⟨rfl, rfl⟩) | (go_at_call 18; refine (pl_find b id ((unhide HP1).drewN _) (unhide Hll) hb6 (unhide HAt)).mono ?_; rintro e w5 ⟨rfl, HP5, HB5⟩)))
            all_goals
              have hB5 : Below w'.heap.size w' w5 := ⟨HB5.os, HB5.tape, HB5.output, HB5.size, HB5.block⟩
              have hR5 := (unhide HRg1).below hB5
              have hM5 := (unhide HM1).below hB5
              have hN5 := (unhide HN1).below hB5
              have B5 := B1.trans (hB5.mono B1.size)
              have s5 := hB5.size
              have hl5 : w5.rangeLeft bi r1 = w'.rangeLeft bi r1 := by
                have h1 := hR5.left
                have h2 := (unhide HRg1).left
                omega
              have HR5 := hide hR5
              have HM5 := hide hM5
              have HN5 := hide hN5
              have HP5' := hide HP5
              have Hl5 := hide hl5
              clear HB5 hB5 hR5 hM5 hN5 HP5 hl5 B1 HRg1 HM1 HN1 HP1 HlN hst6
              go_wp2_with (at_mapUpdate; refine wpList_update_is rfl _ _ _ _ rfl kInt S 3 4 Tryd.underlying37 Tryd.underlying3 bs rfl (unhide HM5) id rfl (.bool true) rfl ?_; intro w6 HM6 HG6; go_frame)
              have hrb := unhide Hrb
              have hR6 := (unhide HR5).kept (HG6.block bi (unhide HR5).map.lt (by intro e; injection e with e; omega)) (HG6.block r1 (unhide HR5).lt (by intro e; injection e with e; omega))
              have hN6 := (unhide HN5).grown HG6 (by intro e; injection e with e; omega)
              have hP6 := (unhide HP5').grown HG6 (unhide HGs)
              have B6 := B5.grown HG6 B5.size fun j hj => by injection hj with hj; omega
              have hS6 := (unhide HSn).add (unhide HI) (unhide H0)
              have hl6 : w6.rangeLeft bi r1 < wr.rangeLeft bi r1 := by
                have h1 := hR6.left
                have h2 := (unhide HR5).left
                have h3 := unhide Hl5
                have h4 := unhide Hlt
                omega
              have s6 := HG6.size
              have HR6 := hide hR6
              have HN6 := hide hN6
              have HP6 := hide hP6
              have HS6 := hide hS6
              have HM6' := hide HM6
              have Hl6 := hide hl6
              clear hrb hR6 hN6 hP6 hS6 hl6 HM6 HG6 HR5 HN5 HM5 HP5' B5
              go_roundw
              case rel => exact ⟨b :: done, _, unhide HR6, unhide HS6, unhide HM6', unhide HP6, unhide HN6, B6, by omega⟩
              case measure => exact unhide Hl6
end Go.Proofs.YtdpbjigdihajjaaDoor
