/- Joined texts: LawStepsW. -/
import Derived.Test.YtjjfdkdneibjbaaGreatDoorJs33
import Derived.Test.YtjjfdkdneibjbaaGreatDoorJs28
import Derived.Test.YtjjfdkdneibjbaaGreatDoorJs30
import Derived.Test.YtjjfdkdneibjbaaGreatDoorJs04
import Derived.Test.YtjjfdkdneibjbaaGreatDoorJs34
/- Walk of the law JobSteps. -/
namespace Go.Proofs.YtjjfdkdneibjbaaGreatDoor
open Go.RowKit

theorem run_all {w : World} {sp : Value} {most : Int} {J : Nat} {kd day : Int} {T : List Nat} {old : List Ext} {q n : Nat} {was : ByteArray} {s0 : JS} {m r : Nat} {O I : Nat → Prop} (h : Run sp most J kd day T old q n was s0 m r O I w) (hm : m + r ≤ 60) :
    Calls Tryz.prog 29 #[sp] w fun e w' => (∃ A c, e = .returned (.slice A (allL (runT was (T.take r) s0).2).length c) ∧ Own eSh 136 w' w.heap.size (.slice A (allL (runT was (T.take r) s0).2).length c) (allL (runT was (T.take r) s0).2)) ∧ Below w.heap.size w w' := by
  obtain ⟨G, F, H, h1, h2, h3, h4, h5⟩ := h
  exact plt_all h1.pool (by have := h2.few; omega) h2.ok.le
theorem run_left {w : World} {sp : Value} {most : Int} {J : Nat} {kd day : Int} {T : List Nat} {old : List Ext} {q n : Nat} {was : ByteArray} {s0 : JS} {m r : Nat} {O I : Nat → Prop} (h : Run sp most J kd day T old q n was s0 m r O I w) :
    Calls Tryz.prog 26 #[.pointer (some ⟨J, 0, none⟩)] w fun e w' => e = .returned (.int .i64 ((T.length - r : Nat) : Int)) ∧ w' = w := by
  obtain ⟨G, F, H, h1, h2, h3, h4, h5⟩ := h
  have := left_jb h1.job
  rw [List.length_drop] at this
  exact this
set_option maxHeartbeats 2000000 in
set_option maxRecDepth 100000 in
theorem steps_out (kd bl : Int) (first : ByteArray) (A1 : Option Addr) (n1 c1 : Nat) (A2 : Option Addr) (n2 c2 : Nat) (w : World) (hc1 : n1 ≤ 9223372036854775807) (hc2 : n2 ≤ 9223372036854775807) (h : (kd ≠ 1 ∧ kd ≠ 2) ∨ bl < 1 ∨ 50 < bl ∨ 500 < first.size ∨ 20 < n1 ∨ 40 < n2) :
    Calls Tryz.prog 5 #[.int .i64 kd, .int .i64 bl, .string first, .slice A1 n1 c1, .slice A2 n2 c2] w fun e w' => e = .returned (.bool true) ∧ Below w.heap.size w w' := by
  by_cases hk : kd = 1 ∨ kd = 2
  · have h : bl < 1 ∨ 50 < bl ∨ 500 < first.size ∨ 20 < n1 ∨ 40 < n2 := h.resolve_left fun h => by omega
    by_cases h1 : bl < 1
    · clear h
      rcases hk with rfl | rfl
      all_goals
        go_enter Tryz.func5, Tryz.ntmps5
        go_wp2_with (go_at_call 7; refine (alive20 _).mono ?_; rintro e w1 ⟨he, B1⟩; subst he)
        go_ret
        exact ⟨rfl, B1⟩
    · by_cases h2 : 50 < bl
      · clear h
        rcases hk with rfl | rfl
        all_goals
          go_enter Tryz.func5, Tryz.ntmps5
          go_wp2_with (go_at_call 7; refine (alive20 _).mono ?_; rintro e w1 ⟨he, B1⟩; subst he)
          go_ret
          exact ⟨rfl, B1⟩
      · by_cases h3 : 500 < first.size
        · have h3' : (500 : Int) < first.size := by omega
          clear h
          rcases hk with rfl | rfl
          all_goals
            go_enter Tryz.func5, Tryz.ntmps5
            go_wp2_with (go_at_call 7; refine (alive20 _).mono ?_; rintro e w1 ⟨he, B1⟩; subst he)
            go_ret
            exact ⟨rfl, B1⟩
        · have h3' : ¬ (500 : Int) < first.size := by omega
          by_cases h4 : 20 < n1
          · have h4' : (20 : Int) < n1 := by omega
            clear h
            rcases hk with rfl | rfl
            all_goals
              go_enter Tryz.func5, Tryz.ntmps5
              go_wp2_with (go_at_call 7; refine (alive20 _).mono ?_; rintro e w1 ⟨he, B1⟩; subst he)
              go_ret
              exact ⟨rfl, B1⟩
          · have h4' : ¬ (20 : Int) < n1 := by omega
            have h5' : (40 : Int) < n2 := by omega
            clear h
            rcases hk with rfl | rfl
            all_goals
              go_enter Tryz.func5, Tryz.ntmps5
              go_wp2_with (go_at_call 7; refine (alive20 _).mono ?_; rintro e w1 ⟨he, B1⟩; subst he)
              go_ret
              exact ⟨rfl, B1⟩
  · have q1 : (kd != 1) = true := by simp; omega
    have q2 : (kd != 2) = true := by simp; omega
    have q3 : (kd == 1) = false := by simp; omega
    have q4 : (kd == 2) = false := by simp; omega
    clear h
    go_enter Tryz.func5, Tryz.ntmps5
    go_wp2_with (go_at_call 7; refine (alive20 _).mono ?_; rintro e w1 ⟨he, B1⟩; subst he)
    go_ret
    exact ⟨rfl, B1⟩
/-- Which blocks are to be looked at, of those that spans tell. -/
def spansP (L : List Sp) : Nat → Bool := hasR (putR [] L)
set_option maxHeartbeats 8000000 in
set_option maxRecDepth 100000 in
theorem steps_in (kd : Int) (NB : Nat) (first : ByteArray) (A1 : Option Addr) (n1 c1 : Nat) (L1 : List Sp) (A2 : Option Addr) (n2 c2 : Nat) (L2 : List Int) (w : World) (hs1 : Sl eSp w A1 n1 c1 L1) (hs2 : Sl eI w A2 n2 c2 L2)
    (hkd : kd = 1 ∨ kd = 2) (hb1 : 1 ≤ NB) (hb2 : NB ≤ 50) (hf : first.size ≤ 500) (hn1 : n1 ≤ 20) (hn2 : n2 ≤ 40) :
    Calls Tryz.prog 5 #[.int .i64 kd, .int .i64 (NB : Int), .string first, .slice A1 n1 c1, .slice A2 n2 c2] w fun e w' => e = .returned (.bool true) ∧ Below w.heap.size w w' := by
  have hc1 := hs1.2.1
  have hc2 := hs1.2.2.1
  have hc3 := hs2.2.1
  have hc4 := hs2.2.2.1
  have R2 := hide hs2.2.2.2
  have Hn2 := hide hs2.1
  have S1 := hide hs1
  have hRok : WhL (putR [] L1) ∧ (putR [] L1).length ≤ 20 := by
    have := putR_ok (R := []) (fun x h => by simp at h) L1 L1.length (Nat.le_refl _)
    rw [List.take_length] at this
    have h1 := hs1.1
    exact ⟨this.1, by have := this.2; simp at this; omega⟩
  have HRok := hide hRok
  have q0 : (kd != 1 && kd != 2) = false := by rcases hkd with rfl | rfl <;> rfl
  have qk1 : (kd != 1) = !(kd == 1) := rfl
  have qa : ¬ (NB : Int) < 1 := by omega
  have qb : ¬ (50 : Int) < NB := by omega
  have qc : ¬ (500 : Int) < first.size := by omega
  have qd : ¬ (20 : Int) < n1 := by omega
  have qe : ¬ (40 : Int) < n2 := by omega
  obtain ⟨sz, hsz⟩ : ∃ sz, sz = min first.size (NB * 8) := ⟨_, rfl⟩
  have Hsz := hide hsz
  have qm : min (first.size : Int) ((NB : Int) * 8) = (sz : Int) := by omega
  have Hkd := hide hkd
  have hpre : Calls Tryz.prog 7 #[] w fun e w' => e = .returned (.bool true) ∧ Below w.heap.size w w' := alive20 w
  clear hs1 hs2 hsz hRok
  obtain ⟨T, hT⟩ : ∃ T, T = todoL kd (spansP L1) NB := ⟨_, rfl⟩
  have HT := hide hT
  have hTl : T.length ≤ NB := by rw [hT]; exact todoL_len _ _ _
  clear hT
  rcases hkd with rfl | rfl
  · go_enter Tryz.func5, Tryz.ntmps5
    go_wp2_with fail
    refine (alive20 _).mono ?_
    rintro e w0 ⟨rfl, B0⟩
    go_wp2_with fail
    refine (film_new NB ⟨hb1, by omega⟩ w0).mono ?_
    rintro e w1 ⟨⟨p, g, cc, rfl, hp, hg, hF⟩, B1⟩
    rw [← zerosB_list] at hF
    have s0 := B0.size
    have s1 := B1.size
    have B1' : Below w.heap.size w w1 := B0.trans (B1.mono (by omega))
    have lp := hF.lp
    have lg := hF.lg
    have hSz : (first.extract 0 sz).size ≤ 8 * NB := by have := unhide Hsz; rw [ByteArray.size_extract]; omega
    obtain ⟨cur, hcur⟩ : ∃ cur, cur = layB (zerosB NB) 0 (first.extract 0 sz) := ⟨_, rfl⟩
    have hcs : cur.size = 8 * NB := by rw [hcur, layB_size (by rw [zerosB_size]; omega), zerosB_size]
    have Hw := hide (flm_write 0 (first.extract 0 sz) (zerosB NB) hF (by rw [zerosB_size]; omega))
    rw [← hcur] at Hw
    have Hcs := hide hcs
    clear B0 B1 hF hcur hSz hcs
    go_wp2_with fail
    refine (unhide Hw).mono ?_
    rintro e w2 ⟨rfl, hF, C2⟩
    have s2 := C2.size
    have B2' : Below w.heap.size w w2 := B1'.trans (C2.to_below (by omega) (fun k e => by omega))
    have HF := hide hF
    have Hn := hide (stl_new NB hF (unhide Hcs) (by omega))
    clear Hw C2 B1' hF
    go_wp2_with fail
    refine (unhide Hn).mono ?_
    rintro e w3 ⟨⟨q1, m1, rfl, hq1, hm1, hS1⟩, B3⟩
    have s3 := B3.size
    have B3' : Below w.heap.size w w3 := B2'.trans (B3.mono (by omega))
    have Hn := hide (stl_new NB ((unhide HF).below B3) (unhide Hcs) (by omega))
    have HS1 := hide hS1
    clear HF B2' B3 hS1
    go_wp2_with fail
    refine (unhide Hn).mono ?_
    rintro e w4 ⟨⟨q2, m2, rfl, hq2, hm2, hS2⟩, B4⟩
    have s4 := B4.size
    have B4' : Below w.heap.size w w4 := B3'.trans (B4.mono (by omega))
    have HS14 := hide ((unhide HS1).below B4)
    have HS2 := hide hS2
    clear Hn B3' B4 hS2
    go_wp2_with fail
    refine (pl_new (G := fun k => w4.heap.size ≤ k) 60 w4 (fun k hk => hk)).mono ?_
    rintro e w5 ⟨sp1, rfl, hP1, B5⟩
    rw [show min (max (60 : Int) 0) 60 = 60 from by decide] at hP1
    have s5 := B5.size
    have B5' : Below w.heap.size w w5 := B4'.trans (B5.mono (by omega))
    have HP1 := hide hP1.tight
    have HS15 := hide ((unhide HS14).below B5)
    have HS25 := hide ((unhide HS2).below B5)
    clear B4' B5 hP1 HS14
    go_wp2_with fail
    refine (pl_new (G := fun k => w5.heap.size ≤ k) 60 w5 (fun k hk => hk)).mono ?_
    rintro e w6 ⟨sp2, rfl, hP2, B6⟩
    rw [show min (max (60 : Int) 0) 60 = 60 from by decide] at hP2
    have s6 := B6.size
    have B6' : Below w.heap.size w w6 := B5'.trans (B6.mono (by omega))
    have HP16 := hide ((unhide HP1).below B6)
    have HP2 := hide hP2.tight
    have HS16 := hide ((unhide HS15).below B6)
    have HS26 := hide ((unhide HS25).below B6)
    have Hof := hide (of_rn w6 A1 n1 c1 L1 ((unhide S1).below (B6'.mono (Nat.le_refl _))) (by omega))
    clear B5' B6 hP2 HS15 HS25
    go_wp2_with fail
    refine (unhide Hof).mono ?_
    rintro e w7 ⟨⟨r1, rfl, hr1, hR1⟩, B7⟩
    have s7 := B7.size
    have B7' : Below w.heap.size w w7 := B6'.trans (B7.mono (by omega))
    have HR1 := hide hR1
    have HP17 := hide ((unhide HP16).below B7)
    have HP27 := hide ((unhide HP2).below B7)
    have HS27 := hide ((unhide HS26).below B7)
    have hS17 := (unhide HS16).below B7
    have HS17 := hide hS17
    have Hj := hide (new_jb 1 1 (by decide) (by decide) (.pointer (some ⟨r1, 0, none⟩)) (spansP L1) hS17 (by omega) (fun _ k _ W hb => has_rn ((unhide HR1).below hb) (by have := (unhide HRok).2; omega) (unhide HRok).1 k) none 0 0 [] (Sl.nil_ _ _) (by decide))
    rw [← unhide HT] at Hj
    clear Hof B6' B7 hR1 HP16 HS26 HS16 hS17
    go_wp2_with fail
    refine (unhide Hj).mono ?_
    rintro e w8 ⟨⟨J1, H1, rfl, hJ1, hH1⟩, B8⟩
    have s8 := B8.size
    have B8' : Below w.heap.size w w8 := B7'.trans (B8.mono (by omega))
    have HJ1 := hide hJ1
    have HP18 := hide ((unhide HP17).below B8)
    have HP28 := hide ((unhide HP27).below B8)
    have HS18 := hide ((unhide HS17).below B8)
    have HS28 := hide ((unhide HS27).below B8)
    have Hof := hide (of_rn w8 A1 n1 c1 L1 ((unhide S1).below B8') (by omega))
    clear Hj B7' B8 hJ1 HP17 HP27 HS17 HS27
    go_wp2_with fail
    refine (unhide Hof).mono ?_
    rintro e w9 ⟨⟨r2, rfl, hr2, hR2⟩, B9⟩
    have s9 := B9.size
    have B9' : Below w.heap.size w w9 := B8'.trans (B9.mono (by omega))
    have HR2 := hide hR2
    have HJ19 := hide ((unhide HJ1).below B9)
    have HP19 := hide ((unhide HP18).below B9)
    have HP29 := hide ((unhide HP28).below B9)
    have HS19 := hide ((unhide HS18).below B9)
    have hS29 := (unhide HS28).below B9
    have HS29 := hide hS29
    have Hj := hide (new_jb 1 1 (by decide) (by decide) (.pointer (some ⟨r2, 0, none⟩)) (spansP L1) hS29 (by omega) (fun _ k _ W hb => has_rn ((unhide HR2).below hb) (by have := (unhide HRok).2; omega) (unhide HRok).1 k) none 0 0 [] (Sl.nil_ _ _) (by decide))
    rw [← unhide HT] at Hj
    clear Hof B8' B9 hR2 HP18 HP28 HS18 HS28 hS29
    go_wp2_with fail
    refine (unhide Hj).mono ?_
    rintro e w10 ⟨⟨J2, H2, rfl, hJ2, hH2⟩, B10⟩
    have s10 := B10.size
    have hi0 : JInv NB cur 0 T (noneL 64, []) := by
      have := JInv.fresh (by omega) (unhide Hcs) 1 (spansP L1)
      rw [← unhide HT] at this
      exact this
    have R1 : ∃ O, Run (.pointer (some ⟨sp1, 0, none⟩)) 60 J1 1 1 T [] q1 NB cur (noneL 64, []) 0 0 O (fun b => b = p ∨ b = g) w10 ∧ ∀ b, O b → (w2.heap.size ≤ b ∧ b < w3.heap.size) ∨ (w4.heap.size ≤ b ∧ b < w5.heap.size) ∨ (w7.heap.size ≤ b ∧ b < w8.heap.size) := by
      have hJ' := (unhide HJ19).below B10
      rw [← extsL_none] at hJ'
      have lF := (unhide HS1).lt
      have lH := (unhide HJ1).hlt
      refine ⟨_, Run.start hJ' ((unhide HS19).below B10) ((unhide HP19).below B10) ⟨fun k hk hf => ?_, fun k hk hf => ?_, fun k hk hf => ?_, fun k hk hf => ?_, fun k hk hf => ?_, fun k hk hf => ?_⟩ hi0, fun b hb => ?_⟩
      · have h1 := hk.1
        have h2 := lF k hf
        omega
      · have h1 := hk.2
        have h2 := hH1 k hf
        omega
      · have h1 := lF k hk
        have h2 := hH1 k hf
        omega
      · have h1 := hk.1
        rcases hf with rfl | rfl <;> omega
      · rcases hk with rfl | rfl <;> rcases hf with rfl | rfl <;> omega
      · have h2 := hH1 k hk
        rcases hf with rfl | rfl <;> omega
      · rcases hb with hb | hb | hb
        · exact .inr (.inl hb)
        · have h1 := lF b hb
          refine .inl ⟨?_, h1⟩
          rcases hb with rfl | rfl <;> omega
        · exact .inr (.inr ⟨hH1 b hb, lH b hb⟩)
    have R2 : ∃ O, Run (.pointer (some ⟨sp2, 0, none⟩)) 60 J2 1 1 T [] q2 NB cur (noneL 64, []) 0 0 O (fun b => b = p ∨ b = g) w10 ∧ ∀ b, O b → (w3.heap.size ≤ b ∧ b < w4.heap.size) ∨ (w5.heap.size ≤ b ∧ b < w6.heap.size) ∨ (w9.heap.size ≤ b ∧ b < w10.heap.size) := by
      have hJ' := hJ2
      rw [← extsL_none] at hJ'
      have lF := (unhide HS2).lt
      have lH := hJ2.hlt
      refine ⟨_, Run.start hJ' ((unhide HS29).below B10) ((unhide HP29).below B10) ⟨fun k hk hf => ?_, fun k hk hf => ?_, fun k hk hf => ?_, fun k hk hf => ?_, fun k hk hf => ?_, fun k hk hf => ?_⟩ hi0, fun b hb => ?_⟩
      · have h1 := hk.1
        have h2 := lF k hf
        omega
      · have h1 := hk.2
        have h2 := hH2 k hf
        omega
      · have h1 := lF k hk
        have h2 := hH2 k hf
        omega
      · have h1 := hk.1
        rcases hf with rfl | rfl <;> omega
      · rcases hk with rfl | rfl <;> rcases hf with rfl | rfl <;> omega
      · have h2 := hH2 k hk
        rcases hf with rfl | rfl <;> omega
      · rcases hb with hb | hb | hb
        · exact .inr (.inl hb)
        · have h1 := lF b hb
          refine .inl ⟨?_, h1⟩
          rcases hb with rfl | rfl <;> omega
        · exact .inr (.inr ⟨hH2 b hb, lH b hb⟩)
    obtain ⟨O1, R1, hO1⟩ := R1
    obtain ⟨O2, R2, hO2⟩ := R2
    have B10' : Below w.heap.size w w10 := B9'.trans (B10.mono (by omega))
    have Hl := hide (run_left R1)
    have Hst := hide (run_step 100 R1 (by omega) (by decide) (.inr rfl) (by decide))
    have hmin : 0 + min 100 (T.length - 0) = T.length := by omega
    have hmin2 : min 100 (T.length - 0) = T.length := by omega
    rw [hmin, hmin2] at Hst
    have HR2x := hide R2
    have HB10 := hide B10'
    have HO1 := hide hO1
    have HO2 := hide hO2
    clear HJ19 HP19 HP29 HS19 HS29 HS1 HS2 HJ1 HR1 HR2 hJ2 hH1 hH2 R1 R2 B9' B10 B10' hmin hmin2 hO1 hO2 Hj hi0 HP1 HP2
    go_wp2_with fail
    refine (unhide Hl).mono ?_
    rintro e w11 ⟨rfl, hw11⟩
    subst hw11
    go_wp2_with fail
    refine (unhide Hst).mono ?_
    rintro e w12 ⟨rfl, ⟨O3, hR3, hW3⟩, C3⟩
    have s12 := C3.size
    have hO1 := unhide HO1
    have hO2 := unhide HO2
    have Olt := (unhide HR2x).lt
    have hw2 := (unhide HB10).size
    have B12 := hide ((unhide HB10).trans (C3.to_below (by omega) (fun k hk => by have := hO1 k hk; omega)))
    have hR2 := (unhide HR2x).chg C3 (fun b hb hx => by have h1 := hO2 b hb; have h2 := hO1 b hx; omega) (fun b hb hx => by have h2 := hO1 b hx; rcases hb with rfl | rfl <;> omega)
    have HR2y := hide hR2
    have HR3 := hide hR3
    have HO3 := hide (fun b (hb : O3 b) => (hW3.from' b hb).imp (hO1 b) id : ∀ b, O3 b → _)
    have HO3l := hide hR3.lt
    obtain ⟨TL, hTL⟩ : ∃ n, n = T.length := ⟨_, rfl⟩
    rw [← hTL] at HR3 ⊢
    have HTL := hide hTL
    have hTLn : TL ≤ 50 := by omega
    clear C3 hR3 hW3 hR2 HR2x Hst hO1 hO2 Olt hTL hTl Hl
    go_wp2_with fail
    go_loopw [26, 27, 28, 29] (fun d j _ _ wr => ∃ (k r : Nat) (O : Nat → Prop), k ≤ n2 ∧ r ≤ TL ∧ d = .int .i64 (r : Int) ∧ j = .int .i64 (k : Int) ∧ Run (.pointer (some ⟨sp2, 0, none⟩)) 60 J2 1 1 T [] q2 NB cur (noneL 64, []) 0 r O (fun b => b = p ∨ b = g) wr ∧ Went O2 O w12 ∧ Run (.pointer (some ⟨sp1, 0, none⟩)) 60 J1 1 1 T [] q1 NB cur (noneL 64, []) 0 TL O3 (fun b => b = p ∨ b = g) wr ∧ Below w.heap.size w wr ∧ w12.heap.size ≤ wr.heap.size) (fun _ j _ _ _ => n2 - (intOf j).toNat)
    case atStart => exact ⟨0, 0, O2, Nat.zero_le _, Nat.zero_le _, rfl, rfl, unhide HR2y, Went.refl _ _, unhide HR3, unhide B12, Nat.le_refl _⟩
    case round =>
      obtain ⟨k, r, O, hk, hr, rfl, rfl, hRb, hWb, hRa, hB, hsz⟩ := hrel
      have hOO : ∀ b, O b → ¬ O3 b := fun b hb h3 => by
        have h4 := unhide HO3 b h3
        have h6 := unhide HO3l b h3
        rcases hWb.from' b hb with h1 | h1
        · have h2 := unhide HO2 b h1
          omega
        · omega
      have hOI : ∀ b, O b → w.heap.size ≤ b ∧ ¬ (b = p ∨ b = g) := fun b hb => by
        rcases hWb.from' b hb with h1 | h1
        · have h2 := unhide HO2 b h1
          omega
        · omega
      by_cases hlt : k < n2
      · have hlt' : (k : Int) < n2 := by omega
        have hkL : k < L2.length := by have := unhide Hn2; omega
        obtain ⟨b, off, eA, lb, hrd⟩ := unhide R2 (by omega)
        subst eA
        have x0 : wr.cell? ⟨b, off + k, none⟩ = some (.int .i64 L2[k]) := ((bcell hB).1 _ _ lb).trans (by
          have := hrd k hkL 0 (by decide)
          rw [show eI.sz = 1 from rfl, Nat.mul_one, Nat.add_zero] at this
          exact this)
        obtain ⟨x, hx⟩ : ∃ x, x = L2[k] := ⟨_, rfl⟩
        rw [← hx] at x0
        obtain ⟨y0, y1⟩ := and_bd x 7 (by decide)
        obtain ⟨Nb, hNb⟩ : ∃ n : Nat, bits .and .i64 x 7 = (n : Int) := ⟨(bits .and .i64 x 7).toNat, by have : bits .and .i64 x ((7 : Nat) : Int) = bits .and .i64 x 7 := rfl; omega⟩
        have hNb7 : Nb ≤ 7 := by have : bits .and .i64 x ((7 : Nat) : Int) = bits .and .i64 x 7 := rfl; omega
        obtain ⟨M, hM⟩ : ∃ M, M = min (1 + Nb) (T.length - r) := ⟨_, rfl⟩
        have hMr : r + M ≤ TL := by have := unhide HTL; omega
        have Hst := hide (run_step (1 + Nb) hRb (by have := unhide HTL; omega) (by decide) (.inr rfl) (by omega))
        have e1 : ((1 + Nb : Nat) : Int) = 1 + (Nb : Int) := by omega
        rw [← hM, e1] at Hst
        have HRa := hide hRa
        have HB := hide hB
        have HOO := hide hOO
        have HOI := hide hOI
        have HW := hide hWb
        clear hrd hx hM e1 hRa hRb hB hOO hOI hWb y0 y1
        go_wp2_with fail
        refine (unhide Hst).mono ?_
        rintro e w13 ⟨rfl, ⟨O', hR', hW'⟩, hC'⟩
        have hOO := unhide HOO
        have hOI := unhide HOI
        have HRb := hide hR'
        have HRa' := hide ((unhide HRa).chg hC' (fun b hb hx => hOO b hx hb) (fun b hb hx => (hOI b hx).2 hb))
        have HB' := hide ((unhide HB).trans (hC'.to_below (unhide HB).size fun b hb => (hOI b hb).1))
        have HW2 := hide ((unhide HW).trans hW' hsz)
        have s13 := hC'.size
        clear hR' hC' hW' HRa HB HW Hst hOO hOI HOO HOI
        go_wp2_with fail
        go_roundw
        case rel => exact ⟨k + 1, r + M, O', by omega, by omega, by go_num, by go_num, unhide HRb, unhide HW2, unhide HRa', unhide HB', by omega⟩
        case measure => simp [intOf]; omega
      · have hlt' : ¬ (k : Int) < n2 := by omega
        obtain ⟨M, hM⟩ : ∃ M, M = min 1000 (T.length - r) := ⟨_, rfl⟩
        have hMr : r + M = TL := by have := unhide HTL; omega
        have Hst := hide (run_step 1000 hRb (by have := unhide HTL; omega) (by decide) (.inr rfl) (by decide))
        rw [← hM, hMr] at Hst
        have HMr := hide (show (r : Int) + (M : Int) = (TL : Int) by omega)
        have hMb : M ≤ 50 := by omega
        have HRa := hide hRa
        have HB := hide hB
        have HOO := hide hOO
        have HOI := hide hOI
        clear hM hRa hRb hB hOO hOI hWb hMr HR2y HR3 B12 hk hr
        go_wp2_with fail
        refine (unhide Hst).mono ?_
        rintro e w13 ⟨rfl, ⟨O', hR', hW'⟩, hC'⟩
        have hOO := unhide HOO
        have hOI := unhide HOI
        have hRa' := (unhide HRa).chg hC' (fun b hb hx => hOO b hx hb) (fun b hb hx => (hOI b hx).2 hb)
        have HB' := hide ((unhide HB).trans (hC'.to_below (unhide HB).size fun b hb => (hOI b hb).1))
        have s13 := hC'.size
        have hwB := (unhide HB').size
        obtain ⟨E, hE⟩ : ∃ E, E = extsL (runT cur T (noneL 64, [])).1 64 := ⟨_, rfl⟩
        obtain ⟨AL, hAL⟩ : ∃ E, E = allL (runT cur T (noneL 64, [])).2 := ⟨_, rfl⟩
        obtain ⟨N, hN⟩ : ∃ N, N = E.length := ⟨_, rfl⟩
        obtain ⟨NA, hNA⟩ : ∃ N, N = AL.length := ⟨_, rfl⟩
        have pt1 : ∀ W, Below w13.heap.size w13 W → Calls Tryz.prog 16 #[.pointer (some ⟨J1, 0, none⟩), .int .i64 3] W fun e w' => (∃ A c, e = .returned (.tuple #[.agg #[.int .i64 3, .int .i64 1, .int .i64 1, .slice A N c], .bool true]) ∧ Own eE 107 w' W.heap.size (.slice A N c) E) ∧ Below W.heap.size W w' := fun W hb => by
          have := run_point 3 (show Run _ _ _ _ _ _ _ _ _ _ _ _ T.length _ _ _ from by rw [← unhide HTL]; exact hRa'.below hb)
          rw [← hE, ← hN] at this
          exact this
        have pt2 : ∀ W, Below w13.heap.size w13 W → Calls Tryz.prog 16 #[.pointer (some ⟨J2, 0, none⟩), .int .i64 3] W fun e w' => (∃ A c, e = .returned (.tuple #[.agg #[.int .i64 3, .int .i64 1, .int .i64 1, .slice A N c], .bool true]) ∧ Own eE 107 w' W.heap.size (.slice A N c) E) ∧ Below W.heap.size W w' := fun W hb => by
          have := run_point 3 (show Run _ _ _ _ _ _ _ _ _ _ _ _ T.length _ _ _ from by rw [← unhide HTL]; exact hR'.below hb)
          rw [← hE, ← hN] at this
          exact this
        have al1 : ∀ W, Below w13.heap.size w13 W → Calls Tryz.prog 29 #[.pointer (some ⟨sp1, 0, none⟩)] W fun e w' => (∃ A c, e = .returned (.slice A NA c) ∧ Own eSh 136 w' W.heap.size (.slice A NA c) AL) ∧ Below W.heap.size W w' := fun W hb => by
          have := run_all (hRa'.below hb) (by omega)
          rw [unhide HTL, List.take_length, ← hAL, ← hNA] at this
          exact this
        have al2 : ∀ W, Below w13.heap.size w13 W → Calls Tryz.prog 29 #[.pointer (some ⟨sp2, 0, none⟩)] W fun e w' => (∃ A c, e = .returned (.slice A NA c) ∧ Own eSh 136 w' W.heap.size (.slice A NA c) AL) ∧ Below W.heap.size W w' := fun W hb => by
          have := run_all (hR'.below hb) (by omega)
          rw [unhide HTL, List.take_length, ← hAL, ← hNA] at this
          exact this
        have P1 := hide pt1
        have P2 := hide pt2
        have Q1 := hide al1
        have Q2 := hide al2
        have HN := hide hN
        have HNA := hide hNA
        clear hR' hC' hW' HRa HB hOO hOI HOO HOI Hst hRa' pt1 pt2 al1 al2 hE hAL hN hNA
        go_wp2_with fail
        refine (unhide P1 w13 (Below.refl _ _)).mono ?_
        rintro e w14 ⟨⟨A14, c14, rfl, ho14⟩, B14⟩
        obtain ⟨w15, hw15⟩ : ∃ W, W = w14.alloc (.cells #[.int .i64 3, .int .i64 1, .int .i64 1, .slice A14 N c14] 44) := ⟨_, rfl⟩
        have B15 : Below w14.heap.size w14 w15 := by rw [hw15]; exact (Below.refl _ _).alloc (Nat.le_refl _) _
        have s14 := B14.size
        have s15 : w15.heap.size = w14.heap.size + 1 := by rw [hw15]; simp
        have hq := heap_new w14 (.cells #[.int .i64 3, .int .i64 1, .int .i64 1, .slice A14 N c14] 44)
        rw [← hw15] at hq
        obtain ⟨t1, ht1⟩ : ∃ t, t = w14.heap.size := ⟨_, rfl⟩
        have ht1' : w14.heap.size ≤ t1 := by omega
        rw [← ht1] at hq s15
        have p3 : w15.cell? ⟨t1, 3, none⟩ = some (.slice A14 N c14) := cell_of_heap hq rfl
        have O15 := hide (ho14.below B15)
        have Bx := B14.trans (B15.mono (by omega))
        have HBx := hide Bx
        clear hq ho14 B14 B15 Bx
        go_wp2_with fail
        rw [← hw15, ← ht1]
        clear hw15 ht1
        refine (unhide P2 w15 (unhide HBx)).mono ?_
        rintro e w16 ⟨⟨A16, c16, rfl, ho16⟩, B16⟩
        have p3 := ((bcell B16).1 t1 3 (by omega)).trans p3
        obtain ⟨w17, hw17⟩ : ∃ W, W = w16.alloc (.cells #[.int .i64 3, .int .i64 1, .int .i64 1, .slice A16 N c16] 44) := ⟨_, rfl⟩
        have B17 : Below w16.heap.size w16 w17 := by rw [hw17]; exact (Below.refl _ _).alloc (Nat.le_refl _) _
        have s16 := B16.size
        have s17 : w17.heap.size = w16.heap.size + 1 := by rw [hw17]; simp
        have hq := heap_new w16 (.cells #[.int .i64 3, .int .i64 1, .int .i64 1, .slice A16 N c16] 44)
        rw [← hw17] at hq
        obtain ⟨t2, ht2⟩ : ∃ t, t = w16.heap.size := ⟨_, rfl⟩
        have ht2' : w16.heap.size ≤ t2 := by omega
        rw [← ht2] at hq s17
        have r3 : w17.cell? ⟨t2, 3, none⟩ = some (.slice A16 N c16) := cell_of_heap hq rfl
        have p3 := ((bcell B17).1 t1 3 (by omega)).trans p3
        have p3' := p3
        rw [hw17] at p3'
        have r3' := r3
        rw [hw17] at r3'
        have hE1 : Sl eE w17 A14 N c14 E := by
          obtain ⟨_, _, hv, hs', _⟩ := (((unhide O15).below B16).below B17).sl
          injection hv with v1 v2 v3
          rw [v1, v2, v3]; exact hs'
        have hE2 : Sl eE w17 A16 N c16 E := by
          obtain ⟨_, _, hv, hs', _⟩ := (ho16.below B17).sl
          injection hv with v1 v2 v3
          rw [v1, v2, v3]; exact hs'
        have Hse := hide (sameExtents_yes A14 c14 A16 c16 N E w17 hE1 hE2)
        have Bx := (unhide HBx).trans ((B16.trans (B17.mono (by omega))).mono (by omega))
        have HBy := hide Bx
        have qMr := unhide HMr
        clear hq ho16 B16 B17 Bx O15 HBx hE1 hE2 P1 P2
        go_wp2_with fail
        rw [← hw17]
        clear hw17 p3' r3' ht2
        refine (unhide Hse).mono ?_
        rintro e w18 ⟨rfl, dq, hw18⟩
        have B18 := hide ((unhide HBy).trans (by rw [hw18]; exact below_drewN (Below.refl _ _) dq : Below w13.heap.size w17 w18))
        have s18 : w17.heap.size = w18.heap.size := by rw [hw18]; rfl
        clear hw18 Hse HBy p3 r3
        go_wp2_with fail
        refine (unhide Q1 w18 (unhide B18)).mono ?_
        rintro e w19 ⟨⟨A19, c19, rfl, ho19⟩, B19⟩
        have s19 := B19.size
        have B19' := hide ((unhide B18).trans (B19.mono (by omega)))
        have HO19 := hide ho19
        clear ho19 B19 B18
        go_wp2_with fail
        refine (unhide Q2 w19 (unhide B19')).mono ?_
        rintro e w20 ⟨⟨A20, c20, rfl, ho20⟩, B20⟩
        have s20 := B20.size
        have BF := hide ((unhide HB').trans (((unhide B19').trans (B20.mono (by omega))).mono hwB))
        have hA1 : Sl eSh w20 A19 NA c19 AL := by
          obtain ⟨_, _, hv, hs', _⟩ := ((unhide HO19).below B20).sl
          injection hv with v1 v2 v3
          rw [v1, v2, v3]; exact hs'
        have hA2 : Sl eSh w20 A20 NA c20 AL := by
          obtain ⟨_, _, hv, hs', _⟩ := ho20.sl
          injection hv with v1 v2 v3
          rw [v1, v2, v3]; exact hs'
        have Hss := hide (sameShelves_yes A19 c19 A20 c20 NA AL w20 hA1 hA2)
        clear hA1 hA2 ho20 B20 HO19
        go_wp2_with fail
        refine (unhide Hss).mono ?_
        rintro e w21 ⟨rfl, dq2, hw21⟩
        have BG := hide (by rw [hw21]; exact below_drewN (unhide BF) dq2 : Below w.heap.size w w21)
        clear hw21 Hss
        go_wp2_with fail
        go_ret
        exact ⟨rfl, unhide BG⟩
  · go_enter Tryz.func5, Tryz.ntmps5
    go_wp2_with fail
    refine (alive20 _).mono ?_
    rintro e w0 ⟨rfl, B0⟩
    go_wp2_with fail
    refine (film_new NB ⟨hb1, by omega⟩ w0).mono ?_
    rintro e w1 ⟨⟨p, g, cc, rfl, hp, hg, hF⟩, B1⟩
    rw [← zerosB_list] at hF
    have s0 := B0.size
    have s1 := B1.size
    have B1' : Below w.heap.size w w1 := B0.trans (B1.mono (by omega))
    have lp := hF.lp
    have lg := hF.lg
    have hSz : (first.extract 0 sz).size ≤ 8 * NB := by have := unhide Hsz; rw [ByteArray.size_extract]; omega
    obtain ⟨cur, hcur⟩ : ∃ cur, cur = layB (zerosB NB) 0 (first.extract 0 sz) := ⟨_, rfl⟩
    have hcs : cur.size = 8 * NB := by rw [hcur, layB_size (by rw [zerosB_size]; omega), zerosB_size]
    have Hw := hide (flm_write 0 (first.extract 0 sz) (zerosB NB) hF (by rw [zerosB_size]; omega))
    rw [← hcur] at Hw
    have Hcs := hide hcs
    clear B0 B1 hF hcur hSz hcs
    go_wp2_with fail
    refine (unhide Hw).mono ?_
    rintro e w2 ⟨rfl, hF, C2⟩
    have s2 := C2.size
    have B2' : Below w.heap.size w w2 := B1'.trans (C2.to_below (by omega) (fun k e => by omega))
    have HF := hide hF
    have Hn := hide (stl_new NB hF (unhide Hcs) (by omega))
    clear Hw C2 B1' hF
    go_wp2_with fail
    refine (unhide Hn).mono ?_
    rintro e w3 ⟨⟨q1, m1, rfl, hq1, hm1, hS1⟩, B3⟩
    have s3 := B3.size
    have B3' : Below w.heap.size w w3 := B2'.trans (B3.mono (by omega))
    have Hn := hide (stl_new NB ((unhide HF).below B3) (unhide Hcs) (by omega))
    have HS1 := hide hS1
    clear HF B2' B3 hS1
    go_wp2_with fail
    refine (unhide Hn).mono ?_
    rintro e w4 ⟨⟨q2, m2, rfl, hq2, hm2, hS2⟩, B4⟩
    have s4 := B4.size
    have B4' : Below w.heap.size w w4 := B3'.trans (B4.mono (by omega))
    have HS14 := hide ((unhide HS1).below B4)
    have HS2 := hide hS2
    clear Hn B3' B4 hS2
    go_wp2_with fail
    refine (pl_new (G := fun k => w4.heap.size ≤ k) 60 w4 (fun k hk => hk)).mono ?_
    rintro e w5 ⟨sp1, rfl, hP1, B5⟩
    rw [show min (max (60 : Int) 0) 60 = 60 from by decide] at hP1
    have s5 := B5.size
    have B5' : Below w.heap.size w w5 := B4'.trans (B5.mono (by omega))
    have HP1 := hide hP1.tight
    have HS15 := hide ((unhide HS14).below B5)
    have HS25 := hide ((unhide HS2).below B5)
    clear B4' B5 hP1 HS14
    go_wp2_with fail
    refine (pl_new (G := fun k => w5.heap.size ≤ k) 60 w5 (fun k hk => hk)).mono ?_
    rintro e w6 ⟨sp2, rfl, hP2, B6⟩
    rw [show min (max (60 : Int) 0) 60 = 60 from by decide] at hP2
    have s6 := B6.size
    have B6' : Below w.heap.size w w6 := B5'.trans (B6.mono (by omega))
    have HP16 := hide ((unhide HP1).below B6)
    have HP2 := hide hP2.tight
    have HS16 := hide ((unhide HS15).below B6)
    have HS26 := hide ((unhide HS25).below B6)
    have Hof := hide (of_rn w6 A1 n1 c1 L1 ((unhide S1).below (B6'.mono (Nat.le_refl _))) (by omega))
    clear B5' B6 hP2 HS15 HS25
    go_wp2_with fail
    refine (unhide Hof).mono ?_
    rintro e w7 ⟨⟨r1, rfl, hr1, hR1⟩, B7⟩
    have s7 := B7.size
    have B7' : Below w.heap.size w w7 := B6'.trans (B7.mono (by omega))
    have HR1 := hide hR1
    have HP17 := hide ((unhide HP16).below B7)
    have HP27 := hide ((unhide HP2).below B7)
    have HS27 := hide ((unhide HS26).below B7)
    have hS17 := (unhide HS16).below B7
    have HS17 := hide hS17
    have Hj := hide (new_jb 2 1 (by decide) (by decide) (.pointer (some ⟨r1, 0, none⟩)) (spansP L1) hS17 (by omega) (fun _ k _ W hb => has_rn ((unhide HR1).below hb) (by have := (unhide HRok).2; omega) (unhide HRok).1 k) none 0 0 [] (Sl.nil_ _ _) (by decide))
    rw [← unhide HT] at Hj
    clear Hof B6' B7 hR1 HP16 HS26 HS16 hS17
    go_wp2_with fail
    refine (unhide Hj).mono ?_
    rintro e w8 ⟨⟨J1, H1, rfl, hJ1, hH1⟩, B8⟩
    have s8 := B8.size
    have B8' : Below w.heap.size w w8 := B7'.trans (B8.mono (by omega))
    have HJ1 := hide hJ1
    have HP18 := hide ((unhide HP17).below B8)
    have HP28 := hide ((unhide HP27).below B8)
    have HS18 := hide ((unhide HS17).below B8)
    have HS28 := hide ((unhide HS27).below B8)
    have Hof := hide (of_rn w8 A1 n1 c1 L1 ((unhide S1).below B8') (by omega))
    clear Hj B7' B8 hJ1 HP17 HP27 HS17 HS27
    go_wp2_with fail
    refine (unhide Hof).mono ?_
    rintro e w9 ⟨⟨r2, rfl, hr2, hR2⟩, B9⟩
    have s9 := B9.size
    have B9' : Below w.heap.size w w9 := B8'.trans (B9.mono (by omega))
    have HR2 := hide hR2
    have HJ19 := hide ((unhide HJ1).below B9)
    have HP19 := hide ((unhide HP18).below B9)
    have HP29 := hide ((unhide HP28).below B9)
    have HS19 := hide ((unhide HS18).below B9)
    have hS29 := (unhide HS28).below B9
    have HS29 := hide hS29
    have Hj := hide (new_jb 2 1 (by decide) (by decide) (.pointer (some ⟨r2, 0, none⟩)) (spansP L1) hS29 (by omega) (fun _ k _ W hb => has_rn ((unhide HR2).below hb) (by have := (unhide HRok).2; omega) (unhide HRok).1 k) none 0 0 [] (Sl.nil_ _ _) (by decide))
    rw [← unhide HT] at Hj
    clear Hof B8' B9 hR2 HP18 HP28 HS18 HS28 hS29
    go_wp2_with fail
    refine (unhide Hj).mono ?_
    rintro e w10 ⟨⟨J2, H2, rfl, hJ2, hH2⟩, B10⟩
    have s10 := B10.size
    have hi0 : JInv NB cur 0 T (noneL 64, []) := by
      have := JInv.fresh (by omega) (unhide Hcs) 2 (spansP L1)
      rw [← unhide HT] at this
      exact this
    have R1 : ∃ O, Run (.pointer (some ⟨sp1, 0, none⟩)) 60 J1 2 1 T [] q1 NB cur (noneL 64, []) 0 0 O (fun b => b = p ∨ b = g) w10 ∧ ∀ b, O b → (w2.heap.size ≤ b ∧ b < w3.heap.size) ∨ (w4.heap.size ≤ b ∧ b < w5.heap.size) ∨ (w7.heap.size ≤ b ∧ b < w8.heap.size) := by
      have hJ' := (unhide HJ19).below B10
      rw [← extsL_none] at hJ'
      have lF := (unhide HS1).lt
      have lH := (unhide HJ1).hlt
      refine ⟨_, Run.start hJ' ((unhide HS19).below B10) ((unhide HP19).below B10) ⟨fun k hk hf => ?_, fun k hk hf => ?_, fun k hk hf => ?_, fun k hk hf => ?_, fun k hk hf => ?_, fun k hk hf => ?_⟩ hi0, fun b hb => ?_⟩
      · have h1 := hk.1
        have h2 := lF k hf
        omega
      · have h1 := hk.2
        have h2 := hH1 k hf
        omega
      · have h1 := lF k hk
        have h2 := hH1 k hf
        omega
      · have h1 := hk.1
        rcases hf with rfl | rfl <;> omega
      · rcases hk with rfl | rfl <;> rcases hf with rfl | rfl <;> omega
      · have h2 := hH1 k hk
        rcases hf with rfl | rfl <;> omega
      · rcases hb with hb | hb | hb
        · exact .inr (.inl hb)
        · have h1 := lF b hb
          refine .inl ⟨?_, h1⟩
          rcases hb with rfl | rfl <;> omega
        · exact .inr (.inr ⟨hH1 b hb, lH b hb⟩)
    have R2 : ∃ O, Run (.pointer (some ⟨sp2, 0, none⟩)) 60 J2 2 1 T [] q2 NB cur (noneL 64, []) 0 0 O (fun b => b = p ∨ b = g) w10 ∧ ∀ b, O b → (w3.heap.size ≤ b ∧ b < w4.heap.size) ∨ (w5.heap.size ≤ b ∧ b < w6.heap.size) ∨ (w9.heap.size ≤ b ∧ b < w10.heap.size) := by
      have hJ' := hJ2
      rw [← extsL_none] at hJ'
      have lF := (unhide HS2).lt
      have lH := hJ2.hlt
      refine ⟨_, Run.start hJ' ((unhide HS29).below B10) ((unhide HP29).below B10) ⟨fun k hk hf => ?_, fun k hk hf => ?_, fun k hk hf => ?_, fun k hk hf => ?_, fun k hk hf => ?_, fun k hk hf => ?_⟩ hi0, fun b hb => ?_⟩
      · have h1 := hk.1
        have h2 := lF k hf
        omega
      · have h1 := hk.2
        have h2 := hH2 k hf
        omega
      · have h1 := lF k hk
        have h2 := hH2 k hf
        omega
      · have h1 := hk.1
        rcases hf with rfl | rfl <;> omega
      · rcases hk with rfl | rfl <;> rcases hf with rfl | rfl <;> omega
      · have h2 := hH2 k hk
        rcases hf with rfl | rfl <;> omega
      · rcases hb with hb | hb | hb
        · exact .inr (.inl hb)
        · have h1 := lF b hb
          refine .inl ⟨?_, h1⟩
          rcases hb with rfl | rfl <;> omega
        · exact .inr (.inr ⟨hH2 b hb, lH b hb⟩)
    obtain ⟨O1, R1, hO1⟩ := R1
    obtain ⟨O2, R2, hO2⟩ := R2
    have B10' : Below w.heap.size w w10 := B9'.trans (B10.mono (by omega))
    have Hl := hide (run_left R1)
    have Hst := hide (run_step 100 R1 (by omega) (by decide) (.inr rfl) (by decide))
    have hmin : 0 + min 100 (T.length - 0) = T.length := by omega
    have hmin2 : min 100 (T.length - 0) = T.length := by omega
    rw [hmin, hmin2] at Hst
    have HR2x := hide R2
    have HB10 := hide B10'
    have HO1 := hide hO1
    have HO2 := hide hO2
    clear HJ19 HP19 HP29 HS19 HS29 HS1 HS2 HJ1 HR1 HR2 hJ2 hH1 hH2 R1 R2 B9' B10 B10' hmin hmin2 hO1 hO2 Hj hi0 HP1 HP2
    go_wp2_with fail
    refine (unhide Hl).mono ?_
    rintro e w11 ⟨rfl, hw11⟩
    subst hw11
    go_wp2_with fail
    refine (unhide Hst).mono ?_
    rintro e w12 ⟨rfl, ⟨O3, hR3, hW3⟩, C3⟩
    have s12 := C3.size
    have hO1 := unhide HO1
    have hO2 := unhide HO2
    have Olt := (unhide HR2x).lt
    have hw2 := (unhide HB10).size
    have B12 := hide ((unhide HB10).trans (C3.to_below (by omega) (fun k hk => by have := hO1 k hk; omega)))
    have hR2 := (unhide HR2x).chg C3 (fun b hb hx => by have h1 := hO2 b hb; have h2 := hO1 b hx; omega) (fun b hb hx => by have h2 := hO1 b hx; rcases hb with rfl | rfl <;> omega)
    have HR2y := hide hR2
    have HR3 := hide hR3
    have HO3 := hide (fun b (hb : O3 b) => (hW3.from' b hb).imp (hO1 b) id : ∀ b, O3 b → _)
    have HO3l := hide hR3.lt
    obtain ⟨TL, hTL⟩ : ∃ n, n = T.length := ⟨_, rfl⟩
    rw [← hTL] at HR3 ⊢
    have HTL := hide hTL
    have hTLn : TL ≤ 50 := by omega
    clear C3 hR3 hW3 hR2 HR2x Hst hO1 hO2 Olt hTL hTl Hl
    go_wp2_with fail
    go_loopw [26, 27, 28, 29] (fun d j _ _ wr => ∃ (k r : Nat) (O : Nat → Prop), k ≤ n2 ∧ r ≤ TL ∧ d = .int .i64 (r : Int) ∧ j = .int .i64 (k : Int) ∧ Run (.pointer (some ⟨sp2, 0, none⟩)) 60 J2 2 1 T [] q2 NB cur (noneL 64, []) 0 r O (fun b => b = p ∨ b = g) wr ∧ Went O2 O w12 ∧ Run (.pointer (some ⟨sp1, 0, none⟩)) 60 J1 2 1 T [] q1 NB cur (noneL 64, []) 0 TL O3 (fun b => b = p ∨ b = g) wr ∧ Below w.heap.size w wr ∧ w12.heap.size ≤ wr.heap.size) (fun _ j _ _ _ => n2 - (intOf j).toNat)
    case atStart => exact ⟨0, 0, O2, Nat.zero_le _, Nat.zero_le _, rfl, rfl, unhide HR2y, Went.refl _ _, unhide HR3, unhide B12, Nat.le_refl _⟩
    case round =>
      obtain ⟨k, r, O, hk, hr, rfl, rfl, hRb, hWb, hRa, hB, hsz⟩ := hrel
      have hOO : ∀ b, O b → ¬ O3 b := fun b hb h3 => by
        have h4 := unhide HO3 b h3
        have h6 := unhide HO3l b h3
        rcases hWb.from' b hb with h1 | h1
        · have h2 := unhide HO2 b h1
          omega
        · omega
      have hOI : ∀ b, O b → w.heap.size ≤ b ∧ ¬ (b = p ∨ b = g) := fun b hb => by
        rcases hWb.from' b hb with h1 | h1
        · have h2 := unhide HO2 b h1
          omega
        · omega
      by_cases hlt : k < n2
      · have hlt' : (k : Int) < n2 := by omega
        have hkL : k < L2.length := by have := unhide Hn2; omega
        obtain ⟨b, off, eA, lb, hrd⟩ := unhide R2 (by omega)
        subst eA
        have x0 : wr.cell? ⟨b, off + k, none⟩ = some (.int .i64 L2[k]) := ((bcell hB).1 _ _ lb).trans (by
          have := hrd k hkL 0 (by decide)
          rw [show eI.sz = 1 from rfl, Nat.mul_one, Nat.add_zero] at this
          exact this)
        obtain ⟨x, hx⟩ : ∃ x, x = L2[k] := ⟨_, rfl⟩
        rw [← hx] at x0
        obtain ⟨y0, y1⟩ := and_bd x 7 (by decide)
        obtain ⟨Nb, hNb⟩ : ∃ n : Nat, bits .and .i64 x 7 = (n : Int) := ⟨(bits .and .i64 x 7).toNat, by have : bits .and .i64 x ((7 : Nat) : Int) = bits .and .i64 x 7 := rfl; omega⟩
        have hNb7 : Nb ≤ 7 := by have : bits .and .i64 x ((7 : Nat) : Int) = bits .and .i64 x 7 := rfl; omega
        obtain ⟨M, hM⟩ : ∃ M, M = min (1 + Nb) (T.length - r) := ⟨_, rfl⟩
        have hMr : r + M ≤ TL := by have := unhide HTL; omega
        have Hst := hide (run_step (1 + Nb) hRb (by have := unhide HTL; omega) (by decide) (.inr rfl) (by omega))
        have e1 : ((1 + Nb : Nat) : Int) = 1 + (Nb : Int) := by omega
        rw [← hM, e1] at Hst
        have HRa := hide hRa
        have HB := hide hB
        have HOO := hide hOO
        have HOI := hide hOI
        have HW := hide hWb
        clear hrd hx hM e1 hRa hRb hB hOO hOI hWb y0 y1
        go_wp2_with fail
        refine (unhide Hst).mono ?_
        rintro e w13 ⟨rfl, ⟨O', hR', hW'⟩, hC'⟩
        have hOO := unhide HOO
        have hOI := unhide HOI
        have HRb := hide hR'
        have HRa' := hide ((unhide HRa).chg hC' (fun b hb hx => hOO b hx hb) (fun b hb hx => (hOI b hx).2 hb))
        have HB' := hide ((unhide HB).trans (hC'.to_below (unhide HB).size fun b hb => (hOI b hb).1))
        have HW2 := hide ((unhide HW).trans hW' hsz)
        have s13 := hC'.size
        clear hR' hC' hW' HRa HB HW Hst hOO hOI HOO HOI
        go_wp2_with fail
        go_roundw
        case rel => exact ⟨k + 1, r + M, O', by omega, by omega, by go_num, by go_num, unhide HRb, unhide HW2, unhide HRa', unhide HB', by omega⟩
        case measure => simp [intOf]; omega
      · have hlt' : ¬ (k : Int) < n2 := by omega
        obtain ⟨M, hM⟩ : ∃ M, M = min 1000 (T.length - r) := ⟨_, rfl⟩
        have hMr : r + M = TL := by have := unhide HTL; omega
        have Hst := hide (run_step 1000 hRb (by have := unhide HTL; omega) (by decide) (.inr rfl) (by decide))
        rw [← hM, hMr] at Hst
        have HMr := hide (show (r : Int) + (M : Int) = (TL : Int) by omega)
        have hMb : M ≤ 50 := by omega
        have HRa := hide hRa
        have HB := hide hB
        have HOO := hide hOO
        have HOI := hide hOI
        clear hM hRa hRb hB hOO hOI hWb hMr HR2y HR3 B12 hk hr
        go_wp2_with fail
        refine (unhide Hst).mono ?_
        rintro e w13 ⟨rfl, ⟨O', hR', hW'⟩, hC'⟩
        have hOO := unhide HOO
        have hOI := unhide HOI
        have hRa' := (unhide HRa).chg hC' (fun b hb hx => hOO b hx hb) (fun b hb hx => (hOI b hx).2 hb)
        have HB' := hide ((unhide HB).trans (hC'.to_below (unhide HB).size fun b hb => (hOI b hb).1))
        have s13 := hC'.size
        have hwB := (unhide HB').size
        obtain ⟨E, hE⟩ : ∃ E, E = extsL (runT cur T (noneL 64, [])).1 64 := ⟨_, rfl⟩
        obtain ⟨AL, hAL⟩ : ∃ E, E = allL (runT cur T (noneL 64, [])).2 := ⟨_, rfl⟩
        obtain ⟨N, hN⟩ : ∃ N, N = E.length := ⟨_, rfl⟩
        obtain ⟨NA, hNA⟩ : ∃ N, N = AL.length := ⟨_, rfl⟩
        have pt1 : ∀ W, Below w13.heap.size w13 W → Calls Tryz.prog 16 #[.pointer (some ⟨J1, 0, none⟩), .int .i64 3] W fun e w' => (∃ A c, e = .returned (.tuple #[.agg #[.int .i64 3, .int .i64 2, .int .i64 1, .slice A N c], .bool true]) ∧ Own eE 107 w' W.heap.size (.slice A N c) E) ∧ Below W.heap.size W w' := fun W hb => by
          have := run_point 3 (show Run _ _ _ _ _ _ _ _ _ _ _ _ T.length _ _ _ from by rw [← unhide HTL]; exact hRa'.below hb)
          rw [← hE, ← hN] at this
          exact this
        have pt2 : ∀ W, Below w13.heap.size w13 W → Calls Tryz.prog 16 #[.pointer (some ⟨J2, 0, none⟩), .int .i64 3] W fun e w' => (∃ A c, e = .returned (.tuple #[.agg #[.int .i64 3, .int .i64 2, .int .i64 1, .slice A N c], .bool true]) ∧ Own eE 107 w' W.heap.size (.slice A N c) E) ∧ Below W.heap.size W w' := fun W hb => by
          have := run_point 3 (show Run _ _ _ _ _ _ _ _ _ _ _ _ T.length _ _ _ from by rw [← unhide HTL]; exact hR'.below hb)
          rw [← hE, ← hN] at this
          exact this
        have al1 : ∀ W, Below w13.heap.size w13 W → Calls Tryz.prog 29 #[.pointer (some ⟨sp1, 0, none⟩)] W fun e w' => (∃ A c, e = .returned (.slice A NA c) ∧ Own eSh 136 w' W.heap.size (.slice A NA c) AL) ∧ Below W.heap.size W w' := fun W hb => by
          have := run_all (hRa'.below hb) (by omega)
          rw [unhide HTL, List.take_length, ← hAL, ← hNA] at this
          exact this
        have al2 : ∀ W, Below w13.heap.size w13 W → Calls Tryz.prog 29 #[.pointer (some ⟨sp2, 0, none⟩)] W fun e w' => (∃ A c, e = .returned (.slice A NA c) ∧ Own eSh 136 w' W.heap.size (.slice A NA c) AL) ∧ Below W.heap.size W w' := fun W hb => by
          have := run_all (hR'.below hb) (by omega)
          rw [unhide HTL, List.take_length, ← hAL, ← hNA] at this
          exact this
        have P1 := hide pt1
        have P2 := hide pt2
        have Q1 := hide al1
        have Q2 := hide al2
        have HN := hide hN
        have HNA := hide hNA
        clear hR' hC' hW' HRa HB hOO hOI HOO HOI Hst hRa' pt1 pt2 al1 al2 hE hAL hN hNA
        go_wp2_with fail
        refine (unhide P1 w13 (Below.refl _ _)).mono ?_
        rintro e w14 ⟨⟨A14, c14, rfl, ho14⟩, B14⟩
        obtain ⟨w15, hw15⟩ : ∃ W, W = w14.alloc (.cells #[.int .i64 3, .int .i64 2, .int .i64 1, .slice A14 N c14] 44) := ⟨_, rfl⟩
        have B15 : Below w14.heap.size w14 w15 := by rw [hw15]; exact (Below.refl _ _).alloc (Nat.le_refl _) _
        have s14 := B14.size
        have s15 : w15.heap.size = w14.heap.size + 1 := by rw [hw15]; simp
        have hq := heap_new w14 (.cells #[.int .i64 3, .int .i64 2, .int .i64 1, .slice A14 N c14] 44)
        rw [← hw15] at hq
        obtain ⟨t1, ht1⟩ : ∃ t, t = w14.heap.size := ⟨_, rfl⟩
        have ht1' : w14.heap.size ≤ t1 := by omega
        rw [← ht1] at hq s15
        have p3 : w15.cell? ⟨t1, 3, none⟩ = some (.slice A14 N c14) := cell_of_heap hq rfl
        have O15 := hide (ho14.below B15)
        have Bx := B14.trans (B15.mono (by omega))
        have HBx := hide Bx
        clear hq ho14 B14 B15 Bx
        go_wp2_with fail
        rw [← hw15, ← ht1]
        clear hw15 ht1
        refine (unhide P2 w15 (unhide HBx)).mono ?_
        rintro e w16 ⟨⟨A16, c16, rfl, ho16⟩, B16⟩
        have p3 := ((bcell B16).1 t1 3 (by omega)).trans p3
        obtain ⟨w17, hw17⟩ : ∃ W, W = w16.alloc (.cells #[.int .i64 3, .int .i64 2, .int .i64 1, .slice A16 N c16] 44) := ⟨_, rfl⟩
        have B17 : Below w16.heap.size w16 w17 := by rw [hw17]; exact (Below.refl _ _).alloc (Nat.le_refl _) _
        have s16 := B16.size
        have s17 : w17.heap.size = w16.heap.size + 1 := by rw [hw17]; simp
        have hq := heap_new w16 (.cells #[.int .i64 3, .int .i64 2, .int .i64 1, .slice A16 N c16] 44)
        rw [← hw17] at hq
        obtain ⟨t2, ht2⟩ : ∃ t, t = w16.heap.size := ⟨_, rfl⟩
        have ht2' : w16.heap.size ≤ t2 := by omega
        rw [← ht2] at hq s17
        have r3 : w17.cell? ⟨t2, 3, none⟩ = some (.slice A16 N c16) := cell_of_heap hq rfl
        have p3 := ((bcell B17).1 t1 3 (by omega)).trans p3
        have p3' := p3
        rw [hw17] at p3'
        have r3' := r3
        rw [hw17] at r3'
        have hE1 : Sl eE w17 A14 N c14 E := by
          obtain ⟨_, _, hv, hs', _⟩ := (((unhide O15).below B16).below B17).sl
          injection hv with v1 v2 v3
          rw [v1, v2, v3]; exact hs'
        have hE2 : Sl eE w17 A16 N c16 E := by
          obtain ⟨_, _, hv, hs', _⟩ := (ho16.below B17).sl
          injection hv with v1 v2 v3
          rw [v1, v2, v3]; exact hs'
        have Hse := hide (sameExtents_yes A14 c14 A16 c16 N E w17 hE1 hE2)
        have Bx := (unhide HBx).trans ((B16.trans (B17.mono (by omega))).mono (by omega))
        have HBy := hide Bx
        have qMr := unhide HMr
        clear hq ho16 B16 B17 Bx O15 HBx hE1 hE2 P1 P2
        go_wp2_with fail
        rw [← hw17]
        clear hw17 p3' r3' ht2
        refine (unhide Hse).mono ?_
        rintro e w18 ⟨rfl, dq, hw18⟩
        have B18 := hide ((unhide HBy).trans (by rw [hw18]; exact below_drewN (Below.refl _ _) dq : Below w13.heap.size w17 w18))
        have s18 : w17.heap.size = w18.heap.size := by rw [hw18]; rfl
        clear hw18 Hse HBy p3 r3
        go_wp2_with fail
        refine (unhide Q1 w18 (unhide B18)).mono ?_
        rintro e w19 ⟨⟨A19, c19, rfl, ho19⟩, B19⟩
        have s19 := B19.size
        have B19' := hide ((unhide B18).trans (B19.mono (by omega)))
        have HO19 := hide ho19
        clear ho19 B19 B18
        go_wp2_with fail
        refine (unhide Q2 w19 (unhide B19')).mono ?_
        rintro e w20 ⟨⟨A20, c20, rfl, ho20⟩, B20⟩
        have s20 := B20.size
        have BF := hide ((unhide HB').trans (((unhide B19').trans (B20.mono (by omega))).mono hwB))
        have hA1 : Sl eSh w20 A19 NA c19 AL := by
          obtain ⟨_, _, hv, hs', _⟩ := ((unhide HO19).below B20).sl
          injection hv with v1 v2 v3
          rw [v1, v2, v3]; exact hs'
        have hA2 : Sl eSh w20 A20 NA c20 AL := by
          obtain ⟨_, _, hv, hs', _⟩ := ho20.sl
          injection hv with v1 v2 v3
          rw [v1, v2, v3]; exact hs'
        have Hss := hide (sameShelves_yes A19 c19 A20 c20 NA AL w20 hA1 hA2)
        clear hA1 hA2 ho20 B20 HO19
        go_wp2_with fail
        refine (unhide Hss).mono ?_
        rintro e w21 ⟨rfl, dq2, hw21⟩
        have BG := hide (by rw [hw21]; exact below_drewN (unhide BF) dq2 : Below w.heap.size w w21)
        clear hw21 Hss
        go_wp2_with fail
        go_ret
        exact ⟨rfl, unhide BG⟩
theorem steps_any (kd bl : Int) (first : ByteArray) (A1 : Option Addr) (n1 c1 : Nat) (L1 : List Sp) (A2 : Option Addr) (n2 c2 : Nat) (L2 : List Int) (w : World) (hs1 : Sl eSp w A1 n1 c1 L1) (hs2 : Sl eI w A2 n2 c2 L2) :
    Calls Tryz.prog 5 #[.int .i64 kd, .int .i64 bl, .string first, .slice A1 n1 c1, .slice A2 n2 c2] w fun e w' => e = .returned (.bool true) ∧ Below w.heap.size w w' := by
  by_cases h : (kd ≠ 1 ∧ kd ≠ 2) ∨ bl < 1 ∨ 50 < bl ∨ 500 < first.size ∨ 20 < n1 ∨ 40 < n2
  · exact steps_out kd bl first A1 n1 c1 A2 n2 c2 w (Nat.le_trans hs1.2.1 hs1.2.2.1) (Nat.le_trans hs2.2.1 hs2.2.2.1) h
  · obtain ⟨NB, rfl⟩ : ∃ NB : Nat, bl = (NB : Int) := ⟨bl.toNat, by omega⟩
    exact steps_in kd NB first A1 n1 c1 L1 A2 n2 c2 L2 w hs1 hs2 (by omega) (by omega) (by omega) (by omega) (by omega) (by omega)
end Go.Proofs.YtjjfdkdneibjbaaGreatDoor
