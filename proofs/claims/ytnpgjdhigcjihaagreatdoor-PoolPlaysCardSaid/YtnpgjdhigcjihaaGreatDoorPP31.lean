/- Joined texts: LawPlaysW. -/
import Derived.Test.YtnpgjdhigcjihaaGreatDoorPP29
import Derived.Test.YtnpgjdhigcjihaaGreatDoorPP16
import Derived.Test.YtnpgjdhigcjihaaGreatDoorPP30
import Derived.Test.YtnpgjdhigcjihaaGreatDoorPP24
import Derived.Deep.CutBlock
import Derived.Deep.RegionLaw
/- Walk of the law PoolPlays. -/
namespace Go.Proofs.YtnpgjdhigcjihaaGreatDoor
open Go.RowKit

set_option maxHeartbeats 1000000 in
set_option maxRecDepth 100000 in
theorem plays_many (most ask : Int) (b : ByteArray) (A : Option Addr) (n c : Nat) (w : World) (hn : 80 < n) :
    Calls Tryz.prog 3 #[.int .i64 most, .slice A n c, .int .i64 ask, .string b] w fun e w' => e = .returned (.bool true) ∧ Below w.heap.size w w' := by
  go_enter Tryz.func3, Tryz.ntmps3
  go_wp2_with (go_at_call 4; refine (alive9 _).mono ?_; rintro e w1 ⟨he, B1⟩; subst he)
  go_ret
  exact ⟨rfl, B1⟩
set_option maxHeartbeats 1000000 in
set_option maxRecDepth 100000 in
theorem plays_long (most ask : Int) (b : ByteArray) (A : Option Addr) (n c : Nat) (w : World) (hn : n ≤ 80) (hb : 100 < b.size) :
    Calls Tryz.prog 3 #[.int .i64 most, .slice A n c, .int .i64 ask, .string b] w fun e w' => e = .returned (.bool true) ∧ Below w.heap.size w w' := by
  have qa : decide (80 < (n : Int)) = false := decide_eq_false (by omega)
  go_enter Tryz.func3, Tryz.ntmps3
  go_wp2_with (go_at_call 4; refine (alive9 _).mono ?_; rintro e w1 ⟨he, B1⟩; subst he)
  go_ret
  exact ⟨rfl, B1⟩
set_option maxHeartbeats 16000000 in
set_option maxRecDepth 100000 in
theorem plays_few (most ask : Int) (b : ByteArray) (A : Option Addr) (n c : Nat) (l : List Op20) (w : World) (hs : Sl eOp w A n c l) (hn : n ≤ 80) (hb : b.size ≤ 100) :
    Calls Tryz.prog 3 #[.int .i64 most, .slice A n c, .int .i64 ask, .string b] w fun e w' => e = .returned (.bool true) ∧ Below w.heap.size w w' := by
  have hc1 := hs.2.1
  have hc2 := hs.2.2.1
  have HR := hide hs.2.2.2
  have HN := hide hs.1
  have qa : decide (80 < (n : Int)) = false := decide_eq_false (by omega)
  have qb : decide (100 < (b.size : Int)) = false := decide_eq_false (by omega)
  obtain ⟨M, hM⟩ : ∃ M, M = min (max most 0) 60 := ⟨_, rfl⟩
  have hM0 : 0 ≤ M := by omega
  have hM1 : M ≤ 60 := by omega
  have HM := hide hM
  clear hs hM
  go_enter Tryz.func3, Tryz.ntmps3
  go_wp2_with fail
  refine (alive9 _).mono ?_
  rintro e w1 ⟨rfl, B1⟩
  have s1 := B1.size
  go_wp2_with fail
  refine (pl_new (G := fun k => w.heap.size ≤ k) most w1 (fun k hk => Nat.le_trans s1 hk)).mono ?_
  rintro e w2 ⟨p0, rfl, hP, HB2⟩
  rw [← unhide HM] at hP
  have s2 := HB2.size
  have B2 := B1.trans (HB2.mono s1)
  have hst := PSt.new hP.tight (fun q hq => hq.1) B2
  have Hst := hide hst
  clear hst hP HB2 B1
  go_wp2_with fail
  rw [← unhide HM]
  obtain ⟨W0, hW0⟩ : ∃ W, W = (w2.alloc (.cells #[.int .i64 M, .slice none 0 0] 28)).alloc (.cells #[.slice none 0 0, .slice none 0 0, .slice none 0 0, .slice none 0 0, .slice none 0 0, .slice none 0 0, .slice none 0 0, .slice none 0 0, .slice none 0 0, .slice none 0 0, .slice none 0 0, .slice none 0 0, .slice none 0 0, .slice none 0 0] 38) := ⟨_, rfl⟩
  rw [← hW0] at Hst ⊢
  obtain ⟨P, hP⟩ : ∃ P, P = w2.heap.size := ⟨_, rfl⟩
  rw [← hP] at Hst ⊢
  obtain ⟨bk, hbk⟩ : ∃ bk, bk = P + 1 := ⟨_, rfl⟩
  rw [← hbk] at Hst ⊢
  obtain ⟨G0, hG0⟩ : ∃ G : Nat → Prop, G = fun k => w.heap.size ≤ k ∧ k < P := ⟨_, rfl⟩
  obtain ⟨H0, hH0⟩ : ∃ G : Nat → Prop, G = fun q => q = bk := ⟨_, rfl⟩
  rw [← hG0, ← hH0] at Hst
  clear hW0 hP hbk hG0 hH0 B2 s1 s2
  go_loopw [9, 12] (fun s i wr => ∃ (k p : Nat) (G H : Nat → Prop) (es : List (Int × Blk)) (A1 : Option Addr) (n1 c1 : Nat), k ≤ n ∧ s = .pointer (some ⟨p, 0, none⟩) ∧ i = .int .i64 k ∧ PSt w wr P bk k G H (.pointer (some ⟨p, 0, none⟩)) M es (allL es) A1 n1 c1 ∧ EOk es M k) (fun _ i _ => n - (intOf i).toNat)
  case atStart => exact ⟨0, p0, G0, H0, [], none, 0, 0, Nat.zero_le _, rfl, rfl, by rw [show allL [] = [] by simp [allL]]; exact unhide Hst, EOk.nil M hM0 0⟩
  case round =>
    obtain ⟨k, p, G, H, es, A1, n1, c1, hk, rfl, rfl, hS, hE⟩ := hrel
    clear Hst
    by_cases hlt : k < n
    · have hlt' : (k : Int) < n := by omega
      have hkL : k < l.length := by have := unhide HN; omega
      obtain ⟨bb, off, eA, lb, hrd⟩ := unhide HR (by omega)
      subst eA
      have x0 : wr.cell? ⟨bb, off + k * 3, none⟩ = some (.int .i64 l[k].kind) := ((bcell hS.below).1 _ _ lb).trans (hrd k hkL 0 (by decide))
      have x1 : wr.cell? ⟨bb, off + k * 3 + 1, none⟩ = some (.int .i64 l[k].n) := ((bcell hS.below).1 _ _ lb).trans (hrd k hkL 1 (by decide))
      have x2 : wr.cell? ⟨bb, off + k * 3 + 2, none⟩ = some (.string l[k].b) := ((bcell hS.below).1 _ _ lb).trans (hrd k hkL 2 (by decide))
      obtain ⟨⟨kind, id, t⟩, hx⟩ : ∃ x, x = l[k] := ⟨_, rfl⟩
      rw [← hx] at x0 x1 x2
      dsimp only at x0 x1 x2
      obtain ⟨W1, hW1⟩ : ∃ W, W = wr.alloc (.cells #[.int .i64 kind, .int .i64 id, .string t] 40) := ⟨_, rfl⟩
      have B1 : Below wr.heap.size wr W1 := by rw [hW1]; exact (Below.refl _ _).alloc (Nat.le_refl _) _
      have y0 : W1.cell? ⟨wr.heap.size, 0, none⟩ = some (.int .i64 kind) := by rw [hW1]; exact World.cell?_alloc_at _ _ _ _ rfl
      have y1 : W1.cell? ⟨wr.heap.size, 1, none⟩ = some (.int .i64 id) := by rw [hW1]; exact World.cell?_alloc_at _ _ _ _ rfl
      have y2 : W1.cell? ⟨wr.heap.size, 2, none⟩ = some (.string t) := by rw [hW1]; exact World.cell?_alloc_at _ _ _ _ rfl
      have hlo : wr.heap.size < W1.heap.size := by rw [hW1]; show _ < (wr.heap.push _).size; simp
      have hPo : P < wr.heap.size := by have := hS.pl; omega
      have hGo := hide (fun q hq => hS.gLt q hq)
      have HS1 := hide (hS.below' B1)
      have HE := hide hE
      have HW1 := hide hW1
      obtain ⟨o, ho⟩ : ∃ o, o = wr.heap.size := ⟨_, rfl⟩
      rw [← ho] at y0 y1 y2 hlo hGo hPo
      have Ho := hide ho
      clear hx hrd hS hE B1 hW1 ho
      by_cases h60 : 60 < t.size
      · have q60 : decide (60 < (t.size : Int)) = true := decide_eq_true (by omega)
        go_wp2_with fail
        rw [← unhide HW1]
        go_ret
        exact ⟨rfl, (unhide HS1).below⟩
      · have q60 : decide (60 < (t.size : Int)) = false := decide_eq_false (by omega)
        go_upto_block 2 with fail
        rw [← unhide HW1, ← unhide Ho]
        clear x0 x1 x2
        go_cut [9, 14, 15] from 57 to 215 (fun s e f wx => ∃ (E : Int) (p : Nat) (G : Nat → Prop) (es : List (Int × Blk)) (A1 : Option Addr) (n1 c1 : Nat), s = .pointer (some ⟨p, 0, none⟩) ∧ e = .int .i64 E ∧ f = .int .i64 E ∧ PSt w wx P bk k G H (.pointer (some ⟨p, 0, none⟩)) M es (allL es) A1 n1 c1 ∧ EOk es M (k + 1))
        case first => as_aux_lemma =>
          by_cases hk1 : kind = 1
          · subst hk1
            obtain ⟨N, E, es', hE', hr, hp⟩ := do_put t (unhide HE) hM0 hM1 (by omega)
            have Hr := hide (hr W1 (bk + 1) A1 n1 c1 (unhide HS1).pend.own (unhide HS1).pl.2.2)
            have Hp := hide hp
            have HE' := hide hE'
            clear hr hp hE'
            obtain ⟨f0, f1, r0, r1, lP⟩ := (unhide HS1).facts
            go_wp2_with fail
            refine (unhide Hr).mono ?_
            rintro e w3 ⟨A3, n3, c3, rfl, ho3, hq3, HB3⟩
            have S3 := (unhide HS1).below' HB3
            have P3 := (unhide HS1).pend.made (unhide HS1).gLt (unhide HS1).hLt ho3 hq3
            obtain ⟨W4, hW4⟩ : ∃ W, W = w3.alloc (.cells #[.int .i64 M, .slice A3 n3 c3] 28) := ⟨_, rfl⟩
            have B4 : Below w3.heap.size w3 W4 := by rw [hW4]; exact (Below.refl _ _).alloc (Nat.le_refl _) _
            have s3 := HB3.size
            have s4 : w3.heap.size < W4.heap.size := by rw [hW4]; show _ < (w3.heap.push _).size; simp
            have v0 : W4.cell? ⟨w3.heap.size, 0, none⟩ = some (.int .i64 M) := by rw [hW4]; exact World.cell?_alloc_at _ _ _ _ rfl
            have v1 : W4.cell? ⟨w3.heap.size, 1, none⟩ = some (.slice A3 n3 c3) := by rw [hW4]; exact World.cell?_alloc_at _ _ _ _ rfl
            have y2 : W4.cell? ⟨o, 2, none⟩ = some (.string t) := ((bcell B4).1 _ _ (by omega)).trans (((bcell HB3).1 _ _ hlo).trans y2)
            have y2L := y2
            rw [hW4] at y2L
            have HS4 := hide (S3.below' B4)
            have HP4 := hide (P3.below B4)
            have HW4 := hide hW4
            have hnn : (N != N) = false := by simp
            have hgo := unhide hGo
            obtain ⟨x, hx⟩ : ∃ x, x = w3.heap.size := ⟨_, rfl⟩
            rw [← hx] at v0 v1 s4
            have hxo : ∀ q, G q → q ≠ x := fun q hq => by have := hgo q hq; omega
            have Hxo := hide hxo
            have Hx := hide hx
            clear S3 P3 hW4 ho3 hq3 HB3 B4 f0 f1 r0 r1 y0 y1 hxo hgo hx
            go_wp2_with fail
            rw [← unhide HW4, ← unhide Hx]
            go_wp2_with fail
            refine ((unhide Hp) W4 G _ (unhide HS4).pool).mono ?_
            rintro e w5 ⟨rfl, G5, hP5, hG5, hC5⟩
            have S5 := (unhide HS4).chgG hP5 hG5 hC5
            have P5 := (unhide HP4).chgG hG5 hC5
            have e5 := hC5.block x s4 fun hq => unhide Hxo x hq rfl
            have v0 : w5.cell? ⟨x, 0, none⟩ = some (.int .i64 M) := (World.cell?_of_block (a := ⟨x, 0, none⟩) e5).trans v0
            have v1 : w5.cell? ⟨x, 1, none⟩ = some (.slice A3 n3 c3) := (World.cell?_of_block (a := ⟨x, 1, none⟩) e5).trans v1
            obtain ⟨f0, f1, r0, r1, lP⟩ := S5.facts
            have HS6 := hide (S5.store P5)
            clear S5 P5 hP5 hG5 hC5 e5
            go_wp2_with fail
            go_meet
            case rel => exact ⟨E, p, G5, es', A3, n3, c3, rfl, rfl, rfl, unhide HS6, unhide HE'⟩
          · have q1 : (kind == 1) = false := beq_eq_false_iff_ne.2 hk1
            by_cases hk2 : kind = 2
            · subst hk2
              obtain ⟨E, es', hE', hr, hp⟩ := do_hold id (unhide HE) hM1 (by omega)
              have Hr := hide (hr W1 (bk + 1) A1 n1 c1 (unhide HS1).pend.own (unhide HS1).pl.2.2)
              have Hp := hide hp
              have HE' := hide hE'
              clear hr hp hE'
              obtain ⟨f0, f1, r0, r1, lP⟩ := (unhide HS1).facts
              go_wp2_with fail
              refine (unhide Hr).mono ?_
              rintro e w3 ⟨A3, n3, c3, rfl, ho3, hq3, HB3⟩
              have S3 := (unhide HS1).below' HB3
              have P3 := (unhide HS1).pend.made (unhide HS1).gLt (unhide HS1).hLt ho3 hq3
              have S4 := S3.store P3
              obtain ⟨W4, hW4⟩ : ∃ W, W = stR w3 P M (.slice A3 n3 c3) := ⟨_, rfl⟩
              rw [← hW4] at S4
              have s3 := HB3.size
              have hoP : o ≠ P := by omega
              have y1 : W4.cell? ⟨o, 1, none⟩ = some (.int .i64 id) := by rw [hW4]; exact (World.cell?_of_block (a := ⟨o, 1, none⟩) ((Below.heap_setCell _ ⟨P, 1, none⟩ _ o hoP).trans (Below.heap_setCell w3 ⟨P, 0, none⟩ _ o hoP))).trans (((bcell HB3).1 _ _ hlo).trans y1)
              have y1L := y1
              unfold stR at hW4
              rw [hW4] at y1L
              obtain ⟨f0, f1, r0, r1, lP⟩ := S3.facts
              have HS4 := hide S4
              have HW4 := hide hW4
              clear S3 P3 hW4 ho3 hq3 HB3 S4 y0 y2
              go_wp2_with fail
              rw [← unhide HW4]
              clear y1L
              refine ((unhide Hp) W4 G _ (unhide HS4).pool).mono ?_
              rintro e w5 ⟨rfl, G5, hP5, hG5, hC5⟩
              have HS5 := hide ((unhide HS4).chgG hP5 hG5 hC5)
              clear hP5 hG5 hC5 HS4 HW4 HS1 f0 f1 r0 r1
              go_wp2_with fail
              go_meet
              case rel => exact ⟨E, p, G5, es', A3, n3, c3, rfl, rfl, rfl, unhide HS5, unhide HE'⟩
            · have q2 : (kind == 2) = false := beq_eq_false_iff_ne.2 hk2
              by_cases hk3 : kind = 3
              · subst hk3
                obtain ⟨E, es', hE', hr, hp⟩ := do_drop id (unhide HE) hM1 (by omega)
                have Hr := hide (hr W1 (bk + 1) A1 n1 c1 (unhide HS1).pend.own (unhide HS1).pl.2.2)
                have Hp := hide hp
                have HE' := hide hE'
                clear hr hp hE'
                obtain ⟨f0, f1, r0, r1, lP⟩ := (unhide HS1).facts
                go_wp2_with fail
                refine (unhide Hr).mono ?_
                rintro e w3 ⟨A3, n3, c3, rfl, ho3, hq3, HB3⟩
                have S3 := (unhide HS1).below' HB3
                have P3 := (unhide HS1).pend.made (unhide HS1).gLt (unhide HS1).hLt ho3 hq3
                have S4 := S3.store P3
                obtain ⟨W4, hW4⟩ : ∃ W, W = stR w3 P M (.slice A3 n3 c3) := ⟨_, rfl⟩
                rw [← hW4] at S4
                have s3 := HB3.size
                have hoP : o ≠ P := by omega
                have y1 : W4.cell? ⟨o, 1, none⟩ = some (.int .i64 id) := by rw [hW4]; exact (World.cell?_of_block (a := ⟨o, 1, none⟩) ((Below.heap_setCell _ ⟨P, 1, none⟩ _ o hoP).trans (Below.heap_setCell w3 ⟨P, 0, none⟩ _ o hoP))).trans (((bcell HB3).1 _ _ hlo).trans y1)
                have y1L := y1
                unfold stR at hW4
                rw [hW4] at y1L
                obtain ⟨f0, f1, r0, r1, lP⟩ := S3.facts
                have HS4 := hide S4
                have HW4 := hide hW4
                clear S3 P3 hW4 ho3 hq3 HB3 S4 y0 y2
                go_wp2_with fail
                rw [← unhide HW4]
                clear y1L
                refine ((unhide Hp) W4 G _ (unhide HS4).pool).mono ?_
                rintro e w5 ⟨rfl, G5, hP5, hG5, hC5⟩
                have HS5 := hide ((unhide HS4).chgG hP5 hG5 hC5)
                clear hP5 hG5 hC5 HS4 HW4 HS1 f0 f1 r0 r1
                go_wp2_with fail
                go_meet
                case rel => exact ⟨E, p, G5, es', A3, n3, c3, rfl, rfl, rfl, unhide HS5, unhide HE'⟩
              · have q3 : (kind == 3) = false := beq_eq_false_iff_ne.2 hk3
                clear hk1 hk2 hk3 y1 y2
                have hco := plt_copy (unhide HS1).pool hM0 hM1 ((unhide HE).small hM1)
                obtain ⟨N1, E1, es1, hE1, _, hp1⟩ := do_put ⟨#[122, 122, 122, 122, 122, 122, 122, 122]⟩ (unhide HE) hM0 hM1 (by omega)
                obtain ⟨E2, es2, hE2, _, hp2⟩ := do_drop 1 hE1 hM1 (by omega)
                obtain ⟨E3, es3, _, _, hp3⟩ := do_hold 2 hE2 hM1 (by omega)
                have Hco := hide hco
                have Hp1 := hide hp1
                have Hp2 := hide hp2
                have Hp3 := hide hp3
                clear hco hp1 hp2 hp3 hE1 hE2
                go_wp2_with fail
                refine (unhide Hco).mono ?_
                rintro e v2 ⟨pc, Gc, ec, rfl, hPc, hGc, heq, HB2⟩
                obtain ⟨hEc, hall⟩ := (unhide HE).of hPc.pl.nodup heq
                have S2 := (unhide HS1).below' HB2
                have d2 : ∀ q, Gc q → ¬ G q := fun q h1 h2 => by have := hGc q h1; have := unhide hGo q h2; omega
                have HS2 := hide S2
                have HPc := hide hPc
                have HEc := hide hEc
                have Hall := hide hall
                have HGc := hide hGc
                have Hd2 := hide d2
                clear S2 hPc hEc hall hGc d2 heq HB2 Hco
                go_wp2_with fail
                refine ((unhide Hp1) _ G _ (unhide HS2).pool).mono ?_
                rintro e v3 ⟨rfl, G3, hP3, hG3, hC3⟩
                have hPc3 := (unhide HPc).chg hC3 (unhide Hd2)
                have d3 : ∀ q, Gc q → ¬ G3 q := fun q h1 h2 => (hG3.from' q h2).elim (unhide Hd2 q h1) fun h3 => by have := (unhide HPc).lt q h1; omega
                have HS3 := hide ((unhide HS2).chgG hP3 hG3 hC3)
                have HPc3 := hide hPc3
                have Hd3 := hide d3
                clear hP3 hG3 hC3 hPc3 d3 HS2 HPc Hd2
                go_wp2_with fail
                refine ((unhide Hp2) _ G3 _ (unhide HS3).pool).mono ?_
                rintro e v4 ⟨rfl, G4, hP4, hG4, hC4⟩
                have hPc4 := (unhide HPc3).chg hC4 (unhide Hd3)
                have d4 : ∀ q, Gc q → ¬ G4 q := fun q h1 h2 => (hG4.from' q h2).elim (unhide Hd3 q h1) fun h3 => by have := (unhide HPc3).lt q h1; omega
                have HS4 := hide ((unhide HS3).chgG hP4 hG4 hC4)
                have HPc4 := hide hPc4
                have Hd4 := hide d4
                clear hP4 hG4 hC4 hPc4 d4 HS3 HPc3 Hd3
                go_wp2_with fail
                refine ((unhide Hp3) _ G4 _ (unhide HS4).pool).mono ?_
                rintro e v5 ⟨rfl, G5, hP5, hG5, hC5⟩
                have hPc5 := (unhide HPc4).chg hC5 (unhide Hd4)
                have S5 := (unhide HS4).chgG hP5 hG5 hC5
                have S6 := S5.swap hPc5 (unhide HGc) (unhide HS1).hLt (by omega) (fun q hq => ((unhide HS1).pend.own.lt q hq).2) (unhide HS1).below.size
                rw [← unhide Hall] at S6
                have HS6 := hide S6
                clear hP5 hG5 hC5 hPc5 S5 S6 HS4 HPc4 Hd4
                go_wp2_with fail
                go_meet
                case rel => exact ⟨0, pc, Gc, ec, A1, n1, c1, rfl, rfl, rfl, unhide HS6, (unhide HEc).mono (by omega)⟩
        case rest => as_aux_lemma =>
          clear y0 y1 y2 HS1 HE hGo HW1 Ho hlo hPo q60
          obtain ⟨wv, rfl⟩ : ∃ wv : World, wv = wc := ⟨_, rfl⟩
          obtain ⟨E, p, G, es, A1, n1, c1, rfl, rfl, rfl, hS, hE⟩ := hcut
          have hnd := hE.small hM1
          have hids := hE.ids
          obtain ⟨gt, ge, hrg, hpg⟩ := do_get ask hE hM1
          obtain ⟨K, R, hat, hK, hpr⟩ := do_refs ask hE
          obtain ⟨Fd, hfi, hpf⟩ := do_find b hb hE hM1
          have hal := plt_all hS.pool hnd fun i x e => hids i x.1 x.2 e
          have hln : n1 = (allL es).length := (ksl hS.pend.own).1
          have hn60 : n1 ≤ 60 := by rw [hln, allL_len]; exact hnd
          have hn1M : (n1 : Int) ≤ M := by rw [hln, allL_len]; exact hE.len
          have hplen : ∀ (w : World) (G : Nat → Prop) (s : Value), Plt w G s M es → Calls Tryz.prog 21 #[s] w fun e w' => e = .returned (.int .i64 n1) ∧ w' = w := fun w G s h => pl_len h.pl n1 (by rw [hln, allL_len])
          have hproom : ∀ (w : World) (G : Nat → Prop) (s : Value), Plt w G s M es → Calls Tryz.prog 22 #[s] w fun e w' => e = .returned (.int .i64 (M - n1)) ∧ ∃ q, w' = w.drewN q := fun w G s h => pl_room h.pl hM0 (by omega) (by omega) _ (by rw [hln, allL_len])
          rw [← hln] at hal
          obtain ⟨L, hL⟩ : ∃ L, L = allL es := ⟨_, rfl⟩
          have hS' := hS
          rw [← hL] at hal hrg hat hK hfi hS' hln
          have HL := hide hL
          have HS := hide hS'
          have HE := hide hE
          have Hal := hide hal
          have Hrg := hide hrg
          have Hpg := hide hpg
          have Hat := hide hat
          have HK := hide hK
          have Hfi := hide hfi
          have Hpf := hide hpf
          have Hpr := hide hpr
          have Hlen := hide hplen
          have Hroom := hide hproom
          have Hln := hide hln
          clear hS hS' hE hnd hids hrg hpg hat hK hpr hfi hpf hal hln hplen hproom hL
          go_wp2_with fail
          refine (unhide Hal).mono ?_
          rintro e v2 ⟨⟨A2, c2, rfl, ho2⟩, HB2⟩
          have S2 := (unhide HS).below' HB2
          have hbk2 : bk + 1 ≤ wv.heap.size := (unhide HS).pl.2.2
          have ha2 : ∀ q, (Value.slice A2 n1 c2).ownBlock = some q → ¬ G q ∧ ¬ H q ∧ (Value.slice A1 n1 c1).ownBlock ≠ some q := fun q hq => by
            have h1 := (ho2.lt q hq).1
            exact ⟨fun h2 => by have := (unhide HS).gLt q h2; omega, fun h2 => by have := (unhide HS).hLt q h2; omega, fun h2 => by have := ((unhide HS).pend.own.lt q h2).2; omega⟩
          have hbook := bok_shelves A2 n1 c2 L S2.bok (by omega) (ho2.lower hbk2) (by have := unhide Hln; omega) fun q hq => (ha2 q hq).2.1
          have Hbook := hide hbook
          have HS2 := hide S2
          have Ha2 := hide ha2
          have Ho2 := hide ho2
          clear hbook S2 ha2 ho2 HB2 HS Hal
          go_wp2_with fail
          refine (unhide Hbook).mono ?_
          rintro e v3 ⟨rfl, H3, hb3, hC3, hH3⟩
          have S3 := (unhide HS2).book hb3 hC3 hH3 fun q hq => ⟨(unhide Ha2 q hq).1, (unhide Ha2 q hq).2.2⟩
          have ho3 : Own eSh 56 v3 wv.heap.size (.slice A2 n1 c2) L := (unhide Ho2).same_block fun q hq => hC3.block q ((unhide Ho2).lt q hq).2 (unhide Ha2 q hq).2.1
          have HS3 := hide S3
          have Ho3 := hide ho3
          clear S3 ho3 hb3 hC3 hH3 HS2 Ho2 Hbook Ha2
          go_wp2_with fail
          refine ((unhide Hpg) _ G _ (unhide HS3).pool).mono ?_
          rintro e v4 ⟨rfl, HB4⟩
          have HS4 := hide ((unhide HS3).below' HB4)
          have Ho4 := hide ((unhide Ho3).below HB4)
          obtain ⟨f0, f1, r0, r1, lP⟩ := (unhide HS4).facts
          clear HB4 HS3 Ho3
          go_wp2_with fail
          refine ((unhide Hrg) _ A1 n1 c1 (ksl (unhide HS4).pend.own)).mono ?_
          rintro e v5 ⟨rfl, HB5⟩
          have HS5 := hide ((unhide HS4).below' HB5)
          have Ho5 := hide ((unhide Ho4).below HB5)
          clear HB5 HS4 Ho4 f0 f1 r0 r1 lP
          obtain ⟨f0, f1, r0, r1, lP⟩ := (unhide HS5).facts
          go_wp2_with fail
          refine (rat_any M ask K A1 n1 c1 L _ (ksl (unhide HS5).pend.own) (by omega) (unhide Hat)).mono ?_
          rintro e v6 ⟨rfl, HB6⟩
          have HS6 := hide ((unhide HS5).below' HB6)
          have Ho6 := hide ((unhide Ho5).below HB6)
          clear HB6 HS5 Ho5 f0 f1 r0 r1 lP Hat
          obtain ⟨f0, f1, r0, r1, lP⟩ := (unhide HS6).facts
          go_upto_if 154 with fail
          go_cut [27] from 57 to 215 (fun r wx => r = .int .i64 R ∧ wx = v6)
          case first =>
            rcases unhide HK with ⟨rfl, rfl⟩ | ⟨i, hi, rfl, hR⟩
            · go_wp2_with fail
              go_meet
              case rel => exact ⟨rfl, rfl⟩
            · have hin : i < n1 := by have := unhide Hln; omega
              have hin' : (i : Int) < n1 := by omega
              have hs6 := ksl (unhide HS6).pend.own
              have hc61 := hs6.2.1
              have hc62 := hs6.2.2.1
              obtain ⟨g6, o6, eA, lb6, hrd6⟩ := hs6.2.2.2 (by omega)
              subst eA
              have z1 : v6.cell? ⟨g6, o6 + i * 3 + 1, none⟩ = some (.int .i64 L[i].refs) := hrd6 i hi 1 (by decide)
              rw [hR] at z1
              clear hR hs6 hrd6
              go_wp2_with fail
              go_meet
              case rel => exact ⟨rfl, rfl⟩
          case rest => as_aux_lemma =>
            obtain ⟨rfl, hwc⟩ := hcut
            obtain rfl := hwc.symm
            clear f0 f1 r0 r1 lP HK hwc Hrg Hpg
            obtain ⟨D, hD⟩ : ∃ D : World → Prop, D = fun W => PSt w W P bk (k + 1) G H3 (.pointer (some ⟨p, 0, none⟩)) M es L A1 n1 c1 ∧ Sl eSh W A2 n1 c2 L := ⟨_, rfl⟩
            have T : D v6.drew := by rw [hD]; exact ⟨(unhide HS6).drewN 1, ksl ((unhide Ho6).drewN 1)⟩
            have hDb : ∀ W W', D W → Below W.heap.size W W' → D W' := fun W W' h hb => by rw [hD] at h ⊢; exact ⟨h.1.below' hb, h.2.below hb⟩
            have hDq : ∀ W q, D W → D (W.drewN q) := fun W q h => hDb W _ h (below_drewN (Below.refl _ _) q)
            have hDs : ∀ W, D W → W.cell? ⟨P, 0, none⟩ = some (.int .i64 M) ∧ W.cell? ⟨P, 1, none⟩ = some (.slice A1 n1 c1) := fun W h => by
              rw [hD] at h
              obtain ⟨_, _, h1, h2, _⟩ := h.1.facts
              exact ⟨h1, h2⟩
            have Hc1 := hide (show ∀ W, D W → Calls Tryz.prog 17 #[.slice A2 n1 c2, .slice A1 n1 c1] W fun e w' => e = Ending.returned (.bool true) ∧ D w' from fun W h => (sameShelves_yes A2 c2 A1 c1 n1 L W (by rw [hD] at h; exact h.2) (by rw [hD] at h; exact ksl h.1.pend.own)).mono fun e w' ⟨a, q, hw⟩ => ⟨a, by rw [hw]; exact hDq W q h⟩)
            have Hc2 := hide (show ∀ W, D W → Calls Tryz.prog 18 #[.pointer (some ⟨p, 0, none⟩), .int .i64 ask] W fun e w' => e = Ending.returned (.int .i64 R) ∧ D w' from fun W h => ((unhide Hpr) W G _ (by rw [hD] at h; exact h.1.pool)).mono fun e w' ⟨a, hw⟩ => ⟨a, by rw [hw]; exact h⟩)
            have Hc3 := hide (show ∀ W, D W → Calls Tryz.prog 19 #[.pointer (some ⟨p, 0, none⟩), .string b] W fun e w' => e = Ending.returned (.int .i64 Fd) ∧ D w' from fun W h => ((unhide Hpf) W G _ (by rw [hD] at h; exact h.1.pool)).mono fun e w' ⟨a, hb⟩ => ⟨a, hDb W w' h hb⟩)
            have Hc4 := hide (show ∀ W, D W → Calls Tryz.prog 20 #[.agg #[.int .i64 M, .slice A1 n1 c1], .string b] W fun e w' => e = Ending.returned (.int .i64 Fd) ∧ D w' from fun W h => (rfind_any M Fd b A1 n1 c1 L W (by rw [hD] at h; exact ksl h.1.pend.own) (by omega) (unhide Hfi)).mono fun e w' ⟨a, hb⟩ => ⟨a, hDb W w' h hb⟩)
            have Hc5 := hide (show ∀ W, D W → Calls Tryz.prog 21 #[.pointer (some ⟨p, 0, none⟩)] W fun e w' => e = Ending.returned (.int .i64 n1) ∧ D w' from fun W h => ((unhide Hlen) W G _ (by rw [hD] at h; exact h.1.pool)).mono fun e w' ⟨a, hw⟩ => ⟨a, by rw [hw]; exact h⟩)
            have Hc6 := hide (show ∀ W, D W → Calls Tryz.prog 22 #[.pointer (some ⟨p, 0, none⟩)] W fun e w' => e = Ending.returned (.int .i64 (M - n1)) ∧ D w' from fun W h => ((unhide Hroom) W G _ (by rw [hD] at h; exact h.1.pool)).mono fun e w' ⟨a, q, hw⟩ => ⟨a, by rw [hw]; exact hDq W q h⟩)
            have HDs := hide hDs
            have HDi := hide (show ∀ W, D W → PSt w W P bk (k + 1) G H3 (.pointer (some ⟨p, 0, none⟩)) M es (allL es) A1 n1 c1 from fun W h => by rw [hD] at h; have h1 := h.1; rw [unhide HL] at h1; exact h1)
            clear hD hDb hDq hDs HS6 Ho6 Hpr Hpf Hlen Hroom Hfi
            go_wp2_with fail
            go_region_held3 (fun W => W.cell? ⟨P, 0, none⟩ = some (.int .i64 M) ∧ W.cell? ⟨P, 1, none⟩ = some (.slice A1 n1 c1))
              (with_reducible exact unhide HDs _ T)
              ((first | (go_at_call 17; refine (unhide Hc1 _ T).mono ?_; intro e v hv; obtain ⟨he, hT⟩ := hv; subst he; clear T; have T := hT; clear hT) | (go_at_call 18; refine (unhide Hc2 _ T).mono ?_; intro e v hv; obtain ⟨he, hT⟩ := hv; subst he; clear T; have T := hT; clear hT) | (go_at_call 19; refine (unhide Hc3 _ T).mono ?_; intro e v hv; obtain ⟨he, hT⟩ := hv; subst he; clear T; have T := hT; clear hT) | (go_at_call 20; refine (unhide Hc4 _ T).mono ?_; intro e v hv; obtain ⟨he, hT⟩ := hv; subst he; clear T; have T := hT; clear hT) | (go_at_call 21; refine (unhide Hc5 _ T).mono ?_; intro e v hv; obtain ⟨he, hT⟩ := hv; subst he; clear T; have T := hT; clear hT) | (go_at_call 22; refine (unhide Hc6 _ T).mono ?_; intro e v hv; obtain ⟨he, hT⟩ := hv; subst he; clear T; have T := hT; clear hT)))
            rw [show ((M - (n1 : Int)) != IntKind.i64.wrap (M - (n1 : Int))) = false by rw [wrap_small (M - (n1 : Int)) (by omega) (by omega)]; simp]
            have HS7 := hide (unhide HDi _ T)
            clear T
            go_wp2_with fail
            go_roundw
            case rel => exact ⟨k + 1, p, G, H3, es, A1, n1, c1, by omega, rfl, by go_num, unhide HS7, unhide HE⟩
            case measure => simp [intOf]; omega
    · as_aux_lemma =>
        have hlt' : ¬ (k : Int) < n := by omega
        have Hap := hide (bok_apart hS.bok (by omega))
        have HB := hide hS.below
        have hbw : w.heap.size ≤ bk := by have := hS.pl; omega
        clear hS hE
        go_wp2_with (first | (go_at_call 7; refine (nil_put _ _).mono ?_; rintro e w' ⟨he, hw⟩; subst he; obtain rfl := hw.symm) | (go_at_call 14; refine (nil_get _ _).mono ?_; rintro e w' ⟨he, hw⟩; subst he; obtain rfl := hw.symm) | (go_at_call 9; refine (nil_hold _ _).mono ?_; rintro e w' ⟨he, hw⟩; subst he; obtain rfl := hw.symm) | (go_at_call 10; refine (nil_drop _ _).mono ?_; rintro e w' ⟨he, hw⟩; subst he; obtain rfl := hw.symm) | (go_at_call 18; refine (nil_refs _ _).mono ?_; rintro e w' ⟨he, hw⟩; subst he; obtain rfl := hw.symm) | (go_at_call 19; refine (nil_find _ _).mono ?_; rintro e w' ⟨he, hw⟩; subst he; obtain rfl := hw.symm) | (go_at_call 12; refine (nil_all _).mono ?_; rintro e w' ⟨he, hw⟩; subst he; obtain rfl := hw.symm) | (go_at_call 21; refine (nil_len _).mono ?_; rintro e w' ⟨he, hw⟩; subst he; obtain rfl := hw.symm) | (go_at_call 22; refine (nil_room _).mono ?_; rintro e w' ⟨he, hw⟩; subst he; obtain rfl := hw.symm) | (go_at_call 11; refine (nil_copy _).mono ?_; rintro e w' ⟨he, hw⟩; subst he; obtain rfl := hw.symm) | (go_at_call 23; refine (unhide Hap).mono ?_; rintro e w9 ⟨he, HB9⟩; subst he))
        go_ret
        exact ⟨rfl, (unhide HB).trans (HB9.mono hbw)⟩
theorem plays_any (most : Int) (A : Option Addr) (n c : Nat) (l : List Op20) (ask : Int) (b : ByteArray) (w : World) (hs : Sl eOp w A n c l) :
    Calls Tryz.prog 3 #[.int .i64 most, .slice A n c, .int .i64 ask, .string b] w fun e w' => e = .returned (.bool true) ∧ Below w.heap.size w w' := by
  by_cases hn : n ≤ 80
  · by_cases hb : b.size ≤ 100
    · exact plays_few most ask b A n c l w hs hn hb
    · exact plays_long most ask b A n c w hn (by omega)
  · exact plays_many most ask b A n c w (by omega)
end Go.Proofs.YtnpgjdhigcjihaaGreatDoor
