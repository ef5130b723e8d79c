/- Joined texts: LawWritesW. -/
import Derived.Test.YtjjfdkdneibjbaaGreatDoorJw31
import Derived.Test.YtjjfdkdneibjbaaGreatDoorJw32
/- Walk of the law JobWrites. -/
namespace Go.Proofs.YtjjfdkdneibjbaaGreatDoor
open Go.RowKit

set_option maxHeartbeats 2000000 in
set_option maxRecDepth 100000 in
theorem writes_out (bl : Int) (first : ByteArray) (A : Option Addr) (n c : Nat) (w : World) (hc : n ≤ 9223372036854775807) (h : bl < 1 ∨ 40 < bl ∨ 400 < first.size ∨ 30 < n) :
    Calls Tryz.prog 3 #[.int .i64 bl, .string first, .slice A n c] w fun e w' => e = .returned (.bool true) ∧ Below w.heap.size w w' := by
  by_cases h1 : bl < 1
  · clear h
    go_enter Tryz.func3, Tryz.ntmps3
    go_wp2_with (go_at_call 7; refine (alive20 _).mono ?_; rintro e w1 ⟨he, B1⟩; subst he)
    go_ret
    exact ⟨rfl, B1⟩
  · by_cases h2 : 40 < bl
    · clear h
      go_enter Tryz.func3, Tryz.ntmps3
      go_wp2_with (go_at_call 7; refine (alive20 _).mono ?_; rintro e w1 ⟨he, B1⟩; subst he)
      go_ret
      exact ⟨rfl, B1⟩
    · by_cases h3 : 400 < first.size
      · have h3' : (400 : Int) < first.size := by omega
        clear h
        go_enter Tryz.func3, Tryz.ntmps3
        go_wp2_with (go_at_call 7; refine (alive20 _).mono ?_; rintro e w1 ⟨he, B1⟩; subst he)
        go_ret
        exact ⟨rfl, B1⟩
      · have h3' : ¬ (400 : Int) < first.size := by omega
        have h4' : (30 : Int) < n := by omega
        clear h
        go_enter Tryz.func3, Tryz.ntmps3
        go_wp2_with (go_at_call 7; refine (alive20 _).mono ?_; rintro e w1 ⟨he, B1⟩; subst he)
        go_ret
        exact ⟨rfl, B1⟩
set_option maxHeartbeats 8000000 in
set_option maxRecDepth 100000 in
theorem writes_in (NB : Nat) (first : ByteArray) (A : Option Addr) (n c : Nat) (l : List Op20) (w : World) (hs : Sl eOp w A n c l) (hb1 : 1 ≤ NB) (hb2 : NB ≤ 40) (hf : first.size ≤ 400) (hn : n ≤ 30) :
    Calls Tryz.prog 3 #[.int .i64 (NB : Int), .string first, .slice A n c] w fun e w' => e = .returned (.bool true) ∧ Below w.heap.size w w' := by
  have hnl := hs.1
  have hc1 := hs.2.1
  have hc2 := hs.2.2.1
  have R := hide hs.2.2.2
  have Hnl := hide hnl
  have qa : ¬ (NB : Int) < 1 := by omega
  have qb : ¬ (40 : Int) < NB := by omega
  have qc : ¬ (400 : Int) < first.size := by omega
  have qd : ¬ (30 : Int) < n := by omega
  obtain ⟨sz, hsz⟩ : ∃ sz, sz = min first.size (NB * 8) := ⟨_, rfl⟩
  have Hsz := hide hsz
  have qm : min (first.size : Int) ((NB : Int) * 8) = (sz : Int) := by omega
  clear hs hnl hsz
  go_enter Tryz.func3, Tryz.ntmps3
  go_wp2_with fail
  refine (alive20 _).mono ?_
  rintro e w0 ⟨rfl, B0⟩
  go_wp2_with fail
  refine (film_new NB ⟨hb1, by omega⟩ w0).mono ?_
  rintro e w1 ⟨⟨p, g, cc, rfl, hp, hg, hF⟩, B1⟩
  rw [← zerosB_list] at hF
  have s0 := B0.size
  have s1 := B1.size
  have B1' : Below w.heap.size w w1 := B0.trans (B1.mono (by omega))
  have HF := hide hF
  have lp := hF.lp
  have lg := hF.lg
  clear B0 B1 hF
  go_wp2_with fail
  refine (pl_new (G := fun k => w1.heap.size ≤ k) 60 w1 (fun k hk => hk)).mono ?_
  rintro e w2 ⟨sp, rfl, hP, B2⟩
  rw [show min (max (60 : Int) 0) 60 = 60 from by decide] at hP
  have s2 := B2.size
  have B2' : Below w.heap.size w w2 := B1'.trans (B2.mono (by omega))
  have HF2 := hide ((unhide HF).below B2)
  have HP := hide hP.tight
  clear HF B1' B2 hP
  go_wp2_with fail
  have hSz : (first.extract 0 sz).size ≤ 8 * NB := by have := unhide Hsz; rw [ByteArray.size_extract]; omega
  obtain ⟨cur, hcur⟩ : ∃ cur, cur = layB (zerosB NB) 0 (first.extract 0 sz) := ⟨_, rfl⟩
  have hcs : cur.size = 8 * NB := by rw [hcur, layB_size (by rw [zerosB_size]; omega), zerosB_size]
  have Hw := hide (flm_write 0 (first.extract 0 sz) (zerosB NB) (unhide HF2) (by rw [zerosB_size]; omega))
  rw [← hcur] at Hw
  clear HF2 hcur hSz
  refine (unhide Hw).mono ?_
  rintro e w3 ⟨rfl, hF, C3⟩
  have s3 := C3.size
  have B3' : Below w.heap.size w w3 := B2'.trans (C3.to_below (by omega) (fun k e => by omega))
  have HP3 := hide ((unhide HP).chg C3 fun k hk e => by have := hk.1; omega)
  have Hcs := hide hcs
  have Hby := hide (bytes_any hF)
  rw [show (⟨cur.data.toList.toArray⟩ : ByteArray) = cur from by simp] at Hby
  have HF3 := hide hF
  clear Hw C3 B2' HP hF hcs
  go_wp2_with fail
  refine (unhide Hby).mono ?_
  rintro e w4 ⟨rfl, hw4⟩
  subst hw4
  have Hn := hide (stl_new NB (unhide HF3) (unhide Hcs) (by omega))
  clear Hby HF3
  go_wp2_with fail
  refine (unhide Hn).mono ?_
  rintro e w5 ⟨⟨q, m, rfl, hq, hm, hS⟩, B5⟩
  have s5 := B5.size
  have B5' : Below w.heap.size w w5 := B3'.trans (B5.mono (by omega))
  have HP5 := hide ((unhide HP3).below B5)
  have HP3lt := hide (unhide HP3).lt
  have Hj := hide (new_jb 1 1 (.inl rfl) (by decide) (.pointer none) (fun _ => false) hS (by omega) (fun h => by omega) none 0 0 [] (Sl.nil_ _ _) (by decide))
  have HS := hide hS
  clear Hn B3' hS B5 HP3
  go_wp2_with fail
  refine (unhide Hj).mono ?_
  rintro e w6 ⟨⟨J, H, rfl, hJ, hH⟩, B6⟩
  have s6 := B6.size
  have B6' : Below w.heap.size w w6 := B5'.trans (B6.mono (by omega))
  have R0 : ∃ O, Run (.pointer (some ⟨sp, 0, none⟩)) 60 J 1 1 (todoL 1 (fun _ => false) NB) [] q NB cur (noneL 64, []) 0 0 O (fun b => b = p ∨ b = g) w6 ∧ ∀ b, O b → w.heap.size ≤ b := by
    have hJ' := hJ
    rw [← extsL_none] at hJ'
    refine ⟨_, Run.start hJ' ((unhide HS).below B6) ((unhide HP5).below B6) ⟨fun k hk hf => ?_, fun k hk hf => ?_, fun k hk hf => ?_, fun k hk hf => ?_, fun k hk hf => ?_, fun k hk hf => ?_⟩ (JInv.fresh (by omega) (unhide Hcs) _ _), fun b hb => ?_⟩
    · have h1 := hk.1
      have h2 := hk.2
      rcases hf with rfl | rfl <;> omega
    · have h1 := hk.2
      have h2 := hH k hf
      omega
    · have h1 := (unhide HS).lt k hk
      have h2 := hH k hf
      omega
    · have h1 := hk.1
      have h2 := hk.2
      rcases hf with rfl | rfl <;> omega
    · rcases hk with rfl | rfl <;> rcases hf with rfl | rfl <;> omega
    · have h1 := (unhide HS).ltI k hf
      have h2 := hH k hk
      omega
    · rcases hb with hb | hb | hb
      · have := hb.1; omega
      · rcases hb with rfl | rfl <;> omega
      · have := hH b hb; omega
  have HR0 := hide R0
  have qz : ((cur.size : Int) != (NB : Int) * 8) = false := by have := unhide Hcs; simp; omega
  clear R0 hJ hH HS HP5 Hj B5' B6 HP3lt
  obtain ⟨T, hT⟩ : ∃ T, T = todoL 1 (fun _ => false) NB := ⟨_, rfl⟩
  have hTl : T.length = NB := by rw [hT, todoL_full]; simp
  have HTl := hide hTl
  have HT := hide (show T = List.range NB by rw [hT, todoL_full])
  rw [← hT] at HR0
  have HB6 := hide B6'
  clear hT hTl B6'
  go_wp2_with fail
  go_loopw [15] (fun i wr => ∃ k r : Nat, k ≤ n ∧ r ≤ NB ∧ i = .int .i64 (k : Int) ∧ (∃ O, Run (.pointer (some ⟨sp, 0, none⟩)) 60 J 1 1 T [] q NB cur (noneL 64, []) 0 r O (fun b => b = p ∨ b = g) wr ∧ ∀ b, O b → w.heap.size ≤ b) ∧ Below w.heap.size w wr) (fun i _ => n - (intOf i).toNat)
  case atStart => exact ⟨0, 0, Nat.zero_le _, Nat.zero_le _, rfl, unhide HR0, unhide HB6⟩
  case round =>
    obtain ⟨k, r, hk, hr, rfl, ⟨O, hR, hO⟩, HB⟩ := hrel
    have sr := HB.size
    by_cases hlt : k < n
    · have hlt' : (k : Int) < n := by omega
      have hkp : k < l.length := by have := unhide Hnl; omega
      obtain ⟨b, off, eA, lA, hrd⟩ := unhide R (by omega)
      subst eA
      have x1 : wr.cell? ⟨b, off + k * 3 + 1, none⟩ = some (.int .i64 l[k].n) := ((bcell HB).1 _ _ lA).trans (hrd k hkp 1 (by decide))
      have x2 : wr.cell? ⟨b, off + k * 3 + 2, none⟩ = some (.string l[k].b) := ((bcell HB).1 _ _ lA).trans (hrd k hkp 2 (by decide))
      obtain ⟨X, hX⟩ : ∃ y, y = l[k].n := ⟨_, rfl⟩
      obtain ⟨S, hS⟩ : ∃ y, y = l[k].b := ⟨_, rfl⟩
      rw [← hX] at x1
      rw [← hS] at x2
      have BD : Below wr.heap.size wr wr.drew := (Below.refl _ _).drew
      have Hwr := hide (run_write X S (hR.below BD))
      have HB' := hide HB
      have HO := hide hO
      clear hrd hX hS hkp hR HR0 HB hO
      by_cases h100 : 100 < S.size
      · have h100' : (100 : Int) < S.size := by omega
        clear h100
        go_wp2_with fail
        go_ret
        exact ⟨rfl, unhide HB'⟩
      · have h100' : ¬ (100 : Int) < S.size := by omega
        clear h100
        go_wp2_with fail
        go_still_tail 11, (by kernel_rfl)
        change wpList _ _ _ _ _ wr.drew
        go_wp2_with fail
        refine (unhide Hwr).mono ?_
        rintro e w7 ⟨⟨x, rfl⟩, hR7, C7⟩
        have sd : wr.drew.heap.size = wr.heap.size := rfl
        have s7 := C7.size
        have B7 := hide ((unhide HB').trans ((BD.mono sr).trans (C7.to_below (by omega) (fun b hb => hb.elim (unhide HO b) (by rintro (rfl | rfl) <;> omega)))))
        have Hst := hide (run_step 1 hR7 (by have := unhide HTl; omega) (by decide) (.inl (by decide)) (by decide))
        clear hR7 C7 Hwr x1 x2
        go_wp2_with fail
        refine (unhide Hst).mono ?_
        rintro e w8 ⟨rfl, ⟨O8, hR8, hW8⟩, C8⟩
        have s8 := C8.size
        have B8 := hide ((unhide B7).trans (C8.to_below (by omega) (unhide HO)))
        have HR8 := hide hR8
        have HO8 := hide (fun b hb => (hW8.from' b hb).elim (unhide HO b) fun e => by omega : ∀ b, O8 b → w.heap.size ≤ b)
        have Hr8 := hide (show r + min 1 (T.length - r) ≤ NB by have := unhide HTl; omega)
        clear hR8 C8 B7 Hst hW8
        go_wp2_with fail
        go_roundw
        case rel => exact ⟨k + 1, _, by omega, unhide Hr8, by go_num, ⟨O8, unhide HR8, unhide HO8⟩, unhide B8⟩
        case measure => simp [intOf]; omega
    · have hlt' : ¬ (k : Int) < n := by omega
      have Hst := hide (run_step 100 hR (by have := unhide HTl; omega) (by decide) (.inl (by decide)) (by decide))
      have hmin : r + min 100 (T.length - r) = NB := by have := unhide HTl; omega
      rw [hmin] at Hst
      have HB' := hide HB
      have HO := hide hO
      clear hR HR0 HB hO hmin HB6
      go_wp2_with fail
      refine (unhide Hst).mono ?_
      rintro e w7 ⟨rfl, ⟨O7, hR7, hW7⟩, C7⟩
      have s7 := C7.size
      have B7 := hide ((unhide HB').trans (C7.to_below (by omega) (unhide HO)))
      have hR7' : Run (.pointer (some ⟨sp, 0, none⟩)) 60 J 1 1 T [] q NB cur (noneL 64, []) 0 T.length O7 (fun b => b = p ∨ b = g) w7 := by rw [unhide HTl]; exact hR7
      have Hp := hide (run_point 1 hR7')
      have HR7 := hide hR7
      obtain ⟨L, hL⟩ : ∃ L, L = (runT cur T (noneL 64, [])).1 := ⟨_, rfl⟩
      obtain ⟨ES, hES⟩ : ∃ L, L = (runT cur T (noneL 64, [])).2 := ⟨_, rfl⟩
      have hfacts : L.length = 64 ∧ InPool L ∧ ∀ k, k < NB → GetE ES (L.getD k 0) (blkB cur k) ∧ 0 ≤ L.getD k 0 := by
        have hi0 : JInv NB cur 0 (todoL 1 (fun _ => false) NB) (noneL 64, []) := JInv.fresh (by omega) (unhide Hcs) 1 (fun _ => false)
        rw [todoL_full, ← unhide HT] at hi0
        have ht := told_run T [] hi0 (by have := unhide HTl; omega) (Told.nil _ _) (fun k _ h => by simp at h)
        rw [List.nil_append] at ht
        rw [hL, hES]
        refine ⟨ht.2.len, ht.2.inp, fun k hk => ?_⟩
        have hkT : k ∈ T := by rw [unhide HT]; exact List.mem_range.2 hk
        exact ⟨ht.1.get k hkT, ht.1.nn k hkT⟩
      have HFa := hide hfacts
      rw [← hL] at Hp
      have hget : ∀ k, k < NB → ∀ W, Below w7.heap.size w7 W → Calls Tryz.prog 18 #[.pointer (some ⟨sp, 0, none⟩), .int .i64 (L.getD k 0)] W fun e w' => e = .returned (.tuple #[.string (blkB cur k), .int .i64 0]) ∧ Below W.heap.size W w' := fun k hk W hb => by
        refine run_get (L.getD k 0) (blkB cur k) (hR7.below hb) ?_
        have := (hfacts.2.2 k hk).1
        rw [hES] at this
        rw [List.take_of_length_le (by have := unhide HTl; omega)]
        exact this
      have Hget := hide hget
      have hkp : ∀ W, Below w7.heap.size w7 W → Calls Tryz.prog 19 #[.pointer (some ⟨q, 0, none⟩)] W fun e w' => e = .returned (.slice none 0 0) ∧ w' = W := fun W hb => by
        have hR' := hR7.below hb
        rw [unhide HT] at hR'
        exact run_kept hR'
      have Hkp := hide hkp
      clear hR7 hR7' Hst C7 hW7 hL hES hfacts hget hkp
      go_wp2_with fail
      refine (unhide Hp).mono ?_
      rintro e w8 ⟨⟨A8, c8, rfl, ho8⟩, B8⟩
      obtain ⟨E, hE⟩ : ∃ E, E = extsL L 64 := ⟨_, rfl⟩
      rw [← hE] at ho8 ⊢
      obtain ⟨N8, hN8⟩ : ∃ N, N = E.length := ⟨_, rfl⟩
      rw [← hN8] at ho8 ⊢
      have HE := hide hE
      have HO8 := hide ho8
      have HN8 := hide hN8
      have B8' := hide ((unhide B7).trans (B8.mono (by omega)))
      have s8 := B8.size
      have B78 := hide B8
      clear ho8 hE hN8 B8 Hp
      obtain ⟨w9, hw9⟩ : ∃ W, W = w8.alloc (.cells #[.int .i64 1, .int .i64 1, .int .i64 1, .slice A8 N8 c8] 44) := ⟨_, rfl⟩
      have B89 : Below w8.heap.size w8 w9 := by rw [hw9]; exact (Below.refl _ _).alloc (Nat.le_refl _) _
      have s9 := B89.size
      have hsl9 : Sl eE w9 A8 N8 c8 E := by
        obtain ⟨A', c', hv, hs', _⟩ := ((unhide HO8).below B89).sl
        injection hv with v1 v2 v3
        rw [v1, v2, v3]; exact hs'
      have Hof := hide (of_any A8 N8 c8 E w9 hsl9)
      have B9 := hide ((unhide B8').trans (B89.mono (by omega)))
      have B79 := hide ((unhide B78).trans (B89.mono (by omega)))
      clear B89 hsl9
      go_wp2_with fail
      rw [← hw9]
      clear hw9
      refine (unhide Hof).mono ?_
      rintro e w2 ⟨rfl, HB2⟩
      have s10 := HB2.size
      have B10 := hide ((unhide B9).trans (HB2.mono (by omega)))
      have B710 := hide ((unhide B79).trans (HB2.mono (by omega)))
      obtain ⟨w3, hw3⟩ : ∃ W, W = (w2.alloc (.cells (numCells (noneL 0)).toArray 48)).setCells w2.heap.size 0 (numCells (ofL E)) := ⟨_, rfl⟩
      have hl64 : (noneL 0).length = 64 := noneL_len (by omega)
      have a3 : Arr w3 w2.heap.size 48 (ofL E) := by rw [hw3]; exact (Arr.alloc w2 _ (noneL 0)).store (by rw [ofL_len, hl64])
      have B3 : Below w2.heap.size w2 w3 := by rw [hw3]; exact below_setCells (Nat.le_refl _) _ _ _ ((Below.refl _ _).alloc (Nat.le_refl _) _)
      have hs3 : w2.heap.size + 1 ≤ w3.heap.size := by rw [hw3, size_setCells]; show _ ≤ (w2.heap.push _).size; simp
      have hl' : (numCells (ofL E)).length = 64 := by rw [numCells_len, ofL_len]
      have Hl' := hide hl'
      have Hl64 := hide hl64
      have H3 := hide a3
      have HL := hide (ofL_len E)
      have B11 := hide ((unhide B10).trans (B3.mono (by omega)))
      have B711 := hide ((unhide B710).trans (B3.mono (by omega)))
      have hM : ∀ k, k < NB → (ofL E).getD k 0 = L.getD k 0 := fun k hk => by
        have hf := unhide HFa
        rw [unhide HE, ofL_exts L hf.2.1 64 (Nat.le_refl _) k (by omega), if_pos ⟨by omega, (hf.2.2 k hk).2⟩]
      have HM := hide hM
      clear a3 hl' hl64 hM HB2 B3 Hof
      go_wp2_with (refine wpList_store_mid rfl _ _ _ rfl w2.heap.size 0 (numCells (ofL E)).toArray rfl rfl ((Arr.alloc w2 48 (noneL 0)).there (by rw [List.size_toArray, unhide Hl', unhide Hl64])) (by rw [Tryz.infoMap, List.size_toArray, unhide Hl']) (all_oneCell_toArray (numCells_one _)) ?_)
      change Code.wp _ _ _ _ ((w2.alloc (.cells (numCells (noneL 0)).toArray 48)).setCells w2.heap.size 0 (numCells (ofL E)))
      rw [← hw3]
      clear hw3
      obtain ⟨M, hM⟩ : ∃ M, M = ofL E := ⟨_, rfl⟩
      rw [← hM] at H3 HL HM
      obtain ⟨pm, hpm⟩ : ∃ p, p = w2.heap.size := ⟨_, rfl⟩
      have hpm2 : w2.heap.size ≤ pm := by omega
      rw [← hpm] at H3 hs3 ⊢
      clear hM hpm
      go_wp2_with fail
      go_loopw [21, 22, 23] (fun i _ _ wr => ∃ k : Nat, k ≤ NB ∧ i = .int .i64 (k : Int) ∧ Below w3.heap.size w3 wr) (fun i _ _ _ => NB - (intOf i).toNat)
      case atStart => exact ⟨0, Nat.zero_le _, rfl, Below.refl _ _⟩
      case round =>
        obtain ⟨k, hk, rfl, HBr⟩ := hrel
        have sr := HBr.size
        by_cases hlt : k < NB
        · have hlt' : (k : Int) < NB := by omega
          obtain ⟨x, hx⟩ : ∃ x, x = L.getD k 0 := ⟨_, rfl⟩
          have hMk : M[k]'(by have := unhide HL; omega) = x := by
            have := unhide HM k hlt
            rw [List.getD_eq_getElem?_getD, List.getElem?_eq_getElem (by have := unhide HL; omega), Option.getD_some] at this
            rw [this, hx]
          have hx0 : 0 ≤ x := by rw [hx]; exact ((unhide HFa).2.2 k hlt).2
          have m1 : wr.cell? ⟨pm, k, none⟩ = some (.int .i64 x) := by
            rw [← hMk]
            exact ((bcell HBr).1 pm k (by omega)).trans ((unhide H3).cell _)
          obtain ⟨S, hS⟩ : ∃ S, S = blkB cur k := ⟨_, rfl⟩
          have Hg := hide (unhide Hget k hlt wr ((unhide B711).trans (HBr.mono (by omega))))
          rw [← hx, ← hS] at Hg
          have q1 : (k : Int) * 8 = ((8 * k : Nat) : Int) := by omega
          have q2 : ((k : Int) + 1) * 8 = ((8 * k + 8 : Nat) : Int) := by omega
          have q3 : cur.extract (8 * k) (8 * k + 8) = S := by
            rw [hS]
            apply bytes_ext
            intro j
            rw [blkB_get]
            rw [ByteArray.data_extract, Array.toList_extract, List.extract_eq_take_drop, show 8 * k + 8 - 8 * k = 8 by omega]
            by_cases hj : j < 8
            · rw [if_pos hj, List.getElem?_take_of_lt hj, List.getElem?_drop]
            · rw [if_neg hj, List.getElem?_take_eq_none (by omega)]
          have HBr' := hide HBr
          have hcu : 8 * k + 8 ≤ cur.size := by have := unhide Hcs; omega
          have hpmr : pm < wr.heap.size := by omega
          clear HBr hMk hx hS
          go_wp2_with fail
          refine (unhide Hg).mono ?_
          rintro e w4 ⟨rfl, HB4⟩
          have m2 := ((bcell HB4).1 pm k (by omega)).trans m1
          have B4 := hide ((unhide HBr').trans (HB4.mono (by omega)))
          clear HB4 m1 Hg HBr'
          go_wp2_with fail
          go_roundw
          case rel => exact ⟨k + 1, by omega, by go_num, unhide B4⟩
          case measure => simp [intOf]; omega
        · have hlt' : ¬ (k : Int) < NB := by omega
          have Hk2 := hide (unhide Hkp wr ((unhide B711).trans (HBr.mono (by omega))))
          have BF := hide ((unhide B11).trans (HBr.mono (by omega)))
          clear HBr
          go_wp2_with fail
          refine (unhide Hk2).mono ?_
          rintro e w4 ⟨rfl, hw4⟩
          subst hw4
          go_wp2_with fail
          go_ret
          exact ⟨rfl, unhide BF⟩
theorem writes_any (bl : Int) (first : ByteArray) (A : Option Addr) (n c : Nat) (l : List Op20) (w : World) (hs : Sl eOp w A n c l) :
    Calls Tryz.prog 3 #[.int .i64 bl, .string first, .slice A n c] w fun e w' => e = .returned (.bool true) ∧ Below w.heap.size w w' := by
  by_cases h : bl < 1 ∨ 40 < bl ∨ 400 < first.size ∨ 30 < n
  · exact writes_out bl first A n c w (Nat.le_trans hs.2.1 hs.2.2.1) h
  · obtain ⟨NB, rfl⟩ : ∃ NB : Nat, bl = (NB : Int) := ⟨bl.toNat, by omega⟩
    exact writes_in NB first A n c l w hs (by omega) (by omega) (by omega) (by omega)
end Go.Proofs.YtjjfdkdneibjbaaGreatDoor
