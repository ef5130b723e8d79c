/- Walk of package scrub: Look. -/
import Derived.Test.YtdpbjigdihajjaaDoorScrG
namespace Go.Proofs.YtdpbjigdihajjaaDoor
open Go.RowKit

/-- What a look tells: of the blocks, of those that lack. -/
def Told (T : List (Int × Int)) (l : List Shv) (r : List (Int × Int)) : Prop :=
  ∃ ks : List Int, r.Perm (bads (atN T) l l.length ++ lackL ks) ∧ ks.Nodup ∧ ∀ id, id ∈ ks ↔ id ∈ T.map (·.1) ∧ id ∉ l.map (·.id)
theorem bad_seen {X : List (ByteArray × Int)} {l : List Shv} {k : Nat} {Y : List (Int × Int)} (h : Seen k l X Y) (W : Int → Int) (b : Shv) :
    bad W ((l.take k).map (·.bytes)) b = (if zeroB b.bytes = true then [(1, b.id)] else []) ++ ((if 0 < atN X b.bytes then [(2, b.id)] else []) ++ badE W b) := by
  unfold bad
  have e : (hasT ((l.take k).map (·.bytes)) b.bytes = true) ↔ 0 < atN X b.bytes := hasT_iff.trans (h.x b.bytes).symm
  by_cases h1 : 0 < atN X b.bytes
  · rw [if_pos h1, if_pos (e.2 h1)]
  · rw [if_neg h1, if_neg fun h2 => h1 (e.1 h2)]
set_option maxHeartbeats 8000000 in
set_option maxRecDepth 100000 in
theorem look_any (A : Option Addr) (n c : Nat) (l : List Shv) (A2 : Option Addr) (n2 c2 : Nat) (qs : List Pt) (ess : List (List Ext)) (w : World) (hl : Sl eSh w A n c l) (hn : n ≤ 1000) (hb : ∀ b ∈ l, b.bytes.size ≤ 1000000) (hid : (l.map (·.id)).Nodup) (h : PtsIn w A2 n2 c2 qs ess) :
    Calls Tryd.prog 23 #[.slice A n c, .slice A2 n2 c2] w fun e w' => ∃ A' c' r, e = .returned (.slice A' r.length c') ∧ Sl eF w' A' r.length c' r ∧ Told (tally (idsP ess)) l r ∧ Below w.heap.size w w' := by
  have hmm := @run_makeMap Tryd.prog
  have b1 := hl.2.1
  have b2 := hl.2.2.1
  have R := hide hl.2.2.2
  have Hn := hide hl.1
  have Hb := hide hb
  have Hid' := hide hid
  obtain ⟨hl1, hin⟩ := tally_keys_len (idsP ess) (idsP_in h.fine)
  have hl2 := idsP_le ess h.fine
  have hl3 : (tally (idsP ess)).length ≤ 60000 := by have := h.len; have := h.few; omega
  have Hdk := hide (tally_nodup (idsP ess))
  obtain ⟨T, hT⟩ : ∃ T, T = tally (idsP ess) := ⟨_, rfl⟩
  have hwant : Calls Tryd.prog 41 #[.slice A2 n2 c2] w fun e w' => ∃ b, e = .returned (.map (some b)) ∧ MapIs kInt w' b (nV T) ∧ w.heap.size ≤ b ∧ Below w.heap.size w w' := by rw [hT]; exact wanted_any A2 n2 c2 qs ess w h
  rw [← hT] at hl3 Hdk ⊢
  have Hw := hide hwant
  clear h hwant hT hl hl1 hl2 hin hb hid
  go_enter Tryd.func23, Tryd.ntmps23
  go_wp2_with (go_at_call 41; refine (unhide Hw).mono ?_; rintro e w1 ⟨bw, he, hM, hb0, HB1⟩; subst he; have HM := hide hM; have HHB1 := hide HB1; clear hM HB1)
  have s1 := (unhide HHB1).size
  have hbl := (unhide HM).lt
  obtain ⟨W, hW⟩ : ∃ W, W = ((w1.alloc (.map #[] 0)).alloc (.map #[] 0)).alloc (.cells #[.map (some bw), .map (some w1.heap.size), .map (some (w1.heap.size + 1)), .slice none 0 0] 94) := ⟨_, rfl⟩
  obtain ⟨F, hF⟩ : ∃ F : Nat → Prop, F = fun k => w1.heap.size ≤ k := ⟨_, rfl⟩
  have BW : Below w1.heap.size w1 W := by rw [hW]; exact (((Below.refl _ _).alloc (Nat.le_refl _) _).alloc (by simp) _).alloc (by simp; omega) _
  have sW : W.heap.size = w1.heap.size + 3 := by rw [hW]; simp
  have L0 : LookAt W F (w1.heap.size + 1 + 1) bw w1.heap.size (w1.heap.size + 1) T [] [] (.slice none 0 0) [] := by
    have hmb : MapIs kStr W w1.heap.size (nV ([] : List (ByteArray × Int))) := by
      have h1 : MapIs kStr ((w1.alloc (.map #[] 0)).alloc (.map #[] 0)) w1.heap.size [] := (MapIs.made kStr w1).alloc _
      rw [hW]; exact h1.alloc _
    have hmt : MapIs kInt W (w1.heap.size + 1) (nV ([] : List (Int × Int))) := by
      have h1 := MapIs.made kInt (w1.alloc (.map #[] 0))
      have e : (w1.alloc (.map #[] 0)).heap.size = w1.heap.size + 1 := by simp
      rw [e] at h1
      rw [hW]; exact h1.alloc _
    have cl : ∀ j u, #[Value.map (some bw), .map (some w1.heap.size), .map (some (w1.heap.size + 1)), .slice none 0 0][j]? = some u → W.cell? ⟨w1.heap.size + 1 + 1, j, none⟩ = some u := fun j u hu => by
      rw [hW]; exact (World.cell?_alloc_at _ _ _ _ (by simp)).trans hu
    exact ⟨cl 0 _ rfl, cl 1 _ rfl, cl 2 _ rfl, cl 3 _ rfl, by rw [hW]; exact World.frozen?_alloc_at _ _ _ _ (by simp), Own.nil _ _ _ _, (unhide HM).below BW, hmb, hmt, fun k hk => by simp [Value.ownBlock] at hk,
      by rw [hF]; show w1.heap.size ≤ _; omega, by rw [hF]; exact Nat.le_refl _, by rw [hF]; show w1.heap.size ≤ _; omega, by omega, by omega, by omega⟩
  have hFb : ¬ F bw := by rw [hF]; show ¬ w1.heap.size ≤ bw; omega
  have hFn : ∀ k, w1.heap.size ≤ k → F k := fun k hk => by rw [hF]; exact hk
  have hFB : ∀ k, F k → w1.heap.size ≤ k := fun k hk => by rw [hF] at hk; exact hk
  obtain ⟨bb, hbb⟩ : ∃ b, b = w1.heap.size := ⟨_, rfl⟩
  obtain ⟨p, hp⟩ : ∃ b, b = w1.heap.size + 1 + 1 := ⟨_, rfl⟩
  obtain ⟨bt, hbt⟩ : ∃ b, b = w1.heap.size + 1 := ⟨_, rfl⟩
  rw [← hW, ← hp]
  rw [← hp, ← hbt, ← hbb] at L0
  have HL0 := hide L0
  have HFb := hide hFb
  have HFn := hide hFn
  have HFB := hide hFB
  have BW0 : Below w.heap.size w W := (unhide HHB1).trans (BW.mono s1)
  have HBW := hide BW
  have sW1 : w1.heap.size ≤ W.heap.size := by omega
  have hbwb : bw < bb := by omega
  clear hW hF L0 hFb hFn hFB BW hbb hp hbt sW
  go_loopw [17] (fun j wr => ∃ (k : Nat) (X : List (ByteArray × Int)) (Y : List (Int × Int)) (v : Value), k ≤ n ∧ j = .int .i64 k ∧ LookAt wr F p bw bb bt T X Y v (bads (atN T) l k) ∧ Seen k l X Y ∧ Below w1.heap.size w1 wr) (fun j _ => n - (intOf j).toNat)
  case atStart => exact ⟨0, [], [], .slice none 0 0, Nat.zero_le _, rfl, unhide HL0, Seen.start l, unhide HBW⟩
  case round =>
    obtain ⟨k, X, Y, v, hk, rfl, hL, hS, HB⟩ := hrel
    have HL := hide hL
    have HS := hide hS
    clear hL hS HL0 HBW BW0
    obtain ⟨wA, rfl⟩ : ∃ wo : World, wo = wr := ⟨_, rfl⟩
    by_cases hlt : k < n
    · have hkl : k < l.length := by have := unhide Hn; omega
      obtain ⟨b4, o4, eA4, lb4, hr4⟩ := unhide R (by omega)
      subst eA4
      have HB0 := (unhide HHB1).trans (HB.mono s1)
      have x0 : wA.cell? ⟨b4, o4 + k * 3, none⟩ = some (.int .i64 l[k].id) := ((bcell HB0).1 _ _ lb4).trans (hr4 k hkl 0 (by decide))
      have x1 : wA.cell? ⟨b4, o4 + k * 3 + 1, none⟩ = some (.int .i64 l[k].refs) := ((bcell HB0).1 _ _ lb4).trans (hr4 k hkl 1 (by decide))
      have x2 : wA.cell? ⟨b4, o4 + k * 3 + 2, none⟩ = some (.string l[k].bytes) := ((bcell HB0).1 _ _ lb4).trans (hr4 k hkl 2 (by decide))
      have hsz := unhide Hb l[k] (List.getElem_mem hkl)
      have hsn := bads_succ (atN T) l k hkl
      rw [bad_seen (unhide HS) (atN T) l[k]] at hsn
      have hble := bads_len (atN T) l k (by omega)
      have hxb := (unhide HS).xb l[k].bytes
      have hyb := (unhide HS).yb l[k].id
      have hnx := fun (Y' : List (Int × Int)) h1 h2 h3 => (unhide HS).next (Y' := Y') hkl h1 h2 h3
      obtain ⟨x, hx⟩ : ∃ x, x = l[k] := ⟨_, rfl⟩
      rw [← hx] at x0 x1 x2 hsz hsn hxb hyb
      simp only [← hx] at hnx
      obtain ⟨id, rf, tx⟩ := x
      have x0 : wA.cell? ⟨b4, o4 + k * 3, none⟩ = some (.int .i64 id) := x0
      have x1 : wA.cell? ⟨b4, o4 + k * 3 + 1, none⟩ = some (.int .i64 rf) := x1
      have x2 : wA.cell? ⟨b4, o4 + k * 3 + 2, none⟩ = some (.string tx) := x2
      have hxb : 0 ≤ atN X tx ∧ atN X tx ≤ k := hxb
      have hyb : 0 ≤ atN Y id ∧ atN Y id ≤ 2 * k := hyb
      obtain ⟨O, hO⟩ : ∃ O, O = bads (atN T) l k := ⟨_, rfl⟩
      rw [← hO] at HL hsn hble
      obtain ⟨w3, hw3⟩ : ∃ V, V = wA.alloc (.cells #[.int .i64 id, .int .i64 rf, .string tx] 51) := ⟨_, rfl⟩
      have B3 : Below wA.heap.size wA w3 := by rw [hw3]; exact (Below.refl _ _).alloc (Nat.le_refl _) _
      have L3 := (unhide HL).below B3
      have sA := HB.size
      have s3 := B3.size
      have hcon := block_any id rf tx L3 (fun k hk => unhide HFn k (by omega)) (by omega) ⟨hxb.1, by omega⟩ ⟨hyb.1, by omega⟩ hsz
      have Hcon := hide hcon
      have Hsn := hide hsn
      have Hnx := hide hnx
      have Hw3 := hide hw3
      have HB3 := hide B3
      have e0 : (wA.alloc (.cells #[.int .i64 id, .int .i64 rf, .string tx] 51)).cell? ⟨wA.heap.size, 0, none⟩ = some (.int .i64 id) := World.cell?_alloc_at _ _ _ _ rfl
      have e1 : (wA.alloc (.cells #[.int .i64 id, .int .i64 rf, .string tx] 51)).cell? ⟨wA.heap.size, 1, none⟩ = some (.int .i64 rf) := World.cell?_alloc_at _ _ _ _ rfl
      have e2 : (wA.alloc (.cells #[.int .i64 id, .int .i64 rf, .string tx] 51)).cell? ⟨wA.heap.size, 2, none⟩ = some (.string tx) := World.cell?_alloc_at _ _ _ _ rfl
      clear hr4 hsn hxb hyb hnx hx hO hw3 L3 hcon B3
      go_wp2_with (go_at_call 44; rw [← unhide Hw3]; refine (unhide Hcon).mono ?_; rintro e w4 ⟨he, ⟨v4, Y4, hL4, h1, h2, h3⟩, hC4⟩; subst he; have HL4 := hide hL4; have HC4 := hide hC4; have HS4 := hide (unhide Hnx Y4 h1 h2 h3); clear hL4 hC4 h1 h2 h3)
      have B4 : Below w1.heap.size w1 w4 := (HB.trans ((unhide HB3).mono sA)).trans ((unhide HC4).to_below (by omega) (unhide HFB))
      have HL5 : Hid (LookAt w4 F p bw bb bt T (putN X tx (atN X tx + 1)) Y4 v4 (bads (atN T) l (k + 1))) := by rw [unhide Hsn]; exact unhide HL4
      clear HL4 HC4 x0 x1 x2 e0 e1 e2
      go_roundw
      case rel => exact ⟨k + 1, _, Y4, v4, by omega, by go_num, unhide HL5, unhide HS4, B4⟩
      case measure => simp [intOf]; omega
    · obtain rfl : k = n := by omega
      have c0 := (unhide HL).c0
      have Hkl := hide (show k = l.length from unhide Hn)
      have sA := HB.size
      have HSA := HS
      go_wp2_with (at_range; refine wpList_range_is rfl _ 86 rfl kInt (nV T) 3 3 Tryd.underlying86 bw rfl (unhide HL).mw ?_; intro w0 hrg0 HB0 hs0)
      go_frame
      obtain ⟨r, hr⟩ : ∃ r, r = wA.heap.size := ⟨_, rfl⟩
      obtain ⟨G, hG⟩ : ∃ G, G = Sep F r (r + 1) := ⟨_, rfl⟩
      have L0 : LookAt w0 G p bw bb bt T X Y v (bads (atN T) l k) := ((unhide HL).mono (G := G) fun k h1 h2 => by rw [hG]; exact .inl ⟨h2, by omega⟩).below HB0
      have hGr : ¬ G r := by rw [hG]; rintro (⟨_, h⟩ | h) <;> omega
      have hGb : ¬ G bw := by
        rw [hG]; rintro (⟨h, _⟩ | h)
        · exact unhide HFb h
        · omega
      have hGB : ∀ k, G k → w1.heap.size ≤ k := fun k hk => by
        rw [hG] at hk
        rcases hk with h | h
        · exact unhide HFB k h.1
        · omega
      have hGn : ∀ k, r + 1 ≤ k → G k := fun k hk => by rw [hG]; exact .inr hk
      rw [← hr] at hrg0 ⊢
      have B0 : Below w1.heap.size w1 w0 := HB.trans (HB0.mono sA)
      have hbr : bw ≠ r := by omega
      have hr1 : w1.heap.size ≤ r := by omega
      have HR0 := hide hrg0
      have HL0 := hide L0
      have HGr := hide hGr
      have HGb := hide hGb
      have HGB := hide hGB
      have HGn := hide hGn
      have sr0 : r + 1 ≤ w0.heap.size := by omega
      obtain ⟨O, hO⟩ : ∃ O, O = bads (atN T) l k := ⟨_, rfl⟩
      have hOl : O.length ≤ 3000 := by rw [hO]; have h1 := unhide Hkl; have := bads_len (atN T) l k (by omega); omega
      rw [← hO] at HL0
      have HO := hide hO
      clear hrg0 L0 hGr hGb hGB hGn HL HB HB0 hs0 hr hG hO c0 HS
      go_loopw [8] (fun _ wr => ∃ (done ks : List Int) (v : Value), RangeIs kInt wr bw r (nV T) done ∧ LookAt wr G p bw bb bt T X Y v (O ++ lackL ks) ∧ ks.Nodup ∧ (∀ id, id ∈ ks ↔ id ∈ done ∧ atN Y id = 0) ∧ done.length ≤ 60000 ∧ ks.length ≤ done.length ∧ Below w1.heap.size w1 wr ∧ r + 1 ≤ wr.heap.size) (fun _ wr => wr.rangeLeft bw r)
      case atStart => exact ⟨[], [], v, unhide HR0, by simpa [lackL] using unhide HL0, List.nodup_nil, fun id => by simp, Nat.zero_le _, Nat.le_refl _, B0, sr0⟩
      case round =>
        obtain ⟨done, ks, v5, hrg, hL, hkn, hki, hdl, hkl2, HB, hszr⟩ := hrel
        clear HR0 HL0 B0
        have HRg := hide hrg
        have HL := hide hL
        have Hkn := hide hkn
        have Hki := hide hki
        clear hrg hL hkn hki
        obtain ⟨wB, rfl⟩ : ∃ wo : World, wo = wr := ⟨_, rfl⟩
        go_wp2_with (at_next; refine wpList_next_is rfl _ rfl kInt (nV T) done bw r rfl (unhide HRg) ?_ ?_)
        · intro hall
          have hkeys : ∀ id, id ∈ done ↔ id ∈ T.map (·.1) := fun id => by
            constructor
            · intro h
              have := (unhide HRg).keys id h
              rw [nV_keys] at this
              exact this
            · intro h
              rw [← nV_keys] at h
              obtain ⟨e, he, rfl⟩ := List.mem_map.1 h
              exact hall e.1 e.2 he
          have Hkeys := hide hkeys
          clear hall hkeys
          have c3 := (unhide HL).c3
          obtain ⟨A5, c5, hv5, _, _⟩ := (unhide HL).own.sl
          subst hv5
          obtain ⟨len, hlen⟩ : ∃ m, m = (O ++ lackL ks).length := ⟨_, rfl⟩
          have hlen2 : len ≤ 100000 := by rw [hlen]; unfold lackL; rw [List.length_append, List.length_map]; omega
          rw [← hlen] at c3
          have Hlen := hide hlen
          have hplt := (unhide HL).plt
          have hvp := (unhide HL).vF
          have Hvp := hide hvp
          have hso := sortF_any (unhide HL).own (by rw [← hlen]; omega)
          rw [← hlen] at hso
          have Hso := hide hso
          have hvB : ∀ k, (Value.slice A5 (O ++ lackL ks).length c5).ownBlock = some k → w1.heap.size ≤ k := fun k hk => unhide HGB k (hvp k hk).1
          rw [← hlen] at hvB
          have HvB := hide hvB
          have hvp2 : ∀ k, (Value.slice A5 len c5).ownBlock = some k → k ≠ p := by rw [hlen]; exact fun k hk => (hvp k hk).2
          have Hvp2 := hide hvp2
          clear hlen hso hvB hvp2 hvp
          go_wp2_with (go_at_call 46; refine (unhide Hso).mono ?_; rintro e w8 ⟨he, ⟨L', hp8, hO8⟩, hg8⟩; subst he; have k3 := (World.cell?_of_block (a := ⟨p, 3, none⟩) (hg8.block p hplt fun e => unhide Hvp2 p e.symm rfl)).trans c3; have HP8 := hide hp8; have HO8 := hide hO8; have HG8 := hide hg8; clear hp8 hO8 hg8)
          have hnd8 : L'.Nodup := by
            refine (unhide HP8).nodup_iff.2 ?_
            rw [unhide HO, unhide Hkl]
            exact told_nodup (atN T) l (unhide Hid') ks (unhide Hkn)
          obtain ⟨A9, c9, hv9, hsl9, _⟩ := (unhide HO8).sl
          have hL8 : L'.length = len := by rw [(unhide HP8).length_eq]; exact (unhide Hlen).symm
          rw [hL8] at hv9 hsl9
          injection hv9 with v1 _ v3
          have hcp := compact_any A9 len c9 L' w8 hsl9 hnd8
          rw [← v1, ← v3] at hcp hsl9
          have Hcp := hide hcp
          have Hsl9 := hide hsl9
          have HL8 := hide hL8
          clear hcp hsl9 hnd8 v1 v3 hL8
          go_wp2_with (go_at_call 48; refine (unhide Hcp).mono ?_; rintro e w9 ⟨he, nq, hw9⟩; subst he; subst hw9)
          go_ret
          refine ⟨A5, c5, L', by rw [unhide HL8]; rfl, by rw [unhide HL8]; exact (unhide Hsl9), ⟨ks, ?_, unhide Hkn, fun id => ?_⟩, ?_⟩
          · rw [← unhide Hkl, ← unhide HO]; exact unhide HP8
          · rw [unhide Hki id, unhide Hkeys id]
            have h1 := (unhide HSA).y id
            have h2 := (unhide HSA).yb id
            rw [List.take_of_length_le (by have := unhide Hkl; omega)] at h1
            rw [← h1]
            constructor
            · rintro ⟨h3, h4⟩; exact ⟨h3, by omega⟩
            · rintro ⟨h3, h4⟩; exact ⟨h3, by omega⟩
          · refine below_drewN ?_ nq
            have hB8 : Below w1.heap.size w1 w8 := HB.grown (unhide HG8) HB.size (unhide HvB)
            exact (unhide HHB1).trans (hB8.mono s1)
        · intro id u w5 hmem hnd hrg1 hg1 hs1 hen
          obtain ⟨cn, rfl, hlk⟩ := mem_nV (unhide Hdk) hmem
          have hen' : (Instr.entry (.pointer (some ⟨r, 0, none⟩))).run Tryd.prog w5 = .ok (.tuple #[.int .i64 id, .int .i64 cn]) w5 := hen
          have L5 := (unhide HL).farG hg1 (unhide HGr) hbr
          have B5 : Below w1.heap.size w1 w5 := HB.grown hg1 HB.size fun j hj => by injection hj with hj; omega
          have hleft := hrg1.left
          have hleft0 := (unhide HRg).left
          have hlt2 : w5.rangeLeft bw r < wB.rangeLeft bw r := by rw [List.length_cons] at hleft; omega
          have hcnt := hrg1.count
          rw [nV_len] at hcnt
          have c2 := L5.c2
          obtain ⟨y, hy⟩ : ∃ y, atN Y id = y := ⟨_, rfl⟩
          have Hy := hide hy
          have HRg1 := hide hrg1
          have HL5 := hide L5
          have Hlt2 := hide hlt2
          have Hnd := hide hnd
          have sz5 : r + 1 ≤ w5.heap.size := by omega
          have hol : (O ++ lackL ks).length ≤ 100000 := by unfold lackL; rw [List.length_append, List.length_map]; omega
          have Hol := hide hol
          clear hmem hnd hrg1 hg1 hen L5 hleft hleft0 hlt2 hy hlk HB HRg HL hol
          by_cases hy0 : y = 0
          · have q0 : (y == 0) = true := beq_iff_eq.2 hy0
            have Hy0 := hide hy0
            clear hy0
            go_wp2_with (first | (at_lookup; refine wpList_lookN kInt 86 3 3 Tryd.underlying86 Tryd.underlying3 (zeroIntW _) rfl _ _ rfl Y bt rfl (unhide HL5).mt id rfl y (unhide Hy) ?_) | (go_at_call 45; refine (addF_any 4 id (unhide HL5) (fun k hk => unhide HGn k (by omega)) (unhide Hol)).mono ?_; rintro e w6 ⟨he, ⟨v6, hL6⟩, hC6⟩; subst he; have HL6 := hide hL6; have HC6 := hide hC6; clear hL6 hC6))
            have hgw := unhide HRg1
            have hC := unhide HC6
            have hRg6 : RangeIs kInt w6 bw r (nV T) (id :: done) := hgw.kept (hC.block bw hgw.map.lt (unhide HGb)) (hC.block r hgw.lt (unhide HGr))
            have HRg6 := hide hRg6
            have B6 : Below w1.heap.size w1 w6 := B5.trans (hC.to_below B5.size (unhide HGB))
            have s6 : r + 1 ≤ w6.heap.size := Nat.le_trans sz5 hC.size
            have hlt6 : w6.rangeLeft bw r < wB.rangeLeft bw r := by
              have h1 := hRg6.left
              have h2 := hgw.left
              have h3 := unhide Hlt2
              omega
            have Hlt6 := hide hlt6
            have hL6 : LookAt w6 G p bw bb bt T X Y v6 (O ++ lackL (ks ++ [id])) := by
              have := unhide HL6
              unfold lackL at this ⊢
              rw [List.map_append, ← List.append_assoc]
              exact this
            have HL7 := hide hL6
            clear hgw hC hRg6 hlt6 hL6 HC6 HRg1
            go_roundw
            case rel =>
              refine ⟨id :: done, ks ++ [id], v6, unhide HRg6, unhide HL7, ?_, fun j => ?_, by rw [List.length_cons]; rw [List.length_cons] at hcnt; omega, by simp; omega, B6, s6⟩
              · refine List.nodup_append.2 ⟨unhide Hkn, by simp, fun a ha b hb e => ?_⟩
                simp only [List.mem_singleton] at hb
                rw [e, hb] at ha
                exact unhide Hnd ((unhide Hki id).1 ha).1
              · rw [List.mem_append, List.mem_singleton, List.mem_cons, unhide Hki j]
                constructor
                · rintro (⟨h1, h2⟩ | h1)
                  · exact ⟨.inr h1, h2⟩
                  · subst h1; exact ⟨.inl rfl, by rw [unhide Hy]; exact unhide Hy0⟩
                · rintro ⟨h1 | h1, h2⟩
                  · exact .inr h1
                  · exact .inl ⟨h1, h2⟩
            case measure => exact unhide Hlt6
          · have q0 : (y == 0) = false := beq_eq_false_iff_ne.2 hy0
            have Hy0 := hide hy0
            clear hy0
            go_wp2_with (at_lookup; refine wpList_lookN kInt 86 3 3 Tryd.underlying86 Tryd.underlying3 (zeroIntW _) rfl _ _ rfl Y bt rfl (unhide HL5).mt id rfl y (unhide Hy) ?_)
            go_roundw
            case rel =>
              refine ⟨id :: done, ks, v5, unhide HRg1, unhide HL5, unhide Hkn, fun j => ?_, by rw [List.length_cons]; rw [List.length_cons] at hcnt; omega, by rw [List.length_cons]; omega, B5, sz5⟩
              rw [List.mem_cons, unhide Hki j]
              constructor
              · rintro ⟨h1, h2⟩; exact ⟨.inr h1, h2⟩
              · rintro ⟨h1 | h1, h2⟩
                · subst h1
                  rw [unhide Hy] at h2
                  exact absurd h2 (unhide Hy0)
                · exact ⟨h1, h2⟩
            case measure => exact unhide Hlt2
end Go.Proofs.YtdpbjigdihajjaaDoor
