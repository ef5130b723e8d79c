/- A map of extents, one behind the other. -/
import Derived.Test.YtdpbjigdihajjaaDoorArrC
import Derived.Test.YtdpbjigdihajjaaDoorExt
import Derived.StillTailTactics
namespace Go.Proofs.YtdpbjigdihajjaaDoor
open Go.RowKit

theorem wpStill_load_mid {P : Program} {ops : Array Oper} {w : World} {Q : Act → Prop} {a : Act} {o : Oper} {rest : List Oper} (hgd : o.guard = none) (ty : TypeId) (x : Operand) (ho : o.op = .load ty x)
    (b off : Nat) (hx : a.eval x = .pointer (some ⟨b, off, none⟩)) (cs : List Value) (d : TypeDesc) (hc : w.rangeAt b off cs) (hu : P.underlying ty = some d) (hd : d.isRow = true) (hi : (P.info? ty).map (·.size) = some cs.length)
    (h : wpStill P ops w Q rest (a.put o.dst (.agg cs.toArray))) : wpStill P ops w Q (o :: rest) a := by
  refine wpStill_step fun K hK => ?_
  have hw : Region.wanted o (yielded ops a.tmps) = true := by simp [Region.wanted, hgd]
  rw [if_pos hw]
  unfold Oper.still
  unfold execOp
  simp only [ho, hx, Instr.loadAt, Instr.sureAddr, Sem.run_bind, Sem.run_pure, Result.andThen_ok, run_loadVar_mid w b off ty cs d hc hu hd hi, Oper.stillUpon_value]
  exact hK _ h
/-- The map of a list of extents. -/
def ofL (es : List Ext) : List Int := es.foldl (fun m x => setL m x.from_ x.n x.id) (noneL 64)
theorem ofL_snoc (es : List Ext) (x : Ext) : ofL (es ++ [x]) = setL (ofL es) x.from_ x.n x.id := by simp [ofL]
theorem foldl_len (es : List Ext) : ∀ m : List Int, (es.foldl (fun m x => setL m x.from_ x.n x.id) m).length = m.length := by
  induction es with
  | nil => intro m; rfl
  | cons x es ih => intro m; rw [List.foldl_cons, ih, setL_len]
theorem ofL_len (es : List Ext) : (ofL es).length = 64 := (foldl_len es _).trans (noneL_len (Nat.le_refl _))
set_option maxHeartbeats 4000000 in
set_option maxRecDepth 100000 in
theorem of_any (A : Option Addr) (n c : Nat) (es : List Ext) (w : World) (hs : Sl eE w A n c es) : Calls Tryd.prog 39 #[.slice A n c] w fun e w' => e = .returned (arrV (ofL es)) ∧ Below w.heap.size w w' := by
  have hn := hs.1
  have b1 := hs.2.1
  have b2 := hs.2.2.1
  have R := hide hs.2.2.2
  have Hn := hide hn
  obtain ⟨w1, hw1⟩ : ∃ w1, w1 = w.alloc (.cells (numCells (noneL 0)).toArray 83) := ⟨_, rfl⟩
  have B1 : Below w.heap.size w w1 := by rw [hw1]; exact (Below.refl _ _).alloc (Nat.le_refl _) _
  have s1 : w1.heap.size = w.heap.size + 1 := by rw [hw1]; show (w.heap.push _).size = _; simp
  have a1 : Arr w1 w.heap.size 83 (noneL 0) := by rw [hw1]; exact Arr.alloc w _ _
  have HA1 := hide a1
  clear hs hn a1
  go_enter Tryd.func39, Tryd.ntmps39
  go_wp2_with fail
  change Calls _ _ _ (w.alloc (.cells (numCells (noneL 0)).toArray 83)) _
  rw [← hw1]
  clear hw1
  refine (none_any w1).mono ?_
  rintro e w2 ⟨rfl, HB2⟩
  have B2 : Below w.heap.size w w2 := B1.trans (HB2.mono (by omega))
  have a2 := hide ((unhide HA1).below HB2)
  have s2 : w.heap.size + 1 ≤ w2.heap.size := s1 ▸ HB2.size
  clear HB2 HA1 B1
  obtain ⟨w3, hw3⟩ : ∃ W, W = (w2.alloc (.cells (numCells (noneL 0)).toArray 83)).setCells w2.heap.size 0 (numCells (noneL 64)) := ⟨_, rfl⟩
  have a3 : Arr w3 w2.heap.size 83 (noneL 64) := by rw [hw3]; exact (Arr.alloc w2 _ (noneL 0)).store (by simp [noneL])
  have B3 : Below w2.heap.size w2 w3 := by rw [hw3]; exact below_setCells (Nat.le_refl _) _ _ _ ((Below.refl _ _).alloc (Nat.le_refl _) _)
  have s3 : w2.heap.size + 1 ≤ w3.heap.size := by rw [hw3, size_setCells]; show _ ≤ (w2.heap.push _).size; simp
  have H3 := hide a3
  have g2 := hide ((unhide a2).below B3)
  have B30 : Below w.heap.size w w3 := B2.trans (B3.mono (by omega))
  clear a3 B3 B2
  go_wp2_with (refine wpList_store_mid rfl _ _ _ rfl w2.heap.size 0 (numCells (noneL 64)).toArray rfl rfl ((Arr.alloc w2 83 (noneL 0)).there (by simp [numCells, noneL])) (by rw [Tryd.infoMap]; simp [numCells, noneL]) (all_oneCell_toArray (numCells_one _)) ?_)
  change Code.wp _ _ _ _ ((w2.alloc (.cells (numCells (noneL 0)).toArray 83)).setCells w2.heap.size 0 (numCells (noneL 64)))
  rw [← hw3]
  clear hw3
  obtain ⟨p, hp⟩ : ∃ p, p = w2.heap.size := ⟨_, rfl⟩
  rw [← hp] at H3 s3 ⊢
  have hpw : w.heap.size + 1 ≤ p := by omega
  clear hp s2
  go_loopw [4] (fun j wr => ∃ k : Nat, k ≤ n ∧ j = .int .i64 k ∧ Arr wr p 83 (ofL (es.take k)) ∧ Arr wr w.heap.size 83 (noneL 0) ∧ Below w.heap.size w wr) (fun j _ => n - (intOf j).toNat)
  case atStart => exact ⟨0, Nat.zero_le _, rfl, unhide H3, unhide g2, B30⟩
  case round =>
    obtain ⟨k, hk, rfl, h1, h2, HB⟩ := hrel
    have G1 := hide h1
    have G2 := hide h2
    have hpl := h1.lt
    by_cases hlt : k < n
    · have hke : k < es.length := by have := unhide Hn; omega
      obtain ⟨b, off, eA, lA, hr⟩ := unhide R (by omega)
      subst eA
      have x0 : wr.cell? ⟨b, off + k * 3, none⟩ = some (.int .i64 es[k].from_) := ((bcell HB).1 _ _ lA).trans (hr k hke 0 (by decide))
      have x1 : wr.cell? ⟨b, off + k * 3 + 1, none⟩ = some (.int .i64 es[k].n) := ((bcell HB).1 _ _ lA).trans (hr k hke 1 (by decide))
      have x2 : wr.cell? ⟨b, off + k * 3 + 2, none⟩ = some (.int .i64 es[k].id) := ((bcell HB).1 _ _ lA).trans (hr k hke 2 (by decide))
      have hof := hide (show ofL (es.take (k + 1)) = setL (ofL (es.take k)) es[k].from_ es[k].n es[k].id by
        rw [← ofL_snoc, List.take_append_getElem hke])
      obtain ⟨f, hf⟩ : ∃ y, y = es[k].from_ := ⟨_, rfl⟩
      obtain ⟨m, hm⟩ : ∃ y, y = es[k].n := ⟨_, rfl⟩
      obtain ⟨i, hi⟩ : ∃ y, y = es[k].id := ⟨_, rfl⟩
      rw [← hf] at x0 hof
      rw [← hm] at x1 hof
      rw [← hi] at x2 hof
      obtain ⟨L, hLe⟩ : ∃ L, L = ofL (es.take k) := ⟨_, rfl⟩
      rw [← hLe] at G1 hof
      have hL64 : L.length = 64 := by rw [hLe]; exact ofL_len _
      have hl' : (numCells L).length = 64 := by rw [numCells_len, hL64]
      have Hl' := hide hl'
      have HL64 := hide hL64
      clear hr h1 h2 hf hm hi hLe hl' hL64
      have G1d : Arr wr.drew p 83 L := (unhide G1).kept rfl
      have Gd := hide G1d
      clear G1d
      go_wp2
      refine wp_region_still_tail 5 (by kernel_rfl) (by kernel_rfl) ?_
      simp only [List.take_succ_cons, List.take_zero, List.drop_succ_cons, List.drop_zero]
      refine wpStill_load_mid rfl _ _ rfl p 0 rfl (numCells L) _ (unhide Gd).range Tryd.underlying83 rfl (by rw [Tryd.infoMap, unhide Hl']) ?_
      repeat still_step
      refine wpStill_nil ?_
      change wpList _ _ _ _ _ wr.drew
      go_wp2_with fail
      refine (set_any L (unhide HL64) f m i wr.drew).mono ?_
      rintro e w5 ⟨rfl, HB5⟩
      have g5 := hide ((unhide Gd).below HB5)
      have G2d : Arr wr.drew w.heap.size 83 (noneL 0) := (unhide G2).kept rfl
      have g6 := hide (G2d.below HB5)
      have B5 : Below w.heap.size w w5 := HB.trans ((show Below wr.heap.size wr w5 from ⟨HB5.os, HB5.tape, HB5.output, HB5.size, HB5.block⟩).mono HB.size)
      have s5 := B5.size
      have hl2 : (setL L f m i).length = 64 := by rw [setL_len]; exact unhide HL64
      have hl3 : (numCells (setL L f m i)).length = 64 := by rw [numCells_len, hl2]
      have h9 := (unhide g5).store (M := setL L f m i) (by rw [hl2, unhide HL64])
      have h10 := (unhide g6).kept (setCells_other p (numCells (setL L f m i)) 0 w5 w.heap.size (by omega))
      have B9 : Below w.heap.size w (w5.setCells p 0 (numCells (setL L f m i))) := below_setCells (by omega) _ _ _ B5
      have H9 := hide h9
      have H10 := hide h10
      have Hl3 := hide hl3
      clear HB5 G2d hl2 hl3 h9 h10 B5 x0 x1 x2
      go_wp2_with (refine wpList_store_mid rfl _ _ _ rfl p 0 (numCells (setL L f m i)).toArray rfl rfl ((unhide g5).there (by rw [List.size_toArray, unhide Hl3, unhide HL64])) (by rw [Tryd.infoMap, List.size_toArray, unhide Hl3]) (all_oneCell_toArray (numCells_one _)) ?_)
      go_roundw
      case rel => exact ⟨k + 1, by omega, by go_num, by rw [unhide hof]; exact unhide H9, unhide H10, B9⟩
      case measure => simp [intOf]; omega
    · have hkn : k = n := by omega
      subst hkn
      have hte : es.take k = es := List.take_of_length_le (by have := unhide Hn; omega)
      rw [hte] at G1
      have hl' : (numCells (ofL es)).length = 64 := by rw [numCells_len, ofL_len]
      have Hl' := hide hl'
      clear h1 h2 hl' hte
      go_wp2_with (first | (refine wpList_load_mid rfl _ _ rfl p 0 rfl (numCells (ofL es)) _ (unhide G1).range Tryd.underlying83 rfl (by rw [Tryd.infoMap, unhide Hl']) ?_) | (refine wpList_store_mid rfl _ _ _ rfl w.heap.size 0 (numCells (ofL es)).toArray rfl rfl ((unhide G2).there (by rw [List.size_toArray, unhide Hl']; simp [noneL])) (by rw [Tryd.infoMap, List.size_toArray, unhide Hl']) (all_oneCell_toArray (numCells_one _)) ?_))
      refine bodyPost_ret (v := arrV (ofL es)) (results_arr Tryd.results39 rfl ((unhide G2).store (by rw [ofL_len]; simp [noneL])) Tryd.underlying83 (by rw [Tryd.infoMap, ofL_len])) rfl ⟨rfl, below_setCells (by omega) _ _ _ HB⟩
end Go.Proofs.YtdpbjigdihajjaaDoor
