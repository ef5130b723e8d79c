/- All blocks of a pool that a map names. -/
import Derived.Test.YtdpbjigdihajjaaDoorExt
import Derived.Test.YtdpbjigdihajjaaDoorIn
namespace Go.Proofs.YtdpbjigdihajjaaDoor
open Go.RowKit

def idsX (x : Ext) : List Int := if 0 < x.id then (List.range x.n.toNat).map fun j : Nat => x.id + (j : Int) else []
def idsL (es : List Ext) : List Int := es.flatMap idsX
/-- Extents that lie within the volume. -/
def GoodE (es : List Ext) : Prop := ∀ x ∈ es, 0 ≤ x.from_ ∧ 1 ≤ x.n ∧ x.from_ + x.n ≤ 64 ∧ 0 ≤ x.id ∧ x.id ≤ 60
theorem idsL_snoc (es : List Ext) (x : Ext) : idsL (es ++ [x]) = idsL es ++ idsX x := by simp [idsL]
theorem idsL_le (es : List Ext) (h : GoodE es) : (idsL es).length ≤ 64 * es.length := by
  unfold idsL
  induction es with
  | nil => simp
  | cons x es ih =>
    rw [List.flatMap_cons, List.length_append, List.length_cons]
    have h1 := ih fun y hy => h y (List.mem_cons_of_mem _ hy)
    have h2 := h x List.mem_cons_self
    have h3 : (idsX x).length ≤ 64 := by
      unfold idsX; split
      · simp; omega
      · simp
    omega
set_option maxHeartbeats 1000000 in
theorem id_any (f n i k : Int) (w : World) (hi : 0 < i ∧ i ≤ 60) (hf : 0 ≤ f ∧ f ≤ 64) (hk : f ≤ k ∧ k ≤ 64) : Calls Tryd.prog 89 #[.agg #[.int .i64 f, .int .i64 n, .int .i64 i], .int .i64 k] w fun e w' => e = .returned (.int .i64 (i + k - f)) ∧ Below w.heap.size w w' := by
  have h0 : (i == 0) = false := beq_eq_false_iff_ne.2 (by omega)
  have B1 : Below w.heap.size w (w.alloc (.cells #[.int .i64 f, .int .i64 n, .int .i64 i] 81)) := (Below.refl _ _).alloc (Nat.le_refl _) _
  obtain ⟨i1, i2⟩ := hi
  obtain ⟨f1, f2⟩ := hf
  obtain ⟨k1, k2⟩ := hk
  go_enter Tryd.func89, Tryd.ntmps89
  go_wp2
  go_ret
  exact ⟨rfl, B1⟩
set_option maxHeartbeats 4000000 in
set_option maxRecDepth 100000 in
theorem ids_any (A : Option Addr) (n c : Nat) (es : List Ext) (w : World) (hs : Sl eE w A n c es) (hg : GoodE es) (h64 : n ≤ 64) : Calls Tryd.prog 65 #[.slice A n c] w fun e w' => ∃ A' c', e = .returned (.slice A' (idsL es).length c') ∧ Own eI 3 w' w.heap.size (.slice A' (idsL es).length c') (idsL es) ∧ Below w.heap.size w w' := by
  obtain ⟨i0, hi, hz0, hz1, hz2⟩ := info_parts Tryd.infoIn
  have hn := hs.1
  have b1 := hs.2.1
  have b2 := hs.2.2.1
  have R := hide hs.2.2.2
  have Hn := hide hn
  have Hg := hide hg
  clear hs hn hg
  go_enter Tryd.func65, Tryd.ntmps65
  go_wp2_with fail
  go_loopw [3, 9] (fun v j wr => ∃ k : Nat, k ≤ n ∧ j = .int .i64 k ∧ (∃ A c, v = .slice A (idsL (es.take k)).length c ∧ Own eI 3 wr w.heap.size (.slice A (idsL (es.take k)).length c) (idsL (es.take k))) ∧ Below w.heap.size w wr) (fun _ j _ => n - (intOf j).toNat)
  case atStart => exact ⟨0, Nat.zero_le _, rfl, ⟨none, 0, rfl, Own.nil _ _ _ _⟩, Below.refl _ _⟩
  case round =>
    obtain ⟨k, hk, rfl, ⟨Av, cv, rfl, hown⟩, HB⟩ := hrel
    by_cases hlt : k < n
    · have hke : k < es.length := by have := unhide Hn; omega
      obtain ⟨b, off, eA, lA, hr⟩ := unhide R (by omega)
      subst eA
      have x0 : wr.cell? ⟨b, off + k * 3, none⟩ = some (.int .i64 es[k].from_) := ((bcell HB).1 _ _ lA).trans (hr k hke 0 (by decide))
      have x1 : wr.cell? ⟨b, off + k * 3 + 1, none⟩ = some (.int .i64 es[k].n) := ((bcell HB).1 _ _ lA).trans (hr k hke 1 (by decide))
      have x2 : wr.cell? ⟨b, off + k * 3 + 2, none⟩ = some (.int .i64 es[k].id) := ((bcell HB).1 _ _ lA).trans (hr k hke 2 (by decide))
      obtain ⟨g1, g2, g3, g4, g5⟩ := unhide Hg es[k] (List.getElem_mem hke)
      have hsn := hide (show idsL (es.take (k + 1)) = idsL (es.take k) ++ idsX es[k] by rw [← idsL_snoc, List.take_append_getElem hke])
      have hle : (idsL (es.take k)).length ≤ 64 * 64 := by
        have := idsL_le (es.take k) fun y hy => unhide Hg y (List.mem_of_mem_take hy)
        rw [List.length_take] at this
        have := unhide Hn
        omega
      obtain ⟨L, hL⟩ : ∃ L, L = idsL (es.take k) := ⟨_, rfl⟩
      rw [← hL] at hown hsn hle ⊢
      obtain ⟨x, hx⟩ : ∃ x, x = es[k] := ⟨_, rfl⟩
      rw [← hx] at x0 x1 x2 g1 g2 g3 g4 g5 hsn
      obtain ⟨f, m, i⟩ := x
      have x0 : wr.cell? ⟨b, off + k * 3, none⟩ = some (.int .i64 f) := x0
      have x1 : wr.cell? ⟨b, off + k * 3 + 1, none⟩ = some (.int .i64 m) := x1
      have x2 : wr.cell? ⟨b, off + k * 3 + 2, none⟩ = some (.int .i64 i) := x2
      have g1 : 0 ≤ f := g1
      have g2 : 1 ≤ m := g2
      have g3 : f + m ≤ 64 := g3
      have g4 : 0 ≤ i := g4
      have g5 : i ≤ 60 := g5
      obtain ⟨M, rfl⟩ : ∃ M : Nat, m = (M : Int) := ⟨m.toNat, by omega⟩
      have hix : 0 < i → idsX ⟨f, M, i⟩ = (List.range M).map fun j : Nat => i + (j : Int) := fun h => by unfold idsX; rw [if_pos h]; simp
      have hix0 : ¬ 0 < i → idsX ⟨f, M, i⟩ = [] := fun h => by unfold idsX; rw [if_neg h]
      have Hix := hide hix
      have Hix0 := hide hix0
      have Hown := hide hown
      have hbl := hown.sl
      clear hr hL hx hix hix0 hown hbl
      obtain ⟨w1, hw1⟩ : ∃ W, W = wr.alloc (.cells #[.int .i64 f, .int .i64 M, .int .i64 i] 81) := ⟨_, rfl⟩
      obtain ⟨p, hp⟩ : ∃ p, p = wr.heap.size := ⟨_, rfl⟩
      have B1 : Below w.heap.size w w1 := by rw [hw1]; exact HB.alloc HB.size _
      have c0 : w1.cell? ⟨p, 0, none⟩ = some (.int .i64 f) := by rw [hw1, hp]; exact World.cell?_alloc_at _ _ _ _ rfl
      have c1 : w1.cell? ⟨p, 1, none⟩ = some (.int .i64 M) := by rw [hw1, hp]; exact World.cell?_alloc_at _ _ _ _ rfl
      have c2 : w1.cell? ⟨p, 2, none⟩ = some (.int .i64 i) := by rw [hw1, hp]; exact World.cell?_alloc_at _ _ _ _ rfl
      have sp : w.heap.size ≤ p := by rw [hp]; exact HB.size
      have s1 : p < w1.heap.size := by rw [hw1, hp]; simp
      have o1 := hide (show Own eI 3 w1 w.heap.size (.slice Av L.length cv) L by rw [hw1]; exact (unhide Hown).alloc _)
      have q1 := hide (show ∀ q, (Value.slice Av L.length cv).ownBlock = some q → q ≠ p from fun q hq e => by have := ((unhide Hown).lt q hq).2; omega)
      go_wp2_with fail
      rw [← hw1, ← hp]
      clear hw1 hp HB Hown
      by_cases hip : 0 < i
      · go_loopw [3, 6] (fun v j w2 => ∃ q : Nat, q ≤ M ∧ j = .int .i64 (f + q) ∧ (∃ A c, v = .slice A (L.length + q) c ∧ Own eI 3 w2 w.heap.size (.slice A (L.length + q) c) (L ++ (List.range q).map fun j : Nat => i + (j : Int)) ∧ ∀ b, (Value.slice A (L.length + q) c).ownBlock = some b → b ≠ p) ∧ w2.cell? ⟨p, 0, none⟩ = some (.int .i64 f) ∧ w2.cell? ⟨p, 1, none⟩ = some (.int .i64 M) ∧ w2.cell? ⟨p, 2, none⟩ = some (.int .i64 i) ∧ Below w.heap.size w w2 ∧ p < w2.heap.size) (fun _ j _ => (f + M - intOf j).toNat)
        case atStart => exact ⟨0, Nat.zero_le _, by simp, ⟨Av, cv, rfl, by simpa using unhide o1, unhide q1⟩, c0, c1, c2, B1, s1⟩
        case round =>
          obtain ⟨q, hq, rfl, ⟨A2, c2', rfl, ho2, hb2⟩, d0, d1, d2, HB2, sp2⟩ := hrel
          have Ho2 := hide ho2
          have Hb2 := hide hb2
          clear ho2 hb2
          by_cases hlq : q < M
          · have hlq' : f + (q : Int) < f + M := by omega
            go_wp2_with fail
            refine (id_any f M i (f + q) wr ⟨hip, g5⟩ ⟨g1, by omega⟩ ⟨by omega, by omega⟩).mono ?_
            rintro e w3 ⟨rfl, HB3⟩
            rw [show i + (f + (q : Int)) - f = i + q by omega]
            have e0 := ((bcell HB3).1 p 0 sp2).trans d0
            have e1 := ((bcell HB3).1 p 1 sp2).trans d1
            have e2 := ((bcell HB3).1 p 2 sp2).trans d2
            have s3 := HB3.size
            have B3 : Below w.heap.size w w3 := HB2.trans (HB3.mono HB2.size)
            have o3 := (unhide Ho2).below HB3
            have hl3 : (L ++ (List.range q).map fun j : Nat => i + (j : Int)).length = L.length + q := by simp
            have Hl3 := hide hl3
            clear HB3 d0 d1 d2 hl3
            go_wp2_with (at_builtin; refine wpList_append_one eI rfl _ _ _ rfl w.heap.size 3 i0 (.int .i64 0) 8 Tryd.underlying73 hi hz0 hz1 hz2 rfl (by decide) (.slice A2 (L.length + q) c2') (L ++ (List.range q).map fun j : Nat => i + (j : Int)) rfl _ o3 (i + q) #[.int .i64 (i + q)] rfl (by simp [Act.eval]) (one_int _) ?c3 ?c4 ?c5 ?_)
            case c3 => rw [unhide Hl3]; unfold maxLen; omega
            case c4 => rw [unhide Hl3]; omega
            case c5 => exact B3.size
            intro v4 w4 hown4 hgr4 hloc4
            have hal (w : World) (o : Obj) : (w.alloc o).heap.size = w.heap.size + 1 := by show (w.heap.push o).size = _; simp
            have hb3 := B3.alloc B3.size (.cells #[.int .i64 (i + q)] 3)
            have B4 : Below w.heap.size w w4 := hb3.grown hgr4 hb3.size fun j hj => (o3.lt j hj).1
            obtain ⟨A4, c4, hv4, _⟩ := hown4.sl
            have hv5 : v4 = .slice A4 (L.length + (q + 1)) c4 := by rw [hv4]; simp
            clear hv4
            subst hv5
            have ep : w4.heap[p]? = w3.heap[p]? := (hgr4.block p (by rw [hal]; omega) fun e => unhide Hb2 p e.symm rfl).trans (Below.heap_alloc w3 _ p (by omega))
            have k0 := (World.cell?_of_block (a := ⟨p, 0, none⟩) ep).trans e0
            have k1 := (World.cell?_of_block (a := ⟨p, 1, none⟩) ep).trans e1
            have k2 := (World.cell?_of_block (a := ⟨p, 2, none⟩) ep).trans e2
            have s4 : p < w4.heap.size := by have := hgr4.size; rw [hal] at this; omega
            have hb4 : ∀ b, (Value.slice A4 (L.length + (q + 1)) c4).ownBlock = some b → b ≠ p := fun b hb e => by
              rcases hloc4 with l | l
              · exact unhide Hb2 b (l ▸ hb) e
              · rw [l] at hb; injection hb with hb; omega
            have ho4 : Own eI 3 w4 w.heap.size (.slice A4 (L.length + (q + 1)) c4) (L ++ (List.range (q + 1)).map fun j : Nat => i + (j : Int)) := by
              rw [List.range_succ, List.map_append]
              exact hown4
            have Ho4 := hide ho4
            have Hb4 := hide hb4
            clear hown4 hgr4 hloc4 ho4 hb4 hb3 o3 e0 e1 e2 B3 ep
            go_wp2
            go_roundw
            case rel => exact ⟨q + 1, by omega, by go_num, ⟨A4, c4, rfl, unhide Ho4, unhide Hb4⟩, k0, k1, k2, B4, s4⟩
            case measure => simp [intOf]; omega
          · have hqM : q = M := by omega
            subst hqM
            have hlq' : ¬ f + (q : Int) < f + q := by omega
            have hfin := hide (show idsL (es.take (k + 1)) = L ++ (List.range q).map fun j : Nat => i + (j : Int) by rw [unhide hsn, unhide Hix hip])
            go_wp2
            go_roundw
            case rel =>
              refine ⟨k + 1, by omega, by go_num, ⟨A2, c2', ?_, ?_⟩, HB2⟩
              · rw [unhide hfin]; simp
              · rw [unhide hfin]; simpa using unhide Ho2
            case measure => simp [intOf]; omega
      · go_loopw [3, 6] (fun v j w2 => v = .slice Av L.length cv ∧ j = .int .i64 f ∧ w2 = w1) (fun _ _ _ => 0)
        case atStart => exact ⟨rfl, rfl, rfl⟩
        case round =>
          obtain ⟨rfl, rfl, hw2⟩ := hrel
          obtain rfl := hw2.symm
          have hfin := hide (show idsL (es.take (k + 1)) = L by rw [unhide hsn, unhide Hix0 (by omega), List.append_nil])
          go_wp2
          go_roundw
          case rel => exact ⟨k + 1, by omega, by go_num, ⟨Av, cv, by rw [unhide hfin], by rw [unhide hfin]; exact unhide o1⟩, B1⟩
          case measure => simp [intOf]; omega
    · have hkn : k = n := by omega
      subst hkn
      have hte : es.take k = es := List.take_of_length_le (by have := unhide Hn; omega)
      rw [hte] at hown ⊢
      have Hown := hide hown
      clear hown hte
      go_wp2
      go_ret
      exact ⟨_, _, rfl, unhide Hown, HB⟩
end Go.Proofs.YtdpbjigdihajjaaDoor
