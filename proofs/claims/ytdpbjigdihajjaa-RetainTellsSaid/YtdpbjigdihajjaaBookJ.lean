/- The book takes one more list of numbers: the walk. -/
import Derived.Test.YtdpbjigdihajjaaBookI
import Derived.Deep.RegionLaw
namespace Go.Proofs.Ytdpbjigdihajjaa
open Go.RowKit

theorem cell_other (w : World) (b i j : Nat) (v : Value) (h : i ≠ j) : (w.setCell ⟨b, i, none⟩ v).cell? ⟨b, j, none⟩ = w.cell? ⟨b, j, none⟩ := by
  rw [World.cell?_setCell_other]
  intro e
  injection e with _ e
  exact h e
theorem own_len (A : Option Addr) (n c n' c' : Nat) : (Value.slice A n c).ownBlock = (Value.slice A n' c').ownBlock := by cases A <;> rfl
set_option maxHeartbeats 4000000 in
set_option maxRecDepth 100000 in
theorem book_ints (b B : Nat) (X Y : Value) (vs us : List Value) (Ls : List (List Int)) (A : Option Addr) (n c : Nat) (L : List Int) (w : World) (h : BookI w b B X Y vs us Ls) (hn : Ls.length < 250) (hv : Own eI 3 w B (.slice A n c) L) (hL : L.length ≤ 100000)
    (hf : ∀ q, (Value.slice A n c).ownBlock = some q → X.ownBlock ≠ some q ∧ Y.ownBlock ≠ some q ∧ ∀ i (h : i < vs.length), vs[i].ownBlock ≠ some q) :
    Calls Try.prog 9 #[.pointer (some ⟨b, 0, none⟩), .slice A n c] w fun e w' => e = .returned (.tuple #[]) ∧ ∃ X' Y' u, BookI w' b B X' Y' (vs ++ [.slice A n c]) (us ++ [u]) (Ls ++ [L]) ∧ TouchI w w' b X Y X' Y' := by
  obtain ⟨i1, hj0, hj1, hj2, hj3⟩ := info_parts Try.infoIns
  have c2 : w.cell? ⟨b, 2, none⟩ = some X := by simp [World.cell?, h.blk]
  have c3 : w.cell? ⟨b, 3, none⟩ = some Y := by simp [World.cell?, h.blk]
  have f2 : w.frozen? ⟨b, 2, none⟩ = false := by simp [World.frozen?, h.blk]
  have f3 : w.frozen? ⟨b, 3, none⟩ = false := by simp [World.frozen?, h.blk]
  have hlt := h.lt
  have hbw := h.bw
  have hvn := h.rows.n
  have hun := h.copy.n
  have bX : X.ownBlock ≠ some b := fun e => by have := (h.rows.outer.lt b e).1; omega
  have bY : Y.ownBlock ≠ some b := fun e => by have := (h.copy.outer.lt b e).1; omega
  obtain ⟨AX, cX, eX, sX, _⟩ := h.rows.outer.sl
  have bx1 := sX.2.1
  have bx2 := sX.2.2.1
  have oX := h.rows.outer
  have oY := h.copy.outer
  have hnl : n = L.length := by
    obtain ⟨A', c', h1, _⟩ := hv.sl
    injection h1
  have H := hide h
  have Hv := hide hv
  have Hf := hide hf
  have HX := hide oX
  have HY := hide oY
  have sX0 := hide (Sl.same_block sX (Nat.le_refl _) fun _ _ => rfl)
  clear h hv hf oX oY sX
  subst eX
  obtain ⟨m, hm⟩ : ∃ m, m = vs.length := ⟨_, rfl⟩
  have hm250 : m < 250 := by omega
  rw [← hm] at c2 bx1 H HX bX ⊢
  have Hm := hide hm
  have Hnl := hide hnl
  have HbX := hide bX
  have HbY := hide bY
  have hun' : us.length < 250 := by omega
  have Hun := hide hun
  clear hm hvn hnl bX bY hun
  go_enter Try.func9, Try.ntmps9
  go_wp2_with (at_builtin; refine wpList_append_one eV rfl _ _ _ rfl B 40 i1 (.slice none 0 0) 24 Try.underlying32 hj0 hj1 hj2 hj3 rfl (by decide) (.slice AX m cX) vs rfl _ (unhide HX) (.slice A n c) #[.slice A n c] rfl (by simp [Act.eval]) (eV_one _ rfl) ?c3 ?c4 hbw ?_)
  case c3 => rw [← unhide Hm]; unfold maxLen; omega
  case c4 => rw [← unhide Hm]; omega
  intro v1 w1 hown1 hgr1 hloc1
  obtain ⟨A1, c1, hv1, _⟩ := hown1.sl
  rw [List.length_append, ← unhide Hm, List.length_singleton] at hv1
  subst hv1
  have hal (w : World) (o : Obj) : (w.alloc o).heap.size = w.heap.size + 1 := by show (w.heap.push o).size = _; simp
  have e1 : w1.heap[b]? = w.heap[b]? := (hgr1.block b (by rw [hal]; omega) fun e => unhide HbX e.symm).trans (Below.heap_alloc w _ b (by omega))
  have d2 : w1.cell? ⟨b, 2, none⟩ = some (.slice AX m cX) := (World.cell?_of_block (a := ⟨b, 2, none⟩) e1).trans c2
  have g2 : w1.frozen? ⟨b, 2, none⟩ = false := (World.frozen?_of_block (a := ⟨b, 2, none⟩) e1).trans f2
  have s1 : w.heap.size + 1 ≤ w1.heap.size := hal w _ ▸ hgr1.size
  obtain ⟨W2, hW2⟩ : ∃ W2, W2 = w1.setCell ⟨b, 2, none⟩ (.slice A1 (m + 1) c1) := ⟨_, rfl⟩
  have sW : W2.heap.size = w1.heap.size := by rw [hW2]; simp [World.setCell]
  have k2 : ∀ q, q < w.heap.size → q ≠ b → (Value.slice AX m cX).ownBlock ≠ some q → W2.heap[q]? = w.heap[q]? := fun q h1 h2 h3 => by
    rw [hW2]
    exact (Below.heap_setCell w1 ⟨b, 2, none⟩ (.slice A1 (m + 1) c1) q h2).trans ((hgr1.block q (by rw [hal]; omega) fun e => h3 e.symm).trans (Below.heap_alloc w _ q h1))
  have y3 : W2.cell? ⟨b, 3, none⟩ = some Y := by
    rw [hW2]
    exact (cell_other w1 b 2 3 (.slice A1 (m + 1) c1) (by decide)).trans ((World.cell?_of_block (a := ⟨b, 3, none⟩) e1).trans c3)
  have z3 : W2.frozen? ⟨b, 3, none⟩ = false := by
    rw [hW2, World.frozen?_setCell]
    exact (World.frozen?_of_block (a := ⟨b, 3, none⟩) e1).trans f3
  have oY2 : Own eV 40 W2 B Y us := (unhide HY).same_block fun q hq => k2 q ((unhide HY).lt q hq).2 (fun e => by have := ((unhide HY).lt q hq).1; omega) fun e => (unhide H).sep q e hq
  have sL2 : Sl eI W2 A n c L := by
    have h1 := (unhide Hv).same_block (w' := W2) fun q hq => k2 q ((unhide Hv).lt q hq).2 (fun e => by have := ((unhide Hv).lt q hq).1; omega) (by rw [own_len AX m cX vs.length cX]; exact (unhide Hf q hq).1)
    exact own_sl5 h1
  have Hg1 := hide hgr1
  have Hl1 := hide hloc1
  have Ho1 := hide hown1
  have HoY := hide oY2
  have HsL := hide (show Sl eI W2.drew A n c L from sL2)
  have Hk2 := hide k2
  clear hgr1 hloc1 hown1 oY2 sL2 e1 k2
  go_wp2
  rw [← hW2]
  have HW2 := hide hW2
  clear hW2
  have s2 : B ≤ W2.heap.size := by omega
  have hbW : b < W2.heap.size := by omega
  go_region_law ((first | (go_simp; go_at_call 25; refine (copyInts_any A n c L _ (unhide HsL) (by have := unhide Hnl; omega)).mono ?_; rintro e w4 ⟨u, rfl, ho4, HB4⟩; obtain ⟨A4, c4, hu4, _⟩ := ho4.sl; rw [← unhide Hnl] at hu4; subst hu4; have y4 : w4.cell? ⟨b, 3, none⟩ = some Y := ((bcell HB4).1 b 3 hbW).trans y3; have hoY4 := hide ((unhide HoY).same_block (w' := w4) fun q hq => HB4.block q ((unhide HoY).lt q hq).2); have z4 : w4.heap[b]? = W2.heap[b]? := HB4.block b hbW; have q4 : (w4.alloc (.cells #[.slice A4 n c4] 40)).cell? ⟨b, 3, none⟩ = some Y := (World.cell?_alloc_lt _ _ _ (World.block_lt_of_cell? w4 ⟨b, 3, none⟩ y4)).trans y4; have Ho4 := hide ho4; have s4 : W2.heap.size ≤ w4.heap.size := HB4.size; have H4 := hide HB4; clear HB4 ho4) | (rw [if_pos (by rfl)]; refine wp_append_one eV _ _ _ rfl B 40 i1 (.slice none 0 0) 24 Try.underlying32 hj0 hj1 hj2 hj3 rfl (by decide) Y us rfl w4 (unhide hoY4) (.slice A4 n c4) #[.slice A4 n c4] rfl (by simp [Act.eval]) (eV_one _ rfl) (by unfold maxLen; omega) (by omega) (by omega) ?_; intro v5 w5 hown5 hgr5 hloc5; obtain ⟨A5, c5, hv5, _⟩ := hown5.sl; rw [List.length_append, List.length_singleton] at hv5; subst hv5; have e5 : w5.heap[b]? = w4.heap[b]? := (hgr5.block b (by rw [hal]; omega) fun e => unhide HbY e.symm).trans (Below.heap_alloc w4 _ b (by omega)); have y5 : w5.cell? ⟨b, 3, none⟩ = some Y := (World.cell?_of_block (a := ⟨b, 3, none⟩) e5).trans y4; have z5 : w5.frozen? ⟨b, 3, none⟩ = false := (World.frozen?_of_block (a := ⟨b, 3, none⟩) (e5.trans z4)).trans z3; have Ho5 := hide hown5; have Hg5 := hide hgr5; have Hl5 := hide hloc5; clear hown5 hgr5 hloc5 e5)))
  all_goals (
    have hW2 := unhide HW2
    subst hW2
    have b4 : Below w1.heap.size (w1.setCell ⟨b, 2, none⟩ (.slice A1 (m + 1) c1)).drew w4 := (unhide H4).mono (Nat.le_of_eq sW.symm)
    have o4 : Own eI 3 w4 w1.heap.size (.slice A4 n c4) L := (unhide Ho4).lower (Nat.le_of_eq sW.symm)
    have hf : ∀ q, (Value.slice A n c).ownBlock = some q → (Value.slice AX m cX).ownBlock ≠ some q ∧ Y.ownBlock ≠ some q ∧ ∀ i (h : i < vs.length), vs[i].ownBlock ≠ some q := fun q hq => by
      rw [own_len AX m cX vs.length cX]
      exact unhide Hf q hq
    have hr := hide ((unhide H).add (unhide Hv) hf (unhide Ho1) (unhide Hg1) (unhide Hl1) b4 o4 (unhide Ho5) (unhide Hg5) (unhide Hl5))
    clear hf b4 o4
    go_end0
    exact ⟨rfl, _, _, _, unhide hr⟩)
end Go.Proofs.Ytdpbjigdihajjaa
