/- A look at blocks, one by one. -/
import Derived.Test.YtdpbjigdihajjaaDoorScrD
import Derived.Test.YtdpbjigdihajjaaDoorScrB
import Derived.Test.YtdpbjigdihajjaaDoorChg
namespace Go.Proofs.YtdpbjigdihajjaaDoor
open Go.RowKit

theorem lk_run {κ : Type} [DecidableEq κ] {P : Program} (E : KEnc κ) {t ke el : TypeId} (ht : P.underlying t = some (.map ke el)) (hk : P.underlying ke = some E.d) {w : World} (hz : ∀ w, (zeroValue el).run P w = .ok (.int .i64 0) w) {b : Nat} {l : List (κ × Int)} (h : MapIs E w b (nV l)) (k : κ) :
    (Instr.lookup t (.map (some b)) (E.enc k) false).run P w = .ok (.int .i64 (atN l k)) w := by
  have := run_lookup_is h ht hk (hz w) k false
  have e : (lk (nV l) k).getD (.int .i64 0) = .int .i64 (atN l k) := by
    rw [lk_nV, atN]
    cases lkN l k <;> rfl
  simp only [Bool.false_eq_true, if_false, e] at this
  exact this
/-- The looking stands in the block p: its maps, its faults; what may change lies in F. -/
structure LookAt (w : World) (F : Nat → Prop) (p bw bb bt : Nat) (T : List (Int × Int)) (X : List (ByteArray × Int)) (Y : List (Int × Int)) (v : Value) (out : List (Int × Int)) : Prop where
  c0 : w.cell? ⟨p, 0, none⟩ = some (.map (some bw))
  c1 : w.cell? ⟨p, 1, none⟩ = some (.map (some bb))
  c2 : w.cell? ⟨p, 2, none⟩ = some (.map (some bt))
  c3 : w.cell? ⟨p, 3, none⟩ = some v
  fz : w.frozen? ⟨p, 3, none⟩ = false
  own : Own eF 55 w 0 v out
  mw : MapIs kInt w bw (nV T)
  mb : MapIs kStr w bb (nV X)
  mt : MapIs kInt w bt (nV Y)
  vF : ∀ k, v.ownBlock = some k → F k ∧ k ≠ p
  pF : F p
  bF : F bb
  tF : F bt
  n1 : bw ≠ bb
  n2 : bw ≠ bt
  n3 : bb ≠ bt
section
variable {w w' : World} {F G : Nat → Prop} {p bw bb bt : Nat} {T : List (Int × Int)} {X : List (ByteArray × Int)} {Y : List (Int × Int)} {v : Value} {out : List (Int × Int)}
theorem LookAt.plt (h : LookAt w F p bw bb bt T X Y v out) : p < w.heap.size := World.block_lt_of_cell? _ _ h.c0
/-- A row is no map. -/
theorem Own.no_map {α κ : Type} {E : Enc α} {K : KEnc κ} {e : TypeId} {base b : Nat} {es : List (κ × Value)} {u : Value} {xs : List α} (h : Own E e w base u xs) (hm : MapIs K w b es) : ∀ k, u.ownBlock = some k → k ≠ b := by
  rintro k hk rfl
  obtain ⟨_, h2⟩ := h
  obtain ⟨arr, clock, h3, _⟩ := hm
  rcases h2 with ⟨rfl, _⟩ | ⟨g, cap, cur, rfl, hg, hh, _⟩
  · simp [Value.ownBlock] at hk
  · simp [Value.ownBlock] at hk
    subst hk
    rw [h3] at hh
    cases hh
theorem cell_no_map {κ : Type} {K : KEnc κ} {b o : Nat} {es : List (κ × Value)} {u : Value} (h : w.cell? ⟨p, o, none⟩ = some u) (hm : MapIs K w b es) : p ≠ b := by
  rintro rfl
  obtain ⟨arr, clock, h3, _⟩ := hm
  simp [World.cell?, h3] at h
theorem LookAt.keep (h : LookAt w F p bw bb bt T X Y v out) (hp : w'.heap[p]? = w.heap[p]?) (hw : w'.heap[bw]? = w.heap[bw]?) (hb : w'.heap[bb]? = w.heap[bb]?) (ht : w'.heap[bt]? = w.heap[bt]?) (hv : ∀ k, v.ownBlock = some k → w'.heap[k]? = w.heap[k]?) : LookAt w' F p bw bb bt T X Y v out :=
  ⟨(World.cell?_of_block (a := ⟨p, 0, none⟩) hp).trans h.c0, (World.cell?_of_block (a := ⟨p, 1, none⟩) hp).trans h.c1, (World.cell?_of_block (a := ⟨p, 2, none⟩) hp).trans h.c2, (World.cell?_of_block (a := ⟨p, 3, none⟩) hp).trans h.c3,
    (World.frozen?_of_block (a := ⟨p, 3, none⟩) hp).trans h.fz, h.own.same_block hv, h.mw.kept hw, h.mb.kept hb, h.mt.kept ht, h.vF, h.pF, h.bF, h.tF, h.n1, h.n2, h.n3⟩
theorem LookAt.below (h : LookAt w F p bw bb bt T X Y v out) (hb : Below w.heap.size w w') : LookAt w' F p bw bb bt T X Y v out :=
  h.keep (hb.block _ h.plt) (hb.block _ h.mw.lt) (hb.block _ h.mb.lt) (hb.block _ h.mt.lt) fun k hk => hb.block k (h.own.lt k hk).2
theorem LookAt.drewN (h : LookAt w F p bw bb bt T X Y v out) (n : Nat) : LookAt (w.drewN n) F p bw bb bt T X Y v out :=
  h.keep (w' := w.drewN n) rfl rfl rfl rfl fun _ _ => rfl
theorem LookAt.mono (h : LookAt w F p bw bb bt T X Y v out) (hG : ∀ k, k < w.heap.size → F k → G k) : LookAt w G p bw bb bt T X Y v out :=
  { h with vF := fun k hk => ⟨hG k (h.own.lt k hk).2 (h.vF k hk).1, (h.vF k hk).2⟩, pF := hG _ h.plt h.pF, bF := hG _ h.mb.lt h.bF, tF := hG _ h.mt.lt h.tF }
theorem LookAt.upB (h : LookAt w F p bw bb bt T X Y v out) {X' : List (ByteArray × Int)} (hm : MapIs kStr w' bb (nV X')) (hg : w.grownBy w' (some bb)) : LookAt w' F p bw bb bt T X' Y v out := by
  have e1 : w'.heap[p]? = w.heap[p]? := hg.block p h.plt fun e => by injection e with e; exact cell_no_map h.c0 h.mb e
  have e2 : w'.heap[bw]? = w.heap[bw]? := hg.block bw h.mw.lt fun e => by injection e with e; exact h.n1 e
  have e3 : w'.heap[bt]? = w.heap[bt]? := hg.block bt h.mt.lt fun e => by injection e with e; exact h.n3 e.symm
  exact ⟨(World.cell?_of_block (a := ⟨p, 0, none⟩) e1).trans h.c0, (World.cell?_of_block (a := ⟨p, 1, none⟩) e1).trans h.c1, (World.cell?_of_block (a := ⟨p, 2, none⟩) e1).trans h.c2, (World.cell?_of_block (a := ⟨p, 3, none⟩) e1).trans h.c3,
    (World.frozen?_of_block (a := ⟨p, 3, none⟩) e1).trans h.fz, h.own.same_block fun k hk => hg.block k (h.own.lt k hk).2 fun e => by injection e with e; exact h.own.no_map h.mb k hk e, h.mw.kept e2, hm, h.mt.kept e3, h.vF, h.pF, h.bF, h.tF, h.n1, h.n2, h.n3⟩
theorem LookAt.upT (h : LookAt w F p bw bb bt T X Y v out) {Y' : List (Int × Int)} (hm : MapIs kInt w' bt (nV Y')) (hg : w.grownBy w' (some bt)) : LookAt w' F p bw bb bt T X Y' v out := by
  have e1 : w'.heap[p]? = w.heap[p]? := hg.block p h.plt fun e => by injection e with e; exact cell_no_map h.c0 h.mt e
  have e2 : w'.heap[bw]? = w.heap[bw]? := hg.block bw h.mw.lt fun e => by injection e with e; exact h.n2 e
  have e3 : w'.heap[bb]? = w.heap[bb]? := hg.block bb h.mb.lt fun e => by injection e with e; exact h.n3 e
  exact ⟨(World.cell?_of_block (a := ⟨p, 0, none⟩) e1).trans h.c0, (World.cell?_of_block (a := ⟨p, 1, none⟩) e1).trans h.c1, (World.cell?_of_block (a := ⟨p, 2, none⟩) e1).trans h.c2, (World.cell?_of_block (a := ⟨p, 3, none⟩) e1).trans h.c3,
    (World.frozen?_of_block (a := ⟨p, 3, none⟩) e1).trans h.fz, h.own.same_block fun k hk => hg.block k (h.own.lt k hk).2 fun e => by injection e with e; exact h.own.no_map h.mt k hk e, h.mw.kept e2, h.mb.kept e3, hm, h.vF, h.pF, h.bF, h.tF, h.n1, h.n2, h.n3⟩
end
theorem Tryd.infoFlt : (Tryd.prog.info? 55).map (fun i => (i.zero, i.size, i.bytes)) = some (some (.agg #[.int .i64 0, .int .i64 0]), 2, 16) := by kernel_rfl
set_option maxHeartbeats 2000000 in
set_option maxRecDepth 100000 in
theorem addF_any {w : World} {F : Nat → Prop} {p bw bb bt : Nat} {T : List (Int × Int)} {X : List (ByteArray × Int)} {Y : List (Int × Int)} {v : Value} {out : List (Int × Int)} (kd id : Int) (h : LookAt w F p bw bb bt T X Y v out) (hF : ∀ k, w.heap.size ≤ k → F k) (hl : out.length ≤ 100000) :
    Calls Tryd.prog 45 #[.pointer (some ⟨p, 0, none⟩), .int .i64 kd, .int .i64 id] w fun e w' => e = .returned (.tuple #[]) ∧ (∃ v', LookAt w' F p bw bb bt T X Y v' (out ++ [(kd, id)])) ∧ Chg F w w' := by
  obtain ⟨i0, hi, hz0, hz1, hz2⟩ := info_parts Tryd.infoFlt
  have H := hide h
  have hplt := h.plt
  obtain ⟨A, c, hv, _, _⟩ := h.own.sl
  subst hv
  have d3 := h.c3
  have f3 := h.fz
  have ho := hide h.own
  clear h
  go_enter Tryd.func45, Tryd.ntmps45
  go_wp2_with (at_builtin; refine wpList_append_one eF rfl _ _ _ rfl 0 55 i0 _ 16 Tryd.underlying52 hi hz0 hz1 hz2 rfl (by decide) (.slice A out.length c) out rfl _ (unhide ho) (kd, id) #[.int .i64 kd, .int .i64 id] rfl (by simp [Act.eval]) (by intro u hu; simp at hu; rcases hu with rfl | rfl <;> rfl) ?c3 ?c4 (Nat.zero_le _) ?_)
  case c3 => unfold maxLen; omega
  case c4 => omega
  intro v4 w4 hown4 hgr4 hloc4
  have hal (w : World) (o : Obj) : (w.alloc o).heap.size = w.heap.size + 1 := by show (w.heap.push o).size = _; simp
  have hvF := (unhide H).vF
  have far : ∀ k, k < w.heap.size → (Value.slice A out.length c).ownBlock ≠ some k → w4.heap[k]? = w.heap[k]? := fun k h1 h2 => (hgr4.block k (by rw [hal]; omega) fun e => h2 e.symm).trans (Below.heap_alloc w _ k h1)
  have ep : w4.heap[p]? = w.heap[p]? := far p hplt fun e => (hvF p e).2 rfl
  have k3 : w4.cell? ⟨p, 3, none⟩ = some (.slice A out.length c) := (World.cell?_of_block (a := ⟨p, 3, none⟩) ep).trans d3
  have g3 : w4.frozen? ⟨p, 3, none⟩ = false := (World.frozen?_of_block (a := ⟨p, 3, none⟩) ep).trans f3
  have s4 : w.heap.size + 1 ≤ w4.heap.size := by have := hgr4.size; rw [hal] at this; exact this
  obtain ⟨A4, c4, hv4, _⟩ := hown4.sl
  rw [List.length_append, List.length_singleton] at hv4
  subst hv4
  have newF : ∀ k, (Value.slice A4 (out.length + 1) c4).ownBlock = some k → F k ∧ k ≠ p := fun k hk => by
    rcases hloc4 with l | l
    · exact hvF k (l ▸ hk)
    · rw [l] at hk; injection hk with hk; exact ⟨hF k (by omega), by omega⟩
  have HN := hide newF
  have HO := hide hown4
  have Hgr := hide hgr4
  have Hfar := hide far
  have Hep := hide ep
  clear hown4 hgr4 hloc4 far ep newF d3 f3
  go_wp2
  go_end0
  have h := unhide H
  have ho4 := unhide HO
  obtain ⟨W, hW⟩ : ∃ W, W = w4.setCell ⟨p, 3, none⟩ (.slice A4 (out.length + 1) c4) := ⟨_, rfl⟩
  have oth : ∀ k, k ≠ p → W.heap[k]? = w4.heap[k]? := fun k hk => by rw [hW]; exact Below.heap_setCell w4 ⟨p, 3, none⟩ _ k hk
  have cel : ∀ j u, j ≠ 3 → w.cell? ⟨p, j, none⟩ = some u → W.cell? ⟨p, j, none⟩ = some u := fun j u hj hu => by
    rw [hW]
    exact (World.cell?_setCell_other w4 ⟨p, 3, none⟩ ⟨p, j, none⟩ _ (by intro e; injection e with _ e2; exact hj e2.symm)).trans ((World.cell?_of_block (a := ⟨p, j, none⟩) (unhide Hep)).trans hu)
  have mk : ∀ {κ : Type} {K : KEnc κ} {b : Nat} {es : List (κ × Value)}, MapIs K w b es → MapIs K W b es := fun {κ K b es} hm =>
    hm.kept ((oth b fun e => cell_no_map h.c0 hm e.symm).trans (unhide Hfar b hm.lt fun e => h.own.no_map hm b e rfl))
  refine ⟨rfl, ⟨.slice A4 (out.length + 1) c4, ?_⟩, ?_⟩
  · rw [← hW]
    exact ⟨cel 0 _ (by decide) h.c0, cel 1 _ (by decide) h.c1, cel 2 _ (by decide) h.c2, by rw [hW]; exact World.cell?_setCell_same _ _ _ k3, by rw [hW]; exact (World.frozen?_setCell _ _ _ _).trans g3,
      ho4.same_block fun k hk => oth k (unhide HN k hk).2, mk h.mw, mk h.mb, mk h.mt, unhide HN, h.pF, h.bF, h.tF, h.n1, h.n2, h.n3⟩
  · rw [← hW]
    have hgr := unhide Hgr
    refine ⟨by rw [hW]; exact hgr.os, by rw [hW]; exact hgr.tape, by rw [hW]; exact hgr.output, by rw [hW]; simp only [World.setCell, Array.size_modify]; omega, fun k hk hn => ?_⟩
    exact (oth k fun e => hn (e ▸ h.pF)).trans (unhide Hfar k hk fun e => hn (h.vF k e).1)
end Go.Proofs.YtdpbjigdihajjaaDoor
