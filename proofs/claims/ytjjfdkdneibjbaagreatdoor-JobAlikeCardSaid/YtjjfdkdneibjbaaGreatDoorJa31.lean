/- Joined texts: RunsC, RunsD, RunsE, RunsF, SpansP, SpansW, SameP. -/
import Derived.Test.YtjjfdkdneibjbaaGreatDoorJa11
import Derived.Test.YtjjfdkdneibjbaaGreatDoorJa16
import Derived.StillTail
import Derived.Test.YtjjfdkdneibjbaaGreatDoorJa10
/- Sets of blocks, as spans: the plain law of adding a span; clones of lists of spans. -/
namespace Go.Proofs.YtjjfdkdneibjbaaGreatDoor
open Go.RowKit

/-- A span. -/
structure Sp where
  from_ : Int
  n : Int
def eSp : Enc Sp := ⟨2, fun p j => match j with | 0 => .int .i64 p.from_ | _ => .int .i64 p.n⟩
theorem eSp_one (L : List Sp) : ∀ u ∈ eSp.flat L, u.oneCell' = true := by
  intro u hu
  obtain ⟨x, _, h⟩ := List.mem_flatMap.1 hu
  simp [Enc.cells, eSp, List.range_succ] at h
  rcases h with rfl | rfl <;> rfl
theorem Tryz.infoSp : (Tryz.prog.info? 59).map (fun i => (i.zero, i.size, i.bytes)) = some (some (.agg #[.int .i64 0, .int .i64 0]), 2, 16) := by kernel_rfl
theorem Tryz.eqSp (w : World) (a : Option Addr) (n c n' c' : Nat) : (binOp .eql 61 (.slice a n c) (.slice none n' c')).run Tryz.prog w = .ok (.bool a.isNone) w := Lib.run_eql_slice_nil w _ _ a n c n' c' Tryz.underlying61
set_option maxHeartbeats 2000000 in
set_option maxRecDepth 20000 in
theorem clone_sps (A : Option Addr) (n c : Nat) (l : List Sp) (w : World) (h : Sl eSp w A n c l) (h64 : n ≤ 1000) : Calls Tryz.prog 137 #[.slice A n c] w fun e w' => (∃ A' c', e = .returned (.slice A' n c') ∧ Own eSp 59 w' w.heap.size (.slice A' n c') l) ∧ Below w.heap.size w w' := by
  obtain ⟨i0, hi, hz0, hz1, hz2⟩ := info_parts Tryz.infoSp
  have qe := Tryz.eqSp
  rcases A with _ | ad
  · have hn : n = 0 := by
      rcases Nat.eq_zero_or_pos n with h0 | h0
      · exact h0
      · obtain ⟨b, off, e, _⟩ := h.2.2.2 h0
        cases e
    have hl : l = [] := List.eq_nil_of_length_eq_zero (by have := h.1; omega)
    subst hn; subst hl
    clear h
    go_enter Tryz.func137, Tryz.ntmps137
    go_wp2_with fail
    go_ret
    exact ⟨⟨none, 0, rfl, Own.nil _ _ _ _⟩, Below.refl _ _⟩
  · have o1 : Own eSp 59 (w.alloc (.cells #[] 59)) w.heap.size (.slice (some ⟨w.heap.size, 0, none⟩) 0 0) [] := Own.lit w #[] 0 rfl rfl (by unfold maxLen; omega) (Nat.le_refl _)
    have HN := hide h.1
    have hs1 := hide (h.below ((Below.refl w.heap.size w).alloc (Nat.le_refl _) (.cells #[] 59)))
    have b1 := h.2.1
    have b2 := h.2.2.1
    have s1 : w.heap.size ≤ (w.alloc (.cells #[] 59)).heap.size := by simp
    have B1 : Below w.heap.size w (w.alloc (.cells #[] 59)) := (Below.refl _ _).alloc (Nat.le_refl _) _
    clear h
    go_enter Tryz.func137, Tryz.ntmps137
    go_wp2_with (at_builtin; refine wpList_append_sl eSp rfl _ _ _ rfl w.heap.size 59 i0 _ 16 Tryz.underlying61 hi hz0 hz1 hz2 rfl (by decide) (.slice (some ⟨w.heap.size, 0, none⟩) 0 0) [] rfl _ o1 (some ad) n c l rfl (unhide hs1) (eSp_one l) ?c3 ?c4 s1 ?_)
    case c3 => unfold maxLen; simp; omega
    case c4 => simp; omega
    intro v4 w4 hown4 hgr4 hloc4
    have B4 : Below w.heap.size w w4 := B1.grown hgr4 s1 fun q hq => (o1.lt q hq).1
    obtain ⟨A4, c4, rfl, _, _⟩ := hown4.sl
    have HO := hide hown4
    clear hown4 hgr4 hloc4
    go_wp2
    go_ret
    exact ⟨⟨A4, c4, by rw [unhide HN]; rfl, by rw [unhide HN]; exact unhide HO⟩, B4⟩
/-- What is known when some spans were looked at: the span, the spans behind it, whether it stands there. -/
abbrev RS := Sp × List Sp × Bool
def stepR (st : RS) (x : Sp) : RS :=
  if touchB x.from_ x.n st.1.from_ st.1.n = true then (⟨min x.from_ st.1.from_, max (x.from_ + x.n) (st.1.from_ + st.1.n) - min x.from_ st.1.from_⟩, st.2)
  else if st.2.2 = false ∧ st.1.from_ < x.from_ then (st.1, st.2.1 ++ [st.1] ++ [x], true) else (st.1, st.2.1 ++ [x], st.2.2)
def addR (l : List Sp) (s : Sp) : List Sp := let st := l.foldl stepR (s, [], false); if st.2.2 = true then st.2.1 else st.2.1 ++ [st.1]
def WhL (l : List Sp) : Prop := ∀ x ∈ l, WhS x.from_ x.n
theorem WhL.snoc {l : List Sp} {x : Sp} (h : WhL l) (hx : WhS x.from_ x.n) : WhL (l ++ [x]) := fun y hy => by
  rcases List.mem_append.1 hy with h1 | h1
  · exact h y h1
  · rw [List.mem_singleton] at h1; subst h1; exact hx
theorem stepR_ok {st : RS} {x : Sp} {k : Nat} (hx : WhS x.from_ x.n) (h1 : WhS st.1.from_ st.1.n) (h2 : WhL st.2.1) (h3 : st.2.1.length ≤ k + (if st.2.2 = true then 1 else 0)) :
    WhS (stepR st x).1.from_ (stepR st x).1.n ∧ WhL (stepR st x).2.1 ∧ (stepR st x).2.1.length ≤ k + 1 + (if (stepR st x).2.2 = true then 1 else 0) := by
  unfold stepR
  split
  · rename_i ht
    refine ⟨?_, h2, by show st.2.1.length ≤ k + 1 + (if st.2.2 = true then 1 else 0); omega⟩
    unfold touchB at ht
    rw [decide_eq_true_eq] at ht
    obtain ⟨a1, a2, a3⟩ := hx
    obtain ⟨b1, b2, b3⟩ := h1
    refine ⟨?_, ?_, ?_⟩
    · show 0 ≤ min x.from_ st.1.from_; omega
    · show 1 ≤ max (x.from_ + x.n) (st.1.from_ + st.1.n) - min x.from_ st.1.from_; omega
    · show min x.from_ st.1.from_ + (max (x.from_ + x.n) (st.1.from_ + st.1.n) - min x.from_ st.1.from_) ≤ 64; omega
  · split
    · rename_i hd
      refine ⟨h1, (h2.snoc h1).snoc hx, ?_⟩
      rw [hd.1] at h3
      simp at h3 ⊢
      omega
    · refine ⟨h1, h2.snoc hx, ?_⟩
      show (st.2.1 ++ [x]).length ≤ k + 1 + (if st.2.2 = true then 1 else 0)
      simp
      omega
theorem foldR_ok {l : List Sp} (hl : WhL l) {s : Sp} (hs : WhS s.from_ s.n) (k : Nat) (hk : k ≤ l.length) :
    WhS ((l.take k).foldl stepR (s, [], false)).1.from_ ((l.take k).foldl stepR (s, [], false)).1.n ∧ WhL ((l.take k).foldl stepR (s, [], false)).2.1 ∧
    ((l.take k).foldl stepR (s, [], false)).2.1.length ≤ k + (if ((l.take k).foldl stepR (s, [], false)).2.2 = true then 1 else 0) := by
  induction k with
  | zero => exact ⟨hs, fun x h => by simp at h, by simp⟩
  | succ k ih =>
    obtain ⟨i1, i2, i3⟩ := ih (by omega)
    rw [← List.take_append_getElem (show k < l.length by omega), List.foldl_append]
    exact stepR_ok (hl _ (List.getElem_mem _)) i1 i2 i3
theorem addR_ok {l : List Sp} (hl : WhL l) {s : Sp} (hs : WhS s.from_ s.n) : WhL (addR l s) ∧ (addR l s).length ≤ l.length + 1 := by
  obtain ⟨i1, i2, i3⟩ := foldR_ok hl hs l.length (Nat.le_refl _)
  rw [List.take_length] at i1 i2 i3
  unfold addR
  simp only []
  split
  · rename_i h
    rw [if_pos h] at i3
    exact ⟨i2, i3⟩
  · rename_i h
    rw [if_neg h] at i3
    exact ⟨i2.snoc i1, by simp; omega⟩
/-- A set of blocks: its pointer r, its spans. -/
structure RunsIs (w : World) (r : Nat) (R : List Sp) : Prop where
  lt : r < w.heap.size
  l : ∃ v, w.cell? ⟨r, 0, none⟩ = some v ∧ Own eSp 59 w 0 v R ∧ ∀ b, v.ownBlock = some b → b ≠ r
  z : w.frozen? ⟨r, 0, none⟩ = false
theorem RunsIs.below {w w' : World} {r : Nat} {R : List Sp} (h : RunsIs w r R) (hb : Below w.heap.size w w') : RunsIs w' r R := by
  obtain ⟨v, h1, h2, h3⟩ := h.l
  exact ⟨Nat.lt_of_lt_of_le h.lt hb.size, ⟨v, ((bcell hb).1 _ _ h.lt).trans h1, h2.below hb, h3⟩, ((bcell hb).2 _ _ h.lt).trans h.z⟩
set_option maxHeartbeats 1000000 in
theorem all_rn {w : World} {r : Nat} {R : List Sp} (h : RunsIs w r R) (hn : R.length ≤ 1000) : Calls Tryz.prog 67 #[.pointer (some ⟨r, 0, none⟩)] w fun e w' => (∃ A' c', e = .returned (.slice A' R.length c') ∧ Own eSp 59 w' w.heap.size (.slice A' R.length c') R) ∧ Below w.heap.size w w' := by
  obtain ⟨v, h1, h2, h3⟩ := h.l
  obtain ⟨A, c, rfl, hs, _⟩ := h2.sl
  have Hc := hide (clone_sps A R.length c R w hs hn)
  obtain ⟨N, hN⟩ : ∃ N, N = R.length := ⟨_, rfl⟩
  rw [← hN] at Hc h1 ⊢
  clear h h2 hs hN
  go_enter Tryz.func67, Tryz.ntmps67
  go_wp2_with fail
  refine (unhide Hc).mono ?_
  rintro e w2 ⟨⟨A', c', rfl, ho⟩, HB⟩
  have HO := hide ho
  clear ho Hc
  go_wp2_with fail
  go_ret
  exact ⟨⟨A', c', rfl, unhide HO⟩, HB⟩
end Go.Proofs.YtjjfdkdneibjbaaGreatDoor
/- Walk of package runs: a span is added. -/
namespace Go.Proofs.YtjjfdkdneibjbaaGreatDoor
open Go.RowKit

/-- The added span's block. -/
structure AddI (w W : World) (s : Sp) : Prop where
  b : Below w.heap.size w W
  sz : w.heap.size + 1 ≤ W.heap.size
  c0 : W.cell? ⟨w.heap.size, 0, none⟩ = some (.int .i64 s.from_)
  c1 : W.cell? ⟨w.heap.size, 1, none⟩ = some (.int .i64 s.n)
  z0 : W.frozen? ⟨w.heap.size, 0, none⟩ = false
  z1 : W.frozen? ⟨w.heap.size, 1, none⟩ = false
section
variable {w W W' : World} {s : Sp}
theorem AddI.below (h : AddI w W s) (hb : Below W.heap.size W W') : AddI w W' s := by
  have := hb.size
  have hs := h.sz
  exact ⟨h.b.trans (hb.mono (by omega)), by omega, ((bcell hb).1 _ 0 (by omega)).trans h.c0, ((bcell hb).1 _ 1 (by omega)).trans h.c1, ((bcell hb).2 _ 0 (by omega)).trans h.z0, ((bcell hb).2 _ 1 (by omega)).trans h.z1⟩
theorem AddI.grown (h : AddI w W s) {row : Option Nat} (hg : W.grownBy W' row) (hr : ∀ k, row = some k → w.heap.size + 1 ≤ k) : AddI w W' s := by
  have hsz := hg.size
  have hs := h.sz
  have e : W'.heap[w.heap.size]? = W.heap[w.heap.size]? := hg.block _ (by omega) fun e => by have := hr _ e.symm; omega
  exact ⟨h.b.grown hg (by omega) fun k hk => by have := hr k hk; omega, by omega, (World.cell?_of_block (a := ⟨w.heap.size, 0, none⟩) e).trans h.c0, (World.cell?_of_block (a := ⟨w.heap.size, 1, none⟩) e).trans h.c1, (World.frozen?_of_block (a := ⟨w.heap.size, 0, none⟩) e).trans h.z0, (World.frozen?_of_block (a := ⟨w.heap.size, 1, none⟩) e).trans h.z1⟩
theorem AddI.set (h : AddI w W s) (t : Sp) : AddI w (set2 W w.heap.size (.int .i64 t.from_) (.int .i64 t.n)) t := by
  have hs := h.sz
  refine ⟨(h.b.setCell (p := ⟨w.heap.size, 0, none⟩) (Nat.le_refl _) _).setCell (p := ⟨w.heap.size, 1, none⟩) (Nat.le_refl _) _, by simpa [set2, World.setCell] using hs, ?_, ?_, ?_, ?_⟩
  · exact (World.cell?_setCell_other _ ⟨w.heap.size, 1, none⟩ ⟨w.heap.size, 0, none⟩ _ (by simp)).trans (World.cell?_setCell_same _ _ _ h.c0)
  · exact World.cell?_setCell_same _ _ _ ((World.cell?_setCell_other _ ⟨w.heap.size, 0, none⟩ ⟨w.heap.size, 1, none⟩ _ (by simp)).trans h.c1)
  · unfold set2; rw [World.frozen?_setCell, World.frozen?_setCell]; exact h.z0
  · unfold set2; rw [World.frozen?_setCell, World.frozen?_setCell]; exact h.z1
end
theorem setC_chg (a : Addr) (v : Value) (w : World) : Chg (fun b => b = a.block) w (w.setCell a v) :=
  ⟨rfl, rfl, rfl, by simp [World.setCell], fun _ _ hb => Below.heap_setCell _ _ _ _ hb⟩
theorem one_sp (f n : Int) : ∀ u ∈ (#[Value.int .i64 f, .int .i64 n] : Array Value).toList, u.oneCell' = true := by
  intro u hu
  simp at hu
  rcases hu with rfl | rfl <;> rfl
set_option maxHeartbeats 8000000 in
set_option maxRecDepth 100000 in
theorem add_rn {w : World} {r : Nat} {R : List Sp} (h : RunsIs w r R) (hn : R.length ≤ 100) (hw : WhL R) (f n : Int) (hs : WhS f n) : Calls Tryz.prog 83 #[.pointer (some ⟨r, 0, none⟩), .agg #[.int .i64 f, .int .i64 n]] w fun e w' => e = .returned (.tuple #[]) ∧ RunsIs w' r (addR R ⟨f, n⟩) ∧ Chg (fun b => b = r) w w' := by
  obtain ⟨i0, hi, hz0, hz1, hz2⟩ := info_parts Tryz.infoSp
  obtain ⟨w1, hw1, B1, s1, c0, c1⟩ := box2 w f n 59
  have hp : w1.heap[w.heap.size]? = some (.cells #[.int .i64 f, .int .i64 n] 59 (0, 0)) := by rw [hw1]; exact heap_new _ _
  have I1 : AddI w w1 ⟨f, n⟩ := ⟨B1, by omega, c0, c1, by simp [World.frozen?, hp], by simp [World.frozen?, hp]⟩
  have HR := hide h
  obtain ⟨v, l00, lo, lb⟩ := h.l
  obtain ⟨A, c, rfl, hsl, _⟩ := lo.sl
  have hc1 := hsl.2.1
  have hc2 := hsl.2.2.1
  have RD := hide hsl.2.2.2
  have l0 := ((bcell B1).1 _ 0 h.lt).trans l00
  obtain ⟨N, hN⟩ : ∃ N, N = R.length := ⟨_, rfl⟩
  have HN := hide hN
  rw [← hN] at hc1 RD hn l0
  have HI := hide I1
  have HW := hide hw
  have HF := hide (fun k => foldR_ok hw (s := ⟨f, n⟩) hs k)
  have lr := h.lt
  have z1' := ((bcell B1).2 _ 0 h.lt).trans h.z
  clear h lo lb hsl hN c0 c1 hp I1 hw l00
  have l0' := l0
  rw [hw1] at l0'
  go_enter Tryz.func83, Tryz.ntmps83
  go_wp2_with fail
  rw [← hw1]
  clear hw1 l0'
  go_loopw [4, 5, 13] (fun v d j wr => ∃ (k : Nat) (no : Nat) (A : Option Addr) (c : Nat), k ≤ N ∧ j = .int .i64 k ∧ d = .bool ((R.take k).foldl stepR (⟨f, n⟩, [], false)).2.2 ∧ v = .slice A no c ∧ Own eSp 59 wr (w.heap.size + 1) (.slice A no c) ((R.take k).foldl stepR (⟨f, n⟩, [], false)).2.1 ∧ AddI w wr ((R.take k).foldl stepR (⟨f, n⟩, [], false)).1) (fun _ _ j _ => N - (intOf j).toNat)
  case atStart => exact ⟨0, 0, none, 0, Nat.zero_le _, rfl, rfl, rfl, Own.nil _ _ _ _, unhide HI⟩
  case round =>
    obtain ⟨k, no, A1, c1, hk, rfl, rfl, rfl, ho, hI⟩ := hrel
    obtain ⟨st, hst⟩ : ∃ st, st = (R.take k).foldl stepR (⟨f, n⟩, [], false) := ⟨_, rfl⟩
    have hok := unhide HF k (by have := unhide HN; omega)
    rw [← hst] at ho hI hok ⊢
    have hno : no = st.2.1.length := by
      obtain ⟨_, _, hv, _⟩ := ho.sl
      injection hv
    by_cases hlt : k < N
    · have hlt' : (k : Int) < N := by omega
      have hkR : k < R.length := by have := unhide HN; omega
      have hnext : (R.take (k + 1)).foldl stepR (⟨f, n⟩, [], false) = stepR st R[k] := by
        rw [← List.take_append_getElem hkR, List.foldl_append, ← hst]; rfl
      have hx := unhide HW _ (List.getElem_mem hkR)
      obtain ⟨b, off, eA, lb, hrd⟩ := unhide RD (by omega)
      subst eA
      have hBw : ∀ i, wr.cell? ⟨b, i, none⟩ = w.cell? ⟨b, i, none⟩ := fun i => (bcell hI.b).1 b i lb
      have x0 : wr.cell? ⟨b, off + k * 2, none⟩ = some (.int .i64 R[k].from_) := (hBw _).trans (hrd k hkR 0 (by decide))
      have x1 : wr.cell? ⟨b, off + k * 2 + 1, none⟩ = some (.int .i64 R[k].n) := (hBw _).trans (hrd k hkR 1 (by decide))
      obtain ⟨x, hxe⟩ : ∃ x, x = R[k] := ⟨_, rfl⟩
      rw [← hxe] at hnext hx x0 x1
      obtain ⟨xf, xn⟩ := x
      obtain ⟨⟨sf, sn⟩, out, dn⟩ := st
      have x0 : wr.cell? ⟨b, off + k * 2, none⟩ = some (.int .i64 xf) := x0
      have x1 : wr.cell? ⟨b, off + k * 2 + 1, none⟩ = some (.int .i64 xn) := x1
      have ho : Own eSp 59 wr (w.heap.size + 1) (.slice A1 no c1) out := ho
      have hI : AddI w wr ⟨sf, sn⟩ := hI
      have hwx : WhS xf xn := hx
      have hws : WhS sf sn := hok.1
      have hol : out.length ≤ k + 1 := by
        have := hok.2.2
        have : out.length ≤ k + (if dn = true then 1 else 0) := this
        split at this <;> omega
      have szI := hI.sz
      have HoP := hide (fun q (hq : (Value.slice A1 no c1).ownBlock = some q) => (ho.lt q hq).2)
      obtain ⟨w2, hw2⟩ : ∃ W, W = wr.alloc (.cells #[.int .i64 xf, .int .i64 xn] 59) := ⟨_, rfl⟩
      have B2 : Below wr.heap.size wr w2 := by rw [hw2]; exact (Below.refl _ _).alloc (Nat.le_refl _) _
      have s2 : w2.heap.size = wr.heap.size + 1 := by rw [hw2]; simp
      have hq := heap_new wr (.cells #[.int .i64 xf, .int .i64 xn] 59)
      rw [← hw2] at hq
      have y0 : w2.cell? ⟨wr.heap.size, 0, none⟩ = some (.int .i64 xf) := cell_of_heap hq rfl
      have y1 : w2.cell? ⟨wr.heap.size, 1, none⟩ = some (.int .i64 xn) := cell_of_heap hq rfl
      have I2 := hI.below B2
      have O2 := hide (ho.below B2)
      obtain ⟨P, hP⟩ : ∃ P, P = wr.heap.size := ⟨_, rfl⟩
      rw [← hP] at y0 y1 s2 HoP szI
      have e0 := I2.c0
      have e1 := I2.c1
      have e0 : w2.cell? ⟨w.heap.size, 0, none⟩ = some (.int .i64 sf) := e0
      have e1 : w2.cell? ⟨w.heap.size, 1, none⟩ = some (.int .i64 sn) := e1
      have HI2 := hide I2
      have Hnext := hide hnext
      have Hno : no = out.length := hno
      have HNO := hide Hno
      clear hst hok hx hq ho hI hnext hxe hrd hBw B2 I2 hno Hno HI
      have e0' := e0
      have e1' := e1
      rw [hw2] at e0' e1'
      go_wp2_with fail
      rw [← hP, ← hw2]
      clear hw2 e0' e1' x0 x1 hP
      have Ht := hide (touch_sp xf xn sf sn w2 hwx hws)
      obtain ⟨tb, htb⟩ : ∃ tb, tb = touchB xf xn sf sn := ⟨_, rfl⟩
      rw [← htb] at Ht
      have Htb := hide htb
      clear htb
      refine (unhide Ht).mono ?_
      rintro e w3 ⟨rfl, HB3⟩
      have s3 := HB3.size
      have I3 := (unhide HI2).below HB3
      have O3 := hide ((unhide O2).below HB3)
      have y0 := ((bcell HB3).1 P 0 (by omega)).trans y0
      have y1 := ((bcell HB3).1 P 1 (by omega)).trans y1
      have e0 : w3.cell? ⟨w.heap.size, 0, none⟩ = some (.int .i64 sf) := I3.c0
      have e1 : w3.cell? ⟨w.heap.size, 1, none⟩ = some (.int .i64 sn) := I3.c1
      have HI3 := hide I3
      clear HB3 Ht HI2 O2 I3
      cases tb with
      | true =>
        have Hj := hide (join_sp xf xn sf sn w3 hwx hws (unhide Htb).symm)
        have HE := hide ((unhide Hnext).trans (show stepR (⟨sf, sn⟩, out, dn) ⟨xf, xn⟩ = (⟨min xf sf, max (xf + xn) (sf + sn) - min xf sf⟩, out, dn) by unfold stepR; rw [if_pos (unhide Htb).symm]))
        obtain ⟨ja, hja⟩ : ∃ y, y = min xf sf := ⟨_, rfl⟩
        obtain ⟨jb, hjb⟩ : ∃ y, y = max (xf + xn) (sf + sn) - ja := ⟨_, rfl⟩
        rw [← hja] at Hj HE
        rw [← hjb] at Hj HE
        clear hja hjb
        go_wp2_with fail
        refine (unhide Hj).mono ?_
        rintro e w4 ⟨rfl, HB4⟩
        have I4 := (unhide HI3).below HB4
        have O4 := hide ((unhide O3).below HB4)
        have e0 : w4.cell? ⟨w.heap.size, 0, none⟩ = some (.int .i64 sf) := I4.c0
        have e1 : w4.cell? ⟨w.heap.size, 1, none⟩ = some (.int .i64 sn) := I4.c1
        have z0 := I4.z0
        have z1 := I4.z1
        have I5 := hide (I4.set ⟨ja, jb⟩)
        have O5 := hide ((unhide O4).of_block (w' := set2 w4 w.heap.size (.int .i64 ja) (.int .i64 jb)) fun q hq => set2_other _ _ _ _ _ (by have := ((unhide O4).lt q hq).1; omega))
        clear HB4 Hj HI3 O3 I4 O4
        go_wp2_with fail
        go_roundw
        case rel => exact ⟨k + 1, no, A1, c1, by omega, by go_num, by rw [unhide HE], rfl, by rw [unhide HE]; exact unhide O5, by rw [unhide HE]; exact unhide I5⟩
        case measure => simp [intOf]; omega
      | false =>
        have nt : ¬ touchB xf xn sf sn = true := by rw [← unhide Htb]; simp
        have s6 : w.heap.size + 1 ≤ w3.heap.size := by omega
        by_cases hd : dn = false ∧ sf < xf
        · obtain ⟨rfl, hsx⟩ := hd
          have HE := hide ((unhide Hnext).trans (show stepR (⟨sf, sn⟩, out, false) ⟨xf, xn⟩ = (⟨sf, sn⟩, out ++ [⟨sf, sn⟩] ++ [⟨xf, xn⟩], true) by unfold stepR; rw [if_neg nt, if_pos ⟨rfl, hsx⟩]))
          have lP := hide (fun q (hq : (Value.slice A1 no c1).ownBlock = some q) => unhide HoP q hq)
          clear nt
          have a6 : out.length ≤ 103 := by omega
          go_wp2_with (at_builtin; refine wpList_append_one eSp rfl _ _ _ rfl (w.heap.size + 1) 59 i0 _ 16 Tryz.underlying61 hi hz0 hz1 hz2 rfl (by decide) (.slice A1 no c1) out rfl _ (unhide O3) ⟨sf, sn⟩ #[.int .i64 sf, .int .i64 sn] rfl (by simp [Act.eval]) (one_sp _ _) ?c3 ?c4 s6 ?_)
          case c3 => unfold maxLen; omega
          case c4 => omega
          intro v6 w6 hown6 hgr6 hloc6
          have al6 := hal w3 (.cells #[.int .i64 sf, .int .i64 sn] 59)
          have I6 := ((unhide HI3).below ((Below.refl w3.heap.size w3).alloc (Nat.le_refl _) (.cells #[.int .i64 sf, .int .i64 sn] 59))).grown hgr6 fun q hq => ((unhide O3).lt q hq).1
          have sz6 := hgr6.size
          have eP : w6.heap[P]? = w3.heap[P]? := (hgr6.block P (by omega) fun e => by have := unhide lP P e.symm; omega).trans (((Below.refl w3.heap.size w3).alloc (Nat.le_refl _) (.cells #[.int .i64 sf, .int .i64 sn] 59)).block P (by omega))
          have y0 := (World.cell?_of_block (a := ⟨P, 0, none⟩) eP).trans y0
          have y1 := (World.cell?_of_block (a := ⟨P, 1, none⟩) eP).trans y1
          obtain ⟨A6, c6, rfl, _, _⟩ := hown6.sl
          have l6 : (out ++ [(⟨sf, sn⟩ : Sp)]).length ≤ 103 := by simp; omega
          obtain ⟨n6, hn6⟩ : ∃ y, y = (out ++ [(⟨sf, sn⟩ : Sp)]).length := ⟨_, rfl⟩
          rw [← hn6] at hown6 ⊢
          obtain ⟨o6, ho6⟩ : ∃ y, y = out ++ [(⟨sf, sn⟩ : Sp)] := ⟨_, rfl⟩
          rw [← ho6] at hown6 l6 HE
          have HO6 := hide hown6
          have HI6 := hide I6
          have s7 : w.heap.size + 1 ≤ w6.heap.size := by omega
          clear hn6 ho6 hown6 I6 hgr6 hloc6 eP e0 e1 O3 HI3
          have a7 : o6.length ≤ 103 := by omega
          go_wp2_with (at_builtin; refine wpList_append_one eSp rfl _ _ _ rfl (w.heap.size + 1) 59 i0 _ 16 Tryz.underlying61 hi hz0 hz1 hz2 rfl (by decide) (.slice A6 n6 c6) o6 rfl _ (unhide HO6) ⟨xf, xn⟩ #[.int .i64 xf, .int .i64 xn] rfl (by simp [Act.eval]) (one_sp _ _) ?c3 ?c4 s7 ?_)
          case c3 => unfold maxLen; omega
          case c4 => omega
          intro v7 w7 hown7 hgr7 hloc7
          have al7 := hal w6 (.cells #[.int .i64 xf, .int .i64 xn] 59)
          have I7 := ((unhide HI6).below ((Below.refl w6.heap.size w6).alloc (Nat.le_refl _) (.cells #[.int .i64 xf, .int .i64 xn] 59))).grown hgr7 fun q hq => ((unhide HO6).lt q hq).1
          obtain ⟨A7, c7, rfl, _, _⟩ := hown7.sl
          have HO7 := hide hown7
          have HI7 := hide I7
          clear hown7 I7 hgr7 hloc7
          go_wp2_with fail
          go_roundw
          case rel => exact ⟨k + 1, _, A7, c7, by omega, by go_num, by rw [unhide HE], rfl, by rw [unhide HE]; exact unhide HO7, by rw [unhide HE]; exact unhide HI7⟩
          case measure => simp [intOf]; omega
        · have HE := hide ((unhide Hnext).trans (show stepR (⟨sf, sn⟩, out, dn) ⟨xf, xn⟩ = (⟨sf, sn⟩, out ++ [⟨xf, xn⟩], dn) by unfold stepR; rw [if_neg nt, if_neg hd]))
          have s7 : w.heap.size + 1 ≤ w3.heap.size := s6
          clear nt
          cases dn with
          | true =>
            clear hd
            have a7 : out.length ≤ 103 := by omega
            go_wp2_with (at_builtin; refine wpList_append_one eSp rfl _ _ _ rfl (w.heap.size + 1) 59 i0 _ 16 Tryz.underlying61 hi hz0 hz1 hz2 rfl (by decide) (.slice A1 no c1) out rfl _ (unhide O3) ⟨xf, xn⟩ #[.int .i64 xf, .int .i64 xn] rfl (by simp [Act.eval]) (one_sp _ _) ?c3 ?c4 s7 ?_)
            case c3 => unfold maxLen; omega
            case c4 => omega
            intro v7 w7 hown7 hgr7 hloc7
            have al7 := hal w3 (.cells #[.int .i64 xf, .int .i64 xn] 59)
            have I7 := ((unhide HI3).below ((Below.refl w3.heap.size w3).alloc (Nat.le_refl _) (.cells #[.int .i64 xf, .int .i64 xn] 59))).grown hgr7 fun q hq => ((unhide O3).lt q hq).1
            obtain ⟨A7, c7, rfl, _, _⟩ := hown7.sl
            have HO7 := hide hown7
            have HI7 := hide I7
            clear hown7 I7 hgr7 hloc7
            go_wp2_with fail
            go_roundw
            case rel => exact ⟨k + 1, _, A7, c7, by omega, by go_num, by rw [unhide HE], rfl, by rw [unhide HE]; exact unhide HO7, by rw [unhide HE]; exact unhide HI7⟩
            case measure => simp [intOf]; omega
          | false =>
            have hsx : ¬ sf < xf := fun h => hd ⟨rfl, h⟩
            clear hd
            have a7 : out.length ≤ 103 := by omega
            go_wp2_with (at_builtin; refine wpList_append_one eSp rfl _ _ _ rfl (w.heap.size + 1) 59 i0 _ 16 Tryz.underlying61 hi hz0 hz1 hz2 rfl (by decide) (.slice A1 no c1) out rfl _ (unhide O3) ⟨xf, xn⟩ #[.int .i64 xf, .int .i64 xn] rfl (by simp [Act.eval]) (one_sp _ _) ?c3 ?c4 s7 ?_)
            case c3 => unfold maxLen; omega
            case c4 => omega
            intro v7 w7 hown7 hgr7 hloc7
            have al7 := hal w3 (.cells #[.int .i64 xf, .int .i64 xn] 59)
            have I7 := ((unhide HI3).below ((Below.refl w3.heap.size w3).alloc (Nat.le_refl _) (.cells #[.int .i64 xf, .int .i64 xn] 59))).grown hgr7 fun q hq => ((unhide O3).lt q hq).1
            obtain ⟨A7, c7, rfl, _, _⟩ := hown7.sl
            have HO7 := hide hown7
            have HI7 := hide I7
            clear hown7 I7 hgr7 hloc7
            go_wp2_with fail
            go_roundw
            case rel => exact ⟨k + 1, _, A7, c7, by omega, by go_num, by rw [unhide HE], rfl, by rw [unhide HE]; exact unhide HO7, by rw [unhide HE]; exact unhide HI7⟩
            case measure => simp [intOf]; omega
    · obtain ⟨w3, rfl⟩ : ∃ wo : World, wo = wr := ⟨_, rfl⟩
      have hkN : k = N := by omega
      have hlt' : ¬ (k : Int) < N := by omega
      have hfin : (R.take k).foldl stepR (⟨f, n⟩, [], false) = R.foldl stepR (⟨f, n⟩, [], false) := by
        rw [List.take_of_length_le (by have := unhide HN; omega)]
      have hE : addR R ⟨f, n⟩ = if st.2.2 = true then st.2.1 else st.2.1 ++ [st.1] := by
        unfold addR
        rw [← hfin, ← hst]
      obtain ⟨⟨sf, sn⟩, out, dn⟩ := st
      have ho : Own eSp 59 w3 (w.heap.size + 1) (.slice A1 no c1) out := ho
      have hI : AddI w w3 ⟨sf, sn⟩ := hI
      have hol : out.length ≤ k + 1 := by
        have := hok.2.2
        have : out.length ≤ k + (if dn = true then 1 else 0) := this
        split at this <;> omega
      have s7 := hI.sz
      obtain ⟨v0, rl, _, _⟩ := (unhide HR).l
      have rz := (unhide HR).z
      have r0 := ((bcell hI.b).1 r 0 lr).trans rl
      have z0 := ((bcell hI.b).2 r 0 lr).trans rz
      have e0 : w3.cell? ⟨w.heap.size, 0, none⟩ = some (.int .i64 sf) := hI.c0
      have e1 : w3.cell? ⟨w.heap.size, 1, none⟩ = some (.int .i64 sn) := hI.c1
      have HO3 := hide ho
      have HI3 := hide hI
      clear hst hok ho hI hkN hfin hlt hno
      cases dn with
      | true =>
        have HE := hide (hE.trans (if_pos rfl))
        clear hE
        go_wp2_with fail
        go_end0
        refine ⟨rfl, ?_, (Chg.of_below (unhide HI3).b).trans (setC_chg ⟨r, 0, none⟩ _ w3)⟩
        rw [unhide HE]
        have hO := unhide HO3
        have hI := unhide HI3
        have hne : ∀ q, (Value.slice A1 no c1).ownBlock = some q → q ≠ r := fun q hq => by have := (hO.lt q hq).1; omega
        exact ⟨by have := hI.sz; simp only [World.setCell, Array.size_modify]; omega, ⟨_, World.cell?_setCell_same _ _ _ r0, (hO.of_block fun q hq => Below.heap_setCell _ _ _ _ (hne q hq)).lower (Nat.zero_le _), hne⟩, by rw [World.frozen?_setCell]; exact z0⟩
      | false =>
        have HE := hide (hE.trans (if_neg (by simp)))
        clear hE
        have a7 : out.length ≤ 103 := by omega
        go_wp2_with (at_builtin; refine wpList_append_one eSp rfl _ _ _ rfl (w.heap.size + 1) 59 i0 _ 16 Tryz.underlying61 hi hz0 hz1 hz2 rfl (by decide) (.slice A1 no c1) out rfl _ (unhide HO3) ⟨sf, sn⟩ #[.int .i64 sf, .int .i64 sn] rfl (by simp [Act.eval]) (one_sp _ _) ?c3 ?c4 s7 ?_)
        case c3 => unfold maxLen; omega
        case c4 => omega
        intro v7 w7 hown7 hgr7 hloc7
        have al7 := hal w3 (.cells #[.int .i64 sf, .int .i64 sn] 59)
        have I7 := ((unhide HI3).below ((Below.refl w3.heap.size w3).alloc (Nat.le_refl _) (.cells #[.int .i64 sf, .int .i64 sn] 59))).grown hgr7 fun q hq => ((unhide HO3).lt q hq).1
        obtain ⟨A7, c7, rfl, _, _⟩ := hown7.sl
        obtain ⟨n7, hn7⟩ : ∃ y, y = (out ++ [(⟨sf, sn⟩ : Sp)]).length := ⟨_, rfl⟩
        rw [← hn7] at hown7 ⊢
        have HO7 := hide hown7
        have r0 := ((bcell I7.b).1 r 0 lr).trans rl
        have z0 := ((bcell I7.b).2 r 0 lr).trans rz
        have HI7 := hide I7
        clear hown7 I7 hgr7 hloc7 hn7
        go_wp2_with fail
        go_end0
        refine ⟨rfl, ?_, (Chg.of_below (unhide HI7).b).trans (setC_chg ⟨r, 0, none⟩ _ w7)⟩
        rw [unhide HE]
        have hO := unhide HO7
        have hI := unhide HI7
        have hne : ∀ q, (Value.slice A7 n7 c7).ownBlock = some q → q ≠ r := fun q hq => by have := (hO.lt q hq).1; omega
        exact ⟨by have := hI.sz; simp only [World.setCell, Array.size_modify]; omega, ⟨_, World.cell?_setCell_same _ _ _ r0, (hO.of_block fun q hq => Below.heap_setCell _ _ _ _ (hne q hq)).lower (Nat.zero_le _), hne⟩, by rw [World.frozen?_setCell]; exact z0⟩
end Go.Proofs.YtjjfdkdneibjbaaGreatDoor
/- Walk of package runs: how many blocks, spans put in, a set of spans, whether a block is in it. -/
namespace Go.Proofs.YtjjfdkdneibjbaaGreatDoor
open Go.RowKit

set_option maxHeartbeats 4000000 in
set_option maxRecDepth 100000 in
theorem count_rn {w : World} {r : Nat} {R : List Sp} (h : RunsIs w r R) (hn : R.length ≤ 100) (hw : WhL R) : Calls Tryz.prog 81 #[.pointer (some ⟨r, 0, none⟩)] w fun e w' => (∃ S : Int, e = .returned (.int .i64 S) ∧ 0 ≤ S ∧ S ≤ 6400) ∧ Below w.heap.size w w' := by
  have Ha := hide (all_rn h (by omega))
  have HW := hide hw
  obtain ⟨N, hN⟩ : ∃ N, N = R.length := ⟨_, rfl⟩
  have HN := hide hN
  rw [← hN] at Ha hn
  clear h hw hN
  go_enter Tryz.func81, Tryz.ntmps81
  go_wp2_with fail
  refine (unhide Ha).mono ?_
  rintro e w2 ⟨⟨A, c, rfl, ho⟩, HB⟩
  obtain ⟨A', c', hv, hs, _⟩ := ho.sl
  injection hv with v1 v2 v3
  rw [← v1, ← v2, ← v3] at hs
  have hc1 := hs.2.1
  have hc2 := hs.2.2.1
  have RD := hide hs.2.2.2
  have HB2 := hide HB
  have s2 := HB.size
  clear Ha hs ho v1 v2 v3 HB
  go_wp2_with fail
  go_loopw [3, 9] (fun v j wr => ∃ (k : Nat) (S : Int), k ≤ N ∧ j = .int .i64 k ∧ v = .int .i64 S ∧ 0 ≤ S ∧ S ≤ 64 * k ∧ Below w2.heap.size w2 wr) (fun _ j _ => N - (intOf j).toNat)
  case atStart => exact ⟨0, 0, Nat.zero_le _, rfl, rfl, by omega, by omega, Below.refl _ _⟩
  case round =>
    obtain ⟨k, S, hk, rfl, rfl, hS0, hS1, HBr⟩ := hrel
    by_cases hlt : k < N
    · have hlt' : (k : Int) < N := by omega
      have hkR : k < R.length := by have := unhide HN; omega
      obtain ⟨b, off, eA, lb, hrd⟩ := unhide RD (by omega)
      subst eA
      have x0 : wr.cell? ⟨b, off + k * 2, none⟩ = some (.int .i64 R[k].from_) := ((bcell HBr).1 _ _ lb).trans (hrd k hkR 0 (by decide))
      have x1 : wr.cell? ⟨b, off + k * 2 + 1, none⟩ = some (.int .i64 R[k].n) := ((bcell HBr).1 _ _ lb).trans (hrd k hkR 1 (by decide))
      obtain ⟨h1, h2, h3⟩ := unhide HW _ (List.getElem_mem hkR)
      obtain ⟨xf, hxf⟩ : ∃ x, x = R[k].from_ := ⟨_, rfl⟩
      obtain ⟨xn, hxn⟩ : ∃ x, x = R[k].n := ⟨_, rfl⟩
      rw [← hxf] at x0 h1 h3
      rw [← hxn] at x1 h2 h3
      have HBa := hide (HBr.alloc (by have := HBr.size; omega) (.cells #[.int .i64 xf, .int .i64 xn] 59))
      have hb1 : S + xn ≤ 64 * (k + 1) := by omega
      clear hrd hxf hxn HBr
      go_wp2_with fail
      go_roundw
      case rel => exact ⟨k + 1, S + xn, by omega, by go_num, rfl, by omega, by omega, unhide HBa⟩
      case measure => simp [intOf]; omega
    · have hlt' : ¬ (k : Int) < N := by omega
      have BF := hide ((unhide HB2).trans (HBr.mono s2))
      clear HBr
      go_wp2_with fail
      go_ret
      exact ⟨⟨S, rfl, hS0, by omega⟩, unhide BF⟩
/-- Spans put in. -/
def whB (f n : Int) : Bool := decide (0 ≤ f) && decide (1 ≤ n) && decide (f + n ≤ 64)
theorem whB_iff (f n : Int) : whB f n = true ↔ WhS f n := by
  unfold whB WhS
  simp only [Bool.and_eq_true, decide_eq_true_eq]
  omega
def putS (R : List Sp) (s : Sp) : List Sp := if whB s.from_ s.n = true then addR R s else R
def putR (R L : List Sp) : List Sp := L.foldl putS R
theorem putR_ok {R : List Sp} (hR : WhL R) (L : List Sp) (k : Nat) (hk : k ≤ L.length) : WhL (putR R (L.take k)) ∧ (putR R (L.take k)).length ≤ R.length + k := by
  induction k with
  | zero => exact ⟨hR, by simp [putR]⟩
  | succ k ih =>
    obtain ⟨i1, i2⟩ := ih (by omega)
    have e : putR R (L.take (k + 1)) = putS (putR R (L.take k)) (L[k]'(by omega)) := by
      unfold putR
      rw [← List.take_append_getElem (show k < L.length by omega), List.foldl_append]; rfl
    rw [e]
    unfold putS
    split
    · rename_i h
      have := addR_ok i1 ((whB_iff _ _).1 h)
      exact ⟨this.1, by omega⟩
    · exact ⟨i1, by omega⟩
set_option maxHeartbeats 8000000 in
set_option maxRecDepth 100000 in
theorem put_rn {w : World} {r : Nat} {R : List Sp} (h : RunsIs w r R) (hw : WhL R) (A : Option Addr) (n c : Nat) (L : List Sp) (hL : Sl eSp w A n c L) (hAr : 0 < n → ∀ b off, A = some ⟨b, off, none⟩ → b ≠ r) (hn : R.length + n ≤ 100) : Calls Tryz.prog 33 #[.pointer (some ⟨r, 0, none⟩), .slice A n c] w fun e w' => (∃ S : Int, e = .returned (.int .i64 S)) ∧ RunsIs w' r (putR R L) ∧ Chg (fun b => b = r) w w' := by
  have Hc := hide (count_rn h (by omega) hw)
  have HN := hide hL.1
  have hc1 := hL.2.1
  have hc2 := hL.2.2.1
  have RD := hide hL.2.2.2
  have HR := hide h
  have HO := hide (fun k => putR_ok hw L k)
  have HAr := hide hAr
  clear h hw hL hAr
  go_enter Tryz.func33, Tryz.ntmps33
  go_wp2_with fail
  refine (unhide Hc).mono ?_
  rintro e w2 ⟨⟨S0, rfl, h00, h01⟩, HB⟩
  have HB2 := hide HB
  have s2 := HB.size
  clear Hc HB
  go_wp2_with fail
  go_loopw [14] (fun j wr => ∃ k : Nat, k ≤ n ∧ j = .int .i64 k ∧ RunsIs wr r (putR R (L.take k)) ∧ Chg (fun b => b = r) w wr) (fun j _ => n - (intOf j).toNat)
  case atStart => exact ⟨0, Nat.zero_le _, rfl, (unhide HR).below (unhide HB2), Chg.of_below (unhide HB2)⟩
  case round =>
    obtain ⟨k, hk, rfl, hR, hC⟩ := hrel
    have hok := unhide HO k (by have := unhide HN; omega)
    have sr := hC.size
    by_cases hlt : k < n
    · have hlt' : (k : Int) < n := by omega
      have hkL : k < L.length := by have := unhide HN; omega
      have hnext : putR R (L.take (k + 1)) = putS (putR R (L.take k)) L[k] := by
        unfold putR
        rw [← List.take_append_getElem hkL, List.foldl_append]; rfl
      obtain ⟨b, off, eA, lb, hrd⟩ := unhide RD (by omega)
      have hbr := unhide HAr (by omega) b off eA
      subst eA
      have eb := hC.block b lb hbr
      have x0 : wr.cell? ⟨b, off + k * 2, none⟩ = some (.int .i64 L[k].from_) := (World.cell?_of_block (a := ⟨b, off + k * 2, none⟩) eb).trans (hrd k hkL 0 (by decide))
      have x1 : wr.cell? ⟨b, off + k * 2 + 1, none⟩ = some (.int .i64 L[k].n) := (World.cell?_of_block (a := ⟨b, off + k * 2 + 1, none⟩) eb).trans (hrd k hkL 1 (by decide))
      obtain ⟨x, hxe⟩ : ∃ x, x = L[k] := ⟨_, rfl⟩
      rw [← hxe] at x0 x1 hnext
      obtain ⟨xf, xn⟩ := x
      have x0 : wr.cell? ⟨b, off + k * 2, none⟩ = some (.int .i64 xf) := x0
      have x1 : wr.cell? ⟨b, off + k * 2 + 1, none⟩ = some (.int .i64 xn) := x1
      obtain ⟨Q, hQ⟩ : ∃ Q, Q = putR R (L.take k) := ⟨_, rfl⟩
      rw [← hQ] at hok hnext hR
      have Hnext := hide hnext
      obtain ⟨w3, hw3⟩ : ∃ W, W = wr.alloc (.cells #[.int .i64 xf, .int .i64 xn] 59) := ⟨_, rfl⟩
      have B3 : Below wr.heap.size wr w3 := by rw [hw3]; exact (Below.refl _ _).alloc (Nat.le_refl _) _
      have s3 : wr.heap.size < w3.heap.size := by rw [hw3]; simp
      have hq := heap_new wr (.cells #[.int .i64 xf, .int .i64 xn] 59)
      rw [← hw3] at hq
      have y0 : w3.cell? ⟨wr.heap.size, 0, none⟩ = some (.int .i64 xf) := cell_of_heap hq rfl
      have y1 : w3.cell? ⟨wr.heap.size, 1, none⟩ = some (.int .i64 xn) := cell_of_heap hq rfl
      have R3 := hide (hR.below B3)
      have C3 := hide (hC.trans (Chg.of_below B3))
      obtain ⟨P, hP⟩ : ∃ P, P = wr.heap.size := ⟨_, rfl⟩
      rw [← hP] at y0 y1 s3
      have y0' := y0
      have y1' := y1
      rw [hw3] at y0' y1'
      have Hok := hide hok
      clear hok hnext hxe hrd eb hQ hq hR hC B3
      by_cases hwh : whB xf xn = true
      · have hwS := (whB_iff _ _).1 hwh
        have HE := hide ((unhide Hnext).trans (show putS Q ⟨xf, xn⟩ = addR Q ⟨xf, xn⟩ by unfold putS; rw [if_pos hwh]))
        clear hwh
        go_wp2_with fail
        rw [← hP, ← hw3]
        clear hP hw3 y0' y1'
        refine (valid_sp xf xn w3 hwS).mono ?_
        rintro e w4 ⟨rfl, HB4⟩
        have y0 := ((bcell HB4).1 P 0 s3).trans y0
        have y1 := ((bcell HB4).1 P 1 s3).trans y1
        have R4 := hide ((unhide R3).below HB4)
        have C4 := hide ((unhide C3).trans (Chg.of_below HB4))
        clear HB4 R3 C3
        go_wp2_with fail
        refine (add_rn (unhide R4) (by have := (unhide Hok).2; omega) (unhide Hok).1 xf xn hwS).mono ?_
        rintro e w5 ⟨rfl, hR5, hC5⟩
        have R5 := hide hR5
        have C5 := hide ((unhide C4).trans hC5)
        clear hR5 hC5 R4 C4
        go_wp2_with fail
        go_roundw
        case rel => exact ⟨k + 1, by omega, by go_num, by rw [unhide HE]; exact unhide R5, unhide C5⟩
        case measure => simp [intOf]; omega
      · have hwS : ¬ WhS xf xn := fun h => hwh ((whB_iff _ _).2 h)
        have HE := hide ((unhide Hnext).trans (show putS Q ⟨xf, xn⟩ = Q by unfold putS; rw [if_neg hwh]))
        clear hwh
        go_wp2_with fail
        rw [← hP, ← hw3]
        clear hP hw3 y0' y1'
        refine (valid_no xf xn w3 hwS).mono ?_
        rintro e w4 ⟨rfl, HB4⟩
        have R4 := hide ((unhide R3).below HB4)
        have C4 := hide ((unhide C3).trans (Chg.of_below HB4))
        clear HB4 R3 C3
        go_wp2_with fail
        go_roundw
        case rel => exact ⟨k + 1, by omega, by go_num, by rw [unhide HE]; exact unhide R4, unhide C4⟩
        case measure => simp [intOf]; omega
    · have hlt' : ¬ (k : Int) < n := by omega
      have hfin : putR R (L.take k) = putR R L := by rw [List.take_of_length_le (by have := unhide HN; omega)]
      rw [hfin] at hR hok
      have Hc := hide (count_rn hR (by omega) hok.1)
      have R4 := hide hR
      have C4 := hide hC
      clear hR hC hok hfin
      go_wp2_with fail
      refine (unhide Hc).mono ?_
      rintro e w4 ⟨⟨S1, rfl, h10, h11⟩, HB4⟩
      have R5 := hide ((unhide R4).below HB4)
      have C5 := hide ((unhide C4).trans (Chg.of_below HB4))
      clear HB4 R4 C4 Hc
      go_wp2_with fail
      go_ret
      exact ⟨⟨_, rfl⟩, unhide R5, unhide C5⟩
end Go.Proofs.YtjjfdkdneibjbaaGreatDoor
/- Walk of package runs: a set of some spans; whether a block is in a set. -/
namespace Go.Proofs.YtjjfdkdneibjbaaGreatDoor
open Go.RowKit

set_option maxHeartbeats 2000000 in
theorem of_rn (w : World) (A : Option Addr) (n c : Nat) (L : List Sp) (hL : Sl eSp w A n c L) (hn : n ≤ 100) : Calls Tryz.prog 21 #[.slice A n c] w fun e w' => (∃ r, e = .returned (.pointer (some ⟨r, 0, none⟩)) ∧ w.heap.size ≤ r ∧ RunsIs w' r (putR [] L)) ∧ Below w.heap.size w w' := by
  obtain ⟨w1, hw1⟩ : ∃ W, W = w.alloc (.cells #[.slice none 0 0] 134) := ⟨_, rfl⟩
  have B1 : Below w.heap.size w w1 := by rw [hw1]; exact (Below.refl _ _).alloc (Nat.le_refl _) _
  have s1 : w1.heap.size = w.heap.size + 1 := by rw [hw1]; simp
  have hp : w1.heap[w.heap.size]? = some (.cells #[.slice none 0 0] 134 (0, 0)) := by rw [hw1]; exact heap_new _ _
  have hR : RunsIs w1 w.heap.size [] := ⟨by omega, ⟨_, cell_of_heap hp rfl, Own.nil _ _ _ _, fun b h => by cases h⟩, by simp [World.frozen?, hp]⟩
  have Hp := hide (put_rn hR (fun x h => by simp at h) A n c L (hL.below B1) (fun h0 b off e => by
    obtain ⟨b', off', e', lb, _⟩ := hL.2.2.2 h0
    rw [e] at e'; injection e' with e'; injection e' with e' _
    omega) (by simpa using hn))
  clear hR hp hL
  go_enter Tryz.func21, Tryz.ntmps21
  go_wp2_with fail
  rw [← hw1]
  clear hw1
  refine (unhide Hp).mono ?_
  rintro e w2 ⟨⟨S, rfl⟩, hR, hC⟩
  have B2 := hide (B1.trans (hC.to_below (by omega) (fun k e => by omega)))
  have R2 := hide hR
  clear hR hC B1
  go_wp2_with fail
  go_ret
  exact ⟨⟨_, rfl, Nat.le_refl _, unhide R2⟩, unhide B2⟩
/-- Is a block in a set? -/
def hasR (R : List Sp) (k : Nat) : Bool := R.any fun s => decide (s.from_ ≤ (k : Int)) && decide ((k : Int) < s.from_ + s.n)
set_option maxHeartbeats 4000000 in
set_option maxRecDepth 100000 in
theorem has_rn {w : World} {r : Nat} {R : List Sp} (h : RunsIs w r R) (hn : R.length ≤ 100) (hw : WhL R) (q : Nat) : Calls Tryz.prog 56 #[.pointer (some ⟨r, 0, none⟩), .int .i64 (q : Int)] w fun e w' => e = .returned (.bool (hasR R q)) ∧ Below w.heap.size w w' := by
  have Ha := hide (all_rn h (by omega))
  have HW := hide hw
  obtain ⟨N, hN⟩ : ∃ N, N = R.length := ⟨_, rfl⟩
  have HN := hide hN
  rw [← hN] at Ha hn
  have key : ∀ k, k ≤ R.length → hasR R q = ((R.take k).any (fun s => decide (s.from_ ≤ (q : Int)) && decide ((q : Int) < s.from_ + s.n)) || (R.drop k).any fun s => decide (s.from_ ≤ (q : Int)) && decide ((q : Int) < s.from_ + s.n)) := fun k _ => by
    unfold hasR
    rw [← List.any_append, List.take_append_drop]
  have Key := hide key
  obtain ⟨RES, hRES⟩ : ∃ b, b = hasR R q := ⟨_, rfl⟩
  have HRES := hide hRES
  rw [← hRES]
  clear h hw hN key hRES
  go_enter Tryz.func56, Tryz.ntmps56
  go_wp2_with fail
  refine (unhide Ha).mono ?_
  rintro e w2 ⟨⟨A, c, rfl, ho⟩, HB⟩
  obtain ⟨A', c', hv, hs, _⟩ := ho.sl
  injection hv with v1 v2 v3
  rw [← v1, ← v2, ← v3] at hs
  have hc1 := hs.2.1
  have hc2 := hs.2.2.1
  have RD := hide hs.2.2.2
  have HB2 := hide HB
  have s2 := HB.size
  clear Ha hs ho v1 v2 v3 HB
  go_wp2_with fail
  go_loopw [10] (fun j wr => ∃ k : Nat, k ≤ N ∧ j = .int .i64 k ∧ (R.take k).any (fun s => decide (s.from_ ≤ (q : Int)) && decide ((q : Int) < s.from_ + s.n)) = false ∧ Below w2.heap.size w2 wr) (fun j _ => N - (intOf j).toNat)
  case atStart => exact ⟨0, Nat.zero_le _, rfl, rfl, Below.refl _ _⟩
  case round =>
    obtain ⟨k, hk, rfl, hany, HBr⟩ := hrel
    have sr := HBr.size
    by_cases hlt : k < N
    · have hlt' : (k : Int) < N := by omega
      have hkR : k < R.length := by have := unhide HN; omega
      have hnext : (R.take (k + 1)).any (fun s => decide (s.from_ ≤ (q : Int)) && decide ((q : Int) < s.from_ + s.n)) = (decide (R[k].from_ ≤ (q : Int)) && decide ((q : Int) < R[k].from_ + R[k].n)) := by
        rw [← List.take_append_getElem hkR, List.any_append, hany]; simp
      obtain ⟨b, off, eA, lb, hrd⟩ := unhide RD (by omega)
      subst eA
      have x0 : wr.cell? ⟨b, off + k * 2, none⟩ = some (.int .i64 R[k].from_) := ((bcell HBr).1 _ _ lb).trans (hrd k hkR 0 (by decide))
      have x1 : wr.cell? ⟨b, off + k * 2 + 1, none⟩ = some (.int .i64 R[k].n) := ((bcell HBr).1 _ _ lb).trans (hrd k hkR 1 (by decide))
      have hwS := unhide HW _ (List.getElem_mem hkR)
      have hdr : (R.drop k).any (fun s => decide (s.from_ ≤ (q : Int)) && decide ((q : Int) < s.from_ + s.n)) = ((decide (R[k].from_ ≤ (q : Int)) && decide ((q : Int) < R[k].from_ + R[k].n)) || (R.drop (k + 1)).any fun s => decide (s.from_ ≤ (q : Int)) && decide ((q : Int) < s.from_ + s.n)) := by
        rw [List.drop_eq_getElem_cons hkR, List.any_cons]
      have hyes : (decide (R[k].from_ ≤ (q : Int)) && decide ((q : Int) < R[k].from_ + R[k].n)) = true → RES = true := fun e => by
        rw [unhide HRES, unhide Key k (by omega), hdr, e]; simp
      obtain ⟨xf, hxf⟩ : ∃ x, x = R[k].from_ := ⟨_, rfl⟩
      obtain ⟨xn, hxn⟩ : ∃ x, x = R[k].n := ⟨_, rfl⟩
      rw [← hxf] at x0 hwS hnext hyes
      rw [← hxn] at x1 hwS hnext hyes
      obtain ⟨tb, htb⟩ : ∃ b, b = (decide (xf ≤ (q : Int)) && decide ((q : Int) < xf + xn)) := ⟨_, rfl⟩
      rw [← htb] at hnext hyes
      have Hh := hide (fun W => (has_sp xf xn (q : Int) W hwS))
      rw [← htb] at Hh
      obtain ⟨w3, hw3⟩ : ∃ W, W = wr.alloc (.cells #[.int .i64 xf, .int .i64 xn] 59) := ⟨_, rfl⟩
      have B3 : Below w2.heap.size w2 w3 := by rw [hw3]; exact HBr.alloc (by omega) _
      have s3 := B3.size
      have hq := heap_new wr (.cells #[.int .i64 xf, .int .i64 xn] 59)
      have y0' : (wr.alloc (.cells #[.int .i64 xf, .int .i64 xn] 59)).cell? ⟨wr.heap.size, 0, none⟩ = some (.int .i64 xf) := cell_of_heap hq rfl
      have y1' : (wr.alloc (.cells #[.int .i64 xf, .int .i64 xn] 59)).cell? ⟨wr.heap.size, 1, none⟩ = some (.int .i64 xn) := cell_of_heap hq rfl
      have HB3 := hide B3
      have Hnext := hide hnext
      have Hyes := hide hyes
      clear hrd hxf hxn HBr htb hnext hdr hyes hq B3 hany
      go_wp2_with fail
      rw [← hw3]
      clear hw3
      refine (unhide Hh w3).mono ?_
      rintro e w4 ⟨rfl, HB4⟩
      have B4 := hide ((unhide HB3).trans (HB4.mono s3))
      clear HB4
      cases tb with
      | true =>
        have Hy2 := hide (unhide Hyes rfl)
        clear Hyes
        go_wp2_with fail
        go_ret
        exact ⟨by rw [unhide Hy2]; rfl, (unhide HB2).trans ((unhide B4).mono s2)⟩
      | false =>
        go_wp2_with fail
        go_roundw
        case rel => exact ⟨k + 1, by omega, by go_num, unhide Hnext, unhide B4⟩
        case measure => simp [intOf]; omega
    · have hlt' : ¬ (k : Int) < N := by omega
      have hres : RES = false := by
        have hall : R.take k = R := List.take_of_length_le (by have := unhide HN; omega)
        rw [hall] at hany
        rw [unhide HRES]; exact hany
      have BF := hide ((unhide HB2).trans (HBr.mono s2))
      have Hres := hide hres
      clear HBr hany hres
      go_wp2_with fail
      go_ret
      exact ⟨by rw [unhide Hres]; rfl, unhide BF⟩
end Go.Proofs.YtjjfdkdneibjbaaGreatDoor
/- Spans of marked blocks: the plain law; marks that are put in one by one are the same spans. -/
namespace Go.Proofs.YtjjfdkdneibjbaaGreatDoor
open Go.RowKit

/-- The last span, one block longer. -/
def growS : List Sp → List Sp
  | [] => []
  | [x] => [⟨x.from_, x.n + 1⟩]
  | x :: y :: l => x :: growS (y :: l)
theorem growS_snoc (l : List Sp) (x : Sp) : growS (l ++ [x]) = l ++ [⟨x.from_, x.n + 1⟩] := by
  induction l with
  | nil => rfl
  | cons y l ih =>
    cases l with
    | nil => rfl
    | cons z l =>
      show y :: growS (z :: l ++ [x]) = _
      rw [ih]; rfl
/-- The spans of the first blocks that are marked. -/
def spansB (B : Nat → Bool) : Nat → List Sp
  | 0 => []
  | k + 1 => if B k = false then spansB B k else if 0 < k ∧ B (k - 1) = true then growS (spansB B k) else spansB B k ++ [⟨(k : Int), 1⟩]
structure SpIs (B : Nat → Bool) (k : Nat) (l : List Sp) : Prop where
  good : ∀ y ∈ l, 0 ≤ y.from_ ∧ 1 ≤ y.n ∧ y.from_ + y.n ≤ (k : Int)
  no : ¬ (0 < k ∧ B (k - 1) = true) → ∀ y ∈ l, y.from_ + y.n < (k : Int)
  yes : 0 < k ∧ B (k - 1) = true → ∃ m x, l = m ++ [x] ∧ x.from_ + x.n = (k : Int) ∧ ∀ y ∈ m, y.from_ + y.n < x.from_
  len : l.length ≤ k
theorem spansB_is (B : Nat → Bool) : ∀ k, SpIs B k (spansB B k)
  | 0 => ⟨fun y h => by simp [spansB] at h, fun _ y h => by simp [spansB] at h, fun h => by omega, Nat.le_refl _⟩
  | k + 1 => by
    have ih := spansB_is B k
    rw [spansB]
    by_cases h1 : B k = false
    · rw [if_pos h1]
      refine ⟨fun y hy => ?_, fun _ y hy => ?_, fun h => ?_, by have := ih.len; omega⟩
      · have := ih.good y hy; omega
      · have := ih.good y hy; omega
      · have : B k = true := h.2
        rw [h1] at this; cases this
    · rw [if_neg h1]
      have h1 : B k = true := by simpa using h1
      by_cases h2 : 0 < k ∧ B (k - 1) = true
      · rw [if_pos h2]
        obtain ⟨m, x, e, e2, e3⟩ := ih.yes h2
        have hx := ih.good x (by rw [e]; simp)
        have hl := ih.len
        rw [e] at hl ⊢
        rw [growS_snoc]
        have hm : ∀ y ∈ m, 0 ≤ y.from_ ∧ 1 ≤ y.n ∧ y.from_ + y.n ≤ (k : Int) := fun y hy => ih.good y (by rw [e]; exact List.mem_append_left _ hy)
        refine ⟨fun y hy => ?_, fun h => absurd ⟨Nat.succ_pos k, h1⟩ h, fun _ => ⟨m, _, rfl, by show x.from_ + (x.n + 1) = _; omega, e3⟩, by simp at hl ⊢; omega⟩
        rcases List.mem_append.1 hy with hy | hy
        · have := hm y hy; omega
        · rw [List.mem_singleton] at hy
          subst hy
          refine ⟨hx.1, by show 1 ≤ x.n + 1; omega, by show x.from_ + (x.n + 1) ≤ _; omega⟩
      · rw [if_neg h2]
        refine ⟨fun y hy => ?_, fun h => absurd ⟨Nat.succ_pos k, h1⟩ h, fun _ => ⟨_, _, rfl, by show (k : Int) + 1 = _; omega, fun y hy => ih.no h2 y hy⟩, by have := ih.len; simp; omega⟩
        rcases List.mem_append.1 hy with hy | hy
        · have := ih.good y hy; omega
        · rw [List.mem_singleton] at hy
          subst hy
          exact ⟨by show (0 : Int) ≤ k; omega, by show (1 : Int) ≤ 1; omega, by show (k : Int) + 1 ≤ _; omega⟩
/-- Spans that end ahead of the next block are passed. -/
theorem fold_pass (k : Nat) : ∀ (l out : List Sp), (∀ y ∈ l, 0 ≤ y.from_ ∧ 1 ≤ y.n ∧ y.from_ + y.n < (k : Int)) → l.foldl stepR (⟨(k : Int), 1⟩, out, false) = (⟨(k : Int), 1⟩, out ++ l, false)
  | [], out, _ => by simp
  | x :: l, out, h => by
    have hx := h x List.mem_cons_self
    have hs : stepR (⟨(k : Int), 1⟩, out, false) x = (⟨(k : Int), 1⟩, out ++ [x], false) := by
      unfold stepR
      rw [if_neg, if_neg]
      · show ¬ (false = false ∧ (k : Int) < x.from_)
        omega
      · unfold touchB
        rw [decide_eq_true_eq]
        show ¬ max x.from_ (k : Int) ≤ min (x.from_ + x.n) ((k : Int) + 1)
        omega
    rw [List.foldl_cons, hs, fold_pass k l (out ++ [x]) fun y hy => h y (List.mem_cons_of_mem _ hy)]
    simp
theorem addR_next (B : Nat → Bool) (k : Nat) : addR (spansB B k) ⟨(k : Int), 1⟩ = if 0 < k ∧ B (k - 1) = true then growS (spansB B k) else spansB B k ++ [⟨(k : Int), 1⟩] := by
  have hI := spansB_is B k
  by_cases h : 0 < k ∧ B (k - 1) = true
  · rw [if_pos h]
    obtain ⟨m, x, e, e2, e3⟩ := hI.yes h
    have hx := hI.good x (by rw [e]; simp)
    rw [e, growS_snoc]
    unfold addR
    rw [List.foldl_append, fold_pass k m [] fun y hy => ?_]
    · have hs : stepR (⟨(k : Int), 1⟩, [] ++ m, false) x = (⟨x.from_, x.n + 1⟩, [] ++ m, false) := by
        unfold stepR
        rw [if_pos]
        · show ((⟨min x.from_ (k : Int), max (x.from_ + x.n) ((k : Int) + 1) - min x.from_ (k : Int)⟩ : Sp), [] ++ m, false) = _
          rw [show min x.from_ (k : Int) = x.from_ by omega, show max (x.from_ + x.n) ((k : Int) + 1) - x.from_ = x.n + 1 by omega]
        · unfold touchB
          rw [decide_eq_true_eq]
          show max x.from_ (k : Int) ≤ min (x.from_ + x.n) ((k : Int) + 1)
          omega
      rw [List.foldl_cons, List.foldl_nil, hs]
      simp
    · have h1 := hI.good y (by rw [e]; exact List.mem_append_left _ hy)
      have h2 := e3 y hy
      exact ⟨h1.1, h1.2.1, by omega⟩
  · rw [if_neg h]
    unfold addR
    rw [fold_pass k (spansB B k) [] fun y hy => ⟨(hI.good y hy).1, (hI.good y hy).2.1, hI.no h y hy⟩]
    simp
/-- Marks that are put in one by one. -/
theorem putR_next (B : Nat → Bool) {k : Nat} (hk : k < 64) (h : B k = true) : putR (spansB B k) [⟨(k : Int), 1⟩] = spansB B (k + 1) := by
  have e : putR (spansB B k) [⟨(k : Int), 1⟩] = addR (spansB B k) ⟨(k : Int), 1⟩ := by
    show putS (spansB B k) ⟨(k : Int), 1⟩ = _
    unfold putS
    rw [if_pos]
    rw [whB_iff]
    exact ⟨by show (0 : Int) ≤ k; omega, by show (1 : Int) ≤ 1; omega, by show (k : Int) + 1 ≤ 64; omega⟩
  have e2 : spansB B (k + 1) = if 0 < k ∧ B (k - 1) = true then growS (spansB B k) else spansB B k ++ [⟨(k : Int), 1⟩] := by
    rw [spansB, if_neg (show ¬ B k = false by rw [h]; simp)]
  rw [e, addR_next, e2]
end Go.Proofs.YtjjfdkdneibjbaaGreatDoor
/- Walk of the reference: the spans of marked blocks. -/
namespace Go.Proofs.YtjjfdkdneibjbaaGreatDoor
open Go.RowKit

set_option maxHeartbeats 8000000 in
set_option maxRecDepth 100000 in
theorem spans_any (L : List Bool) (hL : L.length = 64) (w : World) : Calls Tryz.prog 24 #[setV L] w fun e w' => (∃ A c, e = .returned (.slice A (spansB (fun k => L.getD k false) 64).length c) ∧ Own eSp 59 w' w.heap.size (.slice A (spansB (fun k => L.getD k false) 64).length c) (spansB (fun k => L.getD k false) 64)) ∧ Below w.heap.size w w' := by
  obtain ⟨i0, hi, hz0, hz1, hz2⟩ := info_parts Tryz.infoSp
  obtain ⟨w1, hw1⟩ : ∃ w1, w1 = w.alloc (.cells (boolCells L).toArray 63) := ⟨_, rfl⟩
  have s1 : w1.heap.size = w.heap.size + 1 := by rw [hw1]; show (w.heap.push _).size = _; simp
  have B1 : Below w.heap.size w w1 := by rw [hw1]; exact (Below.refl _ _).alloc (Nat.le_refl _) _
  have a1 : BArr w1 w.heap.size 63 L := by rw [hw1]; exact BArr.alloc w _ _
  obtain ⟨B, hB⟩ : ∃ B : Nat → Bool, B = fun k => L.getD k false := ⟨_, rfl⟩
  rw [← hB]
  have hBk : ∀ k (h : k < L.length), B k = L[k] := fun k h => by rw [hB]; simp [List.getD_eq_getElem?_getD, h]
  have HBk := hide hBk
  obtain ⟨Z, hZ⟩ : ∃ Z, Z = (spansB B 64).length := ⟨_, rfl⟩
  have HZ := hide hZ
  rw [← hZ]
  have HA := hide a1
  have HLl := hide hL
  have HSp := hide (spansB_is B)
  clear a1 hB hBk hZ
  change Calls _ _ #[.agg (boolCells L).toArray] w _
  go_enter Tryz.func24, Tryz.ntmps24
  go_wp2_with fail
  change Code.wp _ _ _ _ (w.alloc (.cells (boolCells L).toArray 63))
  rw [← hw1]
  clear hw1 hL
  go_loopw [3, 4] (fun v j wr => ∃ (k no : Nat) (A : Option Addr) (c : Nat), k ≤ 64 ∧ j = .int .i64 k ∧ v = .slice A no c ∧ Own eSp 59 wr (w.heap.size + 1) (.slice A no c) (spansB B k) ∧ BArr wr w.heap.size 63 L ∧ Below w.heap.size w wr) (fun _ j _ => 64 - (intOf j).toNat)
  case atStart => exact ⟨0, 0, none, 0, by omega, rfl, rfl, Own.nil _ _ _ _, unhide HA, B1⟩
  case round =>
    obtain ⟨k, no, A1, c1, hk, rfl, rfl, ho, hA, hB⟩ := hrel
    have hno : no = (spansB B k).length := by
      obtain ⟨_, _, hv, _⟩ := ho.sl
      injection hv
    have hSp := unhide HSp k
    by_cases hlt : k < 64
    · have hkL : k < L.length := by have := unhide HLl; omega
      have hlt' : (k : Int) < 64 := by omega
      have sz1 : w.heap.size + 1 ≤ wr.heap.size := by have := hA.lt; omega
      obtain ⟨bk, hbk⟩ : ∃ b, b = L[k] := ⟨_, rfl⟩
      have c0 := hA.cell hkL
      rw [← hbk] at c0
      have eB : B k = bk := by rw [unhide HBk k hkL, hbk]
      clear hbk
      cases bk with
      | false =>
        have HE := hide (show spansB B (k + 1) = spansB B k by rw [spansB, if_pos eB])
        have HO := hide ho
        have HAr := hide hA
        have HBr := hide hB
        clear ho hA hB eB hSp hno
        go_wp2_with fail
        go_roundw
        case rel => exact ⟨k + 1, no, A1, c1, by omega, by go_num, rfl, by rw [unhide HE]; exact unhide HO, unhide HAr, unhide HBr⟩
        case measure => simp [intOf]; omega
      | true =>
        by_cases hpr : 0 < k ∧ B (k - 1) = true
        · obtain ⟨m, x, e1, e2, e3⟩ := hSp.yes hpr
          have HE := hide (show spansB B (k + 1) = m ++ [⟨x.from_, x.n + 1⟩] by rw [spansB, if_neg (show ¬ B k = false by rw [eB]; simp), if_pos hpr, e1, growS_snoc])
          have hx := hSp.good x (by rw [e1]; simp)
          obtain ⟨j, rfl⟩ : ∃ j, k = j + 1 := ⟨k - 1, by omega⟩
          have hjL : j < L.length := by omega
          have c1' := hA.cell hjL
          have eBj : L[j] = true := by rw [← unhide HBk j hjL]; exact hpr.2
          rw [eBj] at c1'
          rw [e1] at ho hno
          have hno : no = m.length + 1 := by simpa using hno
          subst hno
          have hll : m.length < (m ++ [x]).length := by simp
          have hex : (m ++ [x])[m.length] = x := by simp
          rcases ho.shape with ⟨h, _⟩ | ⟨g, cap, hv, hg1, hg2, hg3, hg4⟩
          · injection h with _ h _
            omega
          · injection hv with v1 _ v3
            subst v1; subst v3
            have d1 : wr.cell? ⟨g, m.length * 2 + 1, none⟩ = some (.int .i64 x.n) := by
              have := ho.cell hll (j := 1) (by decide)
              rw [hex, Nat.zero_add] at this
              exact this
            have f1 := ho.frozen (m.length * 2 + 1)
            have o10 := Own.set ho hll (j := 1) (by decide) (.int .i64 (x.n + 1)) ⟨x.from_, x.n + 1⟩ (fun j hj => by
              have hj2 : j < 2 := hj
              rw [hex]
              rcases (show j = 0 ∨ j = 1 by omega) with rfl | rfl <;> rfl)
            have es : (m ++ [x]).set m.length ⟨x.from_, x.n + 1⟩ = m ++ [⟨x.from_, x.n + 1⟩] := by simp
            rw [es] at o10
            obtain ⟨xn, hxn⟩ : ∃ y, y = x.n := ⟨_, rfl⟩
            rw [← hxn] at d1 hx
            obtain ⟨M, hM⟩ : ∃ y, y = m.length := ⟨_, rfl⟩
            have O10 := hide o10
            rw [← hM, ← hxn] at O10
            rw [← hM] at d1 f1
            have hlm : (m ++ [x]).length = m.length + 1 := by simp
            have hMc : M + 1 ≤ c1 := by omega
            have hMi : (M : Int) + 1 ≤ c1 := by omega
            rw [← hxn] at HE
            have A10 := hide (hA.kept (w' := wr.setCell ⟨g, M * eSp.sz + 1, none⟩ (.int .i64 (xn + 1))) (Below.heap_setCell wr ⟨g, M * 2 + 1, none⟩ _ _ (by show w.heap.size ≠ g; omega)))
            have B10 := hide (hB.setCell (p := ⟨g, M * 2 + 1, none⟩) (show w.heap.size ≤ g by omega) (.int .i64 (xn + 1)))
            have hM64 : (M : Int) ≤ 64 := by have h1 := hSp.len; rw [e1] at h1; omega
            have hxn1 : 1 ≤ xn := hx.2.1
            have hxn2 : xn ≤ 64 := by omega
            have hb0 : (0 : Int) ≤ (M : Int) := by omega
            have hb1 : (M : Int) < (M : Int) + 1 := by omega
            have hb2 : (M : Int) < ((M + 1 : Nat) : Int) := by omega
            have hsl : ((M + 1 : Nat) : Int) - 1 = (M : Int) := by omega
            rw [← hM]
            clear o10 es hex hll hlm ho hA hB hxn hM e1 e2 e3 hSp hx hg3 eBj hpr eB
            go_wp2_with fail
            go_roundw
            case rel => exact ⟨j + 1 + 1, M + 1, some ⟨g, 0, none⟩, c1, by omega, by go_num, rfl, by rw [unhide HE]; exact unhide O10, unhide A10, unhide B10⟩
            case measure => simp [intOf]; omega
        · by_cases hk0 : k = 0
          · subst hk0
            have O' := hide ho
            have hln := hSp.len
            have HE := hide (show spansB B (0 + 1) = spansB B 0 ++ [⟨(0 : Int), 1⟩] by show (if B 0 = false then spansB B 0 else if 0 < 0 ∧ B (0 - 1) = true then growS (spansB B 0) else spansB B 0 ++ [⟨((0 : Nat) : Int), 1⟩]) = _; rw [if_neg (show ¬ B 0 = false by rw [eB]; simp), if_neg hpr]; rfl)
            obtain ⟨out, hout⟩ : ∃ o, o = spansB B 0 := ⟨_, rfl⟩
            rw [← hout] at O' HE hln
            have HAr := hide hA
            have HBr := hide hB
            have sz2 : w.heap.size + 1 ≤ wr.heap.size := sz1
            have al := hal wr (.cells #[.int .i64 (0 : Int), .int .i64 1] 59)
            clear ho hA hB eB hSp hno hout hpr
            go_wp2_with (at_builtin; refine wpList_append_one eSp rfl _ _ _ rfl (w.heap.size + 1) 59 i0 _ 16 Tryz.underlying61 hi hz0 hz1 hz2 rfl (by decide) (.slice A1 no c1) out rfl _ (unhide O') ⟨(0 : Int), 1⟩ #[.int .i64 (0 : Int), .int .i64 1] rfl (by simp [Act.eval]) (one_sp _ _) ?c3 ?c4 sz2 ?_)
            case c3 => unfold maxLen; omega
            case c4 => omega
            intro v4 w4 hown4 hgr4 hloc4
            have B4 := ((unhide HBr).alloc (by omega) (.cells #[.int .i64 (0 : Int), .int .i64 1] 59)).grown hgr4 (by omega) fun q hq => by have := ((unhide O').lt q hq).1; omega
            have A4 : BArr w4 w.heap.size 63 L := (unhide HAr).kept ((hgr4.block _ (by omega) fun e => by have := ((unhide O').lt _ e.symm).1; omega).trans (Below.heap_alloc _ _ _ (by omega)))
            rw [← unhide HE] at hown4
            obtain ⟨A5, c5, rfl, _, _⟩ := hown4.sl
            obtain ⟨n5, hn5⟩ : ∃ y, y = (spansB B (0 + 1)).length := ⟨_, rfl⟩
            rw [← hn5] at hown4 ⊢
            have O5 := hide hown4
            have HA4 := hide A4
            have HB4 := hide B4
            clear hown4 A4 B4 hgr4 hloc4 hn5
            go_wp2_with fail
            go_roundw
            case rel => exact ⟨0 + 1, n5, A5, c5, by omega, by go_num, rfl, unhide O5, unhide HA4, unhide HB4⟩
            case measure => simp [intOf]
          · obtain ⟨j, rfl⟩ : ∃ j, k = j + 1 := ⟨k - 1, by omega⟩
            have hjL : j < L.length := by omega
            have c1' := hA.cell hjL
            have eBj : L[j] = false := by
              rw [← unhide HBk j hjL]
              cases hb : B j with
              | false => rfl
              | true => exact absurd ⟨Nat.succ_pos j, hb⟩ hpr
            rw [eBj] at c1'
            clear eBj
            have O' := hide ho
            have hln := hSp.len
            have HE := hide (show spansB B (j + 1 + 1) = spansB B (j + 1) ++ [⟨((j : Int) + 1), 1⟩] by rw [spansB, if_neg (show ¬ B (j + 1) = false by rw [eB]; simp), if_neg hpr]; first | done | rfl)
            obtain ⟨out, hout⟩ : ∃ o, o = spansB B (j + 1) := ⟨_, rfl⟩
            rw [← hout] at O' HE hln
            have HAr := hide hA
            have HBr := hide hB
            have sz2 : w.heap.size + 1 ≤ wr.heap.size := sz1
            have al := hal wr (.cells #[.int .i64 ((j : Int) + 1), .int .i64 1] 59)
            clear ho hA hB eB hSp hno hout hpr
            go_wp2_with (at_builtin; refine wpList_append_one eSp rfl _ _ _ rfl (w.heap.size + 1) 59 i0 _ 16 Tryz.underlying61 hi hz0 hz1 hz2 rfl (by decide) (.slice A1 no c1) out rfl _ (unhide O') ⟨((j : Int) + 1), 1⟩ #[.int .i64 ((j : Int) + 1), .int .i64 1] rfl (by simp [Act.eval]) (one_sp _ _) ?c3 ?c4 sz2 ?_)
            case c3 => unfold maxLen; omega
            case c4 => omega
            intro v4 w4 hown4 hgr4 hloc4
            have B4 := ((unhide HBr).alloc (by omega) (.cells #[.int .i64 ((j : Int) + 1), .int .i64 1] 59)).grown hgr4 (by omega) fun q hq => by have := ((unhide O').lt q hq).1; omega
            have A4 : BArr w4 w.heap.size 63 L := (unhide HAr).kept ((hgr4.block _ (by omega) fun e => by have := ((unhide O').lt _ e.symm).1; omega).trans (Below.heap_alloc _ _ _ (by omega)))
            rw [← unhide HE] at hown4
            obtain ⟨A5, c5, rfl, _, _⟩ := hown4.sl
            obtain ⟨n5, hn5⟩ : ∃ y, y = (spansB B (j + 1 + 1)).length := ⟨_, rfl⟩
            rw [← hn5] at hown4 ⊢
            have O5 := hide hown4
            have HA4 := hide A4
            have HB4 := hide B4
            clear hown4 A4 B4 hgr4 hloc4 hn5
            go_wp2_with fail
            go_roundw
            case rel => exact ⟨j + 1 + 1, n5, A5, c5, by omega, by go_num, rfl, unhide O5, unhide HA4, unhide HB4⟩
            case measure => simp [intOf]; omega
    · have hk64 : k = 64 := by omega
      subst hk64
      rw [hno] at ho ⊢
      rw [← unhide HZ] at ho ⊢
      have O' := hide (ho.lower (show w.heap.size ≤ w.heap.size + 1 by omega))
      have HBr := hide hB
      clear ho hA hB hSp hno
      go_wp2_with fail
      go_ret
      exact ⟨⟨A1, c1, rfl, unhide O'⟩, unhide HBr⟩
end Go.Proofs.YtjjfdkdneibjbaaGreatDoor
/- Two lists of spans that are alike. -/
namespace Go.Proofs.YtjjfdkdneibjbaaGreatDoor
open Go.RowKit

set_option maxHeartbeats 1000000 in
set_option maxRecDepth 100000 in
theorem sameSpans_yes (A1 : Option Addr) (c1 : Nat) (A2 : Option Addr) (c2 n : Nat) (L : List Sp) (w : World) (h1 : Sl eSp w A1 n c1 L) (h2 : Sl eSp w A2 n c2 L) :
    Calls Tryz.prog 22 #[.slice A1 n c1, .slice A2 n c2] w fun e w' => e = .returned (.bool true) ∧ ∃ q, w' = w.drewN q := by
  have hn := h1.1
  have b1 := h1.2.1
  have b2 := h1.2.2.1
  have b3 := h2.2.1
  have b4 := h2.2.2.1
  have R1 := hide h1.2.2.2
  have R2 := hide h2.2.2.2
  have hne : ¬ (n : Int) ≠ n := by simp
  have Hn := hide hn
  clear h1 h2 hn
  go_enter Tryz.func22, Tryz.ntmps22
  go_wp2_with fail
  go_loopw [5] (fun i wr => ∃ (k q : Nat), k ≤ n ∧ i = .int .i64 k ∧ wr = w.drewN q) (fun i _ => n - (intOf i).toNat)
  case atStart => exact ⟨0, 0, Nat.zero_le _, rfl, rfl⟩
  case round =>
    obtain ⟨k, q, hk, rfl, rfl⟩ := hrel
    by_cases hlt : k < n
    · have hkL : k < L.length := by have := unhide Hn; omega
      obtain ⟨g1, o1, e1, l1, r1⟩ := unhide R1 (by omega)
      obtain ⟨g2, o2, e2, l2, r2⟩ := unhide R2 (by omega)
      subst e1 e2
      have x0 : w.cell? ⟨g1, o1 + k * 2, none⟩ = some (.int .i64 L[k].from_) := r1 k hkL 0 (by decide)
      have x1 : w.cell? ⟨g1, o1 + k * 2 + 1, none⟩ = some (.int .i64 L[k].n) := r1 k hkL 1 (by decide)
      have z0 : w.cell? ⟨g2, o2 + k * 2, none⟩ = some (.int .i64 L[k].from_) := r2 k hkL 0 (by decide)
      have z1 : w.cell? ⟨g2, o2 + k * 2 + 1, none⟩ = some (.int .i64 L[k].n) := r2 k hkL 1 (by decide)
      obtain ⟨W, hW⟩ : ∃ W, W = w.drewN q := ⟨_, rfl⟩
      have hc : ∀ a, W.cell? a = w.cell? a := by rw [hW]; intro a; rfl
      obtain ⟨a, ha⟩ : ∃ a, a = L[k].from_ := ⟨_, rfl⟩
      obtain ⟨b, hb⟩ : ∃ a, a = L[k].n := ⟨_, rfl⟩
      rw [← hc, ← ha] at x0 z0
      rw [← hc, ← hb] at x1 z1
      rw [← hW]
      have HW := hide hW
      clear r1 r2 hW hc ha hb
      go_wp2
      go_quiet (fail)
      go_wp2
      go_roundw
      case rel => exact ⟨k + 1, q + nq, by omega, by go_num, by rw [unhide HW, World.drewN_drewN]⟩
      case measure => simp [intOf]; omega
    · go_wp2
      go_ret
      exact ⟨rfl, q, rfl⟩
end Go.Proofs.YtjjfdkdneibjbaaGreatDoor
