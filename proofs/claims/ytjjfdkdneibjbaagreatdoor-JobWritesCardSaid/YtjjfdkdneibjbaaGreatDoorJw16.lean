/- Joined texts: LawJobA, Fields, RowOps20, LawWritesW, Post. -/
import Derived.Test.YtjjfdkdneibjbaaGreatDoorJw15
import Derived.Test.YtjjfdkdneibjbaaGreatDoorJw01
import Derived.Deep.Slices
import Derived.Deep.Fields
import Derived.ChangeSame
import Derived.ProofKit
import Derived.OpenShut
import Derived.Test.YtjjfdkdneibjbaaGreatDoorRows
import Derived.Below
import Derived.Carry
import Derived.Lib.SmallJoins
/- Walk of emulsionlaw20.alive. -/
namespace Go.Proofs.YtjjfdkdneibjbaaGreatDoor
open Go.RowKit

/-- So many blocks of zeros. -/
def zerosB (n : Nat) : ByteArray := ⟨(List.replicate (n * 8) 0).toArray⟩
theorem zerosB_list (n : Nat) : (zerosB n).data.toList = List.replicate (n * 8) 0 := by simp [zerosB]
theorem zerosB_size (n : Nat) : (zerosB n).size = 8 * n := by rw [sizeB, zerosB_list, List.length_replicate, Nat.mul_comm]
def sAlive : ByteArray := ⟨#[97, 98, 99, 100, 101, 102, 103, 104, 97, 98, 99, 100, 101, 102, 103, 104]⟩
def sHalf : ByteArray := ⟨#[97, 98, 99, 100, 101, 102, 103, 104]⟩
theorem alive_lay : layB (zerosB 2) 0 sAlive = sAlive := by kernel_rfl
theorem alive_blk0 : blkB sAlive 0 = sHalf := by kernel_rfl
theorem alive_blk1 : blkB sAlive 1 = sHalf := by kernel_rfl
theorem leastE_nil : leastE [] = 1 := by
  have h : Least [] 1 := ⟨Int.le_refl _, rfl, fun j h1 h2 => by omega⟩
  exact (leastE_is ⟨1, h⟩).uniq h
theorem alive_run (P : Nat → Bool) : extsL (runT sAlive (todoL 1 P 2) (noneL 64, [])).1 64 = [⟨0, 1, 1⟩, ⟨1, 1, 1⟩] := by
  have hT : todoL 1 P 2 = [0, 1] := by rw [todoL_full]; rfl
  have h1 : putF [] sHalf = (1, [(1, (sHalf, 1))]) := by
    rw [putF_new (es := []) (b := sHalf) (by kernel_rfl) List.nodup_nil (fun _ _ h => by cases h), leastE_nil]; rfl
  have h2 : putF [(1, (sHalf, 1))] sHalf = (1, [(1, (sHalf, 1 + 1))]) := by
    rw [putF_had (id := 1) (r := 1) (by simp) (fun id id' t r r' a b => ?_) (by kernel_rfl) rfl]
    · rfl
    · have e1 := mem_lkE a
      have e2 := mem_lkE b
      simp at e1 e2
      rw [e1.1, e2.1]
  rw [hT]
  show extsL (takeF sAlive (takeF sAlive (noneL 64, []) 0) 1).1 64 = _
  have t1 : takeF sAlive (noneL 64, []) 0 = ((noneL 64).set 0 1, [(1, (sHalf, 1))]) := by
    unfold takeF
    rw [alive_blk0]
    show ((noneL 64).set 0 (putF [] sHalf).1, (putF [] sHalf).2) = _
    rw [h1]
  rw [t1]
  have t2 : (takeF sAlive ((noneL 64).set 0 1, [(1, (sHalf, 1))]) 1).1 = ((noneL 64).set 0 1).set 1 1 := by
    unfold takeF
    rw [alive_blk1]
    show ((noneL 64).set 0 1).set 1 (putF [(1, (sHalf, 1))] sHalf).1 = _
    rw [h2]
  rw [t2]
  rfl
set_option maxHeartbeats 4000000 in
set_option maxRecDepth 100000 in
theorem alive20 (w : World) : Calls Tryz.prog 7 #[] w fun e w' => e = .returned (.bool true) ∧ Below w.heap.size w w' := by
  go_enter Tryz.func7, Tryz.ntmps7
  go_wp2_with fail
  refine (film_new 2 (by decide) w).mono ?_
  rintro e w1 ⟨⟨p, g, c, rfl, hp, hg, hF⟩, B1⟩
  rw [← zerosB_list] at hF
  have Hw := hide (flm_write 0 sAlive (zerosB 2) hF (by rw [zerosB_size]; decide))
  rw [alive_lay] at Hw
  have lp := hF.lp
  have lg := hF.lg
  clear hF
  go_wp2_with fail
  refine (unhide Hw).mono ?_
  rintro e w2 ⟨rfl, hF, C2⟩
  have B2 : Below w.heap.size w w2 := B1.trans (C2.to_below (Nat.le_of_lt (by omega)) (fun k e => by omega))
  have s2 := C2.size
  have s1 := B1.size
  have Hn := hide (stl_new 2 hF (by decide) (by decide))
  clear Hw C2 B1 hF
  go_wp2_with fail
  refine (unhide Hn).mono ?_
  rintro e w3 ⟨⟨q, m, rfl, hq, hm, hS⟩, B3⟩
  have s3 := B3.size
  have C3 : Below w.heap.size w w3 := B2.trans (B3.mono (by omega))
  have Hj := hide (new_jb 1 3 (.inl rfl) (by decide) (.pointer none) (fun _ => false) hS (by decide) (fun h => by omega) none 0 0 [] (Sl.nil_ _ _) (by decide))
  have HS := hide hS
  clear Hn B2 B3 hS
  go_wp2_with fail
  refine (unhide Hj).mono ?_
  rintro e w4 ⟨⟨J, H, rfl, hJ, hH⟩, B4⟩
  have s4 := B4.size
  have C4 : Below w.heap.size w w4 := C3.trans (B4.mono (by omega))
  have HS4 := hide ((unhide HS).below B4)
  have HJ := hide hJ
  clear Hj C3 B4 hJ
  go_wp2_with fail
  refine (pl_new (G := fun k => w4.heap.size ≤ k) 9 w4 (fun k hk => hk)).mono ?_
  rintro e w5 ⟨sp, rfl, hP, B5⟩
  have C5 : Below w.heap.size w w5 := C4.trans (B5.mono (by omega))
  have s5 := B5.size
  have R0 : ∃ O, Run (.pointer (some ⟨sp, 0, none⟩)) 9 J 1 3 (todoL 1 (fun _ => false) 2) [] q 2 sAlive (noneL 64, []) 0 0 O (fun b => b = p ∨ b = g) w5 ∧ ∀ b, O b → w.heap.size ≤ b := by
    have hS := (unhide HS4)
    have hSl := (unhide HS).lt
    have hSi := (unhide HS).ltI
    have hJ := (unhide HJ).below B5
    rw [← extsL_none] at hJ
    refine ⟨_, Run.start hJ (hS.below B5) hP.tight ⟨fun k hk hf => ?_, fun k hk hf => ?_, fun k hk hf => ?_, fun k hk hf => ?_, fun k hk hf => ?_, fun k hk hf => ?_⟩ (JInv.fresh (by decide) (by decide) _ _), fun b hb => ?_⟩
    · have h1 := hk.1
      have h2 := (unhide HS).lt k hf
      omega
    · have h1 := hk.1
      have h2 := (unhide HJ).hlt k hf
      omega
    · have h1 := (unhide HS).lt k hk
      have h2 := hH k hf
      omega
    · have h1 := hk.1
      have h2 := hSi k hf
      omega
    · rcases hk with rfl | rfl <;> rcases hf with rfl | rfl <;> omega
    · have h1 := hSi k hf
      have h2 := hH k hk
      omega
    · rcases hb with hb | hb | hb
      · have := hb.1; omega
      · rcases hb with rfl | rfl <;> omega
      · have := hH b hb; omega
  obtain ⟨O, R0, hO⟩ := R0
  have Hs : Calls Tryz.prog 15 #[.pointer (some ⟨J, 0, none⟩), .pointer (some ⟨sp, 0, none⟩), .int .i64 9] w5 fun e w' => e = .returned (.tuple #[.int .i64 2, .int .i64 0]) ∧ (∃ O', Run (.pointer (some ⟨sp, 0, none⟩)) 9 J 1 3 (todoL 1 (fun _ => false) 2) [] q 2 sAlive (noneL 64, []) 0 2 O' (fun b => b = p ∨ b = g) w' ∧ Went O O' w5) ∧ Chg O w5 w' := run_step 9 R0 (by decide) (by decide) (.inl (by decide)) (by decide)
  have HsH := hide Hs
  clear hP HS4 HJ HS R0 Hs
  go_wp2_with fail
  refine (unhide HsH).mono ?_
  rintro e w6 ⟨rfl, ⟨O6, R6, hW6⟩, C6⟩
  have s6 := C6.size
  have B6 : Below w.heap.size w w6 := C5.trans (C6.to_below (by omega) hO)
  have Hp := hide (run_point 1 (show Run _ _ _ _ _ _ _ _ _ _ _ _ (todoL 1 (fun _ => false) 2).length _ _ _ from R6))
  rw [alive_run] at Hp
  clear HsH C6 C5 C4 B5
  go_wp2_with fail
  refine (unhide Hp).mono ?_
  rintro e w7 ⟨⟨A, c7, rfl, hown⟩, B7⟩
  clear Hp R6
  have B7' : Below w.heap.size w w7 := B6.trans (B7.mono (by omega))
  have s7 := B7.size
  obtain ⟨A', c', hv, hs, _⟩ := hown.sl
  injection hv with v1 _ v3
  subst v1; subst v3
  have hc := hs.2.1
  have hc2 := hs.2.2.1
  obtain ⟨b, off, rfl, hb, hr⟩ := hs.2.2.2 (by decide)
  have x0 : w7.cell? ⟨b, off + 3, none⟩ = some (.int .i64 1) := hr 1 (by decide) 0 (by decide)
  have x1 : w7.cell? ⟨b, off + 3 + 1, none⟩ = some (.int .i64 1) := hr 1 (by decide) 1 (by decide)
  have x2 : w7.cell? ⟨b, off + 3 + 2, none⟩ = some (.int .i64 1) := hr 1 (by decide) 2 (by decide)
  clear hr hs hown B7 B6
  go_wp2_with fail
  go_ret
  exact ⟨rfl, B7'.alloc (by omega) _⟩
end Go.Proofs.YtjjfdkdneibjbaaGreatDoor
/- A slice of structs that came in, field by field; an integer's field. -/
namespace Go.Proofs.YtjjfdkdneibjbaaGreatDoor
open Go.ChangeShapes Go.WideShapes Go.Deep Go.RowKit

section
variable {H : Type} {enc : TypeId × Value → H} {P : Program} {w : World} {base : Nat} {spare : Nat → Bool} {held : Bool}
theorem open_slice_fields {t e : TypeId} {fs : Array Field} {fuel : Nat} {cs : List Value} {x : DataW H × List MemPlace} (ht : P.underlying t = some (.slice e)) (he : P.underlying e = some (.struct fs))
    (hone : oneCellFields P fs = true) (hC : P.cellsOf e = fs.size) (h : DataW.trod enc P w base spare held fuel t cs = some x) :
    (cs = [.slice none 0 0] ∧ x = (.nil, [])) ∨
    ∃ (a : Addr) (len cap m : Nat) (D : Nat → DataW H) (Pl : Nat → List MemPlace), cs = [.slice (some a) len cap] ∧ base ≤ a.block ∧ len ≤ cap ∧ cap ≤ maxLen ∧ m = (if spare a.block then cap else len) ∧
      x = (.slice ((List.range len).map D) ((List.range (m - len)).map fun j => D (len + j)), MemPlace.row a (m * fs.size) ++ (List.range m).flatMap Pl) ∧
      ∀ i, i < m → ∃ (ys : List (DataW H × List MemPlace)) (n : Nat), D i = .agg (ys.map (·.1)) ∧ Pl i = ys.flatMap (·.2) ∧ ys.length = fs.size ∧
        ∀ (j : Nat) (f : Field), fs[j]? = some f → ∃ (v : Value) (y : DataW H × List MemPlace), w.cell? (a.add (i * fs.size + j)) = some v ∧ ys[j]? = some y ∧ DataW.trod enc P w base spare held n f.type [v] = some y := by
  rcases open_slice ht h with h0 | ⟨a, len, cap, m, n, D, Pl, hcs, hb, hl, hm, hmm, hx, hi⟩
  · exact .inl h0
  · refine .inr ⟨a, len, cap, m, D, Pl, hcs, hb, hl, hm, hmm, by rw [hC] at hx; exact hx, fun i him => ?_⟩
    obtain ⟨cs', hc, ht'⟩ := hi i him
    rw [hC] at hc
    obtain ⟨ys, n', hn', hy, hlen, hyl, hf⟩ := DataW.trod_struct he ht'
    obtain ⟨_, hcl, hat⟩ := World.cells?_some hc
    simp only [Prod.mk.injEq] at hy
    refine ⟨ys, n', hy.1, hy.2, hyl, fun j f hj => ?_⟩
    obtain ⟨ho, hk⟩ := hone_of hone j f hj
    have hjl : j < fs.size := (Array.getElem?_eq_some_iff.1 hj).1
    have hcell := hat j hjl
    have hv : cs'[j]? = some (cs'[j]'(by omega)) := List.getElem?_eq_getElem (by omega)
    have h1 := hf j f hj
    rw [ho, hk] at h1
    have hone' : (cs'.drop j).take 1 = [cs'[j]'(by omega)] := by
      rw [List.drop_eq_getElem_cons (by omega)]
      rfl
    rw [hone'] at h1
    have hys : ys[j]? = some (ys[j]'(by omega)) := List.getElem?_eq_getElem (by omega)
    refine ⟨_, _, ?_, hys, h1.trans hys⟩
    rw [← Go.Deep.add_add, hcell, hv]
end

theorem pt_int {H : Type} {enc : TypeId × Value → H} {w : World} {base : Nat} {spare : Nat → Bool} {held : Bool} {n : Nat} {v : Value} {y : DataW H × List MemPlace}
    (h : DataW.trod enc Tryz.prog w base spare held n 3 [v] = some y) : ∃ z : Int, v = .int .i64 z ∧ (Lit.int .i64 z).wf = true := by
  obtain ⟨z, h1, _, h3⟩ := DataW.trod_int Tryz.underlying3 h
  simp at h1
  exact ⟨z, h1, h3⟩
end Go.Proofs.YtjjfdkdneibjbaaGreatDoor
/- A slice of what is done that came in: its cells, as the walk asks for them. -/
namespace Go.Proofs.YtjjfdkdneibjbaaGreatDoor
open Go.ChangeShapes Go.WideShapes Go.Deep Go.RowKit

/-- Something that is done. -/
structure Op20 where
  kind : Int
  n : Int
  b : ByteArray
def op20 : Op20 := ⟨0, 0, ⟨#[]⟩⟩
def eOp : Enc Op20 := ⟨3, fun p j => match j with | 0 => .int .i64 p.kind | 1 => .int .i64 p.n | _ => .string p.b⟩
theorem op_text {H : Type} {enc : TypeId × Value → H} {w : World} {base : Nat} {spare : Nat → Bool} {held : Bool} {n : Nat} {v : Value} {y : DataW H × List MemPlace}
    (h : DataW.trod enc Tryz.prog w base spare held n 9 [v] = some y) : ∃ z : ByteArray, v = .string z := by
  obtain ⟨z, h1, _, h3⟩ := DataW.trod_string Tryz.underlying9 h
  simp at h1
  exact ⟨z, h1⟩
theorem open_str {P : Program} {H : Type} {enc : TypeId × Value → H} {w : World} {base : Nat} {sp : Nat → Bool} {held : Bool} {r : Reach} {b0 : Nat} {t : TypeId} {v : Value} {d : DataW H} {ps : List MemPlace} (ht : P.underlying t = some .string) (hval : Value.okWide P w r b0 t v)
    (_ : DataW.Trod enc P w base sp held t v d ps) : ∃ s : ByteArray, v = .string s := okWide_string ht hval
theorem open_ops20 {H : Type} {enc : TypeId × Value → H} {w : World} {v : Value} {d : DataW H} {p : List MemPlace} (hv : ∃ A n c, v = .slice A n c)
    (h : DataW.Trod enc Tryz.prog w 0 (fun _ => true) true 22 v d p) :
    ∃ A n c l, v = .slice A n c ∧ Sl eOp w A n c l := by
  obtain ⟨A, n, c, rfl⟩ := hv
  obtain ⟨fuel, hf⟩ := h
  rcases open_slice_fields Tryz.underlying22 Tryz.underlying39 (by kernel_rfl) (by kernel_rfl) hf with ⟨h0, _⟩ | ⟨a, len, cap, m, D, Pl, hcs, _, hlc, hmax, hm, hx, hi⟩
  · simp [Value.cells] at h0
    obtain ⟨rfl, rfl, rfl⟩ := h0
    exact ⟨none, 0, 0, [], rfl, Sl.nil_ _ _⟩
  · simp [Value.cells] at hcs
    obtain ⟨rfl, rfl, rfl⟩ := hcs
    have hm' : m = c := by simpa using hm
    subst hm'
    have hp : ∀ i, ∃ q : Op20, i < n → ∀ j, j < 3 → w.cell? (a.add (i * 3 + j)) = some (eOp.cell q j) := by
      intro i
      by_cases hin : i < n
      · obtain ⟨ys, n', _, _, _, hfs⟩ := hi i (by omega)
        obtain ⟨v0, y0, c0, _, t0⟩ := hfs 0 _ rfl
        obtain ⟨v1, y1, c1, _, t1⟩ := hfs 1 _ rfl
        obtain ⟨v2, y2, c2, _, t2⟩ := hfs 2 _ rfl
        obtain ⟨z0, rfl, _⟩ := pt_int t0
        obtain ⟨z1, rfl, _⟩ := pt_int t1
        obtain ⟨z2, rfl⟩ := op_text t2
        refine ⟨⟨z0, z1, z2⟩, fun _ j hj => ?_⟩
        rcases (show j = 0 ∨ j = 1 ∨ j = 2 by omega) with rfl | rfl | rfl
        · exact c0
        · exact c1
        · exact c2
      · exact ⟨op20, fun h => absurd h hin⟩
    obtain ⟨f, hfn⟩ := Classical.axiomOfChoice hp
    refine ⟨some a, n, m, (List.range n).map f, rfl, ⟨by simp, hlc, hmax, fun hn => ?_⟩⟩
    obtain ⟨b, off, spot⟩ := a
    have h00 := hfn 0 hn 0 (by omega)
    have hspot : spot = none := by simpa [Addr.add] using World.cell?_spot h00
    subst hspot
    refine ⟨b, off, rfl, ?_, fun i hi' j hj => ?_⟩
    · rcases Nat.lt_or_ge b w.heap.size with h | h
      · exact h
      · simp [Addr.add, World.cell?, Array.getElem?_eq_none h] at h00
    · have hi'' : i < n := by simpa using hi'
      have := hfn i hi'' j hj
      rw [Go.WideShapes.add_plain] at this
      rw [show off + i * eOp.sz + j = off + (i * 3 + j) by show off + i * 3 + j = _; omega, this]
      simp
end Go.Proofs.YtjjfdkdneibjbaaGreatDoor
/- Walk of the law JobWrites. -/
namespace Go.Proofs.YtjjfdkdneibjbaaGreatDoor
open Go.RowKit

set_option maxHeartbeats 2000000 in
set_option maxRecDepth 100000 in
theorem writes_out (bl : Int) (first : ByteArray) (A : Option Addr) (n c : Nat) (w : World) (hc : n ≤ 9223372036854775807) (h : bl < 1 ∨ 40 < bl ∨ 400 < first.size ∨ 30 < n) :
    Calls Tryz.prog 3 #[.int .i64 bl, .string first, .slice A n c] w fun e w' => e = .returned (.bool true) ∧ Below w.heap.size w w' := by
  by_cases h1 : bl < 1
  · clear h
    go_enter Tryz.func3, Tryz.ntmps3
    go_wp2_with (go_at_call 7; refine (alive20 _).mono ?_; rintro e w1 ⟨he, B1⟩; subst he)
    go_ret
    exact ⟨rfl, B1⟩
  · by_cases h2 : 40 < bl
    · clear h
      go_enter Tryz.func3, Tryz.ntmps3
      go_wp2_with (go_at_call 7; refine (alive20 _).mono ?_; rintro e w1 ⟨he, B1⟩; subst he)
      go_ret
      exact ⟨rfl, B1⟩
    · by_cases h3 : 400 < first.size
      · have h3' : (400 : Int) < first.size := by omega
        clear h
        go_enter Tryz.func3, Tryz.ntmps3
        go_wp2_with (go_at_call 7; refine (alive20 _).mono ?_; rintro e w1 ⟨he, B1⟩; subst he)
        go_ret
        exact ⟨rfl, B1⟩
      · have h3' : ¬ (400 : Int) < first.size := by omega
        have h4' : (30 : Int) < n := by omega
        clear h
        go_enter Tryz.func3, Tryz.ntmps3
        go_wp2_with (go_at_call 7; refine (alive20 _).mono ?_; rintro e w1 ⟨he, B1⟩; subst he)
        go_ret
        exact ⟨rfl, B1⟩
set_option maxHeartbeats 8000000 in
set_option maxRecDepth 100000 in
theorem writes_in (NB : Nat) (first : ByteArray) (A : Option Addr) (n c : Nat) (l : List Op20) (w : World) (hs : Sl eOp w A n c l) (hb1 : 1 ≤ NB) (hb2 : NB ≤ 40) (hf : first.size ≤ 400) (hn : n ≤ 30) :
    Calls Tryz.prog 3 #[.int .i64 (NB : Int), .string first, .slice A n c] w fun e w' => e = .returned (.bool true) ∧ Below w.heap.size w w' := by
  have hnl := hs.1
  have hc1 := hs.2.1
  have hc2 := hs.2.2.1
  have R := hide hs.2.2.2
  have Hnl := hide hnl
  have qa : ¬ (NB : Int) < 1 := by omega
  have qb : ¬ (40 : Int) < NB := by omega
  have qc : ¬ (400 : Int) < first.size := by omega
  have qd : ¬ (30 : Int) < n := by omega
  obtain ⟨sz, hsz⟩ : ∃ sz, sz = min first.size (NB * 8) := ⟨_, rfl⟩
  have Hsz := hide hsz
  have qm : min (first.size : Int) ((NB : Int) * 8) = (sz : Int) := by omega
  clear hs hnl hsz
  go_enter Tryz.func3, Tryz.ntmps3
  go_wp2_with fail
  refine (alive20 _).mono ?_
  rintro e w0 ⟨rfl, B0⟩
  go_wp2_with fail
  refine (film_new NB ⟨hb1, by omega⟩ w0).mono ?_
  rintro e w1 ⟨⟨p, g, cc, rfl, hp, hg, hF⟩, B1⟩
  rw [← zerosB_list] at hF
  have s0 := B0.size
  have s1 := B1.size
  have B1' : Below w.heap.size w w1 := B0.trans (B1.mono (by omega))
  have HF := hide hF
  have lp := hF.lp
  have lg := hF.lg
  clear B0 B1 hF
  go_wp2_with fail
  refine (pl_new (G := fun k => w1.heap.size ≤ k) 60 w1 (fun k hk => hk)).mono ?_
  rintro e w2 ⟨sp, rfl, hP, B2⟩
  rw [show min (max (60 : Int) 0) 60 = 60 from by decide] at hP
  have s2 := B2.size
  have B2' : Below w.heap.size w w2 := B1'.trans (B2.mono (by omega))
  have HF2 := hide ((unhide HF).below B2)
  have HP := hide hP.tight
  clear HF B1' B2 hP
  go_wp2_with fail
  have hSz : (first.extract 0 sz).size ≤ 8 * NB := by have := unhide Hsz; rw [ByteArray.size_extract]; omega
  obtain ⟨cur, hcur⟩ : ∃ cur, cur = layB (zerosB NB) 0 (first.extract 0 sz) := ⟨_, rfl⟩
  have hcs : cur.size = 8 * NB := by rw [hcur, layB_size (by rw [zerosB_size]; omega), zerosB_size]
  have Hw := hide (flm_write 0 (first.extract 0 sz) (zerosB NB) (unhide HF2) (by rw [zerosB_size]; omega))
  rw [← hcur] at Hw
  clear HF2 hcur hSz
  refine (unhide Hw).mono ?_
  rintro e w3 ⟨rfl, hF, C3⟩
  have s3 := C3.size
  have B3' : Below w.heap.size w w3 := B2'.trans (C3.to_below (by omega) (fun k e => by omega))
  have HP3 := hide ((unhide HP).chg C3 fun k hk e => by have := hk.1; omega)
  have Hcs := hide hcs
  have Hby := hide (bytes_any hF)
  rw [show (⟨cur.data.toList.toArray⟩ : ByteArray) = cur from by simp] at Hby
  have HF3 := hide hF
  clear Hw C3 B2' HP hF hcs
  go_wp2_with fail
  refine (unhide Hby).mono ?_
  rintro e w4 ⟨rfl, hw4⟩
  subst hw4
  have Hn := hide (stl_new NB (unhide HF3) (unhide Hcs) (by omega))
  clear Hby HF3
  go_wp2_with fail
  refine (unhide Hn).mono ?_
  rintro e w5 ⟨⟨q, m, rfl, hq, hm, hS⟩, B5⟩
  have s5 := B5.size
  have B5' : Below w.heap.size w w5 := B3'.trans (B5.mono (by omega))
  have HP5 := hide ((unhide HP3).below B5)
  have HP3lt := hide (unhide HP3).lt
  have Hj := hide (new_jb 1 1 (.inl rfl) (by decide) (.pointer none) (fun _ => false) hS (by omega) (fun h => by omega) none 0 0 [] (Sl.nil_ _ _) (by decide))
  have HS := hide hS
  clear Hn B3' hS B5 HP3
  go_wp2_with fail
  refine (unhide Hj).mono ?_
  rintro e w6 ⟨⟨J, H, rfl, hJ, hH⟩, B6⟩
  have s6 := B6.size
  have B6' : Below w.heap.size w w6 := B5'.trans (B6.mono (by omega))
  have R0 : ∃ O, Run (.pointer (some ⟨sp, 0, none⟩)) 60 J 1 1 (todoL 1 (fun _ => false) NB) [] q NB cur (noneL 64, []) 0 0 O (fun b => b = p ∨ b = g) w6 ∧ ∀ b, O b → w.heap.size ≤ b := by
    have hJ' := hJ
    rw [← extsL_none] at hJ'
    refine ⟨_, Run.start hJ' ((unhide HS).below B6) ((unhide HP5).below B6) ⟨fun k hk hf => ?_, fun k hk hf => ?_, fun k hk hf => ?_, fun k hk hf => ?_, fun k hk hf => ?_, fun k hk hf => ?_⟩ (JInv.fresh (by omega) (unhide Hcs) _ _), fun b hb => ?_⟩
    · have h1 := hk.1
      have h2 := hk.2
      rcases hf with rfl | rfl <;> omega
    · have h1 := hk.2
      have h2 := hH k hf
      omega
    · have h1 := (unhide HS).lt k hk
      have h2 := hH k hf
      omega
    · have h1 := hk.1
      have h2 := hk.2
      rcases hf with rfl | rfl <;> omega
    · rcases hk with rfl | rfl <;> rcases hf with rfl | rfl <;> omega
    · have h1 := (unhide HS).ltI k hf
      have h2 := hH k hk
      omega
    · rcases hb with hb | hb | hb
      · have := hb.1; omega
      · rcases hb with rfl | rfl <;> omega
      · have := hH b hb; omega
  have HR0 := hide R0
  have qz : ((cur.size : Int) != (NB : Int) * 8) = false := by have := unhide Hcs; simp; omega
  clear R0 hJ hH HS HP5 Hj B5' B6 HP3lt
  obtain ⟨T, hT⟩ : ∃ T, T = todoL 1 (fun _ => false) NB := ⟨_, rfl⟩
  have hTl : T.length = NB := by rw [hT, todoL_full]; simp
  have HTl := hide hTl
  have HT := hide (show T = List.range NB by rw [hT, todoL_full])
  rw [← hT] at HR0
  have HB6 := hide B6'
  clear hT hTl B6'
  go_wp2_with fail
  go_loopw [15] (fun i wr => ∃ k r : Nat, k ≤ n ∧ r ≤ NB ∧ i = .int .i64 (k : Int) ∧ (∃ O, Run (.pointer (some ⟨sp, 0, none⟩)) 60 J 1 1 T [] q NB cur (noneL 64, []) 0 r O (fun b => b = p ∨ b = g) wr ∧ ∀ b, O b → w.heap.size ≤ b) ∧ Below w.heap.size w wr) (fun i _ => n - (intOf i).toNat)
  case atStart => exact ⟨0, 0, Nat.zero_le _, Nat.zero_le _, rfl, unhide HR0, unhide HB6⟩
  case round =>
    obtain ⟨k, r, hk, hr, rfl, ⟨O, hR, hO⟩, HB⟩ := hrel
    have sr := HB.size
    by_cases hlt : k < n
    · have hlt' : (k : Int) < n := by omega
      have hkp : k < l.length := by have := unhide Hnl; omega
      obtain ⟨b, off, eA, lA, hrd⟩ := unhide R (by omega)
      subst eA
      have x1 : wr.cell? ⟨b, off + k * 3 + 1, none⟩ = some (.int .i64 l[k].n) := ((bcell HB).1 _ _ lA).trans (hrd k hkp 1 (by decide))
      have x2 : wr.cell? ⟨b, off + k * 3 + 2, none⟩ = some (.string l[k].b) := ((bcell HB).1 _ _ lA).trans (hrd k hkp 2 (by decide))
      obtain ⟨X, hX⟩ : ∃ y, y = l[k].n := ⟨_, rfl⟩
      obtain ⟨S, hS⟩ : ∃ y, y = l[k].b := ⟨_, rfl⟩
      rw [← hX] at x1
      rw [← hS] at x2
      have BD : Below wr.heap.size wr wr.drew := (Below.refl _ _).drew
      have Hwr := hide (run_write X S (hR.below BD))
      have HB' := hide HB
      have HO := hide hO
      clear hrd hX hS hkp hR HR0 HB hO
      by_cases h100 : 100 < S.size
      · have h100' : (100 : Int) < S.size := by omega
        clear h100
        go_wp2_with fail
        go_ret
        exact ⟨rfl, unhide HB'⟩
      · have h100' : ¬ (100 : Int) < S.size := by omega
        clear h100
        go_wp2_with fail
        go_still_tail 11, (by kernel_rfl)
        change wpList _ _ _ _ _ wr.drew
        go_wp2_with fail
        refine (unhide Hwr).mono ?_
        rintro e w7 ⟨⟨x, rfl⟩, hR7, C7⟩
        have sd : wr.drew.heap.size = wr.heap.size := rfl
        have s7 := C7.size
        have B7 := hide ((unhide HB').trans ((BD.mono sr).trans (C7.to_below (by omega) (fun b hb => hb.elim (unhide HO b) (by rintro (rfl | rfl) <;> omega)))))
        have Hst := hide (run_step 1 hR7 (by have := unhide HTl; omega) (by decide) (.inl (by decide)) (by decide))
        clear hR7 C7 Hwr x1 x2
        go_wp2_with fail
        refine (unhide Hst).mono ?_
        rintro e w8 ⟨rfl, ⟨O8, hR8, hW8⟩, C8⟩
        have s8 := C8.size
        have B8 := hide ((unhide B7).trans (C8.to_below (by omega) (unhide HO)))
        have HR8 := hide hR8
        have HO8 := hide (fun b hb => (hW8.from' b hb).elim (unhide HO b) fun e => by omega : ∀ b, O8 b → w.heap.size ≤ b)
        have Hr8 := hide (show r + min 1 (T.length - r) ≤ NB by have := unhide HTl; omega)
        clear hR8 C8 B7 Hst hW8
        go_wp2_with fail
        go_roundw
        case rel => exact ⟨k + 1, _, by omega, unhide Hr8, by go_num, ⟨O8, unhide HR8, unhide HO8⟩, unhide B8⟩
        case measure => simp [intOf]; omega
    · have hlt' : ¬ (k : Int) < n := by omega
      have Hst := hide (run_step 100 hR (by have := unhide HTl; omega) (by decide) (.inl (by decide)) (by decide))
      have hmin : r + min 100 (T.length - r) = NB := by have := unhide HTl; omega
      rw [hmin] at Hst
      have HB' := hide HB
      have HO := hide hO
      clear hR HR0 HB hO hmin HB6
      go_wp2_with fail
      refine (unhide Hst).mono ?_
      rintro e w7 ⟨rfl, ⟨O7, hR7, hW7⟩, C7⟩
      have s7 := C7.size
      have B7 := hide ((unhide HB').trans (C7.to_below (by omega) (unhide HO)))
      have hR7' : Run (.pointer (some ⟨sp, 0, none⟩)) 60 J 1 1 T [] q NB cur (noneL 64, []) 0 T.length O7 (fun b => b = p ∨ b = g) w7 := by rw [unhide HTl]; exact hR7
      have Hp := hide (run_point 1 hR7')
      have HR7 := hide hR7
      obtain ⟨L, hL⟩ : ∃ L, L = (runT cur T (noneL 64, [])).1 := ⟨_, rfl⟩
      obtain ⟨ES, hES⟩ : ∃ L, L = (runT cur T (noneL 64, [])).2 := ⟨_, rfl⟩
      have hfacts : L.length = 64 ∧ InPool L ∧ ∀ k, k < NB → GetE ES (L.getD k 0) (blkB cur k) ∧ 0 ≤ L.getD k 0 := by
        have hi0 : JInv NB cur 0 (todoL 1 (fun _ => false) NB) (noneL 64, []) := JInv.fresh (by omega) (unhide Hcs) 1 (fun _ => false)
        rw [todoL_full, ← unhide HT] at hi0
        have ht := told_run T [] hi0 (by have := unhide HTl; omega) (Told.nil _ _) (fun k _ h => by simp at h)
        rw [List.nil_append] at ht
        rw [hL, hES]
        refine ⟨ht.2.len, ht.2.inp, fun k hk => ?_⟩
        have hkT : k ∈ T := by rw [unhide HT]; exact List.mem_range.2 hk
        exact ⟨ht.1.get k hkT, ht.1.nn k hkT⟩
      have HFa := hide hfacts
      rw [← hL] at Hp
      have hget : ∀ k, k < NB → ∀ W, Below w7.heap.size w7 W → Calls Tryz.prog 18 #[.pointer (some ⟨sp, 0, none⟩), .int .i64 (L.getD k 0)] W fun e w' => e = .returned (.tuple #[.string (blkB cur k), .int .i64 0]) ∧ Below W.heap.size W w' := fun k hk W hb => by
        refine run_get (L.getD k 0) (blkB cur k) (hR7.below hb) ?_
        have := (hfacts.2.2 k hk).1
        rw [hES] at this
        rw [List.take_of_length_le (by have := unhide HTl; omega)]
        exact this
      have Hget := hide hget
      have hkp : ∀ W, Below w7.heap.size w7 W → Calls Tryz.prog 19 #[.pointer (some ⟨q, 0, none⟩)] W fun e w' => e = .returned (.slice none 0 0) ∧ w' = W := fun W hb => by
        have hR' := hR7.below hb
        rw [unhide HT] at hR'
        exact run_kept hR'
      have Hkp := hide hkp
      clear hR7 hR7' Hst C7 hW7 hL hES hfacts hget hkp
      go_wp2_with fail
      refine (unhide Hp).mono ?_
      rintro e w8 ⟨⟨A8, c8, rfl, ho8⟩, B8⟩
      obtain ⟨E, hE⟩ : ∃ E, E = extsL L 64 := ⟨_, rfl⟩
      rw [← hE] at ho8 ⊢
      obtain ⟨N8, hN8⟩ : ∃ N, N = E.length := ⟨_, rfl⟩
      rw [← hN8] at ho8 ⊢
      have HE := hide hE
      have HO8 := hide ho8
      have HN8 := hide hN8
      have B8' := hide ((unhide B7).trans (B8.mono (by omega)))
      have s8 := B8.size
      have B78 := hide B8
      clear ho8 hE hN8 B8 Hp
      obtain ⟨w9, hw9⟩ : ∃ W, W = w8.alloc (.cells #[.int .i64 1, .int .i64 1, .int .i64 1, .slice A8 N8 c8] 44) := ⟨_, rfl⟩
      have B89 : Below w8.heap.size w8 w9 := by rw [hw9]; exact (Below.refl _ _).alloc (Nat.le_refl _) _
      have s9 := B89.size
      have hsl9 : Sl eE w9 A8 N8 c8 E := by
        obtain ⟨A', c', hv, hs', _⟩ := ((unhide HO8).below B89).sl
        injection hv with v1 v2 v3
        rw [v1, v2, v3]; exact hs'
      have Hof := hide (of_any A8 N8 c8 E w9 hsl9)
      have B9 := hide ((unhide B8').trans (B89.mono (by omega)))
      have B79 := hide ((unhide B78).trans (B89.mono (by omega)))
      clear B89 hsl9
      go_wp2_with fail
      rw [← hw9]
      clear hw9
      refine (unhide Hof).mono ?_
      rintro e w2 ⟨rfl, HB2⟩
      have s10 := HB2.size
      have B10 := hide ((unhide B9).trans (HB2.mono (by omega)))
      have B710 := hide ((unhide B79).trans (HB2.mono (by omega)))
      obtain ⟨w3, hw3⟩ : ∃ W, W = (w2.alloc (.cells (numCells (noneL 0)).toArray 48)).setCells w2.heap.size 0 (numCells (ofL E)) := ⟨_, rfl⟩
      have hl64 : (noneL 0).length = 64 := noneL_len (by omega)
      have a3 : Arr w3 w2.heap.size 48 (ofL E) := by rw [hw3]; exact (Arr.alloc w2 _ (noneL 0)).store (by rw [ofL_len, hl64])
      have B3 : Below w2.heap.size w2 w3 := by rw [hw3]; exact below_setCells (Nat.le_refl _) _ _ _ ((Below.refl _ _).alloc (Nat.le_refl _) _)
      have hs3 : w2.heap.size + 1 ≤ w3.heap.size := by rw [hw3, size_setCells]; show _ ≤ (w2.heap.push _).size; simp
      have hl' : (numCells (ofL E)).length = 64 := by rw [numCells_len, ofL_len]
      have Hl' := hide hl'
      have Hl64 := hide hl64
      have H3 := hide a3
      have HL := hide (ofL_len E)
      have B11 := hide ((unhide B10).trans (B3.mono (by omega)))
      have B711 := hide ((unhide B710).trans (B3.mono (by omega)))
      have hM : ∀ k, k < NB → (ofL E).getD k 0 = L.getD k 0 := fun k hk => by
        have hf := unhide HFa
        rw [unhide HE, ofL_exts L hf.2.1 64 (Nat.le_refl _) k (by omega), if_pos ⟨by omega, (hf.2.2 k hk).2⟩]
      have HM := hide hM
      clear a3 hl' hl64 hM HB2 B3 Hof
      go_wp2_with (refine wpList_store_mid rfl _ _ _ rfl w2.heap.size 0 (numCells (ofL E)).toArray rfl rfl ((Arr.alloc w2 48 (noneL 0)).there (by rw [List.size_toArray, unhide Hl', unhide Hl64])) (by rw [Tryz.infoMap, List.size_toArray, unhide Hl']) (all_oneCell_toArray (numCells_one _)) ?_)
      change Code.wp _ _ _ _ ((w2.alloc (.cells (numCells (noneL 0)).toArray 48)).setCells w2.heap.size 0 (numCells (ofL E)))
      rw [← hw3]
      clear hw3
      obtain ⟨M, hM⟩ : ∃ M, M = ofL E := ⟨_, rfl⟩
      rw [← hM] at H3 HL HM
      obtain ⟨pm, hpm⟩ : ∃ p, p = w2.heap.size := ⟨_, rfl⟩
      have hpm2 : w2.heap.size ≤ pm := by omega
      rw [← hpm] at H3 hs3 ⊢
      clear hM hpm
      go_wp2_with fail
      go_loopw [21, 22, 23] (fun i _ _ wr => ∃ k : Nat, k ≤ NB ∧ i = .int .i64 (k : Int) ∧ Below w3.heap.size w3 wr) (fun i _ _ _ => NB - (intOf i).toNat)
      case atStart => exact ⟨0, Nat.zero_le _, rfl, Below.refl _ _⟩
      case round =>
        obtain ⟨k, hk, rfl, HBr⟩ := hrel
        have sr := HBr.size
        by_cases hlt : k < NB
        · have hlt' : (k : Int) < NB := by omega
          obtain ⟨x, hx⟩ : ∃ x, x = L.getD k 0 := ⟨_, rfl⟩
          have hMk : M[k]'(by have := unhide HL; omega) = x := by
            have := unhide HM k hlt
            rw [List.getD_eq_getElem?_getD, List.getElem?_eq_getElem (by have := unhide HL; omega), Option.getD_some] at this
            rw [this, hx]
          have hx0 : 0 ≤ x := by rw [hx]; exact ((unhide HFa).2.2 k hlt).2
          have m1 : wr.cell? ⟨pm, k, none⟩ = some (.int .i64 x) := by
            rw [← hMk]
            exact ((bcell HBr).1 pm k (by omega)).trans ((unhide H3).cell _)
          obtain ⟨S, hS⟩ : ∃ S, S = blkB cur k := ⟨_, rfl⟩
          have Hg := hide (unhide Hget k hlt wr ((unhide B711).trans (HBr.mono (by omega))))
          rw [← hx, ← hS] at Hg
          have q1 : (k : Int) * 8 = ((8 * k : Nat) : Int) := by omega
          have q2 : ((k : Int) + 1) * 8 = ((8 * k + 8 : Nat) : Int) := by omega
          have q3 : cur.extract (8 * k) (8 * k + 8) = S := by
            rw [hS]
            apply bytes_ext
            intro j
            rw [blkB_get]
            rw [ByteArray.data_extract, Array.toList_extract, List.extract_eq_take_drop, show 8 * k + 8 - 8 * k = 8 by omega]
            by_cases hj : j < 8
            · rw [if_pos hj, List.getElem?_take_of_lt hj, List.getElem?_drop]
            · rw [if_neg hj, List.getElem?_take_eq_none (by omega)]
          have HBr' := hide HBr
          have hcu : 8 * k + 8 ≤ cur.size := by have := unhide Hcs; omega
          have hpmr : pm < wr.heap.size := by omega
          clear HBr hMk hx hS
          go_wp2_with fail
          refine (unhide Hg).mono ?_
          rintro e w4 ⟨rfl, HB4⟩
          have m2 := ((bcell HB4).1 pm k (by omega)).trans m1
          have B4 := hide ((unhide HBr').trans (HB4.mono (by omega)))
          clear HB4 m1 Hg HBr'
          go_wp2_with fail
          go_roundw
          case rel => exact ⟨k + 1, by omega, by go_num, unhide B4⟩
          case measure => simp [intOf]; omega
        · have hlt' : ¬ (k : Int) < NB := by omega
          have Hk2 := hide (unhide Hkp wr ((unhide B711).trans (HBr.mono (by omega))))
          have BF := hide ((unhide B11).trans (HBr.mono (by omega)))
          clear HBr
          go_wp2_with fail
          refine (unhide Hk2).mono ?_
          rintro e w4 ⟨rfl, hw4⟩
          subst hw4
          go_wp2_with fail
          go_ret
          exact ⟨rfl, unhide BF⟩
theorem writes_any (bl : Int) (first : ByteArray) (A : Option Addr) (n c : Nat) (l : List Op20) (w : World) (hs : Sl eOp w A n c l) :
    Calls Tryz.prog 3 #[.int .i64 bl, .string first, .slice A n c] w fun e w' => e = .returned (.bool true) ∧ Below w.heap.size w w' := by
  by_cases h : bl < 1 ∨ 40 < bl ∨ 400 < first.size ∨ 30 < n
  · exact writes_out bl first A n c w (Nat.le_trans hs.2.1 hs.2.2.1) h
  · obtain ⟨NB, rfl⟩ : ∃ NB : Nat, bl = (NB : Int) := ⟨bl.toNat, by omega⟩
    exact writes_in NB first A n c l w hs (by omega) (by omega) (by omega) (by omega)
end Go.Proofs.YtjjfdkdneibjbaaGreatDoor
/- A row's last step where of the world behind the call only 'what was there stays' is known. -/
namespace Go.Proofs.YtjjfdkdneibjbaaGreatDoor
open Go.RowKit Go.WideShapes Go.ChangeShapes
section
variable {H : Type} {enc : TypeId × Value → H} {P : Program}
theorem post_of_below {f : Func} {s : ChangeSpec} {apart fresh handsOn again : Bool} {W W' : World} {args : Array Value} {v : Value} {ds gs : List (DataW H)} {before pa pv : List MemPlace}
    (hW : DataW.Whole enc P f.params.toList s.vars apart W args.toList ds gs before)
    (hres : ∀ (b : Nat) (sp : Nat → Bool) (hd : Bool), DataW.TrodAll enc P W' b sp hd f.resultTypes.toList (v.resultList f.resultTypes.size) (s.fn H (ds ++ gs)).results [])
    (hargs : ∀ sp : Nat → Bool, (∀ p ∈ before, sp p.block = true) → DataW.TrodAll enc P W' 0 sp true f.params.toList args.toList (s.fn H (ds ++ gs)).args pa)
    (hvars : ∀ sp : Nat → Bool, (∀ p ∈ before, sp p.block = true) → DataW.TrodVars enc P W' sp s.vars (s.fn H (ds ++ gs)).vars pv)
    (hps : before = pa ++ pv) (hb : Below W.heap.size W W')
    (hok : ∀ (j : Nat) (t : TypeId) (r : Value), f.resultTypes[j]? = some t → (v.resultList f.resultTypes.size)[j]? = some r → Value.okWide P W' .any 0 t r) :
    s.post enc P f apart fresh handsOn again W args v W' := by
  have hlt : ∀ p ∈ before, p.block < W.heap.size := fun p hp => hW.lt p hp
  have hold : ∀ p ∈ before, (fun b => decide (b < W.heap.size)) p.block = true := fun p hp => by simpa using hlt p hp
  refine ⟨ds, gs, before, [], pa, pv, hW, hres _ _ _, hargs _ hold, hvars _ hold, World.keptBut_mono (fun p hp => ⟨hp, ?_⟩) (hb.frame (· ∈ before)), fun _ => ?_⟩
  · rw [hps, List.mem_append] at hp
    exact Or.inr hp
  · obtain ⟨_, _, _, _, _, hz, hn⟩ := hW
    refine ⟨hok, _, _, ([] ++ pa) ++ pv, ⟨[] ++ pa, pv, trodAll_append (hargs _ (fun _ _ => rfl)) (hres _ _ _), hvars _ (fun _ _ => rfl), rfl, ?_, ?_⟩, ?_⟩
    · intro b off hp
      have hin : MemPlace.cell b off ∈ before := by rw [hps]; simpa using hp
      rw [hb.frozen (hlt _ hin)]
      exact hz b off hin
    · intro ha
      have := hn ha
      rw [hps] at this
      simpa using this
    · intro p hp _
      rw [hps]
      simpa using hp
/-- The arguments read behind the call as they read before it. -/
theorem below_trodAll (hl : laidOutB P = true) {W W' : World} (hb : Below W.heap.size W W') {sp : Nat → Bool} :
    ∀ (ts : List TypeId) (vs : List Value) (ds : List (DataW H)) (ps : List MemPlace), (∀ t ∈ ts, P.readableRec t = true ∧ t < P.types.size) →
      DataW.TrodAll enc P W 0 (fun _ => true) true ts vs ds ps → (∀ x ∈ ps, x.block < W.heap.size) → (∀ x ∈ ps, sp x.block = true) → DataW.TrodAll enc P W' 0 sp true ts vs ds ps
  | [], [], [], _, _, h, _, _ => h
  | t :: ts, v :: vs, d :: ds, _, ht, h, hlt, hsp => by
    obtain ⟨p, q, h1, h2, rfl⟩ := h
    obtain ⟨hr, hrow⟩ := ht t List.mem_cons_self
    exact ⟨p, q, WideElems.Trod_stays hl hr hrow h1 (fun x hx => hb.same (hlt x (List.mem_append_left _ hx))) (fun x hx => hsp x (List.mem_append_left _ hx)),
      below_trodAll hl hb ts vs ds q (fun u hu => ht u (List.mem_cons_of_mem _ hu)) h2 (fun x hx => hlt x (List.mem_append_right _ hx)) (fun x hx => hsp x (List.mem_append_right _ hx)), rfl⟩
  | [], _ :: _, _, _, _, h, _, _ => by simp [DataW.TrodAll] at h
  | [], [], _ :: _, _, _, h, _, _ => by simp [DataW.TrodAll] at h
  | _ :: _, [], _, _, _, h, _, _ => by simp [DataW.TrodAll] at h
  | _ :: _, _ :: _, [], _, _, h, _, _ => by simp [DataW.TrodAll] at h
/-- 'post' of a law: it returns true, and what was there stays. -/
theorem post_law {f : Func} {s : ChangeSpec} {apart fresh handsOn again : Bool} {W W' : World} {args : Array Value} {ds gs : List (DataW H)} {before : List MemPlace} {tb : TypeId}
    (hl : laidOutB P = true) (hW : DataW.Whole enc P f.params.toList s.vars apart W args.toList ds gs before) (hvs : s.vars = []) (hrd : ∀ t ∈ f.params.toList, P.readableRec t = true ∧ t < P.types.size)
    (hb : Below W.heap.size W W') (ht : P.underlying tb = some .bool) (hres : f.resultTypes = #[tb])
    (hsr : (s.fn H (ds ++ gs)).results = [.lit (.bool true)]) (hsa : (s.fn H (ds ++ gs)).args = ds) (hsv : (s.fn H (ds ++ gs)).vars = []) :
    s.post enc P f apart fresh handsOn again W args (.bool true) W' := by
  have hW0 := hW
  obtain ⟨p, q, hA, hV, rfl, _, _⟩ := hW
  have hq : q = [] := by
    rw [hvs] at hV
    cases gs with
    | nil => exact hV
    | cons g gs => simp [DataW.TrodVars] at hV
  subst hq
  refine post_of_below (pa := p) (pv := []) hW0 ?_ (fun sp hsp => ?_) (fun sp _ => ?_) rfl hb ?_
  · intro b sp hd
    rw [hsr, hres]
    exact trodAll_cons_mk (shut_bool ht _) trodAll_mk0
  · rw [hsa]
    have hlt : ∀ x ∈ p, x.block < W.heap.size := fun x hx => hW0.lt x (List.mem_append_left _ hx)
    exact below_trodAll hl hb _ _ _ _ hrd hA hlt fun x hx => hsp x (List.mem_append_left _ hx)
  · rw [hsv, hvs]; rfl
  · exact ok_one hres rfl (okWide_bool_mk ht _)
end
end Go.Proofs.YtjjfdkdneibjbaaGreatDoor
