/- Walk of package retain: stays (its first region has an open order: by wp_region_inv). -/
import Derived.Test.YtdpbjigdihajjaaRetA
import Derived.Test.YtdpbjigdihajjaaReg
import Derived.Laws.EntriesVeiled
namespace Go.Proofs.Ytdpbjigdihajjaa
open Go.RowKit Retain

def SI (sl : Value) (at_ D W M today : Int) (B0 : Nat) (W0 : World) (b : Nat → Bool) (a : Act) (w : World) : Prop :=
  ∃ x9 x10 x11 x13 x14 x15 x16 x17 x18 x19 x20 x21, a = ⟨#[sl, .int .i64 at_, .agg #[.int .i64 D, .int .i64 W, .int .i64 M], .int .i64 today, undef, undef, .pointer (some ⟨B0, 0, none⟩), undef, .bool false,
    x9, x10, x11, undef, x13, x14, x15, x16, x17, x18, x19, x20, x21, undef, undef, undef, undef, undef, undef, undef, undef, undef, undef, undef, undef, undef, undef, undef, undef, undef, undef, undef, undef, undef, undef, undef, undef, undef], []⟩ ∧
  Below (B0 + 1) W0 w ∧
  (b 0 = true → x13 = .pointer (some ⟨B0, 2, none⟩)) ∧ (b 1 = true → x14 = .int .i64 M) ∧ (b 2 = true → x15 = .agg #[.func (.func 14) #[] #[], .int .i64 M]) ∧
  (b 3 = true → x16 = .pointer (some ⟨B0, 1, none⟩)) ∧ (b 4 = true → x17 = .int .i64 W) ∧ (b 5 = true → x18 = .agg #[.func (.func 13) #[] #[], .int .i64 W]) ∧
  (b 6 = true → x19 = .pointer (some ⟨B0, 0, none⟩)) ∧ (b 7 = true → x20 = .int .i64 D) ∧ (b 8 = true → x21 = .agg #[.func (.func 78) #[] #[], .int .i64 D]) ∧
  (b 9 = true → ∃ g, x9 = .pointer (some ⟨g, 0, none⟩) ∧ B0 < g ∧ w.heap[g]? = some (.cells (if b 12 = true then #[.func (.func 14) #[] #[], .int .i64 M] else #[.nilFunc, .int .i64 0]) 119 (0, 0))) ∧
  (b 10 = true → ∃ g, x10 = .pointer (some ⟨g, 0, none⟩) ∧ B0 < g ∧ w.heap[g]? = some (.cells (if b 13 = true then #[.func (.func 13) #[] #[], .int .i64 W] else #[.nilFunc, .int .i64 0]) 119 (0, 0))) ∧
  (b 11 = true → ∃ g, x11 = .pointer (some ⟨g, 0, none⟩) ∧ B0 < g ∧ w.heap[g]? = some (.cells (if b 14 = true then #[.func (.func 78) #[] #[], .int .i64 D] else #[.nilFunc, .int .i64 0]) 119 (0, 0))) ∧
  (b 12 = true → b 9 = true ∧ b 10 = true ∧ b 11 = true) ∧ (b 13 = true → b 12 = true) ∧ (b 14 = true → b 13 = true) ∧
  (b 9 = true → b 10 = true → x9 ≠ x10) ∧ (b 9 = true → b 11 = true → x9 ≠ x11) ∧ (b 10 = true → b 11 = true → x10 ≠ x11)

theorem lt_of_some {w : World} {g : Nat} {c : Obj} (h : w.heap[g]? = some c) : g < w.heap.size := (Array.getElem?_eq_some_iff.1 h).1
theorem heap_alloc_old (w : World) (o : Obj) (g : Nat) (h : g < w.heap.size) : (w.alloc o).heap[g]? = w.heap[g]? := Below.heap_alloc w o g h
theorem set2 {w : World} {g T : Nat} {x y : Value} (u v : Value) (h : w.heap[g]? = some (.cells #[x, y] T (0, 0))) :
    ((w.setCell ⟨g, 0, none⟩ u).setCell ⟨g, 1, none⟩ v).heap[g]? = some (.cells #[u, v] T (0, 0)) := by
  simp [World.setCell, Array.getElem?_modify, h]
theorem set2_other {w : World} {g g' : Nat} (u v : Value) (h : g' ≠ g) : ((w.setCell ⟨g, 0, none⟩ u).setCell ⟨g, 1, none⟩ v).heap[g']? = w.heap[g']? :=
  (Below.heap_setCell _ ⟨g, 1, none⟩ v g' h).trans (Below.heap_setCell _ ⟨g, 0, none⟩ u g' h)
set_option maxHeartbeats 1000000 in
theorem stays_any (D W M today : Int) (b off c at_ : Nat) (ps : List Pt) (w : World) (hb : b < w.heap.size) (hp : Rd ePt w b off ps) (ha : at_ < ps.length) (hc : ps.length ≤ c) (hc2 : c ≤ 9223372036854775807)
    (hd : ∀ p ∈ ps, p.day ≤ 9223372036854775807) (ht : today ≤ 9223372036854775807) :
    Calls Try.prog 62 #[.slice (some ⟨b, off, none⟩) ps.length c, .int .i64 at_, .agg #[.int .i64 D, .int .i64 W, .int .i64 M], .int .i64 today] w
      fun e w' => e = .returned (.bool (staysB D W M today (ps.map Pt.day) at_)) ∧ Below w.heap.size w w' := by
  have Hd := hide hd
  clear hd
  go_enter Try.func62, Try.ntmps62
  go_wp2
  have hs0 : SI (.slice (some ⟨b, off, none⟩) ps.length c) at_ D W M today w.heap.size (w.alloc (.cells #[.int .i64 D, .int .i64 W, .int .i64 M] 24)) (fun _ => false)
     ⟨#[.slice (some ⟨b, off, none⟩) ps.length c, .int .i64 at_, .agg #[.int .i64 D, .int .i64 W, .int .i64 M], .int .i64 today, undef, undef, .pointer (some ⟨w.heap.size, 0, none⟩), undef, .bool false,
    undef, undef, undef, undef, undef, undef, undef, undef, undef, undef, undef, undef, undef, undef, undef, undef, undef, undef, undef, undef, undef, undef, undef, undef, undef, undef, undef, undef, undef, undef, undef, undef, undef, undef, undef, undef, undef, undef], []⟩ (w.alloc (.cells #[.int .i64 D, .int .i64 W, .int .i64 M] 24)).drew := by
    refine ⟨_, _, _, _, _, _, _, _, _, _, _, _, rfl, below_drewN (Below.refl _ _) 1, ?_⟩
    simp
  refine wp_region_inv 15 (by kernel_rfl) rfl (SI (.slice (some ⟨b, off, none⟩) ps.length c) at_ D W M today w.heap.size (w.alloc (.cells #[.int .i64 D, .int .i64 W, .int .i64 M] 24))) (by kernel_rfl) hs0 ?_ ?_
  · have c0 : (w.alloc (.cells #[.int .i64 D, .int .i64 W, .int .i64 M] 24)).cell? ⟨w.heap.size, 0, none⟩ = some (.int .i64 D) := World.cell?_alloc_at _ _ _ _ rfl
    have c1 : (w.alloc (.cells #[.int .i64 D, .int .i64 W, .int .i64 M] 24)).cell? ⟨w.heap.size, 1, none⟩ = some (.int .i64 W) := World.cell?_alloc_at _ _ _ _ rfl
    have c2 : (w.alloc (.cells #[.int .i64 D, .int .i64 W, .int .i64 M] 24)).cell? ⟨w.heap.size, 2, none⟩ = some (.int .i64 M) := World.cell?_alloc_at _ _ _ _ rfl
    have hW0 : w.heap.size < (w.alloc (.cells #[.int .i64 D, .int .i64 W, .int .i64 M] 24)).heap.size := by simp
    generalize (w.alloc (.cells #[.int .i64 D, .int .i64 W, .int .i64 M] 24)) = W0 at *
    generalize w.heap.size = B0 at *
    intro i o ho β a w1 hI hβ hw
    obtain ⟨x9, x10, x11, x13, x14, x15, x16, x17, x18, x19, x20, x21, rfl, HB, f0, f1, f2, f3, f4, f5, f6, f7, f8, f9, f10, f11, q1, q2, q3, n1, n2, n3⟩ := hI
    have d0 := ((bcell HB).1 B0 0 (by omega)).trans c0
    have d1 := ((bcell HB).1 B0 1 (by omega)).trans c1
    have d2 := ((bcell HB).1 B0 2 (by omega)).trans c2
    have hi : i < 15 := by have := (Array.getElem?_eq_some_iff.1 ho).1; simpa using this
    have h15 : i = 0 ∨ i = 1 ∨ i = 2 ∨ i = 3 ∨ i = 4 ∨ i = 5 ∨ i = 6 ∨ i = 7 ∨ i = 8 ∨ i = 9 ∨ i = 10 ∨ i = 11 ∨ i = 12 ∨ i = 13 ∨ i = 14 := by omega
    rcases h15 with rfl | rfl | rfl | rfl | rfl | rfl | rfl | rfl | rfl | rfl | rfl | rfl | rfl | rfl | rfl
    · simp at ho
      refine wpOp_k (o := o) (by simp [ho]) (by subst ho; rfl) fun K hK => ?_
      subst ho
      simp [waits, Region.binds] at hw
      go_simp
      exact hK _ _ ⟨_, _, _, _, _, _, _, _, _, _, _, _, rfl, HB, fun _ => rfl, f1, f2, f3, f4, f5, f6, f7, f8, f9, f10, f11, q1, q2, q3, n1, n2, n3⟩
    · simp at ho
      refine wpOp_k (o := o) (by simp [ho]) (by subst ho; rfl) fun K hK => ?_
      subst ho
      simp [waits, Region.binds] at hw
      obtain rfl := f0 hw
      go_simp
      exact hK _ _ ⟨_, _, _, _, _, _, _, _, _, _, _, _, rfl, HB, f0, fun _ => rfl, f2, f3, f4, f5, f6, f7, f8, f9, f10, f11, q1, q2, q3, n1, n2, n3⟩
    · simp at ho
      refine wpOp_k (o := o) (by simp [ho]) (by subst ho; rfl) fun K hK => ?_
      subst ho
      simp [waits, Region.binds] at hw
      obtain rfl := f1 hw
      go_simp
      exact hK _ _ ⟨_, _, _, _, _, _, _, _, _, _, _, _, rfl, HB, f0, f1, fun _ => rfl, f3, f4, f5, f6, f7, f8, f9, f10, f11, q1, q2, q3, n1, n2, n3⟩
    · simp at ho
      refine wpOp_k (o := o) (by simp [ho]) (by subst ho; rfl) fun K hK => ?_
      subst ho
      simp [waits, Region.binds] at hw
      go_simp
      exact hK _ _ ⟨_, _, _, _, _, _, _, _, _, _, _, _, rfl, HB, f0, f1, f2, fun _ => rfl, f4, f5, f6, f7, f8, f9, f10, f11, q1, q2, q3, n1, n2, n3⟩
    · simp at ho
      refine wpOp_k (o := o) (by simp [ho]) (by subst ho; rfl) fun K hK => ?_
      subst ho
      simp [waits, Region.binds] at hw
      obtain rfl := f3 hw
      go_simp
      exact hK _ _ ⟨_, _, _, _, _, _, _, _, _, _, _, _, rfl, HB, f0, f1, f2, f3, fun _ => rfl, f5, f6, f7, f8, f9, f10, f11, q1, q2, q3, n1, n2, n3⟩
    · simp at ho
      refine wpOp_k (o := o) (by simp [ho]) (by subst ho; rfl) fun K hK => ?_
      subst ho
      simp [waits, Region.binds] at hw
      obtain rfl := f4 hw
      go_simp
      exact hK _ _ ⟨_, _, _, _, _, _, _, _, _, _, _, _, rfl, HB, f0, f1, f2, f3, f4, fun _ => rfl, f6, f7, f8, f9, f10, f11, q1, q2, q3, n1, n2, n3⟩
    · simp at ho
      refine wpOp_k (o := o) (by simp [ho]) (by subst ho; rfl) fun K hK => ?_
      subst ho
      simp [waits, Region.binds] at hw
      go_simp
      exact hK _ _ ⟨_, _, _, _, _, _, _, _, _, _, _, _, rfl, HB, f0, f1, f2, f3, f4, f5, fun _ => rfl, f7, f8, f9, f10, f11, q1, q2, q3, n1, n2, n3⟩
    · simp at ho
      refine wpOp_k (o := o) (by simp [ho]) (by subst ho; rfl) fun K hK => ?_
      subst ho
      simp [waits, Region.binds] at hw
      obtain rfl := f6 hw
      go_simp
      exact hK _ _ ⟨_, _, _, _, _, _, _, _, _, _, _, _, rfl, HB, f0, f1, f2, f3, f4, f5, f6, fun _ => rfl, f8, f9, f10, f11, q1, q2, q3, n1, n2, n3⟩
    · simp at ho
      refine wpOp_k (o := o) (by simp [ho]) (by subst ho; rfl) fun K hK => ?_
      subst ho
      simp [waits, Region.binds] at hw
      obtain rfl := f7 hw
      go_simp
      exact hK _ _ ⟨_, _, _, _, _, _, _, _, _, _, _, _, rfl, HB, f0, f1, f2, f3, f4, f5, f6, f7, fun _ => rfl, f9, f10, f11, q1, q2, q3, n1, n2, n3⟩
    · simp at ho
      refine wpOp_k (o := o) (by simp [ho]) (by subst ho; rfl) fun K hK => ?_
      subst ho
      simp [waits, Region.binds] at hw
      have nb : ¬ β 12 = true := fun h => by have := (q1 h).1; rw [hβ] at this; cases this
      have al : ∀ g (c : Obj), w1.heap[g]? = some c → (w1.alloc (.cells #[.nilFunc, .int .i64 0] 119)).heap[g]? = some c := fun g c h => (heap_alloc_old _ _ _ (lt_of_some h)).trans h
      have nw : ∀ g (c : Obj), w1.heap[g]? = some c → Value.pointer (some ⟨w1.heap.size, 0, none⟩) ≠ Value.pointer (some ⟨g, 0, none⟩) := fun g c h e => by
        injection e with e; injection e with e; injection e with e; have := lt_of_some h; omega
      have hsz : B0 < w1.heap.size := Nat.lt_of_lt_of_le hW0 HB.size
      go_simp
      exact hK _ _ ⟨_, _, _, _, _, _, _, _, _, _, _, _, rfl, HB.alloc hsz _, f0, f1, f2, f3, f4, f5, f6, f7, f8, fun _ => ⟨_, rfl, hsz, by rw [if_neg (show ¬ upd β 9 12 = true from nb)]; exact heap_alloc_new _ _⟩, fun h => by obtain ⟨g, e, hg, hc⟩ := f10 h; exact ⟨g, e, hg, al _ _ hc⟩, fun h => by obtain ⟨g, e, hg, hc⟩ := f11 h; exact ⟨g, e, hg, al _ _ hc⟩, fun h => ⟨rfl, (q1 h).2⟩, q2, q3, fun _ h => by obtain ⟨g, e, hg, hc⟩ := f10 h; subst e; exact nw _ _ hc, fun _ h => by obtain ⟨g, e, hg, hc⟩ := f11 h; subst e; exact nw _ _ hc, n3⟩
    · simp at ho
      refine wpOp_k (o := o) (by simp [ho]) (by subst ho; rfl) fun K hK => ?_
      subst ho
      simp [waits, Region.binds] at hw
      have nb : ¬ β 13 = true := fun h => by have := (q1 (q2 h)).2.1; rw [hβ] at this; cases this
      have al : ∀ g (c : Obj), w1.heap[g]? = some c → (w1.alloc (.cells #[.nilFunc, .int .i64 0] 119)).heap[g]? = some c := fun g c h => (heap_alloc_old _ _ _ (lt_of_some h)).trans h
      have nw : ∀ g (c : Obj), w1.heap[g]? = some c → Value.pointer (some ⟨w1.heap.size, 0, none⟩) ≠ Value.pointer (some ⟨g, 0, none⟩) := fun g c h e => by
        injection e with e; injection e with e; injection e with e; have := lt_of_some h; omega
      have hsz : B0 < w1.heap.size := Nat.lt_of_lt_of_le hW0 HB.size
      go_simp
      exact hK _ _ ⟨_, _, _, _, _, _, _, _, _, _, _, _, rfl, HB.alloc hsz _, f0, f1, f2, f3, f4, f5, f6, f7, f8, fun h => by obtain ⟨g, e, hg, hc⟩ := f9 h; exact ⟨g, e, hg, al _ _ hc⟩, fun _ => ⟨_, rfl, hsz, by rw [if_neg (show ¬ upd β 10 13 = true from nb)]; exact heap_alloc_new _ _⟩, fun h => by obtain ⟨g, e, hg, hc⟩ := f11 h; exact ⟨g, e, hg, al _ _ hc⟩, fun h => ⟨(q1 h).1, rfl, (q1 h).2.2⟩, q2, q3, fun h _ => by obtain ⟨g, e, hg, hc⟩ := f9 h; subst e; exact fun e => nw _ _ hc e.symm, n2, fun _ h => by obtain ⟨g, e, hg, hc⟩ := f11 h; subst e; exact nw _ _ hc⟩
    · simp at ho
      refine wpOp_k (o := o) (by simp [ho]) (by subst ho; rfl) fun K hK => ?_
      subst ho
      simp [waits, Region.binds] at hw
      have nb : ¬ β 14 = true := fun h => by have := (q1 (q2 (q3 h))).2.2; rw [hβ] at this; cases this
      have al : ∀ g (c : Obj), w1.heap[g]? = some c → (w1.alloc (.cells #[.nilFunc, .int .i64 0] 119)).heap[g]? = some c := fun g c h => (heap_alloc_old _ _ _ (lt_of_some h)).trans h
      have nw : ∀ g (c : Obj), w1.heap[g]? = some c → Value.pointer (some ⟨w1.heap.size, 0, none⟩) ≠ Value.pointer (some ⟨g, 0, none⟩) := fun g c h e => by
        injection e with e; injection e with e; injection e with e; have := lt_of_some h; omega
      have hsz : B0 < w1.heap.size := Nat.lt_of_lt_of_le hW0 HB.size
      go_simp
      exact hK _ _ ⟨_, _, _, _, _, _, _, _, _, _, _, _, rfl, HB.alloc hsz _, f0, f1, f2, f3, f4, f5, f6, f7, f8, fun h => by obtain ⟨g, e, hg, hc⟩ := f9 h; exact ⟨g, e, hg, al _ _ hc⟩, fun h => by obtain ⟨g, e, hg, hc⟩ := f10 h; exact ⟨g, e, hg, al _ _ hc⟩, fun _ => ⟨_, rfl, hsz, by rw [if_neg (show ¬ upd β 11 14 = true from nb)]; exact heap_alloc_new _ _⟩, fun h => ⟨(q1 h).1, (q1 h).2.1, rfl⟩, q2, q3, n1, fun h _ => by obtain ⟨g, e, hg, hc⟩ := f9 h; subst e; exact fun e => nw _ _ hc e.symm, fun h _ => by obtain ⟨g, e, hg, hc⟩ := f10 h; subst e; exact fun e => nw _ _ hc e.symm⟩
    · simp at ho
      refine wpOp_k (o := o) (by simp [ho]) (by subst ho; rfl) fun K hK => ?_
      subst ho
      simp [waits, Region.binds] at hw
      have hw9 : β 9 = true := by simp [hw]
      have hwq : β 9 = true ∧ β 10 = true ∧ β 11 = true := by simp [hw]
      obtain rfl := f2 (by simp [hw])
      obtain ⟨g, e9, hg, hc⟩ := f9 hw9; subst e9
      rw [if_neg (by rw [hβ]; simp)] at hc
      have k0 : w1.cell? ⟨g, 0, none⟩ = some .nilFunc := cell_of_row w1 g 0 _ _ _ hc
      have k1 : w1.cell? ⟨g, 1, none⟩ = some (.int .i64 0) := cell_of_row w1 g 1 _ _ _ hc
      have z0 : w1.frozen? ⟨g, 0, none⟩ = false := by simp [World.frozen?, hc]
      have z1 : w1.frozen? ⟨g, 1, none⟩ = false := by simp [World.frozen?, hc]
      go_simp
      exact hK _ _ ⟨_, _, _, _, _, _, _, _, _, _, _, _, rfl, (HB.setCell (p := ⟨g, 0, none⟩) hg _).setCell (p := ⟨g, 1, none⟩) hg _, (by first | exact f0 | exact fun _ => rfl), (by first | exact f1 | exact fun _ => rfl), (by first | exact f2 | exact fun _ => rfl), (by first | exact f3 | exact fun _ => rfl), (by first | exact f4 | exact fun _ => rfl), (by first | exact f5 | exact fun _ => rfl), (by first | exact f6 | exact fun _ => rfl), (by first | exact f7 | exact fun _ => rfl), (by first | exact f8 | exact fun _ => rfl), fun _ => ⟨g, rfl, hg, by rw [if_pos (show upd β 12 12 = true from rfl)]; exact set2 _ _ hc⟩, fun h => by obtain ⟨g', e, hg', hc'⟩ := f10 h; exact ⟨g', e, hg', (set2_other _ _ (fun e' => (n1 hw9 h) (by rw [e, e']))).trans hc'⟩, fun h => by obtain ⟨g', e, hg', hc'⟩ := f11 h; exact ⟨g', e, hg', (set2_other _ _ (fun e' => (n2 hw9 h) (by rw [e, e']))).trans hc'⟩, fun _ => hwq, fun _ => rfl, q3, n1, n2, n3⟩
    · simp at ho
      refine wpOp_k (o := o) (by simp [ho]) (by subst ho; rfl) fun K hK => ?_
      subst ho
      simp [waits, Region.binds] at hw
      have hw9 : β 10 = true := by simp [hw]
      have hwq : β 12 = true := by simp [hw]
      obtain rfl := f5 (by simp [hw])
      obtain ⟨g, e9, hg, hc⟩ := f10 hw9; subst e9
      rw [if_neg (by rw [hβ]; simp)] at hc
      have k0 : w1.cell? ⟨g, 0, none⟩ = some .nilFunc := cell_of_row w1 g 0 _ _ _ hc
      have k1 : w1.cell? ⟨g, 1, none⟩ = some (.int .i64 0) := cell_of_row w1 g 1 _ _ _ hc
      have z0 : w1.frozen? ⟨g, 0, none⟩ = false := by simp [World.frozen?, hc]
      have z1 : w1.frozen? ⟨g, 1, none⟩ = false := by simp [World.frozen?, hc]
      go_simp
      exact hK _ _ ⟨_, _, _, _, _, _, _, _, _, _, _, _, rfl, (HB.setCell (p := ⟨g, 0, none⟩) hg _).setCell (p := ⟨g, 1, none⟩) hg _, (by first | exact f0 | exact fun _ => rfl), (by first | exact f1 | exact fun _ => rfl), (by first | exact f2 | exact fun _ => rfl), (by first | exact f3 | exact fun _ => rfl), (by first | exact f4 | exact fun _ => rfl), (by first | exact f5 | exact fun _ => rfl), (by first | exact f6 | exact fun _ => rfl), (by first | exact f7 | exact fun _ => rfl), (by first | exact f8 | exact fun _ => rfl), fun h => by obtain ⟨g', e, hg', hc'⟩ := f9 h; exact ⟨g', e, hg', (set2_other _ _ (fun e' => (n1 h hw9) (by rw [e, e']))).trans hc'⟩, fun _ => ⟨g, rfl, hg, by rw [if_pos (show upd β 13 13 = true from rfl)]; exact set2 _ _ hc⟩, fun h => by obtain ⟨g', e, hg', hc'⟩ := f11 h; exact ⟨g', e, hg', (set2_other _ _ (fun e' => (n3 hw9 h) (by rw [e, e']))).trans hc'⟩, q1, fun _ => hwq, fun _ => rfl, n1, n2, n3⟩
    · simp at ho
      refine wpOp_k (o := o) (by simp [ho]) (by subst ho; rfl) fun K hK => ?_
      subst ho
      simp [waits, Region.binds] at hw
      have hw9 : β 11 = true := by simp [hw]
      have hwq : β 13 = true := by simp [hw]
      obtain rfl := f8 (by simp [hw])
      obtain ⟨g, e9, hg, hc⟩ := f11 hw9; subst e9
      rw [if_neg (by rw [hβ]; simp)] at hc
      have k0 : w1.cell? ⟨g, 0, none⟩ = some .nilFunc := cell_of_row w1 g 0 _ _ _ hc
      have k1 : w1.cell? ⟨g, 1, none⟩ = some (.int .i64 0) := cell_of_row w1 g 1 _ _ _ hc
      have z0 : w1.frozen? ⟨g, 0, none⟩ = false := by simp [World.frozen?, hc]
      have z1 : w1.frozen? ⟨g, 1, none⟩ = false := by simp [World.frozen?, hc]
      go_simp
      exact hK _ _ ⟨_, _, _, _, _, _, _, _, _, _, _, _, rfl, (HB.setCell (p := ⟨g, 0, none⟩) hg _).setCell (p := ⟨g, 1, none⟩) hg _, (by first | exact f0 | exact fun _ => rfl), (by first | exact f1 | exact fun _ => rfl), (by first | exact f2 | exact fun _ => rfl), (by first | exact f3 | exact fun _ => rfl), (by first | exact f4 | exact fun _ => rfl), (by first | exact f5 | exact fun _ => rfl), (by first | exact f6 | exact fun _ => rfl), (by first | exact f7 | exact fun _ => rfl), (by first | exact f8 | exact fun _ => rfl), fun h => by obtain ⟨g', e, hg', hc'⟩ := f9 h; exact ⟨g', e, hg', (set2_other _ _ (fun e' => (n2 h hw9) (by rw [e, e']))).trans hc'⟩, fun h => by obtain ⟨g', e, hg', hc'⟩ := f10 h; exact ⟨g', e, hg', (set2_other _ _ (fun e' => (n3 h hw9) (by rw [e, e']))).trans hc'⟩, fun _ => ⟨g, rfl, hg, by rw [if_pos (show upd β 14 14 = true from rfl)]; exact set2 _ _ hc⟩, q1, q2, fun _ => hwq, n1, n2, n3⟩
  · intro β a w1 hall hI
    obtain ⟨x9, x10, x11, x13, x14, x15, x16, x17, x18, x19, x20, x21, rfl, HB, f0, f1, f2, f3, f4, f5, f6, f7, f8, f9, f10, f11, q1, q2, q3, n1, n2, n3⟩ := hI
    obtain ⟨g9, e9, hg9, hc9⟩ := f9 (hall 9 (by omega))
    obtain ⟨g10, e10, hg10, hc10⟩ := f10 (hall 10 (by omega))
    obtain ⟨g11, e11, hg11, hc11⟩ := f11 (hall 11 (by omega))
    rw [if_pos (hall 12 (by omega))] at hc9
    rw [if_pos (hall 13 (by omega))] at hc10
    rw [if_pos (hall 14 (by omega))] at hc11
    subst e9; subst e10; subst e11
    clear f0 f1 f2 f3 f4 f5 f6 f7 f8 f9 f10 f11 q1 q2 q3 n1 n2 n3 hall hs0
    have B1 : Below w.heap.size w w1 := ((Below.refl _ _).alloc (Nat.le_refl _) _).trans (HB.mono (by omega))
    clear HB
    have m9 := lt_of_some hc9
    have m10 := lt_of_some hc10
    have m11 := lt_of_some hc11
    have k90 : w1.cell? ⟨g9, 0, none⟩ = some (.func (.func 14) #[] #[]) := cell_of_row w1 g9 0 _ _ _ hc9
    have k91 : w1.cell? ⟨g9, 1, none⟩ = some (.int .i64 M) := cell_of_row w1 g9 1 _ _ _ hc9
    have k100 : w1.cell? ⟨g10, 0, none⟩ = some (.func (.func 13) #[] #[]) := cell_of_row w1 g10 0 _ _ _ hc10
    have k101 : w1.cell? ⟨g10, 1, none⟩ = some (.int .i64 W) := cell_of_row w1 g10 1 _ _ _ hc10
    have k110 : w1.cell? ⟨g11, 0, none⟩ = some (.func (.func 78) #[] #[]) := cell_of_row w1 g11 0 _ _ _ hc11
    have k111 : w1.cell? ⟨g11, 1, none⟩ = some (.int .i64 D) := cell_of_row w1 g11 1 _ _ _ hc11
    clear hc9 hc10 hc11
    by_cases h : at_ + 1 = ps.length
    · have h' : ((at_ : Int) == (ps.length : Int) - 1) = true := by simp; omega
      have H := hide h
      clear h
      go_wp2
      go_ret
      refine ⟨ret_bool ?_, B1⟩
      simp [staysB, unhide H]
    · have h' : ((at_ : Int) == (ps.length : Int) - 1) = false := by simp; omega
      have H := hide h
      clear h
      have s0 := B1.size
      go_wp2_with fail
      refine (last_month M today b off c at_ ps w1 (by omega) (hp.below B1 hb) ha hc hc2 (unhide Hd) ht).mono ?_
      rintro e w2 ⟨rfl, B2⟩
      have T := bcell B2
      have T0 := T.1
      clear T
      go_wp2_with fail
      · go_ret
        refine ⟨ret_bool ?_, B1.trans (B2.mono s0)⟩
        have h28 : lastB 28 M today (ps.map Pt.day) at_ = true := by assumption
        simp [staysB, h28]
      · have h28 : lastB 28 M today (ps.map Pt.day) at_ = false := by assumption
        have H28 := hide h28
        clear h28
        refine (last_week W today b off c at_ ps w2 (by have := B2.size; omega) ((hp.below B1 hb).below B2 (by omega)) ha hc hc2 (unhide Hd) ht).mono ?_
        rintro e w3 ⟨rfl, B3⟩
        have s2 := B2.size
        have m11b : g11 < w2.heap.size := by omega
        have U := bcell B3
        have U0 := U.1
        clear U
        go_wp2_with fail
        · go_ret
          refine ⟨ret_bool ?_, B1.trans ((B2.mono s0).trans (B3.mono (by omega)))⟩
          have h7 : lastB 7 W today (ps.map Pt.day) at_ = true := by assumption
          simp [staysB, h7]
        · have h7 : lastB 7 W today (ps.map Pt.day) at_ = false := by assumption
          have H7 := hide h7
          clear h7
          refine (last_same D today b off c at_ ps w3 (by have := B3.size; omega) (((hp.below B1 hb).below B2 (by omega)).below B3 (by omega)) ha hc hc2 (unhide Hd) ht).mono ?_
          rintro e w4 ⟨rfl, B4⟩
          have s3 := B3.size
          go_wp2_with fail
          all_goals
            go_ret
            refine ⟨ret_bool ?_, B1.trans ((B2.mono s0).trans ((B3.mono (by omega)).trans (B4.mono (by omega))))⟩
          · have h1 : lastB 1 D today (ps.map Pt.day) at_ = true := by assumption
            simp [staysB, h1]
          · have h1 : lastB 1 D today (ps.map Pt.day) at_ = false := by assumption
            simp [staysB, h1, unhide H7, unhide H28, unhide H]
end Go.Proofs.Ytdpbjigdihajjaa
