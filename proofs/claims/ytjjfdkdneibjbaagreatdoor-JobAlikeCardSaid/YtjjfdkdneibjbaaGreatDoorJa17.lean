/- Joined texts: JobA. -/
import Derived.Test.YtjjfdkdneibjbaaGreatDoorJa13
import Derived.Test.YtjjfdkdneibjbaaGreatDoorJa15
import Derived.Test.YtjjfdkdneibjbaaGreatDoorJa16
import Derived.Test.YtjjfdkdneibjbaaGreatDoorJa04
/- What a job is: its form; whether there is one, how many blocks are left. -/
namespace Go.Proofs.YtjjfdkdneibjbaaGreatDoor
open Go.RowKit

/-- A job: its block J, its own blocks H, what it is of, what is left, its still, the map ahead, the map that is made. -/
structure JobIs (w : World) (J : Nat) (H : Nat → Prop) (kd day : Int) (T : List Nat) (q : Nat) (old set : List Ext) : Prop where
  lt : J < w.heap.size
  hJ : H J
  hlt : ∀ k, H k → k < w.heap.size
  c0 : w.cell? ⟨J, 0, none⟩ = some (.int .i64 kd)
  c1 : w.cell? ⟨J, 1, none⟩ = some (.int .i64 day)
  c3 : w.cell? ⟨J, 3, none⟩ = some (.pointer (some ⟨q, 0, none⟩))
  todo : ∃ A n c, w.cell? ⟨J, 2, none⟩ = some (.slice A n c) ∧ Sl eI w A n c (T.map Int.ofNat) ∧ ∀ b off, A = some ⟨b, off, none⟩ → H b ∧ b ≠ J
  old : ∃ v, w.cell? ⟨J, 4, none⟩ = some v ∧ Own eE 107 w 0 v old ∧ ∀ b, v.ownBlock = some b → H b ∧ b ≠ J
  set : ∃ v, w.cell? ⟨J, 5, none⟩ = some v ∧ Own eE 107 w 0 v set ∧ ∀ b, v.ownBlock = some b → H b ∧ b ≠ J
  z2 : w.frozen? ⟨J, 2, none⟩ = false
  z5 : w.frozen? ⟨J, 5, none⟩ = false
section
variable {w w' : World} {J q : Nat} {H X : Nat → Prop} {kd day : Int} {T : List Nat} {old set : List Ext}
theorem Sl.kept {α : Type} {E : Enc α} {A : Option Addr} {n c : Nat} {xs : List α} (h : Sl E w A n c xs) (hs : w.heap.size ≤ w'.heap.size) (hb : ∀ b off, A = some ⟨b, off, none⟩ → w'.heap[b]? = w.heap[b]?) : Sl E w' A n c xs := by
  refine ⟨h.1, h.2.1, h.2.2.1, fun hn => ?_⟩
  obtain ⟨b, off, e, hlt, hr⟩ := h.2.2.2 hn
  exact ⟨b, off, e, by omega, fun i hi j hj => (World.cell?_of_block (a := ⟨b, off + i * E.sz + j, none⟩) (hb b off e)).trans (hr i hi j hj)⟩
theorem JobIs.keep (h : JobIs w J H kd day T q old set) (hs : w.heap.size ≤ w'.heap.size) (hb : ∀ k, k < w.heap.size → H k → w'.heap[k]? = w.heap[k]?) : JobIs w' J H kd day T q old set := by
  have e := hb J h.lt h.hJ
  have hc : ∀ i, w'.cell? ⟨J, i, none⟩ = w.cell? ⟨J, i, none⟩ := fun i => World.cell?_of_block (a := ⟨J, i, none⟩) e
  have hf : ∀ i, w'.frozen? ⟨J, i, none⟩ = w.frozen? ⟨J, i, none⟩ := fun i => World.frozen?_of_block (a := ⟨J, i, none⟩) e
  have own : ∀ (v : Value) (l : List Ext), Own eE 107 w 0 v l → (∀ b, v.ownBlock = some b → H b ∧ b ≠ J) → Own eE 107 w' 0 v l := fun v l ho hH => ho.of_block fun k hk => hb k (ho.lt k hk).2 (hH k hk).1
  obtain ⟨A, n, c, t1, t2, t3⟩ := h.todo
  obtain ⟨v, o1, o2, o3⟩ := h.old
  obtain ⟨u, s1, s2, s3⟩ := h.set
  exact ⟨Nat.lt_of_lt_of_le h.lt hs, h.hJ, fun k hk => Nat.lt_of_lt_of_le (h.hlt k hk) hs, (hc 0).trans h.c0, (hc 1).trans h.c1, (hc 3).trans h.c3, ⟨A, n, c, (hc 2).trans t1, t2.kept hs fun b off e => hb b (h.hlt b (t3 b off e).1) (t3 b off e).1, t3⟩,
    ⟨v, (hc 4).trans o1, own v old o2 o3, o3⟩, ⟨u, (hc 5).trans s1, own u set s2 s3, s3⟩, (hf 2).trans h.z2, (hf 5).trans h.z5⟩
theorem JobIs.chg (h : JobIs w J H kd day T q old set) (hc : Chg X w w') (hd : ∀ k, H k → ¬ X k) : JobIs w' J H kd day T q old set := h.keep hc.size fun k hk hH => hc.block k hk (hd k hH)
theorem JobIs.below (h : JobIs w J H kd day T q old set) (hb : Below w.heap.size w w') : JobIs w' J H kd day T q old set := h.keep hb.size fun k hk _ => hb.block k hk
/-- Another map is made. -/
theorem JobIs.setSet (h : JobIs w J H kd day T q old set) {v : Value} {l : List Ext} (hv : Own eE 107 w 0 v l) (hn : ∀ b, v.ownBlock = some b → b ≠ J) :
    JobIs (w.setCell ⟨J, 5, none⟩ v) J (fun k => H k ∨ v.ownBlock = some k) kd day T q old l := by
  have hsz : (w.setCell ⟨J, 5, none⟩ v).heap.size = w.heap.size := by simp [World.setCell]
  have hb : ∀ b, b ≠ J → (w.setCell ⟨J, 5, none⟩ v).heap[b]? = w.heap[b]? := fun b hb => Below.heap_setCell _ _ _ _ hb
  have hc : ∀ i, i ≠ 5 → (w.setCell ⟨J, 5, none⟩ v).cell? ⟨J, i, none⟩ = w.cell? ⟨J, i, none⟩ := fun i hi => World.cell?_setCell_other _ ⟨J, 5, none⟩ ⟨J, i, none⟩ _ (by simp)
  obtain ⟨A, n, c, t1, t2, t3⟩ := h.todo
  obtain ⟨u, o1, o2, o3⟩ := h.old
  obtain ⟨x, s1, _, _⟩ := h.set
  refine ⟨by rw [hsz]; exact h.lt, .inl h.hJ, fun k hk => by rw [hsz]; exact hk.elim (h.hlt k) fun e => (hv.lt k e).2, (hc 0 (by decide)).trans h.c0, (hc 1 (by decide)).trans h.c1, (hc 3 (by decide)).trans h.c3,
    ⟨A, n, c, (hc 2 (by decide)).trans t1, t2.kept (by rw [hsz]; exact Nat.le_refl _) fun b off e => hb b (t3 b off e).2, fun b off e => ⟨.inl (t3 b off e).1, (t3 b off e).2⟩⟩,
    ⟨u, (hc 4 (by decide)).trans o1, o2.of_block fun k hk => hb k (o3 k hk).2, fun b e => ⟨.inl (o3 b e).1, (o3 b e).2⟩⟩,
    ⟨v, World.cell?_setCell_same _ _ _ s1, hv.of_block fun k hk => hb k (hn k hk), fun b e => ⟨.inr e, hn b e⟩⟩, by rw [World.frozen?_setCell]; exact h.z2, by rw [World.frozen?_setCell]; exact h.z5⟩
/-- Fewer blocks are left. -/
theorem JobIs.setTodo (h : JobIs w J H kd day T q old set) {A : Option Addr} {n c : Nat} {U : List Nat} (hv : Sl eI w A n c (U.map Int.ofNat)) (hn : ∀ b off, A = some ⟨b, off, none⟩ → H b ∧ b ≠ J) :
    JobIs (w.setCell ⟨J, 2, none⟩ (.slice A n c)) J H kd day U q old set := by
  have hsz : (w.setCell ⟨J, 2, none⟩ (.slice A n c)).heap.size = w.heap.size := by simp [World.setCell]
  have hb : ∀ b, b ≠ J → (w.setCell ⟨J, 2, none⟩ (.slice A n c)).heap[b]? = w.heap[b]? := fun b hb => Below.heap_setCell _ _ _ _ hb
  have hc : ∀ i, i ≠ 2 → (w.setCell ⟨J, 2, none⟩ (.slice A n c)).cell? ⟨J, i, none⟩ = w.cell? ⟨J, i, none⟩ := fun i _ => World.cell?_setCell_other _ ⟨J, 2, none⟩ ⟨J, i, none⟩ _ (by simp)
  obtain ⟨A0, n0, d0, t1, t2, t3⟩ := h.todo
  obtain ⟨u, o1, o2, o3⟩ := h.old
  obtain ⟨x, s1, s2, s3⟩ := h.set
  exact ⟨by rw [hsz]; exact h.lt, h.hJ, fun k hk => by rw [hsz]; exact h.hlt k hk, (hc 0 (by decide)).trans h.c0, (hc 1 (by decide)).trans h.c1, (hc 3 (by decide)).trans h.c3,
    ⟨A, n, c, World.cell?_setCell_same _ _ _ t1, hv.kept (by rw [hsz]; exact Nat.le_refl _) fun b off e => hb b (hn b off e).2, hn⟩,
    ⟨u, (hc 4 (by decide)).trans o1, o2.of_block fun k hk => hb k (o3 k hk).2, o3⟩,
    ⟨x, (hc 5 (by decide)).trans s1, s2.of_block fun k hk => hb k (s3 k hk).2, s3⟩, by rw [World.frozen?_setCell]; exact h.z2, by rw [World.frozen?_setCell]; exact h.z5⟩
set_option maxHeartbeats 1000000 in
theorem none_jb (h : JobIs w J H kd day T q old set) : Calls Tryz.prog 61 #[.pointer (some ⟨J, 0, none⟩)] w fun e w' => e = .returned (.bool false) ∧ w' = w := by
  have c3 := h.c3
  clear h
  go_enter Tryz.func61, Tryz.ntmps61
  go_wp2
  go_ret
  exact ⟨rfl, rfl⟩
set_option maxHeartbeats 1000000 in
theorem left_jb (h : JobIs w J H kd day T q old set) : Calls Tryz.prog 26 #[.pointer (some ⟨J, 0, none⟩)] w fun e w' => e = .returned (.int .i64 (T.length : Int)) ∧ w' = w := by
  have Hn := hide (none_jb h)
  obtain ⟨A, n, c, c2, hs, _⟩ := h.todo
  have hl := hs.1
  rw [List.length_map] at hl
  rw [← hl]
  have b1 := hs.2.1
  have b2 := hs.2.2.1
  clear h hl hs
  go_enter Tryz.func26, Tryz.ntmps26
  go_wp2_with fail
  refine (unhide Hn).mono ?_
  rintro e w2 ⟨rfl, hw2⟩
  subst hw2
  clear Hn
  go_wp2_with fail
  go_ret
  exact ⟨rfl, rfl⟩
set_option maxHeartbeats 1000000 in
theorem done_jb (h : JobIs w J H kd day T q old set) : Calls Tryz.prog 46 #[.pointer (some ⟨J, 0, none⟩)] w fun e w' => e = .returned (.bool (decide (T.length = 0))) ∧ w' = w := by
  have Hn := hide (none_jb h)
  obtain ⟨A, n, c, c2, hs, _⟩ := h.todo
  have hl := hs.1
  rw [List.length_map] at hl
  rw [← hl]
  have b1 := hs.2.1
  have b2 := hs.2.2.1
  obtain ⟨B, hB⟩ : ∃ B, B = decide (n = 0) := ⟨_, rfl⟩
  have hB2 : ((n : Int) == 0) = B := by rw [hB, Bool.eq_iff_iff]; simp
  rw [← hB]
  clear h hl hs hB
  go_enter Tryz.func46, Tryz.ntmps46
  go_wp2_with fail
  refine (unhide Hn).mono ?_
  rintro e w2 ⟨rfl, hw2⟩
  subst hw2
  clear Hn
  go_wp2_with fail
  go_ret
  exact ⟨rfl, rfl⟩
end
end Go.Proofs.YtjjfdkdneibjbaaGreatDoor
