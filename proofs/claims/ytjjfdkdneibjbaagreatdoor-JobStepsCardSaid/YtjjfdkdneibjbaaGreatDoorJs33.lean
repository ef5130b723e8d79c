/- Joined texts: JobG, LawJobA. -/
import Derived.Test.YtjjfdkdneibjbaaGreatDoorJs32
import Derived.Test.YtjjfdkdneibjbaaGreatDoorJs07
/- What is set, as a map: read back it is what was set. -/
namespace Go.Proofs.YtjjfdkdneibjbaaGreatDoor
open Go.RowKit

theorem alone_of {f n i : Int} (h1 : 0 ≤ f) (h2 : 1 ≤ n) (h3 : f + n ≤ 64) (h4 : 0 ≤ i) (h5 : i ≠ 0 → i + n ≤ 61) : aloneB f n i = true := by
  unfold aloneB wholeB
  simp
  omega
theorem setL_one (L : List Int) {f i : Int} {k : Nat} (hf : f = k) (hk : k < 64) (h4 : 0 ≤ i) (h5 : i ≤ 60) : setL L f 1 i = L.set k i := by
  subst hf
  unfold setL
  rw [if_pos (alone_of (by omega) (by omega) (by omega) h4 (fun _ => by omega))]
  show (setTo L (k : Int).toNat i 0).set ((k : Int).toNat + 0) (if 0 < i then i + ((0 : Nat) : Int) else 0) = _
  have e : (k : Int).toNat + 0 = k := by omega
  have e2 : (if 0 < i then i + ((0 : Nat) : Int) else 0) = i := by split <;> omega
  rw [e, e2]
  rfl
theorem setL_more (L : List Int) {f n i : Int} {k : Nat} (h1 : 0 ≤ f) (h2 : 1 ≤ n) (h3 : f + n = k) (hk : k < 64) (h4 : 0 ≤ i) (h5 : i ≠ 0 → i + n ≤ 60) : setL L f (n + 1) i = (setL L f n i).set k (if 0 < i then i + n else 0) := by
  unfold setL
  rw [if_pos (alone_of h1 (by omega) (by omega) h4 (fun h => by have := h5 h; omega)), if_pos (alone_of h1 h2 (by omega) h4 (fun h => by have := h5 h; omega))]
  have e : (n + 1).toNat = n.toNat + 1 := by omega
  rw [e, setTo]
  have e2 : f.toNat + n.toNat = k := by omega
  have e3 : ((n.toNat : Nat) : Int) = n := by omega
  rw [e2, e3]
theorem getD_set {L : List Int} {k : Nat} (hk : k < L.length) (x : Int) (j : Nat) : (L.set k x).getD j 0 = if j = k then x else L.getD j 0 := by
  split
  · rename_i h; subst h; exact getD_set_eq hk x
  · rename_i h; exact getD_set_ne h x
/-- The map of what is set says of each block what was set. -/
theorem ofL_exts (L : List Int) (hL : InPool L) : ∀ k, k ≤ 64 → ∀ j, j < 64 → (ofL (extsL L k)).getD j 0 = if j < k ∧ 0 ≤ L.getD j 0 then L.getD j 0 else -1 := by
  intro k
  induction k with
  | zero =>
    intro _ j hj
    rw [if_neg (by omega)]
    exact noneL_get j hj
  | succ k ih =>
    intro hk j hj
    have ih := ih (by omega) j hj
    have hb := hL k
    have hT := tidy_ext L hL (k + 1) hk
    have key : 0 ≤ L.getD k 0 → ofL (extsL L (k + 1)) = (ofL (extsL L k)).set k (L.getD k 0) := fun h0 => by
      obtain ⟨l, x, e1, e2, e3, e4⟩ := hT.last (by omega) h0
      have e3 : x.id = 0 ↔ L.getD k 0 = 0 := e3
      have e4 : 0 < x.id → x.id + x.n - 1 = L.getD k 0 := e4
      have hg := hT.good x (by rw [e1]; simp)
      rw [extsL, if_neg (by omega)] at e1 ⊢
      by_cases hj : joinB L k = true
      · rw [if_pos hj] at e1 ⊢
        have hj2 := hj
        unfold joinB at hj2
        simp only [Bool.and_eq_true, Bool.or_eq_true, decide_eq_true_eq, beq_iff_eq] at hj2
        obtain ⟨g1, g2⟩ := hj2
        obtain ⟨l', y, f1, f2, f3, f4⟩ := (tidy_ext L hL k (by omega)).last g1 (by omega)
        have hy := (tidy_ext L hL k (by omega)).good y (by rw [f1]; simp)
        rw [f1, grow1_snoc] at e1 ⊢
        have e5 := (List.append_inj' e1 rfl).2
        simp only [List.cons.injEq, and_true] at e5
        subst e5
        have e3 : y.id = 0 ↔ L.getD k 0 = 0 := e3
        have e4 : 0 < y.id → y.id + (y.n + 1) - 1 = L.getD k 0 := e4
        rw [ofL_snoc, ofL_snoc]
        show setL (ofL l') y.from_ (y.n + 1) y.id = (setL (ofL l') y.from_ y.n y.id).set k (L.getD k 0)
        rw [setL_more (ofL l') hy.1 hy.2.1 f2 (by omega) hy.2.2.2.1 (fun h => by have := e4 (by omega); omega)]
        congr 1
        split
        · have := e4 (by omega); omega
        · have := e3.1 (by omega); omega
      · rw [if_neg hj, ofL_snoc]
        exact setL_one _ rfl (by omega) h0 hb.2
    by_cases h1 : L.getD k 0 < 0
    · rw [extsL, if_pos h1, ih]
      by_cases hjk : j = k
      · subst hjk
        rw [if_neg (by omega), if_neg (by omega)]
      · by_cases h2 : j < k ∧ 0 ≤ L.getD j 0
        · rw [if_pos h2, if_pos ⟨by omega, h2.2⟩]
        · rw [if_neg h2, if_neg (fun h => h2 ⟨by omega, h.2⟩)]
    · rw [key (by omega), getD_set (by rw [ofL_len]; omega)]
      by_cases hjk : j = k
      · subst hjk
        rw [if_pos rfl, if_pos ⟨by omega, by omega⟩]
      · rw [if_neg hjk, ih]
        by_cases h2 : j < k ∧ 0 ≤ L.getD j 0
        · rw [if_pos h2, if_pos ⟨by omega, h2.2⟩]
        · rw [if_neg h2, if_neg (fun h => h2 ⟨by omega, h.2⟩)]
end Go.Proofs.YtjjfdkdneibjbaaGreatDoor
/- Walk of emulsionlaw20.alive. -/
namespace Go.Proofs.YtjjfdkdneibjbaaGreatDoor
open Go.RowKit

/-- So many blocks of zeros. -/
def zerosB (n : Nat) : ByteArray := ⟨(List.replicate (n * 8) 0).toArray⟩
theorem zerosB_list (n : Nat) : (zerosB n).data.toList = List.replicate (n * 8) 0 := by simp [zerosB]
theorem zerosB_size (n : Nat) : (zerosB n).size = 8 * n := by rw [sizeB, zerosB_list, List.length_replicate, Nat.mul_comm]
def sAlive : ByteArray := ⟨#[97, 98, 99, 100, 101, 102, 103, 104, 97, 98, 99, 100, 101, 102, 103, 104]⟩
def sHalf : ByteArray := ⟨#[97, 98, 99, 100, 101, 102, 103, 104]⟩
theorem alive_lay : layB (zerosB 2) 0 sAlive = sAlive := by kernel_rfl
theorem alive_blk0 : blkB sAlive 0 = sHalf := by kernel_rfl
theorem alive_blk1 : blkB sAlive 1 = sHalf := by kernel_rfl
theorem leastE_nil : leastE [] = 1 := by
  have h : Least [] 1 := ⟨Int.le_refl _, rfl, fun j h1 h2 => by omega⟩
  exact (leastE_is ⟨1, h⟩).uniq h
theorem alive_run (P : Nat → Bool) : extsL (runT sAlive (todoL 1 P 2) (noneL 64, [])).1 64 = [⟨0, 1, 1⟩, ⟨1, 1, 1⟩] := by
  have hT : todoL 1 P 2 = [0, 1] := by rw [todoL_full]; rfl
  have h1 : putF [] sHalf = (1, [(1, (sHalf, 1))]) := by
    rw [putF_new (es := []) (b := sHalf) (by kernel_rfl) List.nodup_nil (fun _ _ h => by cases h), leastE_nil]; rfl
  have h2 : putF [(1, (sHalf, 1))] sHalf = (1, [(1, (sHalf, 1 + 1))]) := by
    rw [putF_had (id := 1) (r := 1) (by simp) (fun id id' t r r' a b => ?_) (by kernel_rfl) rfl]
    · rfl
    · have e1 := mem_lkE a
      have e2 := mem_lkE b
      simp at e1 e2
      rw [e1.1, e2.1]
  rw [hT]
  show extsL (takeF sAlive (takeF sAlive (noneL 64, []) 0) 1).1 64 = _
  have t1 : takeF sAlive (noneL 64, []) 0 = ((noneL 64).set 0 1, [(1, (sHalf, 1))]) := by
    unfold takeF
    rw [alive_blk0]
    show ((noneL 64).set 0 (putF [] sHalf).1, (putF [] sHalf).2) = _
    rw [h1]
  rw [t1]
  have t2 : (takeF sAlive ((noneL 64).set 0 1, [(1, (sHalf, 1))]) 1).1 = ((noneL 64).set 0 1).set 1 1 := by
    unfold takeF
    rw [alive_blk1]
    show ((noneL 64).set 0 1).set 1 (putF [(1, (sHalf, 1))] sHalf).1 = _
    rw [h2]
  rw [t2]
  rfl
set_option maxHeartbeats 4000000 in
set_option maxRecDepth 100000 in
theorem alive20 (w : World) : Calls Tryz.prog 7 #[] w fun e w' => e = .returned (.bool true) ∧ Below w.heap.size w w' := by
  go_enter Tryz.func7, Tryz.ntmps7
  go_wp2_with fail
  refine (film_new 2 (by decide) w).mono ?_
  rintro e w1 ⟨⟨p, g, c, rfl, hp, hg, hF⟩, B1⟩
  rw [← zerosB_list] at hF
  have Hw := hide (flm_write 0 sAlive (zerosB 2) hF (by rw [zerosB_size]; decide))
  rw [alive_lay] at Hw
  have lp := hF.lp
  have lg := hF.lg
  clear hF
  go_wp2_with fail
  refine (unhide Hw).mono ?_
  rintro e w2 ⟨rfl, hF, C2⟩
  have B2 : Below w.heap.size w w2 := B1.trans (C2.to_below (Nat.le_of_lt (by omega)) (fun k e => by omega))
  have s2 := C2.size
  have s1 := B1.size
  have Hn := hide (stl_new 2 hF (by decide) (by decide))
  clear Hw C2 B1 hF
  go_wp2_with fail
  refine (unhide Hn).mono ?_
  rintro e w3 ⟨⟨q, m, rfl, hq, hm, hS⟩, B3⟩
  have s3 := B3.size
  have C3 : Below w.heap.size w w3 := B2.trans (B3.mono (by omega))
  have Hj := hide (new_jb 1 3 (.inl rfl) (by decide) (.pointer none) (fun _ => false) hS (by decide) (fun h => by omega) none 0 0 [] (Sl.nil_ _ _) (by decide))
  have HS := hide hS
  clear Hn B2 B3 hS
  go_wp2_with fail
  refine (unhide Hj).mono ?_
  rintro e w4 ⟨⟨J, H, rfl, hJ, hH⟩, B4⟩
  have s4 := B4.size
  have C4 : Below w.heap.size w w4 := C3.trans (B4.mono (by omega))
  have HS4 := hide ((unhide HS).below B4)
  have HJ := hide hJ
  clear Hj C3 B4 hJ
  go_wp2_with fail
  refine (pl_new (G := fun k => w4.heap.size ≤ k) 9 w4 (fun k hk => hk)).mono ?_
  rintro e w5 ⟨sp, rfl, hP, B5⟩
  have C5 : Below w.heap.size w w5 := C4.trans (B5.mono (by omega))
  have s5 := B5.size
  have R0 : ∃ O, Run (.pointer (some ⟨sp, 0, none⟩)) 9 J 1 3 (todoL 1 (fun _ => false) 2) [] q 2 sAlive (noneL 64, []) 0 0 O (fun b => b = p ∨ b = g) w5 ∧ ∀ b, O b → w.heap.size ≤ b := by
    have hS := (unhide HS4)
    have hSl := (unhide HS).lt
    have hSi := (unhide HS).ltI
    have hJ := (unhide HJ).below B5
    rw [← extsL_none] at hJ
    refine ⟨_, Run.start hJ (hS.below B5) hP.tight ⟨fun k hk hf => ?_, fun k hk hf => ?_, fun k hk hf => ?_, fun k hk hf => ?_, fun k hk hf => ?_, fun k hk hf => ?_⟩ (JInv.fresh (by decide) (by decide) _ _), fun b hb => ?_⟩
    · have h1 := hk.1
      have h2 := (unhide HS).lt k hf
      omega
    · have h1 := hk.1
      have h2 := (unhide HJ).hlt k hf
      omega
    · have h1 := (unhide HS).lt k hk
      have h2 := hH k hf
      omega
    · have h1 := hk.1
      have h2 := hSi k hf
      omega
    · rcases hk with rfl | rfl <;> rcases hf with rfl | rfl <;> omega
    · have h1 := hSi k hf
      have h2 := hH k hk
      omega
    · rcases hb with hb | hb | hb
      · have := hb.1; omega
      · rcases hb with rfl | rfl <;> omega
      · have := hH b hb; omega
  obtain ⟨O, R0, hO⟩ := R0
  have Hs : Calls Tryz.prog 15 #[.pointer (some ⟨J, 0, none⟩), .pointer (some ⟨sp, 0, none⟩), .int .i64 9] w5 fun e w' => e = .returned (.tuple #[.int .i64 2, .int .i64 0]) ∧ (∃ O', Run (.pointer (some ⟨sp, 0, none⟩)) 9 J 1 3 (todoL 1 (fun _ => false) 2) [] q 2 sAlive (noneL 64, []) 0 2 O' (fun b => b = p ∨ b = g) w' ∧ Went O O' w5) ∧ Chg O w5 w' := run_step 9 R0 (by decide) (by decide) (.inl (by decide)) (by decide)
  have HsH := hide Hs
  clear hP HS4 HJ HS R0 Hs
  go_wp2_with fail
  refine (unhide HsH).mono ?_
  rintro e w6 ⟨rfl, ⟨O6, R6, hW6⟩, C6⟩
  have s6 := C6.size
  have B6 : Below w.heap.size w w6 := C5.trans (C6.to_below (by omega) hO)
  have Hp := hide (run_point 1 (show Run _ _ _ _ _ _ _ _ _ _ _ _ (todoL 1 (fun _ => false) 2).length _ _ _ from R6))
  rw [alive_run] at Hp
  clear HsH C6 C5 C4 B5
  go_wp2_with fail
  refine (unhide Hp).mono ?_
  rintro e w7 ⟨⟨A, c7, rfl, hown⟩, B7⟩
  clear Hp R6
  have B7' : Below w.heap.size w w7 := B6.trans (B7.mono (by omega))
  have s7 := B7.size
  obtain ⟨A', c', hv, hs, _⟩ := hown.sl
  injection hv with v1 _ v3
  subst v1; subst v3
  have hc := hs.2.1
  have hc2 := hs.2.2.1
  obtain ⟨b, off, rfl, hb, hr⟩ := hs.2.2.2 (by decide)
  have x0 : w7.cell? ⟨b, off + 3, none⟩ = some (.int .i64 1) := hr 1 (by decide) 0 (by decide)
  have x1 : w7.cell? ⟨b, off + 3 + 1, none⟩ = some (.int .i64 1) := hr 1 (by decide) 1 (by decide)
  have x2 : w7.cell? ⟨b, off + 3 + 2, none⟩ = some (.int .i64 1) := hr 1 (by decide) 2 (by decide)
  clear hr hs hown B7 B6
  go_wp2_with fail
  go_ret
  exact ⟨rfl, B7'.alloc (by omega) _⟩
end Go.Proofs.YtjjfdkdneibjbaaGreatDoor
