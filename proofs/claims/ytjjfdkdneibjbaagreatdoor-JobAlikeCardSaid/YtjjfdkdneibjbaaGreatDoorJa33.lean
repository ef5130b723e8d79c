/- Joined texts: JobG, LawJobA, JobH, JobI, AlikeP, LawAlikeW. -/
import Derived.Test.YtjjfdkdneibjbaaGreatDoorJa30
import Derived.Test.YtjjfdkdneibjbaaGreatDoorJa07
import Derived.Test.YtjjfdkdneibjbaaGreatDoorJa15
import Derived.Test.YtjjfdkdneibjbaaGreatDoorJa32
import Derived.Test.YtjjfdkdneibjbaaGreatDoorJa31
import Derived.Deep.RegionHeld3
/- What is set, as a map: read back it is what was set. -/
namespace Go.Proofs.YtjjfdkdneibjbaaGreatDoor
open Go.RowKit

theorem alone_of {f n i : Int} (h1 : 0 ≤ f) (h2 : 1 ≤ n) (h3 : f + n ≤ 64) (h4 : 0 ≤ i) (h5 : i ≠ 0 → i + n ≤ 61) : aloneB f n i = true := by
  unfold aloneB wholeB
  simp
  omega
theorem setL_one (L : List Int) {f i : Int} {k : Nat} (hf : f = k) (hk : k < 64) (h4 : 0 ≤ i) (h5 : i ≤ 60) : setL L f 1 i = L.set k i := by
  subst hf
  unfold setL
  rw [if_pos (alone_of (by omega) (by omega) (by omega) h4 (fun _ => by omega))]
  show (setTo L (k : Int).toNat i 0).set ((k : Int).toNat + 0) (if 0 < i then i + ((0 : Nat) : Int) else 0) = _
  have e : (k : Int).toNat + 0 = k := by omega
  have e2 : (if 0 < i then i + ((0 : Nat) : Int) else 0) = i := by split <;> omega
  rw [e, e2]
  rfl
theorem setL_more (L : List Int) {f n i : Int} {k : Nat} (h1 : 0 ≤ f) (h2 : 1 ≤ n) (h3 : f + n = k) (hk : k < 64) (h4 : 0 ≤ i) (h5 : i ≠ 0 → i + n ≤ 60) : setL L f (n + 1) i = (setL L f n i).set k (if 0 < i then i + n else 0) := by
  unfold setL
  rw [if_pos (alone_of h1 (by omega) (by omega) h4 (fun h => by have := h5 h; omega)), if_pos (alone_of h1 h2 (by omega) h4 (fun h => by have := h5 h; omega))]
  have e : (n + 1).toNat = n.toNat + 1 := by omega
  rw [e, setTo]
  have e2 : f.toNat + n.toNat = k := by omega
  have e3 : ((n.toNat : Nat) : Int) = n := by omega
  rw [e2, e3]
theorem getD_set {L : List Int} {k : Nat} (hk : k < L.length) (x : Int) (j : Nat) : (L.set k x).getD j 0 = if j = k then x else L.getD j 0 := by
  split
  · rename_i h; subst h; exact getD_set_eq hk x
  · rename_i h; exact getD_set_ne h x
/-- The map of what is set says of each block what was set. -/
theorem ofL_exts (L : List Int) (hL : InPool L) : ∀ k, k ≤ 64 → ∀ j, j < 64 → (ofL (extsL L k)).getD j 0 = if j < k ∧ 0 ≤ L.getD j 0 then L.getD j 0 else -1 := by
  intro k
  induction k with
  | zero =>
    intro _ j hj
    rw [if_neg (by omega)]
    exact noneL_get j hj
  | succ k ih =>
    intro hk j hj
    have ih := ih (by omega) j hj
    have hb := hL k
    have hT := tidy_ext L hL (k + 1) hk
    have key : 0 ≤ L.getD k 0 → ofL (extsL L (k + 1)) = (ofL (extsL L k)).set k (L.getD k 0) := fun h0 => by
      obtain ⟨l, x, e1, e2, e3, e4⟩ := hT.last (by omega) h0
      have e3 : x.id = 0 ↔ L.getD k 0 = 0 := e3
      have e4 : 0 < x.id → x.id + x.n - 1 = L.getD k 0 := e4
      have hg := hT.good x (by rw [e1]; simp)
      rw [extsL, if_neg (by omega)] at e1 ⊢
      by_cases hj : joinB L k = true
      · rw [if_pos hj] at e1 ⊢
        have hj2 := hj
        unfold joinB at hj2
        simp only [Bool.and_eq_true, Bool.or_eq_true, decide_eq_true_eq, beq_iff_eq] at hj2
        obtain ⟨g1, g2⟩ := hj2
        obtain ⟨l', y, f1, f2, f3, f4⟩ := (tidy_ext L hL k (by omega)).last g1 (by omega)
        have hy := (tidy_ext L hL k (by omega)).good y (by rw [f1]; simp)
        rw [f1, grow1_snoc] at e1 ⊢
        have e5 := (List.append_inj' e1 rfl).2
        simp only [List.cons.injEq, and_true] at e5
        subst e5
        have e3 : y.id = 0 ↔ L.getD k 0 = 0 := e3
        have e4 : 0 < y.id → y.id + (y.n + 1) - 1 = L.getD k 0 := e4
        rw [ofL_snoc, ofL_snoc]
        show setL (ofL l') y.from_ (y.n + 1) y.id = (setL (ofL l') y.from_ y.n y.id).set k (L.getD k 0)
        rw [setL_more (ofL l') hy.1 hy.2.1 f2 (by omega) hy.2.2.2.1 (fun h => by have := e4 (by omega); omega)]
        congr 1
        split
        · have := e4 (by omega); omega
        · have := e3.1 (by omega); omega
      · rw [if_neg hj, ofL_snoc]
        exact setL_one _ rfl (by omega) h0 hb.2
    by_cases h1 : L.getD k 0 < 0
    · rw [extsL, if_pos h1, ih]
      by_cases hjk : j = k
      · subst hjk
        rw [if_neg (by omega), if_neg (by omega)]
      · by_cases h2 : j < k ∧ 0 ≤ L.getD j 0
        · rw [if_pos h2, if_pos ⟨by omega, h2.2⟩]
        · rw [if_neg h2, if_neg (fun h => h2 ⟨by omega, h.2⟩)]
    · rw [key (by omega), getD_set (by rw [ofL_len]; omega)]
      by_cases hjk : j = k
      · subst hjk
        rw [if_pos rfl, if_pos ⟨by omega, by omega⟩]
      · rw [if_neg hjk, ih]
        by_cases h2 : j < k ∧ 0 ≤ L.getD j 0
        · rw [if_pos h2, if_pos ⟨by omega, h2.2⟩]
        · rw [if_neg h2, if_neg (fun h => h2 ⟨by omega, h.2⟩)]
end Go.Proofs.YtjjfdkdneibjbaaGreatDoor
/- Walk of emulsionlaw20.alive. -/
namespace Go.Proofs.YtjjfdkdneibjbaaGreatDoor
open Go.RowKit

/-- So many blocks of zeros. -/
def zerosB (n : Nat) : ByteArray := ⟨(List.replicate (n * 8) 0).toArray⟩
theorem zerosB_list (n : Nat) : (zerosB n).data.toList = List.replicate (n * 8) 0 := by simp [zerosB]
theorem zerosB_size (n : Nat) : (zerosB n).size = 8 * n := by rw [sizeB, zerosB_list, List.length_replicate, Nat.mul_comm]
def sAlive : ByteArray := ⟨#[97, 98, 99, 100, 101, 102, 103, 104, 97, 98, 99, 100, 101, 102, 103, 104]⟩
def sHalf : ByteArray := ⟨#[97, 98, 99, 100, 101, 102, 103, 104]⟩
theorem alive_lay : layB (zerosB 2) 0 sAlive = sAlive := by kernel_rfl
theorem alive_blk0 : blkB sAlive 0 = sHalf := by kernel_rfl
theorem alive_blk1 : blkB sAlive 1 = sHalf := by kernel_rfl
theorem leastE_nil : leastE [] = 1 := by
  have h : Least [] 1 := ⟨Int.le_refl _, rfl, fun j h1 h2 => by omega⟩
  exact (leastE_is ⟨1, h⟩).uniq h
theorem alive_run (P : Nat → Bool) : extsL (runT sAlive (todoL 1 P 2) (noneL 64, [])).1 64 = [⟨0, 1, 1⟩, ⟨1, 1, 1⟩] := by
  have hT : todoL 1 P 2 = [0, 1] := by rw [todoL_full]; rfl
  have h1 : putF [] sHalf = (1, [(1, (sHalf, 1))]) := by
    rw [putF_new (es := []) (b := sHalf) (by kernel_rfl) List.nodup_nil (fun _ _ h => by cases h), leastE_nil]; rfl
  have h2 : putF [(1, (sHalf, 1))] sHalf = (1, [(1, (sHalf, 1 + 1))]) := by
    rw [putF_had (id := 1) (r := 1) (by simp) (fun id id' t r r' a b => ?_) (by kernel_rfl) rfl]
    · rfl
    · have e1 := mem_lkE a
      have e2 := mem_lkE b
      simp at e1 e2
      rw [e1.1, e2.1]
  rw [hT]
  show extsL (takeF sAlive (takeF sAlive (noneL 64, []) 0) 1).1 64 = _
  have t1 : takeF sAlive (noneL 64, []) 0 = ((noneL 64).set 0 1, [(1, (sHalf, 1))]) := by
    unfold takeF
    rw [alive_blk0]
    show ((noneL 64).set 0 (putF [] sHalf).1, (putF [] sHalf).2) = _
    rw [h1]
  rw [t1]
  have t2 : (takeF sAlive ((noneL 64).set 0 1, [(1, (sHalf, 1))]) 1).1 = ((noneL 64).set 0 1).set 1 1 := by
    unfold takeF
    rw [alive_blk1]
    show ((noneL 64).set 0 1).set 1 (putF [(1, (sHalf, 1))] sHalf).1 = _
    rw [h2]
  rw [t2]
  rfl
set_option maxHeartbeats 4000000 in
set_option maxRecDepth 100000 in
theorem alive20 (w : World) : Calls Tryz.prog 7 #[] w fun e w' => e = .returned (.bool true) ∧ Below w.heap.size w w' := by
  go_enter Tryz.func7, Tryz.ntmps7
  go_wp2_with fail
  refine (film_new 2 (by decide) w).mono ?_
  rintro e w1 ⟨⟨p, g, c, rfl, hp, hg, hF⟩, B1⟩
  rw [← zerosB_list] at hF
  have Hw := hide (flm_write 0 sAlive (zerosB 2) hF (by rw [zerosB_size]; decide))
  rw [alive_lay] at Hw
  have lp := hF.lp
  have lg := hF.lg
  clear hF
  go_wp2_with fail
  refine (unhide Hw).mono ?_
  rintro e w2 ⟨rfl, hF, C2⟩
  have B2 : Below w.heap.size w w2 := B1.trans (C2.to_below (Nat.le_of_lt (by omega)) (fun k e => by omega))
  have s2 := C2.size
  have s1 := B1.size
  have Hn := hide (stl_new 2 hF (by decide) (by decide))
  clear Hw C2 B1 hF
  go_wp2_with fail
  refine (unhide Hn).mono ?_
  rintro e w3 ⟨⟨q, m, rfl, hq, hm, hS⟩, B3⟩
  have s3 := B3.size
  have C3 : Below w.heap.size w w3 := B2.trans (B3.mono (by omega))
  have Hj := hide (new_jb 1 3 (.inl rfl) (by decide) (.pointer none) (fun _ => false) hS (by decide) (fun h => by omega) none 0 0 [] (Sl.nil_ _ _) (by decide))
  have HS := hide hS
  clear Hn B2 B3 hS
  go_wp2_with fail
  refine (unhide Hj).mono ?_
  rintro e w4 ⟨⟨J, H, rfl, hJ, hH⟩, B4⟩
  have s4 := B4.size
  have C4 : Below w.heap.size w w4 := C3.trans (B4.mono (by omega))
  have HS4 := hide ((unhide HS).below B4)
  have HJ := hide hJ
  clear Hj C3 B4 hJ
  go_wp2_with fail
  refine (pl_new (G := fun k => w4.heap.size ≤ k) 9 w4 (fun k hk => hk)).mono ?_
  rintro e w5 ⟨sp, rfl, hP, B5⟩
  have C5 : Below w.heap.size w w5 := C4.trans (B5.mono (by omega))
  have s5 := B5.size
  have R0 : ∃ O, Run (.pointer (some ⟨sp, 0, none⟩)) 9 J 1 3 (todoL 1 (fun _ => false) 2) [] q 2 sAlive (noneL 64, []) 0 0 O (fun b => b = p ∨ b = g) w5 ∧ ∀ b, O b → w.heap.size ≤ b := by
    have hS := (unhide HS4)
    have hSl := (unhide HS).lt
    have hSi := (unhide HS).ltI
    have hJ := (unhide HJ).below B5
    rw [← extsL_none] at hJ
    refine ⟨_, Run.start hJ (hS.below B5) hP.tight ⟨fun k hk hf => ?_, fun k hk hf => ?_, fun k hk hf => ?_, fun k hk hf => ?_, fun k hk hf => ?_, fun k hk hf => ?_⟩ (JInv.fresh (by decide) (by decide) _ _), fun b hb => ?_⟩
    · have h1 := hk.1
      have h2 := (unhide HS).lt k hf
      omega
    · have h1 := hk.1
      have h2 := (unhide HJ).hlt k hf
      omega
    · have h1 := (unhide HS).lt k hk
      have h2 := hH k hf
      omega
    · have h1 := hk.1
      have h2 := hSi k hf
      omega
    · rcases hk with rfl | rfl <;> rcases hf with rfl | rfl <;> omega
    · have h1 := hSi k hf
      have h2 := hH k hk
      omega
    · rcases hb with hb | hb | hb
      · have := hb.1; omega
      · rcases hb with rfl | rfl <;> omega
      · have := hH b hb; omega
  obtain ⟨O, R0, hO⟩ := R0
  have Hs : Calls Tryz.prog 15 #[.pointer (some ⟨J, 0, none⟩), .pointer (some ⟨sp, 0, none⟩), .int .i64 9] w5 fun e w' => e = .returned (.tuple #[.int .i64 2, .int .i64 0]) ∧ (∃ O', Run (.pointer (some ⟨sp, 0, none⟩)) 9 J 1 3 (todoL 1 (fun _ => false) 2) [] q 2 sAlive (noneL 64, []) 0 2 O' (fun b => b = p ∨ b = g) w' ∧ Went O O' w5) ∧ Chg O w5 w' := run_step 9 R0 (by decide) (by decide) (.inl (by decide)) (by decide)
  have HsH := hide Hs
  clear hP HS4 HJ HS R0 Hs
  go_wp2_with fail
  refine (unhide HsH).mono ?_
  rintro e w6 ⟨rfl, ⟨O6, R6, hW6⟩, C6⟩
  have s6 := C6.size
  have B6 : Below w.heap.size w w6 := C5.trans (C6.to_below (by omega) hO)
  have Hp := hide (run_point 1 (show Run _ _ _ _ _ _ _ _ _ _ _ _ (todoL 1 (fun _ => false) 2).length _ _ _ from R6))
  rw [alive_run] at Hp
  clear HsH C6 C5 C4 B5
  go_wp2_with fail
  refine (unhide Hp).mono ?_
  rintro e w7 ⟨⟨A, c7, rfl, hown⟩, B7⟩
  clear Hp R6
  have B7' : Below w.heap.size w w7 := B6.trans (B7.mono (by omega))
  have s7 := B7.size
  obtain ⟨A', c', hv, hs, _⟩ := hown.sl
  injection hv with v1 _ v3
  subst v1; subst v3
  have hc := hs.2.1
  have hc2 := hs.2.2.1
  obtain ⟨b, off, rfl, hb, hr⟩ := hs.2.2.2 (by decide)
  have x0 : w7.cell? ⟨b, off + 3, none⟩ = some (.int .i64 1) := hr 1 (by decide) 0 (by decide)
  have x1 : w7.cell? ⟨b, off + 3 + 1, none⟩ = some (.int .i64 1) := hr 1 (by decide) 1 (by decide)
  have x2 : w7.cell? ⟨b, off + 3 + 2, none⟩ = some (.int .i64 1) := hr 1 (by decide) 2 (by decide)
  clear hr hs hown B7 B6
  go_wp2_with fail
  go_ret
  exact ⟨rfl, B7'.alloc (by omega) _⟩
end Go.Proofs.YtjjfdkdneibjbaaGreatDoor
/- Walk of package job: the next blocks are looked at, whatever a look does. -/
namespace Go.Proofs.YtjjfdkdneibjbaaGreatDoor
open Go.RowKit

def runK (fk : JS → Nat → JS) (T : List Nat) (s : JS) : JS := T.foldl fk s
theorem runK_snoc (fk : JS → Nat → JS) (T : List Nat) (k : Nat) (s : JS) : runK fk (T ++ [k]) s = fk (runK fk T s) k := by simp [runK]
section
variable {w w' : World} {sp : Value} {most : Int} {G : Nat → Prop} {J : Nat} {H : Nat → Prop} {kd day : Int} {T : List Nat} {old : List Ext} {q : Nat} {F I : Nat → Prop} {n : Nat} {was : ByteArray} {gone : Nat → Bool} {s : JS}
/-- So many of the blocks that were left were looked at. -/
def SteppedK (fk : JS → Nat → JS) (Inv : Nat → List Nat → JS → Prop) (w : World) (sp : Value) (most : Int) (G : Nat → Prop) (J : Nat) (H : Nat → Prop) (kd day : Int) (T : List Nat) (old : List Ext) (q : Nat) (F I : Nat → Prop) (n : Nat) (was : ByteArray) (gone : Nat → Bool) (s : JS) (m r : Nat) (wr : World) : Prop :=
  ∃ G1 H1, Trio wr sp most G1 J H1 kd day (T.drop r) old q F I n was (goneF gone (T.take r)) (runK fk (T.take r) s) ∧ Inv (m + r) (T.drop r) (runK fk (T.take r) s) ∧ Went G G1 w ∧ Went H H1 w ∧ Chg (fun b => (G b ∨ F b ∨ H b) ∨ w.heap.size ≤ b) w wr
theorem SteppedK.refl {fk : JS → Nat → JS} {Inv : Nat → List Nat → JS → Prop} {m : Nat} (h : Trio w sp most G J H kd day T old q F I n was gone s) (hi : Inv m T s) : SteppedK fk Inv w sp most G J H kd day T old q F I n was gone s m 0 w :=
  ⟨G, H, by rw [List.take_zero, goneF_nil]; exact h, hi, Went.refl _ _, Went.refl _ _, Chg.refl _ _⟩
set_option maxHeartbeats 8000000 in
set_option maxRecDepth 100000 in
theorem step_gen (fk : JS → Nat → JS) (Inv : Nat → List Nat → JS → Prop)
    (hlook : ∀ (w : World) (G H : Nat → Prop) (k m : Nat) (T : List Nat) (gone : Nat → Bool) (s : JS), Trio w sp most G J H kd day (k :: T) old q F I n was gone s → Inv m (k :: T) s → gone k = false →
      Calls Tryz.prog 62 #[.pointer (some ⟨J, 0, none⟩), sp, .int .i64 (k : Int)] w fun e w' => e = .returned (.int .i64 0) ∧ ∃ G' H', Trio w' sp most G' J H' kd day (k :: T) old q F I n was gone (fk s k) ∧ Went G G' w ∧ Went H H' w ∧ Chg (fun b => G b ∨ b = J) w w')
    (hnext : ∀ k m T s, Inv m (k :: T) s → Inv (m + 1) T (fk s k) ∧ k < n)
    (N m M : Nat) (hM : M = min N T.length) (h : Trio w sp most G J H kd day T old q F I n was gone s) (hi : Inv m T s) (hord : T.Pairwise (· < ·)) (hg : ∀ k ∈ T, gone k = false) (hN : 1 ≤ N) (hT : T.length ≤ 1000) :
    Calls Tryz.prog 15 #[.pointer (some ⟨J, 0, none⟩), sp, .int .i64 (N : Int)] w fun e w' => e = .returned (.tuple #[.int .i64 (M : Int), .int .i64 0]) ∧ SteppedK fk Inv w sp most G J H kd day T old q F I n was gone s m M w' := by
  have Hn := hide (none_jb h.job)
  obtain ⟨sp', rfl⟩ : ∃ p, sp = .pointer (some ⟨p, 0, none⟩) := h.pool.pl.ptr
  have H0 := hide (SteppedK.refl (fk := fk) (Inv := Inv) h hi)
  have Hord := hide hord
  have Hg := hide hg
  have Hlook0 := hide hlook
  have Hnext := hide hnext
  obtain ⟨L, hL⟩ : ∃ L, L = T.length := ⟨_, rfl⟩
  have HL := hide hL
  have hL1000 : L ≤ 1000 := by omega
  rw [← hL] at hM
  have HM := hide hM
  clear h hi hg hL hM hord hlook hnext hT
  have N1 : ¬ (N : Int) < 1 := by omega
  go_enter Tryz.func15, Tryz.ntmps15
  go_wp2_with fail
  refine (unhide Hn).mono ?_
  rintro e w2 ⟨rfl, hw2⟩
  subst hw2
  clear Hn
  go_wp2_with fail
  go_loopw [8, 9] (fun j x wr => ∃ r : Nat, r ≤ M ∧ j = .int .i64 (r : Int) ∧ SteppedK fk Inv w2 (.pointer (some ⟨sp', 0, none⟩)) most G J H kd day T old q F I n was gone s m r wr) (fun j _ _ => N - (intOf j).toNat)
  case atStart => exact ⟨0, Nat.zero_le _, rfl, unhide H0⟩
  case round =>
    obtain ⟨r, hr, rfl, G1, H1, hT, hI, hW1, hW2, hC⟩ := hrel
    have hr1000 : r ≤ 1000 := by have := unhide HM; omega
    by_cases hlt : r < M
    · have hrN : (r : Int) < N := by have := unhide HM; omega
      have hrL : r < T.length := by have := unhide HM; have := unhide HL; omega
      have hd : T.drop r = T[r] :: T.drop (r + 1) := List.drop_eq_getElem_cons hrL
      have ht : T.take (r + 1) = T.take r ++ [T[r]] := (List.take_append_getElem hrL).symm
      have hgk : goneF gone (T.take r) T[r] = false := by
        unfold goneF
        rw [unhide Hg _ (List.getElem_mem hrL), decide_eq_false (not_take (unhide Hord) hrL)]; rfl
      have Ht := hide ht
      clear ht
      obtain ⟨k, hk⟩ : ∃ k, k = T[r] := ⟨_, rfl⟩
      obtain ⟨U, hU⟩ : ∃ U, U = T.drop (r + 1) := ⟨_, rfl⟩
      obtain ⟨s1, hs1⟩ : ∃ s1, s1 = runK fk (T.take r) s := ⟨_, rfl⟩
      obtain ⟨g1, hg1⟩ : ∃ g1, g1 = goneF gone (T.take r) := ⟨_, rfl⟩
      rw [hd, ← hk, ← hU, ← hs1] at hI
      rw [hd, ← hk, ← hU, ← hs1, ← hg1] at hT
      rw [← hk, ← hg1] at hgk
      rw [← hk] at Ht
      have Hk := hide hk
      have HU := hide hU
      have Hs1 := hide hs1
      have Hg1 := hide hg1
      have HIr := hide hI
      have hkn := (unhide Hnext _ _ _ _ hI).2
      have hTJ := hT.job.hJ
      have Hlook := hide (unhide Hlook0 _ _ _ k (m + r) U g1 s1 hT hI hgk)
      obtain ⟨b, off, c, c2, hsl, hHb, hbJ, cb⟩ := hT.job.first
      have cc := hsl.2.1
      have cd := hsl.2.2.1
      have HC := hide hC
      clear hsl hI hT hk hU hs1 hg1 hd hC
      go_wp2_with fail
      refine (unhide Hlook).mono ?_
      rintro e w3 ⟨rfl, G2, H2, hT2, hV1, hV2, hC2⟩
      clear Hlook c2 cb cc cd hHb hbJ
      have HT2 := hide hT2
      have HC2 := hide hC2
      have c3 := hT2.job.c3
      obtain ⟨b2, off2, d2, c2, hsl, _, _, cb⟩ := hT2.job.first
      have cc := hsl.2.1
      have cd := hsl.2.2.1
      have B3 : Below w3.heap.size w3 w3.drew := (Below.refl _ _).drew
      have Hlet := hide (stl_let k (hT2.still.below B3) hkn hgk)
      clear hT2 hC2 hsl
      go_wp2_with fail
      go_still_tail 10, (by kernel_rfl)
      change wpList _ _ _ _ _ w3.drew
      go_wp2_with fail
      refine (unhide Hlet).mono ?_
      rintro e w4 ⟨rfl, hS4, hC4⟩
      clear Hlet c2 cb cc cd c3
      have hT4 := ((unhide HT2).below B3).letGo hS4 hC4
      have HC4 := hide hC4
      obtain ⟨b4, off4, d4, c2, hsl, hHb4, hbJ4, _⟩ := hT4.job.first
      have cc := hsl.2.1
      have cd := hsl.2.2.1
      have z2 := hT4.job.z2
      have ST := hide (sl_tail hsl rfl)
      have HT4 := hide hT4
      obtain ⟨X, hX⟩ : ∃ X : Nat, X = U.length := ⟨_, rfl⟩
      rw [← hX] at c2 cc ST
      have e1 : X + 1 - 1 = X := by omega
      rw [e1] at ST
      have rel : ∀ A x c, Sl eI w4 A x c (U.map Int.ofNat) → (∀ b off, A = some ⟨b, off, none⟩ → H2 b ∧ b ≠ J) → SteppedK fk Inv w2 (.pointer (some ⟨sp', 0, none⟩)) most G J H kd day T old q F I n was gone s m (r + 1) (w4.setCell ⟨J, 2, none⟩ (.slice A x c)) := fun A x c hv hn => by
        have hTd := (unhide HT4).todo hv hn
        have hI' := (unhide Hnext _ _ _ _ (unhide HIr)).1
        have eU := unhide HU
        have es := unhide Hs1
        have eg := unhide Hg1
        have eR : fk s1 k = runK fk (T.take (r + 1)) s := by rw [unhide Ht, runK_snoc, ← es]
        have eG : (fun j => if j = k then true else g1 j) = goneF gone (T.take (r + 1)) := by rw [unhide Ht, eg]; exact goneF_snoc gone _ k
        rw [eG, eR, eU] at hTd
        rw [eR, eU] at hI'
        have hC := unhide HC
        have hsz := hC.size
        have hc2 := unhide HC2
        refine ⟨G2, H2, hTd, hI', hW1.trans hV1 hsz, hW2.trans hV2 hsz, ?_⟩
        refine hC.trans ((hc2.mono fun b _ hb => ?_).trans ((Chg.of_below B3).trans (((unhide HC4).mono fun b _ hb => .inl (.inr (.inl hb))).trans ((setCell_chg ⟨J, 2, none⟩ _ w4).mono fun b _ hb => ?_))))
        · rcases hb with hb | rfl
          · exact (hW1.from' b hb).elim (fun h => .inl (.inl h)) .inr
          · exact (hW2.from' b hTJ).elim (fun h => .inl (.inr (.inr h))) .inr
        · rw [show b = J from hb]
          exact (hW2.from' J hTJ).elim (fun h => .inl (.inr (.inr h))) .inr
      have Rel := hide rel
      clear rel hsl hT4 hC4 hS4 hX
      by_cases hd4 : d4 = 1
      · have hv := (unhide ST).2 hd4
        rw [hd4] at hv
        have hv : Sl eI w4 (some ⟨b4, off4, none⟩) X 0 (U.map Int.ofNat) := hv
        go_wp2_with fail
        go_roundw
        case rel => exact ⟨r + 1, by omega, by go_num, unhide Rel _ _ _ hv fun b off e => by injection e with e; injection e with e1 _; subst e1; exact ⟨hHb4, hbJ4⟩⟩
        case measure => simp [intOf]; omega
      · have hv := (unhide ST).1 hd4
        go_wp2_with fail
        go_roundw
        case rel => exact ⟨r + 1, by omega, by go_num, unhide Rel _ _ _ hv fun b off e => by injection e with e; injection e with e1 _; subst e1; exact ⟨hHb4, hbJ4⟩⟩
        case measure => simp [intOf]; omega
    · have hrM : r = M := by omega
      have hrM2 := unhide HM
      have hS : SteppedK fk Inv w2 (.pointer (some ⟨sp', 0, none⟩)) most G J H kd day T old q F I n was gone s m r wr := ⟨G1, H1, hT, hI, hW1, hW2, hC⟩
      rw [hrM] at hS
      have HS := hide hS
      have HrM := hide hrM
      by_cases hrN : r < N
      · have hrL : r = L := by omega
        have hd : T.drop r = [] := List.drop_eq_nil_of_le (by have := unhide HL; omega)
        obtain ⟨A, a, c, c2, hs, _⟩ := hT.job.todo
        rw [hd] at hs
        have ha : a = 0 := hs.1
        subst ha
        have cc := hs.2.2.1
        have hrN' : (r : Int) < N := by omega
        clear hs hT hI hC hS hrM hrM2 hlt hr hrL hd
        go_wp2_with fail
        go_ret2
        exact ⟨by rw [← unhide HrM]; rfl, unhide HS⟩
      · have hrN' : ¬ (r : Int) < N := by omega
        clear hT hI hC hS hrM hrM2 hlt hr
        go_wp2_with fail
        go_ret2
        exact ⟨by rw [← unhide HrM]; rfl, unhide HS⟩
end
end Go.Proofs.YtjjfdkdneibjbaaGreatDoor
/- Walk of package job: a block that is alike is passed. -/
namespace Go.Proofs.YtjjfdkdneibjbaaGreatDoor
open Go.RowKit

section
variable {w w' : World} {sp : Value} {most : Int} {G : Nat → Prop} {J : Nat} {H : Nat → Prop} {kd day : Int} {T : List Nat} {old set : List Ext} {q : Nat} {F I : Nat → Prop} {n : Nat} {was : ByteArray} {gone : Nat → Bool} {s : JS} {es : List (Int × Blk)}
set_option maxHeartbeats 2000000 in
theorem alike_some (k : Nat) (b t : ByteArray) (id : Int) (r : Bool) (h : JobIs w J H kd day T q old set) (hp : Plt w G sp most es) (hw : ∀ y ∈ old, WhE y) (hk : k ≤ 64) (hf : findX old (k : Int) = some id) (hg : GetE es id t) (hr : r = decide (t = b)) :
    Calls Tryz.prog 126 #[.pointer (some ⟨J, 0, none⟩), sp, .int .i64 (k : Int), .string b] w fun e w' => e = .returned (.bool r) ∧ Below w.heap.size w w' := by
  obtain ⟨v, c4, ho, _⟩ := h.old
  obtain ⟨A, c, rfl, hs, _⟩ := ho.sl
  have hfe := find_ex A old.length c old (k : Int) w hs hw ⟨by omega, by omega⟩
  rw [hf] at hfe
  have hfe : Calls Tryz.prog 163 #[.slice A old.length c, .int .i64 (k : Int)] w fun e w' => e = .returned (.tuple #[.int .i64 id, .bool true]) ∧ Below w.heap.size w w' := hfe
  obtain ⟨N, hN⟩ : ∃ N, N = old.length := ⟨_, rfl⟩
  rw [← hN] at c4 hfe
  have Hf := hide hfe
  have HP := hide hp
  have Hg := hide hg
  obtain ⟨sp', rfl⟩ : ∃ p, sp = .pointer (some ⟨p, 0, none⟩) := hp.pl.ptr
  have hrb : (t.toList == b.toList) = r := by
    rw [hr]
    by_cases e : t = b
    · subst e
      rw [beq_self_eq_true, decide_eq_true rfl]
    · rw [bytes_neq e, decide_eq_false e]
  clear h ho hs hfe hN hp hg hr hf
  go_enter Tryz.func126, Tryz.ntmps126
  go_wp2_with fail
  refine (unhide Hf).mono ?_
  rintro e w2 ⟨rfl, HB⟩
  have HB2 := hide HB
  have s2 := HB.size
  have Hget := hide (plt_get id t ((unhide HP).below HB) (unhide Hg))
  clear HB
  go_wp2_with fail
  refine (unhide Hget).mono ?_
  rintro e w3 ⟨rfl, HB⟩
  have HB3 := hide ((unhide HB2).trans (HB.mono s2))
  clear HB
  go_wp2_with fail
  go_ret
  exact ⟨rfl, unhide HB3⟩
set_option maxHeartbeats 2000000 in
theorem look_skip (k : Nat) (h : Trio w sp most G J H 2 day (k :: T) old q F I n was gone s) (hk : k < n) (hg : gone k = false)
    (hal : Calls Tryz.prog 126 #[.pointer (some ⟨J, 0, none⟩), sp, .int .i64 (k : Int), .string (blkB was k)] w fun e w'' => e = .returned (.bool true) ∧ Below w.heap.size w w'') :
    Calls Tryz.prog 62 #[.pointer (some ⟨J, 0, none⟩), sp, .int .i64 (k : Int)] w fun e w' => e = .returned (.int .i64 0) ∧ Below w.heap.size w w' := by
  have c0 := h.job.c0
  have c3 := h.job.c3
  have Hb := hide (stl_block k h.still hk hg)
  have Hal := hide hal
  obtain ⟨sp', rfl⟩ : ∃ p, sp = .pointer (some ⟨p, 0, none⟩) := h.pool.pl.ptr
  obtain ⟨B, hB⟩ : ∃ B, B = blkB was k := ⟨_, rfl⟩
  rw [← hB] at Hb Hal
  clear h hal hB
  go_enter Tryz.func62, Tryz.ntmps62
  go_wp2_with fail
  refine (unhide Hb).mono ?_
  rintro e w2 ⟨rfl, hw2⟩
  subst hw2
  go_wp2_with fail
  refine (unhide Hal).mono ?_
  rintro e w3 ⟨rfl, HB⟩
  go_wp2_with fail
  go_ret
  exact ⟨rfl, HB⟩
/-- A block that is alike is passed, another one is taken. -/
noncomputable def deltaF (al : Nat → Bool) (was : ByteArray) (s : JS) (k : Nat) : JS := if al k = true then s else takeF was s k
/-- What the map ahead says of the blocks that are left. -/
def OldOk (old : List Ext) (was : ByteArray) (al : Nat → Bool) (T : List Nat) (es : List (Int × Blk)) : Prop := ∀ k ∈ T, ∃ id t, findX old (k : Int) = some id ∧ GetE es id t ∧ al k = decide (t = blkB was k)
def unAl (al : Nat → Bool) (T : List Nat) : Nat := (T.filter fun k => !al k).length
structure DInv (old : List Ext) (al : Nat → Bool) (n : Nat) (was : ByteArray) (L : Nat) (T : List Nat) (s : JS) : Prop where
  inv : ∃ m, JInv n was m T s ∧ m + unAl al T ≤ L
  old : OldOk old was al T s.2
theorem DInv.next {al : Nat → Bool} {L k : Nat} (h : DInv old al n was L (k :: T) s) (hL : L ≤ 60) : DInv old al n was L T (deltaF al was s k) ∧ k < n := by
  obtain ⟨m, hi, hr⟩ := h.inv
  unfold unAl at hr
  refine ⟨?_, hi.lt k List.mem_cons_self⟩
  unfold deltaF
  by_cases ha : al k = true
  · rw [if_pos ha]
    rw [List.filter_cons_of_neg (by simp [ha])] at hr
    exact ⟨⟨m, ⟨hi.n64, hi.was, hi.len, hi.inp, hi.ok, hi.few, hi.refs, fun j hj => hi.lt j (List.mem_cons_of_mem _ hj), (List.pairwise_cons.1 hi.ord).2, fun j hj => hi.rest j (List.mem_cons_of_mem _ hj)⟩, hr⟩, fun j hj => h.old j (List.mem_cons_of_mem _ hj)⟩
  · rw [if_neg ha]
    rw [List.filter_cons_of_pos (by simpa using ha), List.length_cons] at hr
    have hp := hi.ok.put (b := blkB was k) hi.blk (by have := hi.few; omega)
    refine ⟨⟨m + 1, hi.next (by omega), by unfold unAl; omega⟩, fun j hj => ?_⟩
    obtain ⟨id, t, h1, h2, h3⟩ := h.old j (List.mem_cons_of_mem _ hj)
    exact ⟨id, t, h1, hp.old _ _ h2, h3⟩
theorem step_delta (al : Nat → Bool) (L N m M : Nat) (hM : M = min N T.length) (h : Trio w sp most G J H 2 day T old q F I n was gone s) (hi : DInv old al n was L T s) (hL : (L : Int) ≤ most) (hm : most ≤ 60) (hw : ∀ y ∈ old, WhE y) (hg : ∀ k ∈ T, gone k = false) (hN : 1 ≤ N) (hT : T.length ≤ 1000) :
    Calls Tryz.prog 15 #[.pointer (some ⟨J, 0, none⟩), sp, .int .i64 (N : Int)] w fun e w' => e = .returned (.tuple #[.int .i64 (M : Int), .int .i64 0]) ∧ SteppedK (deltaF al was) (fun _ => DInv old al n was L) w sp most G J H 2 day T old q F I n was gone s m M w' := by
  have ho : T.Pairwise (· < ·) := by
    obtain ⟨m, h1, _⟩ := hi.inv
    exact h1.ord
  refine step_gen (deltaF al was) (fun _ => DInv old al n was L) (fun w G H k m T gone s hT hD hgk => ?_) (fun k m T s hD => hD.next (by omega)) N m M hM h hi ho hg hN hT
  obtain ⟨m', hi, hr⟩ := hD.inv
  unfold unAl at hr
  have hk := hi.lt k List.mem_cons_self
  have hn := hi.n64
  obtain ⟨id, t, f1, f2, f3⟩ := hD.old k List.mem_cons_self
  have hal : ∀ w', Below w.heap.size w w' → Calls Tryz.prog 126 #[.pointer (some ⟨J, 0, none⟩), sp, .int .i64 (k : Int), .string (blkB was k)] w' fun e w'' => e = .returned (.bool (al k)) ∧ Below w'.heap.size w' w'' := fun w' hb =>
    alike_some k (blkB was k) t id (al k) (hT.job.below hb) (hT.pool.below hb) hw (by omega) f1 f2 f3
  unfold deltaF
  by_cases ha : al k = true
  · rw [if_pos ha]
    rw [ha] at hal
    refine (look_skip k hT hk hgk (hal w (Below.refl _ _))).mono ?_
    rintro e w' ⟨rfl, hb⟩
    exact ⟨rfl, G, H, hT.below hb, Went.refl _ _, Went.refl _ _, Chg.of_below hb⟩
  · rw [if_neg ha]
    have ha : al k = false := by simpa using ha
    rw [ha] at hal
    rw [List.filter_cons_of_pos (by simp [ha]), List.length_cons] at hr
    exact look_take k m' hT hi (by omega) hm hgk (fun _ w' hb => hal w' hb)
end
end Go.Proofs.YtjjfdkdneibjbaaGreatDoor
/- What a delta takes: the plain law. -/
namespace Go.Proofs.YtjjfdkdneibjbaaGreatDoor
open Go.RowKit

theorem findX_snoc (l : List Ext) (x : Ext) (k : Int) : findX (l ++ [x]) k = (findX l k).or (if inE k x = true then some (idE k x) else none) := by
  unfold findX
  rw [List.find?_append]
  cases h : l.find? (inE k) with
  | some y => rfl
  | none =>
    rw [Option.none_or, Option.map_none, Option.none_or]
    by_cases e : inE k x = true
    · rw [List.find?_cons_of_pos e, if_pos e]; rfl
    · rw [List.find?_cons_of_neg e, if_neg e]; rfl
theorem findX_none {l : List Ext} {k : Int} (h : ∀ y ∈ l, y.from_ + y.n ≤ k) : findX l k = none := by
  unfold findX
  have : l.find? (inE k) = none := List.find?_eq_none.2 fun y hy => by
    have := h y hy
    unfold inE
    simp
    omega
  rw [this]; rfl
/-- A tidy map says of each block what was set. -/
theorem findX_exts (L : List Int) (hL : InPool L) : ∀ k, k ≤ 64 → ∀ j : Nat, j < 64 → findX (extsL L k) (j : Int) = if j < k ∧ 0 ≤ L.getD j 0 then some (L.getD j 0) else none := by
  intro k
  induction k with
  | zero =>
    intro _ j hj
    rw [if_neg (by omega)]; rfl
  | succ k ih =>
    intro hk j hj
    have ih := ih (by omega) j hj
    have hb := hL k
    have hT := tidy_ext L hL (k + 1) hk
    have hT0 := tidy_ext L hL k (by omega)
    have h0 : findX (extsL L k) ((k : Nat) : Int) = none := findX_none fun y hy => (hT0.good y hy).2.2.1
    by_cases h1 : L.getD k 0 < 0
    · rw [extsL, if_pos h1, ih]
      by_cases hjk : j = k
      · subst hjk
        rw [if_neg (by omega), if_neg (by omega)]
      · by_cases h2 : j < k ∧ 0 ≤ L.getD j 0
        · rw [if_pos h2, if_pos ⟨by omega, h2.2⟩]
        · rw [if_neg h2, if_neg (fun h => h2 ⟨by omega, h.2⟩)]
    · obtain ⟨l, x, e1, e2, e3, e4⟩ := hT.last (by omega) (by show 0 ≤ L.getD k 0; omega)
      have e3 : x.id = 0 ↔ L.getD k 0 = 0 := e3
      have e4 : 0 < x.id → x.id + x.n - 1 = L.getD k 0 := e4
      have hx := hT.good x (by rw [e1]; simp)
      have key : findX (extsL L (k + 1)) (j : Int) = if j = k then some (L.getD k 0) else findX (extsL L k) (j : Int) := by
        rw [extsL, if_neg h1] at e1 ⊢
        by_cases hj2 : joinB L k = true
        · rw [if_pos hj2] at e1 ⊢
          have hj3 := hj2
          unfold joinB at hj3
          simp only [Bool.and_eq_true, Bool.or_eq_true, decide_eq_true_eq, beq_iff_eq] at hj3
          obtain ⟨l', z, f1, f2, f3, f4⟩ := hT0.last hj3.1 (by omega)
          have hz := hT0.good z (by rw [f1]; simp)
          rw [f1, grow1_snoc] at e1
          obtain ⟨e5, e6⟩ := List.append_inj' e1 rfl
          simp only [List.cons.injEq, and_true] at e6
          rw [f1] at h0 ⊢
          rw [grow1_snoc, findX_snoc, findX_snoc]
          rw [findX_snoc] at h0
          subst e6
          have e3 : z.id = 0 ↔ L.getD k 0 = 0 := e3
          have e4 : 0 < z.id → z.id + (z.n + 1) - 1 = L.getD k 0 := e4
          by_cases hjk : j = k
          · subst hjk
            rw [if_pos rfl]
            have hl' : findX l' (j : Int) = none := by
              cases h : findX l' (j : Int) with
              | none => rfl
              | some v => rw [h] at h0; cases h0
            rw [hl', Option.none_or, if_pos]
            · congr 1
              unfold idE
              show (if z.id = 0 then 0 else z.id + (j : Int) - z.from_) = _
              split
              · rename_i hi; exact (e3.1 hi).symm
              · have := e4 (by omega); omega
            · unfold inE
              simp
              omega
          · rw [if_neg hjk]
            congr 1
            have hin : inE (j : Int) ⟨z.from_, z.n + 1, z.id⟩ = inE (j : Int) z := by
              unfold inE
              rw [Bool.eq_iff_iff]
              simp only [Bool.and_eq_true, decide_eq_true_eq]
              omega
            rw [hin]
            rfl
        · rw [if_neg hj2] at e1 ⊢
          rw [findX_snoc]
          by_cases hjk : j = k
          · subst hjk
            rw [if_pos rfl, h0, Option.none_or, if_pos]
            · congr 1
              unfold idE
              show (if L.getD j 0 = 0 then 0 else L.getD j 0 + (j : Int) - (j : Int)) = _
              split <;> omega
            · unfold inE
              simp
              omega
          · rw [if_neg hjk, if_neg, Option.or_none]
            unfold inE
            simp
            omega
      rw [key, ih]
      by_cases hjk : j = k
      · subst hjk
        rw [if_pos rfl, if_pos ⟨by omega, by omega⟩]
      · rw [if_neg hjk]
        by_cases h2 : j < k ∧ 0 ≤ L.getD j 0
        · rw [if_pos h2, if_pos ⟨by omega, h2.2⟩]
        · rw [if_neg h2, if_neg (fun h => h2 ⟨by omega, h.2⟩)]
/-- What is set, behind all blocks: of those that are not alike something. -/
theorem delta_set {old : List Ext} {al : Nat → Bool} {n : Nat} {was : ByteArray} {L0 : Nat} (hL : L0 ≤ 60) : ∀ (T : List Nat) (s : JS), DInv old al n was L0 T s → DInv old al n was L0 [] (runK (deltaF al was) T s) ∧ ∀ j, j < 64 → (0 ≤ (runK (deltaF al was) T s).1.getD j 0 ↔ 0 ≤ s.1.getD j 0 ∨ (j ∈ T ∧ al j = false)) := by
  intro T
  induction T with
  | nil => intro s h; exact ⟨h, fun j _ => by simp [runK]⟩
  | cons k T ih =>
    intro s h
    obtain ⟨h1, hk⟩ := h.next hL
    obtain ⟨i1, i2⟩ := ih _ h1
    obtain ⟨m, hi, hr⟩ := h.inv
    unfold unAl at hr
    have hlen := hi.len
    have hn := hi.n64
    refine ⟨i1, fun j hj => ?_⟩
    have e := i2 j hj
    show 0 ≤ (runK (deltaF al was) T (deltaF al was s k)).1.getD j 0 ↔ _
    rw [e]
    unfold deltaF
    by_cases ha : al k = true
    · rw [if_pos ha, List.mem_cons]
      constructor
      · rintro (h | ⟨h, h'⟩)
        · exact .inl h
        · exact .inr ⟨.inr h, h'⟩
      · rintro (h | ⟨rfl | h, h'⟩)
        · exact .inl h
        · rw [ha] at h'; cases h'
        · exact .inr ⟨h, h'⟩
    · rw [if_neg ha, List.mem_cons]
      have ha : al k = false := by simpa using ha
      rw [List.filter_cons_of_pos (by simp [ha]), List.length_cons] at hr
      have hp := hi.ok.put (b := blkB was k) hi.blk (by have := hi.few; omega)
      show 0 ≤ (s.1.set k _).getD j 0 ∨ _ ↔ _
      rw [getD_set (by omega)]
      by_cases hjk : j = k
      · subst hjk
        rw [if_pos rfl]
        exact ⟨fun _ => .inr ⟨.inl rfl, ha⟩, fun _ => .inl hp.id0⟩
      · rw [if_neg hjk]
        constructor
        · rintro (h | ⟨h, h'⟩)
          · exact .inl h
          · exact .inr ⟨.inr h, h'⟩
        · rintro (h | ⟨h | h, h'⟩)
          · exact .inl h
          · exact absurd h hjk
          · exact .inr ⟨h, h'⟩
/-- Few blocks are touched by so few bytes. -/
theorem touched_few {cur b : ByteArray} {a n : Nat} (h : a + b.size ≤ cur.size) (hb : b.size ≤ 50) : unAl (fun k => decide (blkB cur k = blkB (layB cur a b) k)) (List.range n) ≤ 8 := by
  unfold unAl
  have := length_of_subset (l := (List.range n).filter fun k => !decide (blkB cur k = blkB (layB cur a b) k)) (m := List.range' (a / 8) 8) (List.nodup_range.filter _) (fun k hk => by
    obtain ⟨_, h2⟩ := List.mem_filter.1 hk
    simp only [Bool.not_eq_true', decide_eq_false_iff_not] at h2
    have h3 : ¬ (8 * k + 8 ≤ a ∨ a + b.size ≤ 8 * k) := fun ht => h2 (blkB_lay h ht).symm
    rw [List.mem_range'_1]
    omega)
  simpa using this
theorem putR_whole {n : Nat} (h1 : 1 ≤ n) (h2 : n ≤ 64) : putR [] [⟨0, (n : Int)⟩] = [⟨0, (n : Int)⟩] := by
  show putS [] ⟨0, (n : Int)⟩ = _
  unfold putS
  rw [if_pos]
  · rfl
  · rw [whB_iff]
    exact ⟨Int.le_refl _, by show (1 : Int) ≤ n; omega, by show (0 : Int) + n ≤ 64; omega⟩
theorem todo_whole {n : Nat} (h1 : 1 ≤ n) (h2 : n ≤ 64) : todoL 2 (hasR (putR [] [⟨0, (n : Int)⟩])) n = List.range n := by
  rw [putR_whole h1 h2]
  unfold todoL
  rw [List.filter_eq_self.2]
  intro k hk
  have := List.mem_range.1 hk
  unfold hasR
  simp
  omega
theorem spansB_congr {B C : Nat → Bool} : ∀ k, (∀ j, j < k → B j = C j) → spansB B k = spansB C k
  | 0, _ => rfl
  | k + 1, h => by
    have e1 := spansB_congr k fun j hj => h j (by omega)
    have e2 := h k (by omega)
    have e3 : (0 < k ∧ B (k - 1) = true) ↔ (0 < k ∧ C (k - 1) = true) := by
      constructor
      · rintro ⟨a, b⟩; exact ⟨a, by rw [← h (k - 1) (by omega)]; exact b⟩
      · rintro ⟨a, b⟩; exact ⟨a, by rw [h (k - 1) (by omega)]; exact b⟩
    rw [spansB, spansB, e1, e2]
    simp only [e3]
theorem spansB_rest {B : Nat → Bool} {n : Nat} (h : ∀ j, n ≤ j → B j = false) : ∀ m, spansB B (n + m) = spansB B n
  | 0 => rfl
  | m + 1 => by
    show spansB B (n + m + 1) = _
    rw [spansB, if_pos (h _ (by omega))]
    exact spansB_rest h m
theorem spansB_unlike {a b : ByteArray} {B : Nat → Bool} {n : Nat} (hn : n ≤ 64) (h : ∀ j, j < n → (B j = true ↔ blkB a j ≠ blkB b j)) : ∀ k, k ≤ n → unlikeR a b k = spansB B k
  | 0, _ => rfl
  | k + 1, hk => by
    have ih := spansB_unlike hn h k (by omega)
    have hB := h k (by omega)
    rw [unlikeR, ih]
    by_cases e : blkB a k = blkB b k
    · have : B k = false := by
        cases hb : B k with
        | false => rfl
        | true => exact absurd e (hB.1 hb)
      rw [if_pos e, spansB, if_pos this]
    · rw [if_neg e, putR_next B (by omega) (hB.2 e)]
end Go.Proofs.YtjjfdkdneibjbaaGreatDoor
/- Walk of the law JobAlike. -/
namespace Go.Proofs.YtjjfdkdneibjbaaGreatDoor
open Go.RowKit

set_option maxHeartbeats 2000000 in
set_option maxRecDepth 100000 in
theorem alike_out (bl at_ : Int) (first change : ByteArray) (w : World) (h : bl < 1 ∨ 40 < bl ∨ 400 < first.size ∨ 50 < change.size ∨ at_ < 0 ∨ bl * 8 - change.size < at_) :
    Calls Tryz.prog 4 #[.int .i64 bl, .string first, .int .i64 at_, .string change] w fun e w' => e = .returned (.bool true) ∧ Below w.heap.size w w' := by
  by_cases h1 : bl < 1
  · clear h
    go_enter Tryz.func4, Tryz.ntmps4
    go_wp2_with (go_at_call 7; refine (alive20 _).mono ?_; rintro e w1 ⟨he, B1⟩; subst he)
    go_ret
    exact ⟨rfl, B1⟩
  · by_cases h2 : 40 < bl
    · clear h
      go_enter Tryz.func4, Tryz.ntmps4
      go_wp2_with (go_at_call 7; refine (alive20 _).mono ?_; rintro e w1 ⟨he, B1⟩; subst he)
      go_ret
      exact ⟨rfl, B1⟩
    · by_cases h3 : 400 < first.size
      · have h3' : (400 : Int) < first.size := by omega
        clear h
        go_enter Tryz.func4, Tryz.ntmps4
        go_wp2_with (go_at_call 7; refine (alive20 _).mono ?_; rintro e w1 ⟨he, B1⟩; subst he)
        go_ret
        exact ⟨rfl, B1⟩
      · have h3' : ¬ (400 : Int) < first.size := by omega
        by_cases h4 : 50 < change.size
        · have h4' : (50 : Int) < change.size := by omega
          clear h
          go_enter Tryz.func4, Tryz.ntmps4
          go_wp2_with (go_at_call 7; refine (alive20 _).mono ?_; rintro e w1 ⟨he, B1⟩; subst he)
          go_ret
          exact ⟨rfl, B1⟩
        · have h4' : ¬ (50 : Int) < change.size := by omega
          by_cases h5 : at_ < 0
          · clear h
            go_enter Tryz.func4, Tryz.ntmps4
            go_wp2_with (go_at_call 7; refine (alive20 _).mono ?_; rintro e w1 ⟨he, B1⟩; subst he)
            go_ret
            exact ⟨rfl, B1⟩
          · have h6 : bl * 8 - change.size < at_ := by omega
            clear h
            go_enter Tryz.func4, Tryz.ntmps4
            go_wp2_with (go_at_call 7; refine (alive20 _).mono ?_; rintro e w1 ⟨he, B1⟩; subst he)
            go_ret
            exact ⟨rfl, B1⟩
/-- A world behind another one, a cell. -/
def Ke (w W : World) (t : Nat) (v : Value) : Prop := Below w.heap.size w W ∧ t < w.heap.size ∧ W.cell? ⟨t, 3, none⟩ = some v
theorem Ke.below {w W W' : World} {t : Nat} {v : Value} (h : Ke w W t v) (hb : Below W.heap.size W W') : Ke w W' t v := by
  obtain ⟨a, b, c⟩ := h
  have := a.size
  exact ⟨a.trans (hb.mono this), b, ((bcell hb).1 t 3 (by omega)).trans c⟩
theorem Ke.drew {w W : World} {t : Nat} {v : Value} (h : Ke w W t v) : Ke w W.drew t v := ⟨h.1.drew, h.2.1, h.2.2⟩
theorem Ke.s {w W : World} {t : Nat} {v : Value} (h : Ke w W t v) : W.cell? ⟨t, 3, none⟩ = some v := h.2.2
theorem Ke.alloc {w W : World} {t : Nat} {v : Value} (h : Ke w W t v) (o : Obj) : Ke w (W.alloc o) t v := h.below ((Below.refl _ _).alloc (Nat.le_refl _) o)
set_option maxHeartbeats 8000000 in
set_option maxRecDepth 100000 in
theorem alike_in (NB At : Nat) (first change : ByteArray) (w : World) (hb1 : 1 ≤ NB) (hb2 : NB ≤ 40) (hf : first.size ≤ 400) (hc : change.size ≤ 50) (hat : At + change.size ≤ 8 * NB) :
    Calls Tryz.prog 4 #[.int .i64 (NB : Int), .string first, .int .i64 (At : Int), .string change] w fun e w' => e = .returned (.bool true) ∧ Below w.heap.size w w' := by
  have qa : ¬ (NB : Int) < 1 := by omega
  have qb : ¬ (40 : Int) < NB := by omega
  have qc : ¬ (400 : Int) < first.size := by omega
  have qd : ¬ (50 : Int) < change.size := by omega
  have qe : ¬ (At : Int) < 0 := by omega
  have qf : ¬ (NB : Int) * 8 - change.size < At := by omega
  obtain ⟨sz, hsz⟩ : ∃ sz, sz = min first.size (NB * 8) := ⟨_, rfl⟩
  have Hsz := hide hsz
  have qm : min (first.size : Int) ((NB : Int) * 8) = (sz : Int) := by omega
  clear hsz
  go_enter Tryz.func4, Tryz.ntmps4
  go_wp2_with fail
  refine (alive20 _).mono ?_
  rintro e w0 ⟨rfl, B0⟩
  go_wp2_with fail
  refine (film_new NB ⟨hb1, by omega⟩ w0).mono ?_
  rintro e w1 ⟨⟨p, g, cc, rfl, hp, hg, hF⟩, B1⟩
  rw [← zerosB_list] at hF
  have s0 := B0.size
  have s1 := B1.size
  have B1' : Below w.heap.size w w1 := B0.trans (B1.mono (by omega))
  have HF := hide hF
  have lp := hF.lp
  have lg := hF.lg
  clear B0 B1 hF
  go_wp2_with fail
  refine (pl_new (G := fun k => w1.heap.size ≤ k) 60 w1 (fun k hk => hk)).mono ?_
  rintro e w2 ⟨sp, rfl, hP, B2⟩
  rw [show min (max (60 : Int) 0) 60 = 60 from by decide] at hP
  have s2 := B2.size
  have B2' : Below w.heap.size w w2 := B1'.trans (B2.mono (by omega))
  have HF2 := hide ((unhide HF).below B2)
  have HP := hide hP.tight
  have hSz : (first.extract 0 sz).size ≤ 8 * NB := by have := unhide Hsz; rw [ByteArray.size_extract]; omega
  obtain ⟨cur, hcur⟩ : ∃ cur, cur = layB (zerosB NB) 0 (first.extract 0 sz) := ⟨_, rfl⟩
  have hcs : cur.size = 8 * NB := by rw [hcur, layB_size (by rw [zerosB_size]; omega), zerosB_size]
  have Hw := hide (flm_write 0 (first.extract 0 sz) (zerosB NB) (unhide HF2) (by rw [zerosB_size]; omega))
  rw [← hcur] at Hw
  have Hcs := hide hcs
  clear HF B1' B2 hP HF2 hcur hSz hcs
  go_wp2_with fail
  refine (unhide Hw).mono ?_
  rintro e w3 ⟨rfl, hF, C3⟩
  have s3 := C3.size
  have B3' : Below w.heap.size w w3 := B2'.trans (C3.to_below (by omega) (fun k e => by omega))
  have HP3 := hide ((unhide HP).chg C3 fun k hk e => by have := hk.1; omega)
  have HF3 := hide hF
  have Hcp := hide (film_copy hF)
  clear Hw C3 B2' HP hF
  go_wp2_with fail
  refine (unhide Hcp).mono ?_
  rintro e w4 ⟨⟨p4, g4, cc4, rfl, hp4, hg4, hF4⟩, B4⟩
  have s4 := B4.size
  have B4' : Below w.heap.size w w4 := B3'.trans (B4.mono (by omega))
  have HP4 := hide ((unhide HP3).below B4)
  have HF4 := hide ((unhide HF3).below B4)
  have HC4 := hide hF4
  have lp4 := hF4.lp
  have lg4 := hF4.lg
  have Hn := hide (stl_new NB (unhide HF4) (unhide Hcs) (by omega))
  clear Hcp B3' HP3 HF3 hF4 B4
  go_wp2_with fail
  refine (unhide Hn).mono ?_
  rintro e w5 ⟨⟨q, m, rfl, hq, hm, hS⟩, B5⟩
  have s5 := B5.size
  have B5' : Below w.heap.size w w5 := B4'.trans (B5.mono (by omega))
  have HP5 := hide ((unhide HP4).below B5)
  have HF5 := hide ((unhide HF4).below B5)
  have HC5 := hide ((unhide HC4).below B5)
  have Hj := hide (new_jb 1 1 (.inl rfl) (by decide) (.pointer none) (fun _ => false) hS (by omega) (fun h => by omega) none 0 0 [] (Sl.nil_ _ _) (by decide))
  have HS := hide hS
  clear Hn B4' hS B5 HP4 HF4 HC4
  go_wp2_with fail
  refine (unhide Hj).mono ?_
  rintro e w6 ⟨⟨J, H, rfl, hJ, hH⟩, B6⟩
  have s6 := B6.size
  have B6' : Below w.heap.size w w6 := B5'.trans (B6.mono (by omega))
  have R0 : ∃ O, Run (.pointer (some ⟨sp, 0, none⟩)) 60 J 1 1 (todoL 1 (fun _ => false) NB) [] q NB cur (noneL 64, []) 0 0 O (fun b => b = p ∨ b = g) w6 ∧ ∀ b, O b → (w1.heap.size ≤ b ∧ b < w2.heap.size) ∨ w4.heap.size ≤ b := by
    have hJ' := hJ
    rw [← extsL_none] at hJ'
    refine ⟨_, Run.start hJ' ((unhide HS).below B6) ((unhide HP5).below B6) ⟨fun k hk hf => ?_, fun k hk hf => ?_, fun k hk hf => ?_, fun k hk hf => ?_, fun k hk hf => ?_, fun k hk hf => ?_⟩ (JInv.fresh (by omega) (unhide Hcs) _ _), fun b hb => ?_⟩
    · have h1 := hk.1
      have h2 := hk.2
      rcases hf with rfl | rfl <;> omega
    · have h1 := hk.2
      have h2 := hH k hf
      omega
    · have h1 := (unhide HS).lt k hk
      have h2 := hH k hf
      omega
    · have h1 := hk.1
      rcases hf with rfl | rfl <;> omega
    · rcases hk with rfl | rfl <;> rcases hf with rfl | rfl <;> omega
    · have h2 := hH k hk
      rcases hf with rfl | rfl <;> omega
    · rcases hb with hb | hb | hb
      · exact .inl hb
      · rcases hb with rfl | rfl <;> (right; omega)
      · have := hH b hb; right; omega
  obtain ⟨O, R0, hO⟩ := R0
  obtain ⟨T, hT⟩ : ∃ T, T = todoL 1 (fun _ => false) NB := ⟨_, rfl⟩
  have hTr : T = List.range NB := by rw [hT, todoL_full]
  have hTl : T.length = NB := by rw [hTr]; simp
  rw [← hT] at R0
  have Hst := hide (run_step 100 R0 (by omega) (by decide) (.inl (by decide)) (by decide))
  have e100 : 0 + min 100 (T.length - 0) = NB := by omega
  rw [e100] at Hst
  have HF6 := hide ((unhide HF5).below B6)
  have HC6 := hide ((unhide HC5).below B6)
  have HB6 := hide B6'
  have HO := hide hO
  have HOl := hide R0.lt
  have HTr := hide hTr
  have HTl := hide hTl
  clear R0 hT hTr hTl hJ hH HS HP5 HF5 HC5 Hj B5' B6 B6' hO e100
  go_wp2_with fail
  refine (unhide Hst).mono ?_
  rintro e w7 ⟨rfl, ⟨O7, hR7, hW7⟩, C7⟩
  have s7 := C7.size
  have hO := unhide HO
  have B7 := hide ((unhide HB6).trans (C7.to_below (unhide HB6).size fun b hb => by have h1 := hO b hb; have := (unhide HB6).size; omega))
  have hF7 := (unhide HF6).kept C7.size (C7.block p (by omega) fun hb => by have h1 := hO p hb; omega) (C7.block g (by omega) fun hb => by have h1 := hO g hb; omega)
  have hC7 := (unhide HC6).kept C7.size (C7.block p4 (by omega) fun hb => by have h1 := hO p4 hb; omega) (C7.block g4 (by omega) fun hb => by have h1 := hO g4 hb; omega)
  have HF7 := hide hF7
  have HC7 := hide hC7
  obtain ⟨L1, hL1⟩ : ∃ L, L = (runT cur T (noneL 64, [])).1 := ⟨_, rfl⟩
  obtain ⟨ES, hES⟩ : ∃ L, L = (runT cur T (noneL 64, [])).2 := ⟨_, rfl⟩
  have hR7' : Run (.pointer (some ⟨sp, 0, none⟩)) 60 J 1 1 T [] q NB cur (noneL 64, []) 0 T.length O7 (fun b => b = p ∨ b = g) w7 := by rw [unhide HTl]; exact hR7
  have Hp := hide (run_point 1 hR7')
  rw [← hL1] at Hp
  have hpool : ∃ G, Plt w7 G (.pointer (some ⟨sp, 0, none⟩)) 60 ES ∧ (∀ b, G b → O7 b) ∧ JInv NB cur NB [] (L1, ES) := by
    obtain ⟨G, F, H', h1, h2, h3, h4, h5⟩ := hR7'
    rw [List.take_length] at h1 h2
    rw [List.drop_length] at h2
    refine ⟨G, by rw [hES]; exact h1.pool, fun b hb => (h5 b).2 (.inl hb), ?_⟩
    rw [hL1, hES]
    have := unhide HTl
    rw [this, Nat.zero_add] at h2
    exact h2
  obtain ⟨G, hPG, hGO, hJI⟩ := hpool
  have hfacts : ∀ k, k < NB → GetE ES (L1.getD k 0) (blkB cur k) ∧ 0 ≤ L1.getD k 0 := by
    have hi0 : JInv NB cur 0 (todoL 1 (fun _ => false) NB) (noneL 64, []) := JInv.fresh (by omega) (unhide Hcs) 1 (fun _ => false)
    rw [todoL_full, ← unhide HTr] at hi0
    have ht := told_run T [] hi0 (by have := unhide HTl; omega) (Told.nil _ _) (fun k _ h => by simp at h)
    rw [List.nil_append] at ht
    rw [hL1, hES]
    intro k hk
    have hkT : k ∈ T := by rw [unhide HTr]; exact List.mem_range.2 hk
    exact ⟨ht.1.get k hkT, ht.1.nn k hkT⟩
  have HFa := hide hfacts
  have HJI := hide hJI
  have HPG := hide hPG
  have HGl := hide (hPG.lt)
  have HG := hide (fun b (hb : G b) => (hW7.from' b (hGO b hb)).imp (hO b) id : ∀ b, G b → ((w1.heap.size ≤ b ∧ b < w2.heap.size) ∨ w4.heap.size ≤ b) ∨ w6.heap.size ≤ b)
  clear hR7 hR7' Hst C7 hW7 hL1 hES hfacts hPG hGO hJI hF7 hC7 hO HO HF6 HC6 HB6 HOl
  go_wp2_with fail
  refine (unhide Hp).mono ?_
  rintro e w8 ⟨⟨A8, c8, rfl, ho8⟩, B8⟩
  obtain ⟨E, hE⟩ : ∃ E, E = extsL L1 64 := ⟨_, rfl⟩
  rw [← hE] at ho8 ⊢
  obtain ⟨N8, hN8⟩ : ∃ N, N = E.length := ⟨_, rfl⟩
  rw [← hN8] at ho8 ⊢
  have HE := hide hE
  have HN8 := hide hN8
  obtain ⟨w9, hw9⟩ : ∃ W, W = w8.alloc (.cells #[.int .i64 1, .int .i64 1, .int .i64 1, .slice A8 N8 c8] 44) := ⟨_, rfl⟩
  have B9 : Below w8.heap.size w8 w9 := by rw [hw9]; exact (Below.refl _ _).alloc (Nat.le_refl _) _
  have s8 := B8.size
  have s9 : w9.heap.size = w8.heap.size + 1 := by rw [hw9]; simp
  have hqq := heap_new w8 (.cells #[.int .i64 1, .int .i64 1, .int .i64 1, .slice A8 N8 c8] 44)
  rw [← hw9] at hqq
  obtain ⟨t, ht⟩ : ∃ t, t = w8.heap.size := ⟨_, rfl⟩
  have ht1 : w8.heap.size ≤ t := by omega
  have ht2 : t ≤ w8.heap.size := by omega
  rw [← ht] at hqq s9
  have c3 : w9.cell? ⟨t, 3, none⟩ = some (.slice A8 N8 c8) := cell_of_heap hqq rfl
  have B79 := B8.trans (B9.mono (by omega))
  have HF9 := hide ((unhide HF7).below B79)
  have HC9 := hide ((unhide HC7).below B79)
  have HP9 := hide ((unhide HPG).below B79)
  have HO9 := hide (ho8.below B9)
  have HB9 := hide ((unhide B7).trans (B79.mono (unhide B7).size))
  obtain ⟨cu2, hcu2⟩ : ∃ c, c = layB cur At change := ⟨_, rfl⟩
  have hcs2 : cu2.size = 8 * NB := by rw [hcu2, layB_size (by have := unhide Hcs; omega)]; exact unhide Hcs
  have Hw2 := hide (flm_write At change cur (unhide HF9) (by have := unhide Hcs; omega))
  rw [← hcu2] at Hw2
  have Hcu2 := hide hcu2
  have Hcs2 := hide hcs2
  clear hqq ho8 B8 B9 B79 hE hN8 Hp HF7 HC7 B7 hcu2 hcs2 HPG
  go_wp2_with fail
  rw [← hw9, ← ht]
  clear hw9 ht
  refine (unhide Hw2).mono ?_
  rintro e w10 ⟨rfl, hF10, C10⟩
  have s10 := C10.size
  have HF10 := hide hF10
  have HC10 := hide ((unhide HC9).kept C10.size (C10.block p4 (by omega) fun e => by omega) (C10.block g4 (by omega) fun e => by omega))
  have hPG10 := (unhide HP9).chg C10 fun k hk e => by have := unhide HG k hk; omega
  have c3 := (World.cell?_of_block (a := ⟨t, 3, none⟩) (C10.block t (by omega) fun e => by omega)).trans c3
  have HO10 := hide ((unhide HO9).of_block fun b hb => C10.block b ((unhide HO9).lt b hb).2 fun e => by have := ((unhide HO9).lt b hb).1; omega)
  have hwl : w.heap.size ≤ g := by omega
  have HB10 := hide ((unhide HB9).trans (C10.to_below (unhide HB9).size fun b hb => by omega))
  have HP10 := hide hPG10
  have Hn := hide (stl_new NB hF10 (unhide Hcs2) (by omega))
  clear hF10 C10 HF9 HC9 HP9 HO9 HB9 Hw2 hPG10
  go_wp2_with fail
  refine (unhide Hn).mono ?_
  rintro e w11 ⟨⟨q2, m2, rfl, hq2, hm2, hS2⟩, B11⟩
  have s11 := B11.size
  have HF11 := hide ((unhide HF10).below B11)
  have HC11 := hide ((unhide HC10).below B11)
  have HP11 := hide ((unhide HP10).below B11)
  have c3 := ((bcell B11).1 t 3 (by omega)).trans c3
  have HO11 := hide ((unhide HO10).below B11)
  have HB11 := hide ((unhide HB10).trans (B11.mono (unhide HB10).size))
  have HS2 := hide hS2
  clear Hn HF10 HC10 HP10 HO10 HB10 B11 hS2
  have hT : Ke w11 w11 t (.slice A8 N8 c8) := ⟨Below.refl _ _, by omega, c3⟩
  obtain ⟨W1, hW1⟩ : ∃ W, W = (w11.alloc (.cells #[.int .i64 0, .int .i64 (NB : Int)] 59)).drew := ⟨_, rfl⟩
  have T1 : Ke w11 W1 t (.slice A8 N8 c8) := by rw [hW1]; exact (hT.alloc _).drew
  have o1 : Own eSp 59 W1 w11.heap.size (.slice (some ⟨w11.heap.size, 0, none⟩) 1 1) [⟨0, (NB : Int)⟩] := by rw [hW1]; exact (Own.lit w11 #[.int .i64 0, .int .i64 (NB : Int)] 1 rfl rfl (by unfold maxLen; omega) (Nat.le_refl _)).drewN 1
  have sl1 : Sl eSp W1 (some ⟨w11.heap.size, 0, none⟩) 1 1 [⟨0, (NB : Int)⟩] := by
    obtain ⟨A', c', hv, hs', _⟩ := o1.sl
    injection hv with v1 _ v3
    subst v1; subst v3
    exact hs'
  have hof := of_rn W1 (some ⟨w11.heap.size, 0, none⟩) 1 1 [⟨0, (NB : Int)⟩] sl1 (by decide)
  rw [hW1] at hof
  have Hof := hide hof
  have hfine := exts_fine L1 (unhide HJI).inp
  rw [← unhide HE] at hfine
  have Hfine := hide hfine
  have hRW : WhL (putR [] [⟨0, (NB : Int)⟩]) ∧ (putR [] [⟨0, (NB : Int)⟩]).length ≤ 1 := by
    have := putR_one (R := []) (fun x h => by simp at h) (k := 0)
    rw [putR_whole hb1 (by omega)]
    exact ⟨fun x hx => by rw [List.mem_singleton] at hx; subst hx; exact ⟨Int.le_refl _, by show (1 : Int) ≤ NB; omega, by show (0 : Int) + NB ≤ 64; omega⟩, by simp⟩
  have hnew : ∀ W r, Below w11.heap.size w11 W → RunsIs W r (putR [] [⟨0, (NB : Int)⟩]) → Calls Tryz.prog 13 #[.int .i64 2, .int .i64 1, .pointer (some ⟨r, 0, none⟩), .pointer (some ⟨q2, 0, none⟩), .slice A8 N8 c8] W fun e w' => (∃ J H, e = .returned (.tuple #[.pointer (some ⟨J, 0, none⟩), .int .i64 0]) ∧ JobIs w' J H 2 1 (List.range NB) q2 E [] ∧ ∀ b, H b → W.heap.size ≤ b) ∧ Below W.heap.size W w' := fun W r hb hR => by
    have hsl : Sl eE W A8 N8 c8 E := by
      obtain ⟨_, _, hv, hs', _⟩ := ((unhide HO11).below hb).sl
      injection hv with v1 v2 v3
      rw [v1, v2, v3]; exact hs'
    have := new_jb 2 1 (.inr rfl) (by decide) (.pointer (some ⟨r, 0, none⟩)) (hasR (putR [] [⟨0, (NB : Int)⟩])) ((unhide HS2).below hb) (by omega) (fun _ k _ W' hb' => has_rn (hR.below hb') (by have := hRW.2; omega) hRW.1 k) A8 N8 c8 E hsl (by rw [unhide HN8]; exact hfine.1)
    rw [todo_whole hb1 (by omega)] at this
    exact this
  have Hnew := hide hnew
  have HTT := hide hT
  rw [hW1] at T1
  have HT1 := hide T1
  have Ts := hide T1.s
  clear T1 o1 sl1 hof hW1 hfine hRW hnew
  have K := hT
  clear hT
  go_wp2_with fail
  go_region_held3 (fun W => W.cell? ⟨t, 3, none⟩ = some (.slice A8 N8 c8))
    (first | with_reducible exact K.s | with_reducible exact K.drew.s | with_reducible exact unhide Ts)
    ((first
        | (go_at_call 21; refine (unhide Hof).mono ?_; intro e v hv; obtain ⟨⟨r, he, hr, hR⟩, HB⟩ := hv; subst he; replace K : Ke w11 v t (.slice A8 N8 c8) := (unhide HT1).below HB; clear HB; have HR := hide hR; clear hR hr)
        | (go_at_call 13; refine (unhide Hnew _ _ K.1 (unhide HR)).mono ?_; intro e v2 hv; obtain ⟨⟨J2, H2, he, hJ2, hH2⟩, HB⟩ := hv; subst he; have HJ2 := hide hJ2; have HH2 := hide hH2; have HKv := hide K.1; have HBv := hide HB; replace K : Ke w11 v2 t (.slice A8 N8 c8) := K.below HB; clear HB hJ2 hH2)))
  obtain ⟨al, hal⟩ : ∃ al : Nat → Bool, al = fun k => decide (blkB cur k = blkB (layB cur At change) k) := ⟨_, rfl⟩
  have sv := (unhide HKv).size
  have sv2 := (unhide HBv).size
  have hTrio : Trio v2 (.pointer (some ⟨sp, 0, none⟩)) 60 G J2 H2 2 1 (List.range NB) E q2 (fun b => b = q2 ∨ b = m2) (fun b => b = p ∨ b = g) NB cu2 (fun _ => false) (noneL 64, ES) := by
    have hJ := unhide HJ2
    rw [← extsL_none] at hJ
    have hG := unhide HG
    have hGl := unhide HGl
    have hH := unhide HH2
    have hF := (unhide HS2).lt
    refine ⟨hJ, ((unhide HS2).below (unhide HKv)).below (unhide HBv), ((unhide HP11).below (unhide HKv)).below (unhide HBv), ⟨fun k hk hf => ?_, fun k hk hf => ?_, fun k hk hf => ?_, fun k hk hf => ?_, fun k hk hf => ?_, fun k hk hf => ?_⟩⟩
    · have h1 := hGl k hk
      rcases hf with rfl | rfl <;> omega
    · have h1 := hGl k hk
      have h2 := hH k hf
      omega
    · have h1 := hF k hk
      have h2 := hH k hf
      omega
    · have h1 := hG k hk
      rcases hf with rfl | rfl <;> omega
    · rcases hk with rfl | rfl <;> rcases hf with rfl | rfl <;> omega
    · have h2 := hH k hk
      rcases hf with rfl | rfl <;> omega
  have hD : DInv E al NB cu2 48 (List.range NB) (noneL 64, ES) := by
    have hji := unhide HJI
    refine ⟨⟨NB, ⟨by omega, unhide Hcs2, noneL_len (Nat.le_refl _), InPool.none, hji.ok, hji.few, hji.refs, fun k hk => List.mem_range.1 hk, List.pairwise_lt_range, fun _ _ j _ h => ?_⟩, ?_⟩, fun k hk => ?_⟩
    · show (noneL 64).getD j 0 < 0
      rw [noneL_get j h]; omega
    · have := touched_few (cur := cur) (b := change) (a := At) (n := NB) (by have := unhide Hcs; omega) hc
      rw [hal]
      omega
    · have hk := List.mem_range.1 hk
      have hf := unhide HFa k hk
      refine ⟨L1.getD k 0, blkB cur k, ?_, hf.1, ?_⟩
      · rw [unhide HE, findX_exts L1 hji.inp 64 (Nat.le_refl _) k (by omega), if_pos ⟨by omega, hf.2⟩]
      · rw [hal, unhide Hcu2]
  have hst := step_delta al 48 100 0 NB (by simp; omega) hTrio hD (by decide) (by decide) (unhide Hfine).2 (fun _ _ => rfl) (by decide) (by simp; omega)
  have hset := (delta_set (by decide) (List.range NB) (noneL 64, ES) hD).2
  obtain ⟨SS, hSS⟩ : ∃ s, s = runK (deltaF al cu2) (List.range NB) (noneL 64, ES) := ⟨_, rfl⟩
  rw [← hSS] at hset
  have hspan : InPool SS.1 → spansB (fun k => (saidK (ofL (extsL SS.1 64)) 64).getD k false) 64 = unlikeR cur cu2 NB := fun hin => by
    have e0 : ∀ j, j < 64 → (saidK (ofL (extsL SS.1 64)) 64).getD j false = (decide (j < NB) && !al j) := fun j hj => by
      rw [saidK_get (ofL_len _) hj, ofL_exts SS.1 hin 64 (Nat.le_refl _) j hj]
      have h1 := hset j hj
      have h2 : ¬ 0 ≤ (noneL 64).getD j 0 := by rw [noneL_get j hj]; omega
      rw [Bool.eq_iff_iff]
      simp only [decide_eq_true_eq, Bool.and_eq_true, Bool.not_eq_true']
      constructor
      · intro h
        split at h
        · rename_i hh
          rcases h1.1 hh.2 with h3 | h3
          · exact absurd h3 h2
          · exact ⟨List.mem_range.1 h3.1, h3.2⟩
        · omega
      · intro h
        have h3 := h1.2 (.inr ⟨List.mem_range.2 h.1, h.2⟩)
        rw [if_pos ⟨hj, h3⟩]
        exact h3
    rw [spansB_congr (C := fun j => decide (j < NB) && !al j) 64 e0]
    have e1 := spansB_rest (B := fun j => decide (j < NB) && !al j) (n := NB) (fun j hj => by simp; omega) (64 - NB)
    rw [show NB + (64 - NB) = 64 by omega] at e1
    rw [e1, ← spansB_unlike (a := cur) (b := cu2) (by omega) (fun j hj => ?_) NB (Nat.le_refl _)]
    rw [hal, unhide Hcu2]
    simp [hj]
  have Hspan := hide hspan
  have Hst := hide hst
  have HSS := hide hSS
  have hchg : ∀ b, b < v2.heap.size → (G b ∨ (b = q2 ∨ b = m2) ∨ H2 b) → (w1.heap.size ≤ b ∧ b < w2.heap.size) ∨ w4.heap.size ≤ b := fun b hb h => by
    rcases h with h | h | h
    · have := unhide HG b h
      omega
    · right
      rcases h with rfl | rfl <;> omega
    · have := unhide HH2 b h
      omega
  have Hchg := hide hchg
  have HT2 := hide hTrio
  have HF12 := hide (((unhide HF11).below (unhide HKv)).below (unhide HBv))
  have HC12 := hide (((unhide HC11).below (unhide HKv)).below (unhide HBv))
  have HB12 := hide ((unhide HB11).trans (((unhide HKv).trans ((unhide HBv).mono sv)).mono (unhide HB11).size))
  have w11s := (unhide HB11).size
  clear hTrio hD hst hset hSS hspan hal hchg HF11 HC11 HB11 HP11 HS2 HJ2 HH2 K HO11
  go_wp2_with fail
  refine (unhide Hst).mono ?_
  rintro e v3 ⟨rfl, G3, H3, hT3, hD3, hW3a, hW3b, C3⟩
  have et : (List.range NB).take NB = List.range NB := List.take_of_length_le (by simp)
  have ed : (List.range NB).drop NB = [] := List.drop_eq_nil_of_le (by simp)
  rw [et, ed, ← unhide HSS] at hT3
  rw [et, ed, ← unhide HSS] at hD3
  have s3v := C3.size
  have hin : InPool SS.1 := by
    obtain ⟨m', hm', _⟩ := hD3.inv
    exact hm'.inp
  have hno : ∀ b, b < v2.heap.size → ¬ ((w1.heap.size ≤ b ∧ b < w2.heap.size) ∨ w4.heap.size ≤ b) → v3.heap[b]? = v2.heap[b]? := fun b hb hn => C3.block b hb fun h => h.elim (fun h => hn (unhide Hchg b hb h)) fun h => by omega
  have F13 := hide ((unhide HF12).kept C3.size (hno p (by omega) (by omega)) (hno g (by omega) (by omega)))
  have C13 := hide ((unhide HC12).kept C3.size (hno p4 (by omega) (by omega)) (hno g4 (by omega) (by omega)))
  have B13 := hide ((unhide HB12).trans (C3.to_below (unhide HB12).size fun b hb => by
    rcases Nat.lt_or_ge b v2.heap.size with h | h
    · rcases hb with hb | hb
      · have := unhide Hchg b h hb
        omega
      · omega
    · have := (unhide HB12).size; omega))
  have wv := (unhide B13).size
  have Hp := hide (point_done 2 hT3.job (exts_fine _ hin).1)
  have Hsp := hide (unhide Hspan hin)
  obtain ⟨EX, hEX⟩ : ∃ E, E = extsL SS.1 64 := ⟨_, rfl⟩
  rw [← hEX] at Hp Hsp
  obtain ⟨NX, hNX⟩ : ∃ n, n = EX.length := ⟨_, rfl⟩
  rw [← hNX] at Hp
  have HNX := hide hNX
  clear hT3 hD3 C3 hin hno hEX hNX HF12 HC12 HB12 Hst HT2 Hspan Hchg et ed hW3a hW3b HSS
  go_wp2_with fail
  refine (unhide Hp).mono ?_
  rintro e v4 ⟨⟨A4, d4, rfl, ho4⟩, B4⟩
  obtain ⟨v5, hv5⟩ : ∃ W, W = v4.alloc (.cells #[.int .i64 2, .int .i64 2, .int .i64 1, .slice A4 NX d4] 44) := ⟨_, rfl⟩
  have B5 : Below v4.heap.size v4 v5 := by rw [hv5]; exact (Below.refl _ _).alloc (Nat.le_refl _) _
  have s4v := B4.size
  have s5v := B5.size
  have hsl5 : Sl eE v5 A4 NX d4 EX := by
    obtain ⟨_, _, hv, hs', _⟩ := (ho4.below B5).sl
    injection hv with v1 v2 v3
    rw [v1, v2, v3]; exact hs'
  have Hof2 := hide (of_any A4 NX d4 EX v5 hsl5)
  have BX := hide (B4.trans (B5.mono (by omega)))
  clear ho4 B4 B5 hsl5 Hp
  go_wp2_with fail
  rw [← hv5]
  clear hv5
  refine (unhide Hof2).mono ?_
  rintro e v6 ⟨rfl, HB6⟩
  have s6v := HB6.size
  have BX6 := hide ((unhide BX).trans (HB6.mono (by omega)))
  obtain ⟨M, hM⟩ : ∃ M, M = ofL EX := ⟨_, rfl⟩
  have hMl : M.length = 64 := by rw [hM]; exact ofL_len _
  rw [← hM] at Hsp ⊢
  have HMl := hide hMl
  clear hM HB6 BX Hof2 hMl
  go_wp2_with fail
  refine (said_any M (unhide HMl) v6).mono ?_
  rintro e v7 ⟨rfl, HB7⟩
  have s7v := HB7.size
  have BX7 := hide ((unhide BX6).trans (HB7.mono (by omega)))
  obtain ⟨SB, hSB⟩ : ∃ M', M' = saidK M 64 := ⟨_, rfl⟩
  have hSl : SB.length = 64 := by rw [hSB]; exact saidK_len (unhide HMl) (Nat.le_refl _)
  rw [← hSB] at Hsp ⊢
  have hspan := spans_any SB hSl v7
  rw [unhide Hsp] at hspan
  have Hspa := hide hspan
  clear hSB HB7 BX6 hSl hspan
  go_wp2_with fail
  refine (unhide Hspa).mono ?_
  rintro e v8 ⟨⟨A8', c8', rfl, ho8⟩, HB8⟩
  have s8v := HB8.size
  have hBX8 := (unhide BX7).trans (HB8.mono (by omega))
  have BX8 := hide hBX8
  have Hun := hide (unlike_any NB ((unhide C13).below hBX8) ((unhide F13).below hBX8) (unhide Hcs) (unhide Hcs2) (by omega))
  obtain ⟨SP, hSP⟩ : ∃ l, l = unlikeR cur cu2 NB := ⟨_, rfl⟩
  rw [← hSP] at Hun ho8 ⊢
  obtain ⟨NP, hNP⟩ : ∃ n, n = SP.length := ⟨_, rfl⟩
  rw [← hNP] at Hun ho8 ⊢
  have HO8 := hide ho8
  clear hSP hNP ho8 hBX8 HB8 BX7 Hspa
  go_wp2_with fail
  refine (unhide Hun).mono ?_
  rintro e v9 ⟨⟨A9, c9, rfl, ho9⟩, HB9⟩
  have s9v := HB9.size
  have hA1 : Sl eSp v9 A8' NP c8' SP := by
    obtain ⟨_, _, hv, hs', _⟩ := ((unhide HO8).below HB9).sl
    injection hv with v1 v2 v3
    rw [v1, v2, v3]; exact hs'
  have hA2 : Sl eSp v9 A9 NP c9 SP := by
    obtain ⟨_, _, hv, hs', _⟩ := ho9.sl
    injection hv with v1 v2 v3
    rw [v1, v2, v3]; exact hs'
  have BX9 := hide ((unhide BX8).trans (HB9.mono (by omega)))
  have Hss := hide (sameSpans_yes A8' c8' A9 c9 NP SP v9 hA1 hA2)
  clear hA1 hA2 ho9 HB9 HO8 BX8 Hun
  go_wp2_with fail
  refine (unhide Hss).mono ?_
  rintro e v10 ⟨rfl, dq, hv10⟩
  have BF := hide ((unhide B13).trans ((by rw [hv10]; exact below_drewN (unhide BX9) dq : Below v3.heap.size v3 v10).mono wv))
  clear hv10 Hss
  go_wp2_with fail
  go_ret
  exact ⟨rfl, unhide BF⟩
theorem alike_any (bl : Int) (first : ByteArray) (at_ : Int) (change : ByteArray) (w : World) :
    Calls Tryz.prog 4 #[.int .i64 bl, .string first, .int .i64 at_, .string change] w fun e w' => e = .returned (.bool true) ∧ Below w.heap.size w w' := by
  by_cases h : bl < 1 ∨ 40 < bl ∨ 400 < first.size ∨ 50 < change.size ∨ at_ < 0 ∨ bl * 8 - change.size < at_
  · exact alike_out bl at_ first change w h
  · obtain ⟨NB, rfl⟩ : ∃ NB : Nat, bl = (NB : Int) := ⟨bl.toNat, by omega⟩
    obtain ⟨At, rfl⟩ : ∃ At : Nat, at_ = (At : Int) := ⟨at_.toNat, by omega⟩
    exact alike_in NB At first change w (by omega) (by omega) (by omega) (by omega) (by omega)
end Go.Proofs.YtjjfdkdneibjbaaGreatDoor
