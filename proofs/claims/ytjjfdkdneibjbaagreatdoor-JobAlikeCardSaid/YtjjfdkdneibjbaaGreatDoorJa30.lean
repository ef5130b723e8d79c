/- Joined texts: JobB, JobC, JobD, JobE, JobF. -/
import Derived.Test.YtjjfdkdneibjbaaGreatDoorJa17
import Derived.Test.YtjjfdkdneibjbaaGreatDoorJa29
import Derived.StillTail
import Derived.Test.YtjjfdkdneibjbaaGreatDoorJa13
/- Walk of package job: a block is looked at, and taken. -/
namespace Go.Proofs.YtjjfdkdneibjbaaGreatDoor
open Go.RowKit

/-- The own blocks of a pool, a still, a job, and those of the volume have nothing in common. -/
structure Dj (G F H I : Nat → Prop) : Prop where
  gf : ∀ k, G k → ¬ F k
  gh : ∀ k, G k → ¬ H k
  fh : ∀ k, F k → ¬ H k
  gi : ∀ k, G k → ¬ I k
  fi : ∀ k, F k → ¬ I k
  hi : ∀ k, H k → ¬ I k
theorem Dj.went {w : World} {G G' F H I : Nat → Prop} (h : Dj G F H I) (hG : Went G G' w) (hF : ∀ k, F k → k < w.heap.size) (hH : ∀ k, H k → k < w.heap.size) (hI : ∀ k, I k → k < w.heap.size) : Dj G' F H I :=
  ⟨fun k hk hf => (hG.from' k hk).elim (fun h1 => h.gf k h1 hf) fun h1 => absurd (hF k hf) (by omega), fun k hk hf => (hG.from' k hk).elim (fun h1 => h.gh k h1 hf) fun h1 => absurd (hH k hf) (by omega), h.fh,
    fun k hk hf => (hG.from' k hk).elim (fun h1 => h.gi k h1 hf) fun h1 => absurd (hI k hf) (by omega), h.fi, h.hi⟩
theorem Dj.wentH {w : World} {G F H H' I : Nat → Prop} (h : Dj G F H I) (hH : Went H H' w) (hG : ∀ k, G k → k < w.heap.size) (hF : ∀ k, F k → k < w.heap.size) (hI : ∀ k, I k → k < w.heap.size) : Dj G F H' I :=
  ⟨h.gf, fun k hk hf => (hH.from' k hf).elim (fun h1 => h.gh k hk h1) fun h1 => absurd (hG k hk) (by omega), fun k hk hf => (hH.from' k hf).elim (fun h1 => h.fh k hk h1) fun h1 => absurd (hF k hk) (by omega),
    h.gi, h.fi, fun k hk hf => (hH.from' k hk).elim (fun h1 => h.hi k h1 hf) fun h1 => absurd (hI k hf) (by omega)⟩
/-- A job, its still, its pool. -/
structure Trio (w : World) (sp : Value) (most : Int) (G : Nat → Prop) (J : Nat) (H : Nat → Prop) (kd day : Int) (T : List Nat) (old : List Ext) (q : Nat) (F I : Nat → Prop) (n : Nat) (was : ByteArray) (gone : Nat → Bool) (s : JS) : Prop where
  job : JobIs w J H kd day T q old (extsL s.1 64)
  still : Stl w q F I n was gone
  pool : Plt w G sp most s.2
  dj : Dj G F H I
theorem setCell_chg (a : Addr) (v : Value) (w : World) : Chg (fun b => b = a.block) w (w.setCell a v) :=
  ⟨rfl, rfl, rfl, by simp [World.setCell], fun _ _ hb => Below.heap_setCell _ _ _ _ hb⟩
theorem Went.back {w w1 : World} {G G' : Nat → Prop} (h : Went G G' w1) (hs : w.heap.size ≤ w1.heap.size) : Went G G' w := ⟨fun k hk => (h.from' k hk).elim .inl fun e => .inr (Nat.le_trans hs e)⟩
section
variable {w w' : World} {sp : Value} {most : Int} {G : Nat → Prop} {J : Nat} {H X : Nat → Prop} {kd day : Int} {T : List Nat} {old : List Ext} {q : Nat} {F I : Nat → Prop} {n : Nat} {was : ByteArray} {gone : Nat → Bool} {s : JS}
theorem Stl.lt (h : Stl w q F I n was gone) : ∀ b, F b → b < w.heap.size := by
  obtain ⟨m, p, g, c, cur, K, G, h1, h2, h3, h4, h5, h6, h7, h8, h9, h10, h11⟩ := h
  exact h10
theorem Stl.ltI (h : Stl w q F I n was gone) : ∀ b, I b → b < w.heap.size := by
  obtain ⟨m, p, g, c, cur, K, G, h1, h2, h3, h4, h5, h6, h7, h8, h9, h10, h11⟩ := h
  exact h11
theorem Trio.below (h : Trio w sp most G J H kd day T old q F I n was gone s) (hb : Below w.heap.size w w') : Trio w' sp most G J H kd day T old q F I n was gone s :=
  ⟨h.job.below hb, h.still.below hb, h.pool.below hb, h.dj⟩
theorem Trio.chg (h : Trio w sp most G J H kd day T old q F I n was gone s) (hc : Chg X w w') (hG : ∀ k, G k → ¬ X k) (hF : ∀ k, F k → ¬ X k) (hH : ∀ k, H k → ¬ X k) (hI : ∀ k, I k → ¬ X k) : Trio w' sp most G J H kd day T old q F I n was gone s :=
  ⟨h.job.chg hc hH, h.still.chg hc hF hI, h.pool.chg hc hG, h.dj⟩
set_option maxHeartbeats 4000000 in
set_option maxRecDepth 100000 in
theorem look_take (k m : Nat) (h : Trio w sp most G J H kd day (k :: T) old q F I n was gone s) (hi : JInv n was m (k :: T) s) (hmm : (m : Int) < most) (hm60 : most ≤ 60) (hg : gone k = false)
    (hal : kd = 2 → ∀ w', Below w.heap.size w w' → Calls Tryz.prog 126 #[.pointer (some ⟨J, 0, none⟩), sp, .int .i64 (k : Int), .string (blkB was k)] w' fun e w'' => e = .returned (.bool false) ∧ Below w'.heap.size w' w'') :
    Calls Tryz.prog 62 #[.pointer (some ⟨J, 0, none⟩), sp, .int .i64 (k : Int)] w fun e w' => e = .returned (.int .i64 0) ∧ ∃ G' H', Trio w' sp most G' J H' kd day (k :: T) old q F I n was gone (takeF was s k) ∧ Went G G' w ∧ Went H H' w ∧ Chg (fun b => G b ∨ b = J) w w' := by
  have hm : m < 60 := by omega
  have hk := hi.lt k List.mem_cons_self
  have c0 := h.job.c0
  have c3 := h.job.c3
  have Hb := hide (stl_block k h.still hk hg)
  have h8 := hi.blk
  have few := hi.few
  have Hr := hide hi.refs
  have HI := hide hi
  have n64 := hi.n64
  have key : ∀ w1, Below w.heap.size w w1 → Calls Tryz.prog 30 #[sp, .string (blkB was k)] w1 fun e w' => e = .returned (.tuple #[.int .i64 (putF s.2 (blkB was k)).1, .int .i64 0]) ∧ ∃ G', Plt w' G' sp most (putF s.2 (blkB was k)).2 ∧ Went G G' w1 ∧ Chg G w1 w' := fun w1 hb =>
    plt_put _ (h.pool.below hb) h8 (by omega) (by omega) (by omega) (fun i t r e => by have := hi.refs i t r e; omega)
  have Key := hide key
  have Hal := hide hal
  have HT := hide h
  obtain ⟨sp', rfl⟩ : ∃ p, sp = .pointer (some ⟨p, 0, none⟩) := h.pool.pl.ptr
  obtain ⟨B, hB⟩ : ∃ B, B = blkB was k := ⟨_, rfl⟩
  obtain ⟨P, hP⟩ : ∃ P, P = putF s.2 B := ⟨_, rfl⟩
  have Hset := hide (hi.set hm)
  have Hp := hide (hi.ok.put (b := blkB was k) h8 (by omega))
  have hta : takeF was s k = (s.1.set k P.1, P.2) := by rw [hP, hB]; rfl
  rw [hta] at Hset ⊢
  rw [← hB] at Hb Key Hal h8 Hset Hp
  rw [← hP] at Key Hset Hp
  obtain ⟨id, es'⟩ := P
  have HBk := hide hB
  clear h hi key hal hta hP hB
  have fin : ∀ w1, Below w.heap.size w w1 → Calls Tryz.prog 30 #[.pointer (some ⟨sp', 0, none⟩), .string B] w1 fun e w' => e = .returned (.tuple #[.int .i64 id, .int .i64 0]) ∧ ∃ G', Plt w' G' (.pointer (some ⟨sp', 0, none⟩)) most es' ∧ Went G G' w1 ∧ Chg G w1 w' := unhide Key
  have Fin := hide fin
  clear fin Key
  rcases Decidable.em (kd = 2) with hkd | hkd
  · subst hkd
    have Hal2 := hide (unhide Hal rfl)
    clear Hal
    go_enter Tryz.func62, Tryz.ntmps62
    go_wp2_with fail
    refine (unhide Hb).mono ?_
    rintro e w2 ⟨rfl, hw2⟩
    subst hw2
    go_wp2_with fail
    refine (unhide Hal2 w2 (Below.refl _ _)).mono ?_
    rintro e wA ⟨rfl, HBA⟩
    have c3 := ((bcell HBA).1 _ 3 (unhide HT).job.lt).trans c3
    go_wp2_with fail
    refine (unhide Fin wA HBA).mono ?_
    rintro e w3 ⟨rfl, G', hP', hW, hC⟩
    have C3 := (Chg.of_below (F := G) HBA).trans hC
    have hW := hW.back HBA.size
    have hJ3 := (unhide HT).job.chg C3 (fun b hb hg => (unhide HT).dj.gh b hg hb)
    have hS3 := hide ((unhide HT).still.chg C3 (fun b hb hg => (unhide HT).dj.gf b hg hb) (fun b hb hg => (unhide HT).dj.gi b hg hb))
    obtain ⟨v, c5, ho, hA5⟩ := hJ3.set
    obtain ⟨A5, d5, rfl, hs5, _⟩ := ho.sl
    have HJ3 := hide hJ3
    have HP3 := hide hP'
    have HC3 := hide C3
    have HI := unhide HI
    have hFi := exts_fine s.1 HI.inp
    have Hset4 : Calls Tryz.prog 127 #[.slice A5 (extsL s.1 64).length d5, .agg #[.int .i64 (k : Int), .int .i64 1, .int .i64 id]] w3 fun e w' => (∃ v', e = .returned v' ∧ Own eE 107 w' w3.heap.size v' (extsL (s.1.set k id) 64)) ∧ Below w3.heap.size w3 w' := by
      rw [← unhide Hset]
      exact set_ex A5 (extsL s.1 64).length d5 (extsL s.1 64) ⟨k, 1, id⟩ w3 hs5 hFi.1 hFi.2 (extsL_noone s.1 HI.inp 64 (Nat.le_refl _)) ⟨by simp, by simp, by show (k : Int) + 1 ≤ 64; omega, (unhide Hp).id0, fun _ => by have := (unhide Hp).id1; show id + 1 ≤ 61; omega⟩ HI.ends
    obtain ⟨N, hN⟩ : ∃ N, N = (extsL s.1 64).length := ⟨_, rfl⟩
    rw [← hN] at Hset4 c5
    have Hset4 := hide Hset4
    clear hJ3 ho hs5 hP' hC C3 hN hFi Hset
    go_wp2_with fail
    refine (unhide Hset4).mono ?_
    rintro e w4 ⟨⟨v4, rfl, ho4⟩, HB4⟩
    obtain ⟨A4, d4, rfl, _, hA4⟩ := ho4.sl
    have lJ3 := (unhide HJ3).lt
    have d5' := ((bcell HB4).1 _ 5 lJ3).trans c5
    have z5 := ((bcell HB4).2 _ 5 lJ3).trans (unhide HJ3).z5
    have HO4 := hide ho4
    have HBB := hide HB4
    obtain ⟨N4, hN4⟩ : ∃ N, N = (extsL (s.1.set k id) 64).length := ⟨_, rfl⟩
    rw [← hN4] at HO4 ⊢
    clear ho4 HB4 hN4 c5 Hset4
    go_wp2_with fail
    go_ret
    have ho4 := unhide HO4
    have HB4 := unhide HBB
    have hT := unhide HT
    have hJ := hT.job.lt
    have CJ := setCell_chg ⟨J, 5, none⟩ (Value.slice A4 N4 d4) w4
    have hnJ : ∀ b, (Value.slice A4 N4 d4).ownBlock = some b → w3.heap.size ≤ b := fun b e => (ho4.lt b e).1
    refine ⟨rfl, G', fun b => H b ∨ (Value.slice A4 N4 d4).ownBlock = some b, ⟨?_, ?_, ?_, ?_⟩, hW, ⟨fun b hb => hb.elim .inl fun e => .inr ?_⟩, ((unhide HC3).mono fun b _ hb => .inl hb).trans ((Chg.of_below HB4).trans (CJ.mono fun b _ hb => .inr hb))⟩
    · exact ((unhide HJ3).below HB4).setSet (ho4.lower (Nat.zero_le _)) fun b e he => by have := hnJ b e; omega
    · exact ((unhide hS3).below HB4).chg CJ (fun b hb e => hT.dj.fh b hb (by rw [show b = J from e]; exact hT.job.hJ)) (fun b hb e => hT.dj.hi b (by rw [show b = J from e]; exact hT.job.hJ) hb)
    · refine ((unhide HP3).below HB4).chg CJ fun b hb e => ?_
      obtain rfl : b = J := e
      exact (hW.from' b hb).elim (fun h => hT.dj.gh b h hT.job.hJ) fun h => by omega
    · exact (hT.dj.went hW hT.still.lt hT.job.hlt hT.still.ltI).wentH (w := w3) ⟨fun b hb => hb.elim .inl fun e => .inr (hnJ b e)⟩ (unhide HP3).lt (fun b hb => (unhide hS3).lt b hb) (fun b hb => (unhide hS3).ltI b hb)
    · have := hnJ b e
      have := (unhide HC3).size
      omega
  · have qk : (kd == 2) = false := beq_eq_false_iff_ne.2 hkd
    go_enter Tryz.func62, Tryz.ntmps62
    go_wp2_with fail
    refine (unhide Hb).mono ?_
    rintro e w2 ⟨rfl, hw2⟩
    subst hw2
    go_wp2_with fail
    have HBA : Below w2.heap.size w2 w2 := Below.refl _ _
    refine (unhide Fin w2 HBA).mono ?_
    rintro e w3 ⟨rfl, G', hP', hW, hC⟩
    have C3 := (Chg.of_below (F := G) HBA).trans hC
    have hW := hW.back HBA.size
    have hJ3 := (unhide HT).job.chg C3 (fun b hb hg => (unhide HT).dj.gh b hg hb)
    have hS3 := hide ((unhide HT).still.chg C3 (fun b hb hg => (unhide HT).dj.gf b hg hb) (fun b hb hg => (unhide HT).dj.gi b hg hb))
    obtain ⟨v, c5, ho, hA5⟩ := hJ3.set
    obtain ⟨A5, d5, rfl, hs5, _⟩ := ho.sl
    have HJ3 := hide hJ3
    have HP3 := hide hP'
    have HC3 := hide C3
    have HI := unhide HI
    have hFi := exts_fine s.1 HI.inp
    have Hset4 : Calls Tryz.prog 127 #[.slice A5 (extsL s.1 64).length d5, .agg #[.int .i64 (k : Int), .int .i64 1, .int .i64 id]] w3 fun e w' => (∃ v', e = .returned v' ∧ Own eE 107 w' w3.heap.size v' (extsL (s.1.set k id) 64)) ∧ Below w3.heap.size w3 w' := by
      rw [← unhide Hset]
      exact set_ex A5 (extsL s.1 64).length d5 (extsL s.1 64) ⟨k, 1, id⟩ w3 hs5 hFi.1 hFi.2 (extsL_noone s.1 HI.inp 64 (Nat.le_refl _)) ⟨by simp, by simp, by show (k : Int) + 1 ≤ 64; omega, (unhide Hp).id0, fun _ => by have := (unhide Hp).id1; show id + 1 ≤ 61; omega⟩ HI.ends
    obtain ⟨N, hN⟩ : ∃ N, N = (extsL s.1 64).length := ⟨_, rfl⟩
    rw [← hN] at Hset4 c5
    have Hset4 := hide Hset4
    clear hJ3 ho hs5 hP' hC C3 hN hFi Hset
    go_wp2_with fail
    refine (unhide Hset4).mono ?_
    rintro e w4 ⟨⟨v4, rfl, ho4⟩, HB4⟩
    obtain ⟨A4, d4, rfl, _, hA4⟩ := ho4.sl
    have lJ3 := (unhide HJ3).lt
    have d5' := ((bcell HB4).1 _ 5 lJ3).trans c5
    have z5 := ((bcell HB4).2 _ 5 lJ3).trans (unhide HJ3).z5
    have HO4 := hide ho4
    have HBB := hide HB4
    obtain ⟨N4, hN4⟩ : ∃ N, N = (extsL (s.1.set k id) 64).length := ⟨_, rfl⟩
    rw [← hN4] at HO4 ⊢
    clear ho4 HB4 hN4 c5 Hset4
    go_wp2_with fail
    go_ret
    have ho4 := unhide HO4
    have HB4 := unhide HBB
    have hT := unhide HT
    have hJ := hT.job.lt
    have CJ := setCell_chg ⟨J, 5, none⟩ (Value.slice A4 N4 d4) w4
    have hnJ : ∀ b, (Value.slice A4 N4 d4).ownBlock = some b → w3.heap.size ≤ b := fun b e => (ho4.lt b e).1
    refine ⟨rfl, G', fun b => H b ∨ (Value.slice A4 N4 d4).ownBlock = some b, ⟨?_, ?_, ?_, ?_⟩, hW, ⟨fun b hb => hb.elim .inl fun e => .inr ?_⟩, ((unhide HC3).mono fun b _ hb => .inl hb).trans ((Chg.of_below HB4).trans (CJ.mono fun b _ hb => .inr hb))⟩
    · exact ((unhide HJ3).below HB4).setSet (ho4.lower (Nat.zero_le _)) fun b e he => by have := hnJ b e; omega
    · exact ((unhide hS3).below HB4).chg CJ (fun b hb e => hT.dj.fh b hb (by rw [show b = J from e]; exact hT.job.hJ)) (fun b hb e => hT.dj.hi b (by rw [show b = J from e]; exact hT.job.hJ) hb)
    · refine ((unhide HP3).below HB4).chg CJ fun b hb e => ?_
      obtain rfl : b = J := e
      exact (hW.from' b hb).elim (fun h => hT.dj.gh b h hT.job.hJ) fun h => by omega
    · exact (hT.dj.went hW hT.still.lt hT.job.hlt hT.still.ltI).wentH (w := w3) ⟨fun b hb => hb.elim .inl fun e => .inr (hnJ b e)⟩ (unhide HP3).lt (fun b hb => (unhide hS3).lt b hb) (fun b hb => (unhide hS3).ltI b hb)
    · have := hnJ b e
      have := (unhide HC3).size
      omega
end
end Go.Proofs.YtjjfdkdneibjbaaGreatDoor
/- Walk of package job: the next blocks are looked at. -/
namespace Go.Proofs.YtjjfdkdneibjbaaGreatDoor
open Go.RowKit

/-- What was let go, when these blocks are. -/
def goneF (gone : Nat → Bool) (D : List Nat) : Nat → Bool := fun j => gone j || decide (j ∈ D)
theorem goneF_snoc (gone : Nat → Bool) (D : List Nat) (k : Nat) : (fun j => if j = k then true else goneF gone D j) = goneF gone (D ++ [k]) := by
  funext j
  unfold goneF
  by_cases h : j = k
  · simp [h]
  · simp [h]
theorem goneF_nil (gone : Nat → Bool) : goneF gone [] = gone := by
  funext j
  simp [goneF]
section
variable {w w' : World} {sp : Value} {most : Int} {G : Nat → Prop} {J : Nat} {H : Nat → Prop} {kd day : Int} {T : List Nat} {old : List Ext} {q : Nat} {F I : Nat → Prop} {n : Nat} {was : ByteArray} {gone : Nat → Bool} {s : JS}
set_option maxHeartbeats 1000000 in
theorem find_none (c : Nat) (A : Option Addr) (k : Int) (w : World) : Calls Tryz.prog 163 #[.slice A 0 c, .int .i64 k] w fun e w' => e = .returned (.tuple #[.int .i64 0, .bool false]) ∧ w' = w := by
  go_enter Tryz.func163, Tryz.ntmps163
  go_wp2_with fail
  go_loopw [10] (fun j wr => j = .int .i64 0 ∧ wr = w) (fun j _ => 0 - (intOf j).toNat)
  case atStart => exact ⟨rfl, rfl⟩
  case round =>
    obtain ⟨rfl, hw⟩ := hrel
    subst hw
    go_wp2_with fail
    go_ret2
    exact ⟨rfl, rfl⟩
set_option maxHeartbeats 1000000 in
theorem alike_none (k : Int) (b : ByteArray) {l : List Ext} (h : JobIs w J H kd day T q [] l) : Calls Tryz.prog 126 #[.pointer (some ⟨J, 0, none⟩), sp, .int .i64 k, .string b] w fun e w' => e = .returned (.bool false) ∧ w' = w := by
  obtain ⟨v, c4, ho, _⟩ := h.old
  obtain ⟨A, c, rfl, hs, _⟩ := ho.sl
  have c4 : w.cell? ⟨J, 4, none⟩ = some (.slice A 0 c) := c4
  have b2 := hs.2.2.1
  have Hf := hide (find_none c A k w)
  clear h ho hs
  go_enter Tryz.func126, Tryz.ntmps126
  go_wp2_with fail
  refine (unhide Hf).mono ?_
  rintro e w2 ⟨rfl, hw2⟩
  subst hw2
  go_wp2_with fail
  go_ret
  exact ⟨rfl, rfl⟩
theorem Trio.letGo (h : Trio w sp most G J H kd day T old q F I n was gone s) {gone' : Nat → Bool} (hs : Stl w' q F I n was gone') (hc : Chg F w w') : Trio w' sp most G J H kd day T old q F I n was gone' s :=
  ⟨h.job.chg hc fun b hb hf => h.dj.fh b hf hb, hs, h.pool.chg hc fun b hb hf => h.dj.gf b hb hf, h.dj⟩
theorem Trio.wrote (h : Trio w sp most G J H kd day T old q F I n was gone s) (hs : Stl w' q F I n was gone) (hc : Chg (fun b => F b ∨ I b) w w') : Trio w' sp most G J H kd day T old q F I n was gone s :=
  ⟨h.job.chg hc fun b hb hf => hf.elim (fun hf => h.dj.fh b hf hb) (h.dj.hi b hb), hs, h.pool.chg hc fun b hb hf => hf.elim (h.dj.gf b hb) (h.dj.gi b hb), h.dj⟩
theorem Trio.todo (h : Trio w sp most G J H kd day T old q F I n was gone s) {A : Option Addr} {m c : Nat} {U : List Nat} (hv : Sl eI w A m c (U.map Int.ofNat)) (hn : ∀ b off, A = some ⟨b, off, none⟩ → H b ∧ b ≠ J) : Trio (w.setCell ⟨J, 2, none⟩ (.slice A m c)) sp most G J H kd day U old q F I n was gone s :=
  have CJ := setCell_chg ⟨J, 2, none⟩ (Value.slice A m c) w
  ⟨h.job.setTodo hv hn, h.still.chg CJ (fun b hb e => h.dj.fh b hb (by rw [show b = J from e]; exact h.job.hJ)) (fun b hb e => h.dj.hi b (by rw [show b = J from e]; exact h.job.hJ) hb), h.pool.chg CJ fun b hb e => h.dj.gh b hb (by rw [show b = J from e]; exact h.job.hJ), h.dj⟩
/-- So many of the blocks that were left were taken. -/
def Stepped (w : World) (sp : Value) (most : Int) (G : Nat → Prop) (J : Nat) (H : Nat → Prop) (kd day : Int) (T : List Nat) (old : List Ext) (q : Nat) (F I : Nat → Prop) (n : Nat) (was : ByteArray) (gone : Nat → Bool) (s : JS) (m r : Nat) (wr : World) : Prop :=
  ∃ G1 H1, Trio wr sp most G1 J H1 kd day (T.drop r) old q F I n was (goneF gone (T.take r)) (runT was (T.take r) s) ∧ JInv n was (m + r) (T.drop r) (runT was (T.take r) s) ∧ Went G G1 w ∧ Went H H1 w ∧ Chg (fun b => (G b ∨ F b ∨ H b) ∨ w.heap.size ≤ b) w wr
theorem Stepped.refl {m : Nat} (h : Trio w sp most G J H kd day T old q F I n was gone s) (hi : JInv n was m T s) : Stepped w sp most G J H kd day T old q F I n was gone s m 0 w :=
  ⟨G, H, by rw [List.take_zero, goneF_nil]; exact h, hi, Went.refl _ _, Went.refl _ _, Chg.refl _ _⟩
theorem sl_tail {A : Option Addr} {L c b off : Nat} {k : Nat} {U : List Nat} (hs : Sl eI w A L c ((k :: U).map Int.ofNat)) (hA : A = some ⟨b, off, none⟩) : (c ≠ 1 → Sl eI w (some ⟨b, off + 1, none⟩) (L - 1) (c - 1) (U.map Int.ofNat)) ∧ (c = 1 → Sl eI w (some ⟨b, off, none⟩) (L - 1) (c - 1) (U.map Int.ofNat)) := by
  obtain ⟨h1, h2, h3, h4⟩ := hs
  rw [List.map_cons, List.length_cons] at h1
  refine ⟨fun hc => ⟨by omega, by omega, by omega, fun h0 => ?_⟩, fun hc => ⟨by omega, by omega, by omega, fun h0 => by omega⟩⟩
  obtain ⟨b', off', e, hlt, hr⟩ := h4 (by omega)
  rw [hA] at e
  injection e with e
  injection e with e1 e2
  subst e1; subst e2
  refine ⟨b, off + 1, rfl, hlt, fun i hi j hj => ?_⟩
  have := hr (i + 1) (by rw [List.map_cons, List.length_cons]; omega) j hj
  have hz : eI.sz = 1 := rfl
  rw [hz] at this ⊢
  rw [show off + 1 + i * 1 + j = off + (i + 1) * 1 + j by omega, this]
  simp
theorem not_take {T : List Nat} (h : T.Pairwise (· < ·)) {r : Nat} (hr : r < T.length) : T[r] ∉ T.take r := fun hm => by
  obtain ⟨i, hi, e⟩ := List.getElem_of_mem hm
  rw [List.getElem_take] at e
  rw [List.length_take] at hi
  have := (List.pairwise_iff_getElem.1 h) i r (by omega) hr (by omega)
  omega
/-- The first of what is left. -/
theorem JobIs.first {U : List Nat} {k : Nat} {set : List Ext} (h : JobIs w J H kd day (k :: U) q old set) : ∃ b off c, w.cell? ⟨J, 2, none⟩ = some (.slice (some ⟨b, off, none⟩) (U.length + 1) c) ∧ Sl eI w (some ⟨b, off, none⟩) (U.length + 1) c ((k :: U).map Int.ofNat) ∧ H b ∧ b ≠ J ∧ w.cell? ⟨b, off, none⟩ = some (.int .i64 (k : Int)) := by
  obtain ⟨A, a, c, c2, hs, hA⟩ := h.todo
  have ha : a = U.length + 1 := by have := hs.1; rw [List.map_cons, List.length_cons, List.length_map] at this; exact this
  subst ha
  obtain ⟨b, off, rfl, hb, hr⟩ := hs.2.2.2 (by omega)
  refine ⟨b, off, c, c2, hs, (hA b off rfl).1, (hA b off rfl).2, ?_⟩
  have := hr 0 (by simp) 0 (by decide)
  exact this
set_option maxHeartbeats 8000000 in
set_option maxRecDepth 100000 in
theorem step_jb (N m M : Nat) (hM : M = min N T.length) (h : Trio w sp most G J H kd day T old q F I n was gone s) (hi : JInv n was m T s) (hm : ((m + T.length : Nat) : Int) ≤ most) (hm60 : most ≤ 60) (hg : ∀ k ∈ T, gone k = false) (hkd : kd ≠ 2 ∨ old = []) (hN : 1 ≤ N) :
    Calls Tryz.prog 15 #[.pointer (some ⟨J, 0, none⟩), sp, .int .i64 (N : Int)] w fun e w' => e = .returned (.tuple #[.int .i64 (M : Int), .int .i64 0]) ∧ Stepped w sp most G J H kd day T old q F I n was gone s m M w' := by
  have Hn := hide (none_jb h.job)
  obtain ⟨sp', rfl⟩ : ∃ p, sp = .pointer (some ⟨p, 0, none⟩) := h.pool.pl.ptr
  have H0 := hide (Stepped.refl h hi)
  have Hord := hide hi.ord
  have Hg := hide hg
  have Hkd := hide hkd
  obtain ⟨L, hL⟩ : ∃ L, L = T.length := ⟨_, rfl⟩
  have HL := hide hL
  rw [← hL] at hm hM
  have HM := hide hM
  clear h hi hg hkd hL hM
  have N1 : ¬ (N : Int) < 1 := by omega
  go_enter Tryz.func15, Tryz.ntmps15
  go_wp2_with fail
  refine (unhide Hn).mono ?_
  rintro e w2 ⟨rfl, hw2⟩
  subst hw2
  clear Hn
  go_wp2_with fail
  go_loopw [8, 9] (fun j x wr => ∃ r : Nat, r ≤ M ∧ j = .int .i64 (r : Int) ∧ Stepped w2 (.pointer (some ⟨sp', 0, none⟩)) most G J H kd day T old q F I n was gone s m r wr) (fun j _ _ => N - (intOf j).toNat)
  case atStart => exact ⟨0, Nat.zero_le _, rfl, unhide H0⟩
  case round =>
    obtain ⟨r, hr, rfl, G1, H1, hT, hI, hW1, hW2, hC⟩ := hrel
    by_cases hlt : r < M
    · have hrN : (r : Int) < N := by have := unhide HM; omega
      have hrL : r < T.length := by have := unhide HM; have := unhide HL; omega
      have hd : T.drop r = T[r] :: T.drop (r + 1) := List.drop_eq_getElem_cons hrL
      have ht : T.take (r + 1) = T.take r ++ [T[r]] := (List.take_append_getElem hrL).symm
      have hgk : goneF gone (T.take r) T[r] = false := by
        unfold goneF
        rw [unhide Hg _ (List.getElem_mem hrL), decide_eq_false (not_take (unhide Hord) hrL)]; rfl
      have Hmm : ((m + r : Nat) : Int) < most := by have := unhide HL; omega
      have Hm60 : m + r < 60 := by omega
      have Ht := hide ht
      clear ht
      obtain ⟨k, hk⟩ : ∃ k, k = T[r] := ⟨_, rfl⟩
      obtain ⟨U, hU⟩ : ∃ U, U = T.drop (r + 1) := ⟨_, rfl⟩
      obtain ⟨s1, hs1⟩ : ∃ s1, s1 = runT was (T.take r) s := ⟨_, rfl⟩
      obtain ⟨g1, hg1⟩ : ∃ g1, g1 = goneF gone (T.take r) := ⟨_, rfl⟩
      rw [hd, ← hk, ← hU, ← hs1] at hI
      rw [hd, ← hk, ← hU, ← hs1, ← hg1] at hT
      rw [← hk, ← hg1] at hgk
      rw [← hk] at Ht
      have Hk := hide hk
      have HU := hide hU
      have Hs1 := hide hs1
      have Hg1 := hide hg1
      have HIr := hide hI
      have hkn := hI.lt k List.mem_cons_self
      have hTJ := hT.job.hJ
      have Hlook := hide (look_take k (m + r) hT hI Hmm hm60 hgk (fun e w' hb => by
        rcases unhide Hkd with h | h
        · exact absurd e h
        · subst h
          exact (alike_none (k : Int) (blkB was k) (hT.job.below hb)).mono fun _ _ ⟨x, y⟩ => ⟨x, by rw [y]; exact Below.refl _ _⟩))
      obtain ⟨b, off, c, c2, hsl, hHb, hbJ, cb⟩ := hT.job.first
      have cc := hsl.2.1
      have cd := hsl.2.2.1
      have HC := hide hC
      clear hsl hI hT hk hU hs1 hg1 hd hC
      go_wp2_with fail
      refine (unhide Hlook).mono ?_
      rintro e w3 ⟨rfl, G2, H2, hT2, hV1, hV2, hC2⟩
      clear Hlook c2 cb cc cd hHb hbJ
      have HT2 := hide hT2
      have HC2 := hide hC2
      have c3 := hT2.job.c3
      obtain ⟨b2, off2, d2, c2, hsl, _, _, cb⟩ := hT2.job.first
      have cc := hsl.2.1
      have cd := hsl.2.2.1
      have B3 : Below w3.heap.size w3 w3.drew := (Below.refl _ _).drew
      have Hlet := hide (stl_let k (hT2.still.below B3) hkn hgk)
      clear hT2 hC2 hsl
      go_wp2_with fail
      go_still_tail 10, (by kernel_rfl)
      change wpList _ _ _ _ _ w3.drew
      go_wp2_with fail
      refine (unhide Hlet).mono ?_
      rintro e w4 ⟨rfl, hS4, hC4⟩
      clear Hlet c2 cb cc cd c3
      have hT4 := ((unhide HT2).below B3).letGo hS4 hC4
      have HC4 := hide hC4
      obtain ⟨b4, off4, d4, c2, hsl, hHb4, hbJ4, _⟩ := hT4.job.first
      have cc := hsl.2.1
      have cd := hsl.2.2.1
      have z2 := hT4.job.z2
      have ST := hide (sl_tail hsl rfl)
      have HT4 := hide hT4
      obtain ⟨X, hX⟩ : ∃ X : Nat, X = U.length := ⟨_, rfl⟩
      rw [← hX] at c2 cc ST
      have e1 : X + 1 - 1 = X := by omega
      rw [e1] at ST
      have rel : ∀ A x c, Sl eI w4 A x c (U.map Int.ofNat) → (∀ b off, A = some ⟨b, off, none⟩ → H2 b ∧ b ≠ J) → Stepped w2 (.pointer (some ⟨sp', 0, none⟩)) most G J H kd day T old q F I n was gone s m (r + 1) (w4.setCell ⟨J, 2, none⟩ (.slice A x c)) := fun A x c hv hn => by
        have hTd := (unhide HT4).todo hv hn
        have hI' := (unhide HIr).next Hm60
        have eU := unhide HU
        have es := unhide Hs1
        have eg := unhide Hg1
        have eR : takeF was s1 k = runT was (T.take (r + 1)) s := by rw [unhide Ht, runT_snoc, ← es]
        have eG : (fun j => if j = k then true else g1 j) = goneF gone (T.take (r + 1)) := by rw [unhide Ht, eg]; exact goneF_snoc gone _ k
        rw [eG, eR, eU] at hTd
        rw [eR, eU] at hI'
        have hC := unhide HC
        have hsz := hC.size
        have hc2 := unhide HC2
        refine ⟨G2, H2, hTd, hI', hW1.trans hV1 hsz, hW2.trans hV2 hsz, ?_⟩
        refine hC.trans ((hc2.mono fun b _ hb => ?_).trans ((Chg.of_below B3).trans (((unhide HC4).mono fun b _ hb => .inl (.inr (.inl hb))).trans ((setCell_chg ⟨J, 2, none⟩ _ w4).mono fun b _ hb => ?_))))
        · rcases hb with hb | rfl
          · exact (hW1.from' b hb).elim (fun h => .inl (.inl h)) .inr
          · exact (hW2.from' b hTJ).elim (fun h => .inl (.inr (.inr h))) .inr
        · rw [show b = J from hb]
          exact (hW2.from' J hTJ).elim (fun h => .inl (.inr (.inr h))) .inr
      have Rel := hide rel
      clear rel hsl hT4 hC4 hS4 hX
      by_cases hd4 : d4 = 1
      · have hv := (unhide ST).2 hd4
        rw [hd4] at hv
        have hv : Sl eI w4 (some ⟨b4, off4, none⟩) X 0 (U.map Int.ofNat) := hv
        go_wp2_with fail
        go_roundw
        case rel => exact ⟨r + 1, by omega, by go_num, unhide Rel _ _ _ hv fun b off e => by injection e with e; injection e with e1 _; subst e1; exact ⟨hHb4, hbJ4⟩⟩
        case measure => simp [intOf]; omega
      · have hv := (unhide ST).1 hd4
        go_wp2_with fail
        go_roundw
        case rel => exact ⟨r + 1, by omega, by go_num, unhide Rel _ _ _ hv fun b off e => by injection e with e; injection e with e1 _; subst e1; exact ⟨hHb4, hbJ4⟩⟩
        case measure => simp [intOf]; omega
    · have hrM : r = M := by omega
      have hrM2 := unhide HM
      have hS : Stepped w2 (.pointer (some ⟨sp', 0, none⟩)) most G J H kd day T old q F I n was gone s m r wr := ⟨G1, H1, hT, hI, hW1, hW2, hC⟩
      rw [hrM] at hS
      have HS := hide hS
      have HrM := hide hrM
      by_cases hrN : r < N
      · have hrL : r = L := by omega
        have hd : T.drop r = [] := List.drop_eq_nil_of_le (by have := unhide HL; omega)
        obtain ⟨A, a, c, c2, hs, _⟩ := hT.job.todo
        rw [hd] at hs
        have ha : a = 0 := hs.1
        subst ha
        have cc := hs.2.2.1
        have hrN' : (r : Int) < N := by omega
        clear hs hT hI hC hS hrM hrM2 hlt hr hrL hd
        go_wp2_with fail
        go_ret2
        exact ⟨by rw [← unhide HrM]; rfl, unhide HS⟩
      · have hrN' : ¬ (r : Int) < N := by omega
        clear hT hI hC hS hrM hrM2 hlt hr
        go_wp2_with fail
        go_ret2
        exact ⟨by rw [← unhide HrM]; rfl, unhide HS⟩
end
end Go.Proofs.YtjjfdkdneibjbaaGreatDoor
/- Walk of package job: the point that was made. -/
namespace Go.Proofs.YtjjfdkdneibjbaaGreatDoor
open Go.RowKit

theorem Tryz.infoPoint : (Tryz.prog.toTables.info? 44).map (·.size) = some 4 := by kernel_rfl
theorem Tryz.eqE (w : World) (a : Option Addr) (n c n' c' : Nat) : (binOp .eql 42 (.slice a n c) (.slice none n' c')).run Tryz.prog w = .ok (.bool a.isNone) w := Lib.run_eql_slice_nil w _ _ a n c n' c' Tryz.underlying42
set_option maxHeartbeats 2000000 in
set_option maxRecDepth 20000 in
theorem clone_ex (A : Option Addr) (n c : Nat) (l : List Ext) (w : World) (h : Sl eE w A n c l) (h64 : n ≤ 64) : Calls Tryz.prog 54 #[.slice A n c] w fun e w' => (∃ A' c', e = .returned (.slice A' n c') ∧ Own eE 107 w' w.heap.size (.slice A' n c') l) ∧ Below w.heap.size w w' := by
  obtain ⟨i0, hi, hz0, hz1, hz2⟩ := info_parts Tryz.infoE
  have qe := Tryz.eqE
  rcases A with _ | ad
  · have hn : n = 0 := by
      rcases Nat.eq_zero_or_pos n with h0 | h0
      · exact h0
      · obtain ⟨b, off, e, _⟩ := h.2.2.2 h0
        cases e
    have hl : l = [] := List.eq_nil_of_length_eq_zero (by have := h.1; omega)
    subst hn; subst hl
    clear h
    go_enter Tryz.func54, Tryz.ntmps54
    go_wp2_with fail
    go_ret
    exact ⟨⟨none, 0, rfl, Own.nil _ _ _ _⟩, Below.refl _ _⟩
  · have o1 : Own eE 107 (w.alloc (.cells #[] 107)) w.heap.size (.slice (some ⟨w.heap.size, 0, none⟩) 0 0) [] := Own.lit w #[] 0 rfl rfl (by unfold maxLen; omega) (Nat.le_refl _)
    have HN := hide h.1
    have hs1 := hide (h.below ((Below.refl w.heap.size w).alloc (Nat.le_refl _) (.cells #[] 107)))
    have b1 := h.2.1
    have b2 := h.2.2.1
    have s1 : w.heap.size ≤ (w.alloc (.cells #[] 107)).heap.size := by simp
    have B1 : Below w.heap.size w (w.alloc (.cells #[] 107)) := (Below.refl _ _).alloc (Nat.le_refl _) _
    clear h
    go_enter Tryz.func54, Tryz.ntmps54
    go_wp2_with (at_builtin; refine wpList_append_sl eE rfl _ _ _ rfl w.heap.size 107 i0 _ 24 Tryz.underlying42 hi hz0 hz1 hz2 rfl (by decide) (.slice (some ⟨w.heap.size, 0, none⟩) 0 0) [] rfl _ o1 (some ad) n c l rfl (unhide hs1) (eE_one l) ?c3 ?c4 s1 ?_)
    case c3 => unfold maxLen; simp; omega
    case c4 => simp; omega
    intro v4 w4 hown4 hgr4 hloc4
    have B4 : Below w.heap.size w w4 := B1.grown hgr4 s1 fun q hq => (o1.lt q hq).1
    obtain ⟨A4, c4, rfl, _, _⟩ := hown4.sl
    have HO := hide hown4
    clear hown4 hgr4 hloc4
    go_wp2
    go_ret
    exact ⟨⟨A4, c4, by rw [unhide HN]; rfl, by rw [unhide HN]; exact unhide HO⟩, B4⟩
/-- A result's block, a job's cells. -/
def PtB (w W : World) (J : Nat) (kd day : Int) (v : Value) : Prop := Below w.heap.size w W ∧ w.heap.size + 1 ≤ W.heap.size ∧ (W.cell? ⟨J, 0, none⟩ = some (.int .i64 kd) ∧ W.cell? ⟨J, 1, none⟩ = some (.int .i64 day) ∧ W.cell? ⟨J, 5, none⟩ = some v) ∧
  W.heap[w.heap.size]? = some (.cells #[.int .i64 0, .int .i64 0, .int .i64 0, .slice none 0 0] 44 (0, 0)) ∧ J < w.heap.size
section
variable {w W W' : World} {J : Nat} {kd day : Int} {v : Value}
theorem PtB.below (h : PtB w W J kd day v) (hb : Below W.heap.size W W') : PtB w W' J kd day v := by
  obtain ⟨b, s, ⟨c0, c1, c5⟩, r, l⟩ := h
  have := hb.size
  exact ⟨b.trans (hb.mono (by omega)), by omega, ⟨((bcell hb).1 _ 0 (by omega)).trans c0, ((bcell hb).1 _ 1 (by omega)).trans c1, ((bcell hb).1 _ 5 (by omega)).trans c5⟩, (hb.block _ (by omega)).trans r, l⟩
theorem PtB.drew (h : PtB w W J kd day v) : PtB w W.drew J kd day v := ⟨h.1.drew, h.2.1, h.2.2.1, h.2.2.2.1, h.2.2.2.2⟩
theorem PtB.s (h : PtB w W J kd day v) : W.cell? ⟨J, 0, none⟩ = some (.int .i64 kd) ∧ W.cell? ⟨J, 1, none⟩ = some (.int .i64 day) ∧ W.cell? ⟨J, 5, none⟩ = some v := h.2.2.1
theorem PtB.z (h : PtB w W J kd day v) : W.cell? ⟨w.heap.size, 0, none⟩ = some (.int .i64 0) ∧ W.cell? ⟨w.heap.size, 1, none⟩ = some (.int .i64 0) ∧ W.cell? ⟨w.heap.size, 2, none⟩ = some (.int .i64 0) ∧ W.cell? ⟨w.heap.size, 3, none⟩ = some (.slice none 0 0) ∧
    W.frozen? ⟨w.heap.size, 0, none⟩ = false ∧ W.frozen? ⟨w.heap.size, 1, none⟩ = false ∧ W.frozen? ⟨w.heap.size, 2, none⟩ = false ∧ W.frozen? ⟨w.heap.size, 3, none⟩ = false := by
  have r := h.2.2.2.1
  exact ⟨cell_of_heap r rfl, cell_of_heap r rfl, cell_of_heap r rfl, cell_of_heap r rfl, by simp [World.frozen?, r], by simp [World.frozen?, r], by simp [World.frozen?, r], by simp [World.frozen?, r]⟩
/-- Another object in one block. -/
abbrev set4 (W : World) (b : Nat) (x y z u : Value) : World := (((W.setCell ⟨b, 0, none⟩ x).setCell ⟨b, 1, none⟩ y).setCell ⟨b, 2, none⟩ z).setCell ⟨b, 3, none⟩ u
theorem set4_other (W : World) (b k : Nat) (x y z u : Value) (h : k ≠ b) : (set4 W b x y z u).heap[k]? = W.heap[k]? := by
  unfold set4
  rw [Below.heap_setCell _ _ _ _ h, Below.heap_setCell _ _ _ _ h, Below.heap_setCell _ _ _ _ h, Below.heap_setCell _ _ _ _ h]
theorem set4_size (W : World) (b : Nat) (x y z u : Value) : (set4 W b x y z u).heap.size = W.heap.size := by simp [set4, World.setCell]
theorem set4_below {B : Nat} (h : Below B w W) (b : Nat) (hb : B ≤ b) (x y z u : Value) : Below B w (set4 W b x y z u) :=
  (((h.setCell (p := ⟨b, 0, none⟩) hb _).setCell (p := ⟨b, 1, none⟩) hb _).setCell (p := ⟨b, 2, none⟩) hb _).setCell (p := ⟨b, 3, none⟩) hb _
theorem PtB.set (h : PtB w W J kd day v) (x y z u : Value) : (set4 W w.heap.size x y z u).heap[w.heap.size]? = some (.cells #[x, y, z, u] 44 (0, 0)) := by
  have r := h.2.2.2.1
  simp [set4, World.setCell, Array.getElem?_modify, r]
theorem PtB.setS (h : PtB w W J kd day v) (x y z u : Value) : (set4 W w.heap.size x y z u).cell? ⟨J, 0, none⟩ = some (.int .i64 kd) ∧ (set4 W w.heap.size x y z u).cell? ⟨J, 1, none⟩ = some (.int .i64 day) ∧ (set4 W w.heap.size x y z u).cell? ⟨J, 5, none⟩ = some v := by
  have e := set4_other W w.heap.size J x y z u (by have := h.2.2.2.2; omega)
  obtain ⟨c0, c1, c5⟩ := h.s
  exact ⟨(World.cell?_of_block (a := ⟨J, 0, none⟩) e).trans c0, (World.cell?_of_block (a := ⟨J, 1, none⟩) e).trans c1, (World.cell?_of_block (a := ⟨J, 5, none⟩) e).trans c5⟩
end
section
variable {w : World} {J q : Nat} {H : Nat → Prop} {kd day : Int} {old set : List Ext}
set_option maxHeartbeats 4000000 in
set_option maxRecDepth 100000 in
theorem point_done (id : Int) (h : JobIs w J H kd day [] q old set) (h64 : set.length ≤ 64) : Calls Tryz.prog 16 #[.pointer (some ⟨J, 0, none⟩), .int .i64 id] w fun e w' => (∃ A c, e = .returned (.tuple #[.agg #[.int .i64 id, .int .i64 kd, .int .i64 day, .slice A set.length c], .bool true]) ∧ Own eE 107 w' w.heap.size (.slice A set.length c) set) ∧ Below w.heap.size w w' := by
  obtain ⟨w1, hw1⟩ : ∃ w1, w1 = w.alloc (.cells #[.int .i64 0, .int .i64 0, .int .i64 0, .slice none 0 0] 44) := ⟨_, rfl⟩
  have B1 : Below w.heap.size w w1 := by rw [hw1]; exact (Below.refl _ _).alloc (Nat.le_refl _) _
  have z1 : w1.heap.size = w.heap.size + 1 := by rw [hw1]; simp
  have hp : w1.heap[w.heap.size]? = some (.cells #[.int .i64 0, .int .i64 0, .int .i64 0, .slice none 0 0] 44 (0, 0)) := by rw [hw1]; exact heap_new _ _
  have h1 := h.below B1
  have Hd := hide (done_jb h1)
  obtain ⟨v, c5, ho, hH⟩ := h1.set
  obtain ⟨A, c, rfl, hs, _⟩ := ho.sl
  have T : PtB w w1 J kd day (.slice A set.length c) := ⟨B1, by omega, ⟨h1.c0, h1.c1, c5⟩, hp, h.lt⟩
  replace T := T.drew
  obtain ⟨N, hN⟩ : ∃ N, N = set.length := ⟨_, rfl⟩
  rw [← hN] at T hs h64 ⊢
  have hcl : ∀ W, Below w1.heap.size w1 W → Calls Tryz.prog 54 #[.slice A N c] W fun e w' => (∃ A' c', e = .returned (.slice A' N c') ∧ Own eE 107 w' W.heap.size (.slice A' N c') set) ∧ Below W.heap.size W w' := fun W hb => clone_ex A N c set W (hs.below hb) h64
  have Hcl := hide hcl
  clear h h1 c5 ho hH hs hcl hN hp
  go_enter Tryz.func16, Tryz.ntmps16
  go_wp2_with fail
  rw [← hw1]
  refine (unhide Hd).mono ?_
  rintro e w2 ⟨rfl, hw2⟩
  subst hw2
  clear Hd hw1
  replace Hcl : Hid (∀ W, w.heap.size + 1 ≤ W.heap.size → Below w2.heap.size w2 W → Calls Tryz.prog 54 #[.slice A N c] W fun e w' => (∃ A' c', e = .returned (.slice A' N c') ∧ Own eE 107 w' (w.heap.size + 1) (.slice A' N c') set) ∧ Below W.heap.size W w') := hide fun W hw hb => (unhide Hcl W hb).mono fun e w' ⟨⟨A', c', x, y⟩, z⟩ => ⟨⟨A', c', x, y.lower hw⟩, z⟩
  have BB : Below w2.heap.size w2 w2.drew := (Below.refl _ _).drew
  go_wp2_with fail
  go_region_held3 (fun W => W.cell? ⟨J, 0, none⟩ = some (.int .i64 kd) ∧ W.cell? ⟨J, 1, none⟩ = some (.int .i64 day) ∧ W.cell? ⟨J, 5, none⟩ = some (.slice A N c))
    (first | with_reducible exact T.s | with_reducible exact T.setS _ _ _ _)
    ((go_at_call 54; refine (unhide Hcl _ T.2.1 BB).mono ?_; intro e v hv; obtain ⟨⟨A', c', he, ho⟩, HB⟩ := hv; subst he; replace T : PtB w v J kd day (.slice A N c) := T.below HB; clear HB; have HO := hide ho; clear ho; obtain ⟨y0, y1, y2, y3, x0, x1, x2, x3⟩ := T.z))
  have T2 := T.set (.int .i64 id) (.int .i64 kd) (.int .i64 day) (.slice A' N c')
  have B9 := set4_below T.1 w.heap.size (Nat.le_refl _) (.int .i64 id) (.int .i64 kd) (.int .i64 day) (.slice A' N c')
  have O9 : Own eE 107 (set4 v w.heap.size (.int .i64 id) (.int .i64 kd) (.int .i64 day) (.slice A' N c')) w.heap.size (.slice A' N c') set := ((unhide HO).of_block fun k hk => set4_other _ _ _ _ _ _ _ (by have := ((unhide HO).lt k hk).1; omega)).lower (by omega)
  have H2 := hide T2
  have H9 := hide B9
  have HO9 := hide O9
  clear T2 B9 O9
  go_wp2_with fail
  refine bodyPost_ret (results_row_tmp Tryz.results16 _ _ w.heap.size 44 #[.int .i64 id, .int .i64 kd, .int .i64 day, .slice A' N c'] (0, 0) _ rfl (unhide H2) Tryz.underlying44 rfl Tryz.infoPoint) rfl ?_
  exact ⟨⟨A', c', rfl, unhide HO9⟩, unhide H9⟩
end
end Go.Proofs.YtjjfdkdneibjbaaGreatDoor
/- Walk of package job: a job is made. -/
namespace Go.Proofs.YtjjfdkdneibjbaaGreatDoor
open Go.RowKit

/-- A job's cells but for what is left. -/
def JC (W : World) (J : Nat) (kd day : Int) (q : Nat) (v : Value) : Prop := J < W.heap.size ∧ W.cell? ⟨J, 0, none⟩ = some (.int .i64 kd) ∧ W.cell? ⟨J, 1, none⟩ = some (.int .i64 day) ∧ W.cell? ⟨J, 3, none⟩ = some (.pointer (some ⟨q, 0, none⟩)) ∧
  W.cell? ⟨J, 4, none⟩ = some v ∧ W.cell? ⟨J, 5, none⟩ = some (.slice none 0 0) ∧ W.frozen? ⟨J, 2, none⟩ = false ∧ W.frozen? ⟨J, 5, none⟩ = false
section
variable {w W W' : World} {J : Nat} {kd day : Int} {q : Nat} {v : Value}
theorem JC.block (h : JC W J kd day q v) (hs : W.heap.size ≤ W'.heap.size) (hb : W'.heap[J]? = W.heap[J]?) : JC W' J kd day q v := by
  obtain ⟨h0, h1, h2, h3, h4, h5, h6, h7⟩ := h
  exact ⟨by omega, (World.cell?_of_block (a := ⟨J, 0, none⟩) hb).trans h1, (World.cell?_of_block (a := ⟨J, 1, none⟩) hb).trans h2, (World.cell?_of_block (a := ⟨J, 3, none⟩) hb).trans h3, (World.cell?_of_block (a := ⟨J, 4, none⟩) hb).trans h4,
    (World.cell?_of_block (a := ⟨J, 5, none⟩) hb).trans h5, (World.frozen?_of_block (a := ⟨J, 2, none⟩) hb).trans h6, (World.frozen?_of_block (a := ⟨J, 5, none⟩) hb).trans h7⟩
theorem JC.set2 (h : JC W J kd day q v) (u : Value) : JC (W.setCell ⟨J, 2, none⟩ u) J kd day q v := by
  obtain ⟨h0, h1, h2, h3, h4, h5, h6, h7⟩ := h
  have hc : ∀ i, i ≠ 2 → (W.setCell ⟨J, 2, none⟩ u).cell? ⟨J, i, none⟩ = W.cell? ⟨J, i, none⟩ := fun i hi => World.cell?_setCell_other _ ⟨J, 2, none⟩ ⟨J, i, none⟩ _ (by simp)
  exact ⟨by simpa [World.setCell] using h0, (hc 0 (by decide)).trans h1, (hc 1 (by decide)).trans h2, (hc 3 (by decide)).trans h3, (hc 4 (by decide)).trans h4, (hc 5 (by decide)).trans h5, by rw [World.frozen?_setCell]; exact h6, by rw [World.frozen?_setCell]; exact h7⟩
end
/-- The blocks that are to be looked at. -/
def todoL (kd : Int) (P : Nat → Bool) (n : Nat) : List Nat := (List.range n).filter fun k => decide (kd = 1) || P k
theorem todoL_succ (kd : Int) (P : Nat → Bool) (n : Nat) : todoL kd P (n + 1) = todoL kd P n ++ if decide (kd = 1) || P n then [n] else [] := by
  unfold todoL
  rw [List.range_succ, List.filter_append]
  rw [List.filter_cons, List.filter_nil]
theorem todoL_len (kd : Int) (P : Nat → Bool) (n : Nat) : (todoL kd P n).length ≤ n := by
  unfold todoL
  have := List.length_filter_le (fun k => decide (kd = 1) || P k) (List.range n)
  simpa using this
theorem todoL_lt (kd : Int) (P : Nat → Bool) (n : Nat) : ∀ k ∈ todoL kd P n, k < n := fun _ hk => List.mem_range.1 (List.mem_filter.1 hk).1
theorem todoL_ord (kd : Int) (P : Nat → Bool) (n : Nat) : (todoL kd P n).Pairwise (· < ·) := List.pairwise_lt_range.filter _
theorem todoL_full (P : Nat → Bool) (n : Nat) : todoL 1 P n = List.range n := by
  unfold todoL
  simp
section
variable {w : World} {q : Nat} {F I : Nat → Prop} {n : Nat} {was : ByteArray} {gone : Nat → Bool}
theorem Stl.now (h : Stl w q F I n was gone) : ∃ p, Calls Tryz.prog 53 #[.pointer (some ⟨q, 0, none⟩)] w (fun e w' => e = .returned (.pointer (some ⟨p, 0, none⟩)) ∧ w' = w) ∧
    ∀ W, Below w.heap.size w W → Calls Tryz.prog 53 #[.pointer (some ⟨q, 0, none⟩)] W (fun e w' => e = .returned (.pointer (some ⟨p, 0, none⟩)) ∧ w' = W) ∧ Calls Tryz.prog 55 #[.pointer (some ⟨p, 0, none⟩)] W fun e w' => e = .returned (.int .i64 (n : Int)) ∧ w' = W := by
  obtain ⟨m, p, g, c, cur, K, G, h1, h2, h3, h4, h5, _⟩ := h
  exact ⟨p, now_st h1, fun W hb => ⟨now_st (h1.below hb), blocks_any n (h1.below hb).film (by rw [← sizeB]; exact h4.c)⟩⟩
set_option maxHeartbeats 8000000 in
set_option maxRecDepth 100000 in
theorem new_jb (kd day : Int) (hk : kd = 1 ∨ kd = 2) (hd : 0 ≤ day ∧ day ≤ 100000) (td : Value) (P : Nat → Bool) (h : Stl w q F I n was gone) (n64 : n ≤ 64)
    (hh : kd = 2 → ∀ k : Nat, k < n → ∀ W, Below w.heap.size w W → Calls Tryz.prog 56 #[td, .int .i64 (k : Int)] W fun e w' => e = .returned (.bool (P k)) ∧ Below W.heap.size W w')
    (A : Option Addr) (m c : Nat) (old : List Ext) (ho : Sl eE w A m c old) (m64 : m ≤ 64) :
    Calls Tryz.prog 13 #[.int .i64 kd, .int .i64 day, td, .pointer (some ⟨q, 0, none⟩), .slice A m c] w fun e w' => (∃ J H, e = .returned (.tuple #[.pointer (some ⟨J, 0, none⟩), .int .i64 0]) ∧ JobIs w' J H kd day (todoL kd P n) q old [] ∧ ∀ b, H b → w.heap.size ≤ b) ∧ Below w.heap.size w w' := by
  obtain ⟨i0, hi, hz0, hz1, hz2⟩ := info_parts Tryz.infoIn
  obtain ⟨p, hn1, hn2⟩ := h.now
  have Hn1 := hide hn1
  have Hn2 := hide hn2
  have Hcl := hide (clone_ex A m c old w ho m64)
  have Hh := hide hh
  obtain ⟨d1, d2⟩ := hd
  clear h hn1 hn2 ho hh
  have q1 : (kd != 1 && kd != 2) = false := by rcases hk with rfl | rfl <;> rfl
  rcases hk with rfl | rfl
  · go_enter Tryz.func13, Tryz.ntmps13
    go_wp2_with fail
    refine (unhide Hn1).mono ?_
    rintro e w1 ⟨rfl, hw1⟩
    subst hw1
    go_wp2_with fail
    refine (unhide Hcl).mono ?_
    rintro e w2 ⟨⟨A2, c2, rfl, ho2⟩, HB2⟩
    obtain ⟨w3, hw3⟩ : ∃ w3, w3 = w2.alloc (.cells #[.int .i64 1, .int .i64 day, .slice none 0 0, .pointer (some ⟨q, 0, none⟩), .slice A2 m c2, .slice none 0 0] 123) := ⟨_, rfl⟩
    obtain ⟨J, hJ⟩ : ∃ J, J = w2.heap.size := ⟨_, rfl⟩
    have sz2 := HB2.size
    have B3 : Below w1.heap.size w1 w3 := by rw [hw3]; exact HB2.alloc sz2 _
    have s3 : w3.heap.size = J + 1 := by rw [hw3, hJ]; simp
    have hp : w3.heap[J]? = some (.cells #[.int .i64 1, .int .i64 day, .slice none 0 0, .pointer (some ⟨q, 0, none⟩), .slice A2 m c2, .slice none 0 0] 123 (0, 0)) := by rw [hw3, hJ]; exact heap_new _ _
    have jc : JC w3 J 1 day q (.slice A2 m c2) := ⟨by omega, cell_of_heap hp rfl, cell_of_heap hp rfl, cell_of_heap hp rfl, cell_of_heap hp rfl, cell_of_heap hp rfl, by simp [World.frozen?, hp], by simp [World.frozen?, hp]⟩
    have j2 : w3.cell? ⟨J, 2, none⟩ = some (.slice none 0 0) := cell_of_heap hp rfl
    have ho3 : Own eE 107 w3 w1.heap.size (.slice A2 m c2) old := by rw [hw3]; exact ho2.alloc _
    have lo3 : ∀ b, (Value.slice A2 m c2).ownBlock = some b → w1.heap.size ≤ b ∧ b < J := fun b e => by rw [hJ]; exact ho2.lt b e
    have J1 : w1.heap.size ≤ J := by omega
    have HJC := hide jc
    have HO3 := hide ho3
    have HL3 := hide lo3
    have Hnow := hide (unhide Hn2 w3 B3).1
    have Hblk := hide (unhide Hn2 w3 B3).2
    clear Hn1 Hcl ho2 HB2 hp jc ho3 lo3 sz2 Hn2
    go_wp2_with fail
    rw [← hw3, ← hJ]
    clear hw3 hJ
    refine (unhide Hnow).mono ?_
    rintro e w4 ⟨rfl, hw4⟩
    subst hw4
    go_wp2_with fail
    refine (unhide Hblk).mono ?_
    rintro e w5 ⟨rfl, hw5⟩
    subst hw5
    clear Hnow Hblk
    go_wp2_with fail
    go_loopw [13, 43] (fun _ j wr => ∃ k : Nat, k ≤ n ∧ j = .int .i64 (k : Int) ∧ JC wr J 1 day q (.slice A2 m c2) ∧ (∃ A a c, wr.cell? ⟨J, 2, none⟩ = some (.slice A a c) ∧ Own eI 3 wr (J + 1) (.slice A a c) ((todoL 1 P k).map Int.ofNat)) ∧ Below w1.heap.size w1 wr ∧ Own eE 107 wr w1.heap.size (.slice A2 m c2) old ∧ J + 1 ≤ wr.heap.size) (fun _ j _ => n - (intOf j).toNat)
    case atStart => exact ⟨0, Nat.zero_le _, rfl, unhide HJC, ⟨none, 0, 0, j2, Own.nil _ _ _ _⟩, B3, unhide HO3, by omega⟩
    case round =>
      obtain ⟨k, hk, rfl, hjc, ⟨At, a, ct, j2, hot⟩, HB, hoo, hsz⟩ := hrel
      have HJr := hide hjc
      have HOo := hide hoo
      have HOt := hide hot
      clear hjc hoo HJC HO3 B3
      by_cases hlt : k < n
      · have hlt' : (k : Int) < n := by omega
        obtain ⟨g0, g1, g2, g3, g4, g5, g6, g7⟩ := unhide HJr
        have hTl := todoL_len 1 P k
        have HB := hide HB
        go_wp2_with (at_builtin; refine wpList_append_one eI rfl _ _ _ rfl (J + 1) 3 i0 _ 8 Tryz.underlying52 hi hz0 hz1 hz2 rfl (by decide) (.slice At a ct) ((todoL 1 P k).map Int.ofNat) rfl _ (unhide HOt) (k : Int) #[.int .i64 (k : Int)] rfl (by simp [Act.eval]) (one_int _) ?c3 ?c4 hsz ?_)
        case c3 => unfold maxLen; rw [List.length_map]; omega
        case c4 => rw [List.length_map]; omega
        intro v4 w4 hown4 hgr4 hloc4
        have hsz4 := hgr4.size
        have hal := hal wr (.cells #[.int .i64 (k : Int)] 3)
        have B4 : Below w1.heap.size w1 w4 := ((unhide HB).alloc (by omega) _).grown hgr4 (by omega) fun b e => by have := ((unhide HOt).lt b e).1; omega
        have eb : ∀ b, b < wr.heap.size → (∀ x, (Value.slice At a ct).ownBlock = some x → b ≠ x) → w4.heap[b]? = wr.heap[b]? := fun b hb hx => (hgr4.block b (by omega) fun e => hx b e.symm rfl).trans (((Below.refl wr.heap.size wr).alloc (Nat.le_refl _) (.cells #[.int .i64 (k : Int)] 3)).block b hb)
        have ebJ := eb J g0 fun x e => by have := ((unhide HOt).lt x e).1; omega
        have jc4 := (unhide HJr).block (W' := w4) (by omega) ebJ
        have j24 := (World.cell?_of_block (a := ⟨J, 2, none⟩) ebJ).trans j2
        have z24 := jc4.2.2.2.2.2.2.1
        have ho4 : Own eE 107 w4 w1.heap.size (.slice A2 m c2) old := (unhide HOo).of_block fun b e => eb b ((unhide HOo).lt b e).2 fun x hx => by have h1 := (unhide HL3 b e).2; have h2 := ((unhide HOt).lt x hx).1; omega
        have eT : (todoL 1 P k).map Int.ofNat ++ [(k : Int)] = (todoL 1 P (k + 1)).map Int.ofNat := by rw [todoL_succ]; simp 
        rw [eT] at hown4
        obtain ⟨A4, c4, rfl, _, _⟩ := hown4.sl
        obtain ⟨a4, ha4⟩ : ∃ a4, a4 = ((todoL 1 P (k + 1)).map Int.ofNat).length := ⟨_, rfl⟩
        rw [← ha4] at hown4 ⊢
        have JC4 := hide jc4
        have OT4 := hide hown4
        have OE4 := hide ho4
        have BB4 := hide B4
        clear ha4 eT hgr4 hloc4 jc4 hown4 ho4 B4 eb ebJ g0 g1 g2 g3 g4 g5 g6 g7
        go_wp2_with fail
        go_roundw
        case rel => exact ⟨k + 1, by omega, by go_num, (unhide JC4).set2 _, ⟨A4, a4, c4, World.cell?_setCell_same _ _ _ j24, (unhide OT4).of_block fun b e => Below.heap_setCell _ _ _ _ (by have := ((unhide OT4).lt b e).1; show b ≠ J; omega)⟩, (unhide BB4).setCell (p := ⟨J, 2, none⟩) J1 _, (unhide OE4).of_block fun b e => Below.heap_setCell _ _ _ _ (by have := (unhide HL3 b e).2; show b ≠ J; omega), by simp [World.setCell]; omega⟩
        case measure => simp [intOf]; omega
      · obtain rfl : k = n := by omega
        have hJ9 := hide (unhide HJr)
        go_wp2_with fail
        go_ret2
        refine ⟨⟨J, fun b => b = J ∨ (Value.slice At a ct).ownBlock = some b ∨ (Value.slice A2 m c2).ownBlock = some b, rfl, ?_, ?_⟩, HB⟩
        · obtain ⟨g0, g1, g2, g3, g4, g5, g6, g7⟩ := unhide HJr
          have hot := unhide HOt
          have hoo := unhide HOo
          obtain ⟨A', c', hv, hs, _⟩ := hot.sl
          injection hv with v1 v2 v3
          have hbt : ∀ b, (Value.slice At a ct).ownBlock = some b → b ≠ J := fun b e => by have := (hot.lt b e).1; omega
          have hbo : ∀ b, (Value.slice A2 m c2).ownBlock = some b → b ≠ J := fun b e => by have := (unhide HL3 b e).2; omega
          refine ⟨g0, .inl rfl, fun b hb => ?_, g1, g2, g3, ⟨At, a, ct, j2, ?_, fun b off e => ?_⟩, ⟨_, g4, hoo.lower (Nat.zero_le _), fun b e => ⟨.inr (.inr e), hbo b e⟩⟩, ⟨_, g5, Own.nil _ _ _ _, fun b e => by cases e⟩, g6, g7⟩
          · rcases hb with rfl | e | e
            · exact g0
            · exact (hot.lt b e).2
            · exact (hoo.lt b e).2
          · rw [v1, v2, v3]; exact hs
          · have e2 : (Value.slice At a ct).ownBlock = some b := by rw [e]; rfl
            exact ⟨.inr (.inl e2), hbt b e2⟩
        · rintro b (rfl | e | e)
          · exact J1
          · have := ((unhide HOt).lt b e).1; omega
          · exact (unhide HL3 b e).1
  · have Hh2 := hide (unhide Hh rfl)
    clear Hh
    go_enter Tryz.func13, Tryz.ntmps13
    go_wp2_with fail
    refine (unhide Hn1).mono ?_
    rintro e w1 ⟨rfl, hw1⟩
    subst hw1
    go_wp2_with fail
    refine (unhide Hcl).mono ?_
    rintro e w2 ⟨⟨A2, c2, rfl, ho2⟩, HB2⟩
    obtain ⟨w3, hw3⟩ : ∃ w3, w3 = w2.alloc (.cells #[.int .i64 2, .int .i64 day, .slice none 0 0, .pointer (some ⟨q, 0, none⟩), .slice A2 m c2, .slice none 0 0] 123) := ⟨_, rfl⟩
    obtain ⟨J, hJ⟩ : ∃ J, J = w2.heap.size := ⟨_, rfl⟩
    have sz2 := HB2.size
    have B3 : Below w1.heap.size w1 w3 := by rw [hw3]; exact HB2.alloc sz2 _
    have s3 : w3.heap.size = J + 1 := by rw [hw3, hJ]; simp
    have hp : w3.heap[J]? = some (.cells #[.int .i64 2, .int .i64 day, .slice none 0 0, .pointer (some ⟨q, 0, none⟩), .slice A2 m c2, .slice none 0 0] 123 (0, 0)) := by rw [hw3, hJ]; exact heap_new _ _
    have jc : JC w3 J 2 day q (.slice A2 m c2) := ⟨by omega, cell_of_heap hp rfl, cell_of_heap hp rfl, cell_of_heap hp rfl, cell_of_heap hp rfl, cell_of_heap hp rfl, by simp [World.frozen?, hp], by simp [World.frozen?, hp]⟩
    have j2 : w3.cell? ⟨J, 2, none⟩ = some (.slice none 0 0) := cell_of_heap hp rfl
    have ho3 : Own eE 107 w3 w1.heap.size (.slice A2 m c2) old := by rw [hw3]; exact ho2.alloc _
    have lo3 : ∀ b, (Value.slice A2 m c2).ownBlock = some b → w1.heap.size ≤ b ∧ b < J := fun b e => by rw [hJ]; exact ho2.lt b e
    have J1 : w1.heap.size ≤ J := by omega
    have HJC := hide jc
    have HO3 := hide ho3
    have HL3 := hide lo3
    have Hnow := hide (unhide Hn2 w3 B3).1
    have Hblk := hide (unhide Hn2 w3 B3).2
    clear Hn1 Hcl ho2 HB2 hp jc ho3 lo3 sz2 Hn2
    go_wp2_with fail
    rw [← hw3, ← hJ]
    clear hw3 hJ
    refine (unhide Hnow).mono ?_
    rintro e w4 ⟨rfl, hw4⟩
    subst hw4
    go_wp2_with fail
    refine (unhide Hblk).mono ?_
    rintro e w5 ⟨rfl, hw5⟩
    subst hw5
    clear Hnow Hblk
    go_wp2_with fail
    go_loopw [13, 43] (fun _ j wr => ∃ k : Nat, k ≤ n ∧ j = .int .i64 (k : Int) ∧ JC wr J 2 day q (.slice A2 m c2) ∧ (∃ A a c, wr.cell? ⟨J, 2, none⟩ = some (.slice A a c) ∧ Own eI 3 wr (J + 1) (.slice A a c) ((todoL 2 P k).map Int.ofNat)) ∧ Below w1.heap.size w1 wr ∧ Own eE 107 wr w1.heap.size (.slice A2 m c2) old ∧ J + 1 ≤ wr.heap.size) (fun _ j _ => n - (intOf j).toNat)
    case atStart => exact ⟨0, Nat.zero_le _, rfl, unhide HJC, ⟨none, 0, 0, j2, Own.nil _ _ _ _⟩, B3, unhide HO3, by omega⟩
    case round =>
      obtain ⟨k, hk, rfl, hjc, ⟨At, a, ct, j2, hot⟩, HB, hoo, hsz⟩ := hrel
      have HJr := hide hjc
      have HOo := hide hoo
      have HOt := hide hot
      clear hjc hoo HJC HO3 B3
      by_cases hlt : k < n
      · have hlt' : (k : Int) < n := by omega
        have l0 := (unhide HJr).1
        have Hhas := hide (unhide Hh2 k hlt wr HB)
        obtain ⟨pk, hpk⟩ : ∃ pk, pk = P k := ⟨_, rfl⟩
        rw [← hpk] at Hhas
        have Hpk := hide hpk
        clear hpk
        go_wp2_with fail
        refine (unhide Hhas).mono ?_
        rintro e w7 ⟨rfl, HB7⟩
        have HJr := hide ((unhide HJr).block HB7.size (HB7.block _ l0))
        have j2 := ((bcell HB7).1 _ 2 l0).trans j2
        have HOt := hide ((unhide HOt).below HB7)
        have HOo := hide ((unhide HOo).below HB7)
        have hsz7 := HB7.size
        have hsz : J + 1 ≤ w7.heap.size := by omega
        have HB : Below w1.heap.size w1 w7 := HB.trans (HB7.mono (by omega))
        clear HB7 Hhas
        cases pk with
        | true =>
          obtain ⟨g0, g1, g2, g3, g4, g5, g6, g7⟩ := unhide HJr
          have hTl := todoL_len 2 P k
          have HB := hide HB
          go_wp2_with (at_builtin; refine wpList_append_one eI rfl _ _ _ rfl (J + 1) 3 i0 _ 8 Tryz.underlying52 hi hz0 hz1 hz2 rfl (by decide) (.slice At a ct) ((todoL 2 P k).map Int.ofNat) rfl _ (unhide HOt) (k : Int) #[.int .i64 (k : Int)] rfl (by simp [Act.eval]) (one_int _) ?c3 ?c4 hsz ?_)
          case c3 => unfold maxLen; rw [List.length_map]; omega
          case c4 => rw [List.length_map]; omega
          intro v4 w4 hown4 hgr4 hloc4
          have hsz4 := hgr4.size
          have hal := hal w7 (.cells #[.int .i64 (k : Int)] 3)
          have B4 : Below w1.heap.size w1 w4 := ((unhide HB).alloc (by omega) _).grown hgr4 (by omega) fun b e => by have := ((unhide HOt).lt b e).1; omega
          have eb : ∀ b, b < w7.heap.size → (∀ x, (Value.slice At a ct).ownBlock = some x → b ≠ x) → w4.heap[b]? = w7.heap[b]? := fun b hb hx => (hgr4.block b (by omega) fun e => hx b e.symm rfl).trans (((Below.refl w7.heap.size w7).alloc (Nat.le_refl _) (.cells #[.int .i64 (k : Int)] 3)).block b hb)
          have ebJ := eb J g0 fun x e => by have := ((unhide HOt).lt x e).1; omega
          have jc4 := (unhide HJr).block (W' := w4) (by omega) ebJ
          have j24 := (World.cell?_of_block (a := ⟨J, 2, none⟩) ebJ).trans j2
          have z24 := jc4.2.2.2.2.2.2.1
          have ho4 : Own eE 107 w4 w1.heap.size (.slice A2 m c2) old := (unhide HOo).of_block fun b e => eb b ((unhide HOo).lt b e).2 fun x hx => by have h1 := (unhide HL3 b e).2; have h2 := ((unhide HOt).lt x hx).1; omega
          have eT : (todoL 2 P k).map Int.ofNat ++ [(k : Int)] = (todoL 2 P (k + 1)).map Int.ofNat := by rw [todoL_succ]; simp [← unhide Hpk]
          rw [eT] at hown4
          obtain ⟨A4, c4, rfl, _, _⟩ := hown4.sl
          obtain ⟨a4, ha4⟩ : ∃ a4, a4 = ((todoL 2 P (k + 1)).map Int.ofNat).length := ⟨_, rfl⟩
          rw [← ha4] at hown4 ⊢
          have JC4 := hide jc4
          have OT4 := hide hown4
          have OE4 := hide ho4
          have BB4 := hide B4
          clear ha4 eT hgr4 hloc4 jc4 hown4 ho4 B4 eb ebJ g0 g1 g2 g3 g4 g5 g6 g7
          go_wp2_with fail
          go_roundw
          case rel => exact ⟨k + 1, by omega, by go_num, (unhide JC4).set2 _, ⟨A4, a4, c4, World.cell?_setCell_same _ _ _ j24, (unhide OT4).of_block fun b e => Below.heap_setCell _ _ _ _ (by have := ((unhide OT4).lt b e).1; show b ≠ J; omega)⟩, (unhide BB4).setCell (p := ⟨J, 2, none⟩) J1 _, (unhide OE4).of_block fun b e => Below.heap_setCell _ _ _ _ (by have := (unhide HL3 b e).2; show b ≠ J; omega), by simp [World.setCell]; omega⟩
          case measure => simp [intOf]; omega
        | false =>
          have eT : todoL 2 P (k + 1) = todoL 2 P k := by rw [todoL_succ]; simp [← unhide Hpk]
          have HeT := hide eT
          clear eT
          go_wp2_with fail
          go_roundw
          case rel => exact ⟨k + 1, by omega, by go_num, unhide HJr, ⟨At, a, ct, j2, by rw [unhide HeT]; exact unhide HOt⟩, HB, unhide HOo, hsz⟩
          case measure => simp [intOf]; omega
      · obtain rfl : k = n := by omega
        have hJ9 := hide (unhide HJr)
        go_wp2_with fail
        go_ret2
        refine ⟨⟨J, fun b => b = J ∨ (Value.slice At a ct).ownBlock = some b ∨ (Value.slice A2 m c2).ownBlock = some b, rfl, ?_, ?_⟩, HB⟩
        · obtain ⟨g0, g1, g2, g3, g4, g5, g6, g7⟩ := unhide HJr
          have hot := unhide HOt
          have hoo := unhide HOo
          obtain ⟨A', c', hv, hs, _⟩ := hot.sl
          injection hv with v1 v2 v3
          have hbt : ∀ b, (Value.slice At a ct).ownBlock = some b → b ≠ J := fun b e => by have := (hot.lt b e).1; omega
          have hbo : ∀ b, (Value.slice A2 m c2).ownBlock = some b → b ≠ J := fun b e => by have := (unhide HL3 b e).2; omega
          refine ⟨g0, .inl rfl, fun b hb => ?_, g1, g2, g3, ⟨At, a, ct, j2, ?_, fun b off e => ?_⟩, ⟨_, g4, hoo.lower (Nat.zero_le _), fun b e => ⟨.inr (.inr e), hbo b e⟩⟩, ⟨_, g5, Own.nil _ _ _ _, fun b e => by cases e⟩, g6, g7⟩
          · rcases hb with rfl | e | e
            · exact g0
            · exact (hot.lt b e).2
            · exact (hoo.lt b e).2
          · rw [v1, v2, v3]; exact hs
          · have e2 : (Value.slice At a ct).ownBlock = some b := by rw [e]; rfl
            exact ⟨.inr (.inl e2), hbt b e2⟩
        · rintro b (rfl | e | e)
          · exact J1
          · have := ((unhide HOt).lt b e).1; omega
          · exact (unhide HL3 b e).1
end
end Go.Proofs.YtjjfdkdneibjbaaGreatDoor
/- A job that goes on over its still and its pool: what its calls do, with all that is theirs in one set of blocks. -/
namespace Go.Proofs.YtjjfdkdneibjbaaGreatDoor
open Go.RowKit

/-- The job J, over the still q and the pool sp: so many of the blocks T were taken; O has all blocks that are theirs. -/
def Run (sp : Value) (most : Int) (J : Nat) (kd day : Int) (T : List Nat) (old : List Ext) (q n : Nat) (was : ByteArray) (s0 : JS) (m r : Nat) (O I : Nat → Prop) (w : World) : Prop :=
  ∃ G F H, Trio w sp most G J H kd day (T.drop r) old q F I n was (goneF (fun _ => false) (T.take r)) (runT was (T.take r) s0) ∧ JInv n was (m + r) (T.drop r) (runT was (T.take r) s0) ∧ r ≤ T.length ∧ T.Pairwise (· < ·) ∧ ∀ b, O b ↔ (G b ∨ F b ∨ H b)
section
variable {w w' : World} {sp : Value} {most : Int} {J : Nat} {kd day : Int} {T : List Nat} {old : List Ext} {q n : Nat} {was : ByteArray} {s0 : JS} {m r : Nat} {O I X : Nat → Prop}
theorem Run.chg (h : Run sp most J kd day T old q n was s0 m r O I w) (hc : Chg X w w') (hO : ∀ b, O b → ¬ X b) (hI : ∀ b, I b → ¬ X b) : Run sp most J kd day T old q n was s0 m r O I w' := by
  obtain ⟨G, F, H, h1, h2, h3, h4, h5⟩ := h
  exact ⟨G, F, H, h1.chg hc (fun b hb => hO b ((h5 b).2 (.inl hb))) (fun b hb => hO b ((h5 b).2 (.inr (.inl hb)))) (fun b hb => hO b ((h5 b).2 (.inr (.inr hb)))) hI, h2, h3, h4, h5⟩
theorem Run.below (h : Run sp most J kd day T old q n was s0 m r O I w) (hb : Below w.heap.size w w') : Run sp most J kd day T old q n was s0 m r O I w' := h.chg (Chg.of_below (F := fun _ => False) hb) (fun _ _ e => e) fun _ _ e => e
theorem Run.lt (h : Run sp most J kd day T old q n was s0 m r O I w) : ∀ b, O b → b < w.heap.size := by
  obtain ⟨G, F, H, h1, h2, h3, h4, h5⟩ := h
  intro b hb
  rcases (h5 b).1 hb with h | h | h
  · exact h1.pool.lt b h
  · exact h1.still.lt b h
  · exact h1.job.hlt b h
theorem Run.ptr (h : Run sp most J kd day T old q n was s0 m r O I w) : ∃ p, sp = .pointer (some ⟨p, 0, none⟩) := by
  obtain ⟨G, F, H, h1, h2, h3, h4, h5⟩ := h
  exact h1.pool.pl.ptr
theorem goneF_two (g : Nat → Bool) (D E : List Nat) : goneF (goneF g D) E = goneF g (D ++ E) := by
  funext j
  unfold goneF
  rw [Bool.or_assoc]
  congr 1
  rw [Bool.eq_iff_iff]
  simp
theorem run_step (N : Nat) (h : Run sp most J kd day T old q n was s0 m r O I w) (hm : ((m + T.length : Nat) : Int) ≤ most) (hm60 : most ≤ 60) (hkd : kd ≠ 2 ∨ old = []) (hN : 1 ≤ N) :
    Calls Tryz.prog 15 #[.pointer (some ⟨J, 0, none⟩), sp, .int .i64 (N : Int)] w fun e w' => e = .returned (.tuple #[.int .i64 ((min N (T.length - r) : Nat) : Int), .int .i64 0]) ∧ (∃ O', Run sp most J kd day T old q n was s0 m (r + min N (T.length - r)) O' I w' ∧ Went O O' w) ∧ Chg O w w' := by
  obtain ⟨G, F, H, h1, h2, h3, h4, h5⟩ := h
  have hlen : (T.drop r).length = T.length - r := List.length_drop
  refine (step_jb N (m + r) (min N (T.length - r)) (by rw [hlen]) h1 h2 (by rw [hlen]; omega) hm60 (fun k hk => ?_) hkd hN).mono ?_
  · unfold goneF
    rw [Bool.false_or, decide_eq_false_iff_not]
    intro hk2
    obtain ⟨i, hi, e⟩ := List.getElem_of_mem hk2
    obtain ⟨j, hj, e2⟩ := List.getElem_of_mem hk
    rw [List.getElem_take] at e
    rw [List.getElem_drop] at e2
    rw [List.length_take] at hi
    rw [List.length_drop] at hj
    have := (List.pairwise_iff_getElem.1 h4) i (r + j) (by omega) (by omega) (by omega)
    omega
  · rintro e w' ⟨rfl, G1, H1, t1, t2, t3, t4, t5⟩
    obtain ⟨M, hM⟩ : ∃ M, M = min N (T.length - r) := ⟨_, rfl⟩
    rw [← hM] at t1 t2 ⊢
    have e1 : (T.drop r).drop M = T.drop (r + M) := by rw [List.drop_drop]
    have e2 : T.take r ++ (T.drop r).take M = T.take (r + M) := (List.take_add).symm
    rw [e1, ← runT_app, e2, goneF_two, e2] at t1
    rw [e1, ← runT_app, e2, Nat.add_assoc] at t2
    refine ⟨rfl, ⟨fun b => G1 b ∨ F b ∨ H1 b, ⟨G1, F, H1, t1, t2, by omega, h4, fun b => Iff.rfl⟩, ⟨fun b hb => ?_⟩⟩, t5.mono fun b hb hx => ?_⟩
    · rcases hb with hb | hb | hb
      · exact (t3.from' b hb).imp (fun h => (h5 b).2 (.inl h)) id
      · exact .inl ((h5 b).2 (.inr (.inl hb)))
      · exact (t4.from' b hb).imp (fun h => (h5 b).2 (.inr (.inr h))) id
    · rcases hx with hx | hx
      · exact (h5 b).2 hx
      · omega
theorem run_write (a : Int) (b : ByteArray) (h : Run sp most J kd day T old q n was s0 m r O I w) : Calls Tryz.prog 14 #[.pointer (some ⟨q, 0, none⟩), .int .i64 a, .string b] w fun e w' => (∃ x, e = .returned (.int .i64 x)) ∧ Run sp most J kd day T old q n was s0 m r O I w' ∧ Chg (fun b => O b ∨ I b) w w' := by
  obtain ⟨G, F, H, h1, h2, h3, h4, h5⟩ := h
  refine (stl_write a b h1.still).mono ?_
  rintro e w' ⟨hx, hS, hC⟩
  exact ⟨hx, ⟨G, F, H, h1.wrote hS hC, h2, h3, h4, h5⟩, hC.mono fun b _ hb => hb.imp (fun hb => (h5 b).2 (.inr (.inl hb))) id⟩
theorem run_point (id : Int) (h : Run sp most J kd day T old q n was s0 m T.length O I w) : Calls Tryz.prog 16 #[.pointer (some ⟨J, 0, none⟩), .int .i64 id] w fun e w' => (∃ A c, e = .returned (.tuple #[.agg #[.int .i64 id, .int .i64 kd, .int .i64 day, .slice A (extsL (runT was T s0).1 64).length c], .bool true]) ∧ Own eE 107 w' w.heap.size (.slice A (extsL (runT was T s0).1 64).length c) (extsL (runT was T s0).1 64)) ∧ Below w.heap.size w w' := by
  obtain ⟨G, F, H, h1, h2, h3, h4, h5⟩ := h
  rw [List.take_length] at h1 h2
  rw [List.drop_length] at h1
  exact point_done id h1.job (exts_fine _ h2.inp).1
theorem run_kept (h : Run sp most J kd day (List.range n) old q n was s0 m n O I w) : Calls Tryz.prog 19 #[.pointer (some ⟨q, 0, none⟩)] w fun e w' => e = .returned (.slice none 0 0) ∧ w' = w := by
  obtain ⟨G, F, H, h1, h2, h3, h4, h5⟩ := h
  refine stl_kept_none h1.still fun k hk => ?_
  unfold goneF
  rw [Bool.false_or, decide_eq_true_eq, List.take_of_length_le (by simp)]
  exact List.mem_range.2 hk
theorem run_get (id : Int) (t : ByteArray) (h : Run sp most J kd day T old q n was s0 m r O I w) (hg : GetE (runT was (T.take r) s0).2 id t) : Calls Tryz.prog 18 #[sp, .int .i64 id] w fun e w' => e = .returned (.tuple #[.string t, .int .i64 0]) ∧ Below w.heap.size w w' := by
  obtain ⟨G, F, H, h1, h2, h3, h4, h5⟩ := h
  exact plt_get id t h1.pool hg
end
/-- A job at its start. -/
theorem Run.start {w : World} {sp : Value} {most : Int} {G F H I : Nat → Prop} {J : Nat} {kd day : Int} {T : List Nat} {old : List Ext} {q n : Nat} {was : ByteArray} {s0 : JS} {m : Nat}
    (hj : JobIs w J H kd day T q old (extsL s0.1 64)) (hs : Stl w q F I n was fun _ => false) (hp : Plt w G sp most s0.2) (hd : Dj G F H I) (hi : JInv n was m T s0) : Run sp most J kd day T old q n was s0 m 0 (fun b => G b ∨ F b ∨ H b) I w :=
  ⟨G, F, H, ⟨hj, by rw [List.take_zero, goneF_nil]; exact hs, hp, hd⟩, hi, Nat.zero_le _, hi.ord, fun _ => Iff.rfl⟩
theorem noneL_get (j : Nat) (h : j < 64) : (noneL 64).getD j 0 = -1 := by
  rw [List.getD_eq_getElem?_getD, noneL_at (Nat.le_refl _), if_pos h]; rfl
theorem extsL_none : extsL (noneL 64) 64 = [] := by
  have := extsL_rest (L := noneL 64) (k := 0) (fun j _ h2 => by rw [noneL_get j h2]; omega) 64 (by omega)
  rw [Nat.zero_add] at this
  exact this
/-- Nothing was taken, there is nothing in the pool. -/
theorem JInv.fresh {n : Nat} {was : ByteArray} (hn : n ≤ 64) (hw : was.size = 8 * n) (kd : Int) (P : Nat → Bool) : JInv n was 0 (todoL kd P n) (noneL 64, []) where
  n64 := hn
  was := hw
  len := noneL_len (Nat.le_refl _)
  inp := InPool.none
  ok := EOk.nil
  few := Nat.le_refl _
  refs := fun _ _ _ h => by cases h
  lt := todoL_lt kd P n
  ord := todoL_ord kd P n
  rest := fun _ _ j _ h => by
    show (noneL 64).getD j 0 < 0
    rw [noneL_get j h]; omega
/-- What is told of all blocks that were taken. -/
theorem told_run {n m : Nat} {was : ByteArray} {s : JS} : ∀ (T D : List Nat), JInv n was m T s → m + T.length ≤ 60 → Told was D s → (∀ k ∈ T, k ∉ D) → Told was (D ++ T) (runT was T s) ∧ JInv n was (m + T.length) [] (runT was T s) := by
  intro T
  induction T generalizing m s with
  | nil => intro D hi _ ht _; rw [List.append_nil]; exact ⟨ht, hi⟩
  | cons k T ih =>
    intro D hi hm ht hD
    rw [List.length_cons] at hm
    have ho := (List.pairwise_cons.1 hi.ord).1
    have h1 := ih (D ++ [k]) (hi.next (by omega)) (by omega) (ht.next hi (by omega) (hD k List.mem_cons_self)) (fun j hj hm => by
      rcases List.mem_append.1 hm with h | h
      · exact hD j (List.mem_cons_of_mem _ hj) h
      · rw [List.mem_singleton] at h
        have := ho j hj
        omega)
    rw [List.append_assoc] at h1
    refine ⟨h1.1, ?_⟩
    rw [List.length_cons, Nat.add_comm T.length 1, ← Nat.add_assoc]
    exact h1.2
end Go.Proofs.YtjjfdkdneibjbaaGreatDoor
