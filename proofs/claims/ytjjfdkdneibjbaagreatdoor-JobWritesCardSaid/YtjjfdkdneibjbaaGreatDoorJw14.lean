/- Joined texts: JobC, JobD. -/
import Derived.Test.YtjjfdkdneibjbaaGreatDoorJw13
import Derived.StillTail
/- Walk of package job: the next blocks are looked at. -/
namespace Go.Proofs.YtjjfdkdneibjbaaGreatDoor
open Go.RowKit

/-- What was let go, when these blocks are. -/
def goneF (gone : Nat → Bool) (D : List Nat) : Nat → Bool := fun j => gone j || decide (j ∈ D)
theorem goneF_snoc (gone : Nat → Bool) (D : List Nat) (k : Nat) : (fun j => if j = k then true else goneF gone D j) = goneF gone (D ++ [k]) := by
  funext j
  unfold goneF
  by_cases h : j = k
  · simp [h]
  · simp [h]
theorem goneF_nil (gone : Nat → Bool) : goneF gone [] = gone := by
  funext j
  simp [goneF]
section
variable {w w' : World} {sp : Value} {most : Int} {G : Nat → Prop} {J : Nat} {H : Nat → Prop} {kd day : Int} {T : List Nat} {old : List Ext} {q : Nat} {F I : Nat → Prop} {n : Nat} {was : ByteArray} {gone : Nat → Bool} {s : JS}
set_option maxHeartbeats 1000000 in
theorem find_none (c : Nat) (A : Option Addr) (k : Int) (w : World) : Calls Tryz.prog 163 #[.slice A 0 c, .int .i64 k] w fun e w' => e = .returned (.tuple #[.int .i64 0, .bool false]) ∧ w' = w := by
  go_enter Tryz.func163, Tryz.ntmps163
  go_wp2_with fail
  go_loopw [10] (fun j wr => j = .int .i64 0 ∧ wr = w) (fun j _ => 0 - (intOf j).toNat)
  case atStart => exact ⟨rfl, rfl⟩
  case round =>
    obtain ⟨rfl, hw⟩ := hrel
    subst hw
    go_wp2_with fail
    go_ret2
    exact ⟨rfl, rfl⟩
set_option maxHeartbeats 1000000 in
theorem alike_none (k : Int) (b : ByteArray) {l : List Ext} (h : JobIs w J H kd day T q [] l) : Calls Tryz.prog 126 #[.pointer (some ⟨J, 0, none⟩), sp, .int .i64 k, .string b] w fun e w' => e = .returned (.bool false) ∧ w' = w := by
  obtain ⟨v, c4, ho, _⟩ := h.old
  obtain ⟨A, c, rfl, hs, _⟩ := ho.sl
  have c4 : w.cell? ⟨J, 4, none⟩ = some (.slice A 0 c) := c4
  have b2 := hs.2.2.1
  have Hf := hide (find_none c A k w)
  clear h ho hs
  go_enter Tryz.func126, Tryz.ntmps126
  go_wp2_with fail
  refine (unhide Hf).mono ?_
  rintro e w2 ⟨rfl, hw2⟩
  subst hw2
  go_wp2_with fail
  go_ret
  exact ⟨rfl, rfl⟩
theorem Trio.letGo (h : Trio w sp most G J H kd day T old q F I n was gone s) {gone' : Nat → Bool} (hs : Stl w' q F I n was gone') (hc : Chg F w w') : Trio w' sp most G J H kd day T old q F I n was gone' s :=
  ⟨h.job.chg hc fun b hb hf => h.dj.fh b hf hb, hs, h.pool.chg hc fun b hb hf => h.dj.gf b hb hf, h.dj⟩
theorem Trio.wrote (h : Trio w sp most G J H kd day T old q F I n was gone s) (hs : Stl w' q F I n was gone) (hc : Chg (fun b => F b ∨ I b) w w') : Trio w' sp most G J H kd day T old q F I n was gone s :=
  ⟨h.job.chg hc fun b hb hf => hf.elim (fun hf => h.dj.fh b hf hb) (h.dj.hi b hb), hs, h.pool.chg hc fun b hb hf => hf.elim (h.dj.gf b hb) (h.dj.gi b hb), h.dj⟩
theorem Trio.todo (h : Trio w sp most G J H kd day T old q F I n was gone s) {A : Option Addr} {m c : Nat} {U : List Nat} (hv : Sl eI w A m c (U.map Int.ofNat)) (hn : ∀ b off, A = some ⟨b, off, none⟩ → H b ∧ b ≠ J) : Trio (w.setCell ⟨J, 2, none⟩ (.slice A m c)) sp most G J H kd day U old q F I n was gone s :=
  have CJ := setCell_chg ⟨J, 2, none⟩ (Value.slice A m c) w
  ⟨h.job.setTodo hv hn, h.still.chg CJ (fun b hb e => h.dj.fh b hb (by rw [show b = J from e]; exact h.job.hJ)) (fun b hb e => h.dj.hi b (by rw [show b = J from e]; exact h.job.hJ) hb), h.pool.chg CJ fun b hb e => h.dj.gh b hb (by rw [show b = J from e]; exact h.job.hJ), h.dj⟩
/-- So many of the blocks that were left were taken. -/
def Stepped (w : World) (sp : Value) (most : Int) (G : Nat → Prop) (J : Nat) (H : Nat → Prop) (kd day : Int) (T : List Nat) (old : List Ext) (q : Nat) (F I : Nat → Prop) (n : Nat) (was : ByteArray) (gone : Nat → Bool) (s : JS) (m r : Nat) (wr : World) : Prop :=
  ∃ G1 H1, Trio wr sp most G1 J H1 kd day (T.drop r) old q F I n was (goneF gone (T.take r)) (runT was (T.take r) s) ∧ JInv n was (m + r) (T.drop r) (runT was (T.take r) s) ∧ Went G G1 w ∧ Went H H1 w ∧ Chg (fun b => (G b ∨ F b ∨ H b) ∨ w.heap.size ≤ b) w wr
theorem Stepped.refl {m : Nat} (h : Trio w sp most G J H kd day T old q F I n was gone s) (hi : JInv n was m T s) : Stepped w sp most G J H kd day T old q F I n was gone s m 0 w :=
  ⟨G, H, by rw [List.take_zero, goneF_nil]; exact h, hi, Went.refl _ _, Went.refl _ _, Chg.refl _ _⟩
theorem sl_tail {A : Option Addr} {L c b off : Nat} {k : Nat} {U : List Nat} (hs : Sl eI w A L c ((k :: U).map Int.ofNat)) (hA : A = some ⟨b, off, none⟩) : (c ≠ 1 → Sl eI w (some ⟨b, off + 1, none⟩) (L - 1) (c - 1) (U.map Int.ofNat)) ∧ (c = 1 → Sl eI w (some ⟨b, off, none⟩) (L - 1) (c - 1) (U.map Int.ofNat)) := by
  obtain ⟨h1, h2, h3, h4⟩ := hs
  rw [List.map_cons, List.length_cons] at h1
  refine ⟨fun hc => ⟨by omega, by omega, by omega, fun h0 => ?_⟩, fun hc => ⟨by omega, by omega, by omega, fun h0 => by omega⟩⟩
  obtain ⟨b', off', e, hlt, hr⟩ := h4 (by omega)
  rw [hA] at e
  injection e with e
  injection e with e1 e2
  subst e1; subst e2
  refine ⟨b, off + 1, rfl, hlt, fun i hi j hj => ?_⟩
  have := hr (i + 1) (by rw [List.map_cons, List.length_cons]; omega) j hj
  have hz : eI.sz = 1 := rfl
  rw [hz] at this ⊢
  rw [show off + 1 + i * 1 + j = off + (i + 1) * 1 + j by omega, this]
  simp
theorem not_take {T : List Nat} (h : T.Pairwise (· < ·)) {r : Nat} (hr : r < T.length) : T[r] ∉ T.take r := fun hm => by
  obtain ⟨i, hi, e⟩ := List.getElem_of_mem hm
  rw [List.getElem_take] at e
  rw [List.length_take] at hi
  have := (List.pairwise_iff_getElem.1 h) i r (by omega) hr (by omega)
  omega
/-- The first of what is left. -/
theorem JobIs.first {U : List Nat} {k : Nat} {set : List Ext} (h : JobIs w J H kd day (k :: U) q old set) : ∃ b off c, w.cell? ⟨J, 2, none⟩ = some (.slice (some ⟨b, off, none⟩) (U.length + 1) c) ∧ Sl eI w (some ⟨b, off, none⟩) (U.length + 1) c ((k :: U).map Int.ofNat) ∧ H b ∧ b ≠ J ∧ w.cell? ⟨b, off, none⟩ = some (.int .i64 (k : Int)) := by
  obtain ⟨A, a, c, c2, hs, hA⟩ := h.todo
  have ha : a = U.length + 1 := by have := hs.1; rw [List.map_cons, List.length_cons, List.length_map] at this; exact this
  subst ha
  obtain ⟨b, off, rfl, hb, hr⟩ := hs.2.2.2 (by omega)
  refine ⟨b, off, c, c2, hs, (hA b off rfl).1, (hA b off rfl).2, ?_⟩
  have := hr 0 (by simp) 0 (by decide)
  exact this
set_option maxHeartbeats 8000000 in
set_option maxRecDepth 100000 in
theorem step_jb (N m M : Nat) (hM : M = min N T.length) (h : Trio w sp most G J H kd day T old q F I n was gone s) (hi : JInv n was m T s) (hm : ((m + T.length : Nat) : Int) ≤ most) (hm60 : most ≤ 60) (hg : ∀ k ∈ T, gone k = false) (hkd : kd ≠ 2 ∨ old = []) (hN : 1 ≤ N) :
    Calls Tryz.prog 15 #[.pointer (some ⟨J, 0, none⟩), sp, .int .i64 (N : Int)] w fun e w' => e = .returned (.tuple #[.int .i64 (M : Int), .int .i64 0]) ∧ Stepped w sp most G J H kd day T old q F I n was gone s m M w' := by
  have Hn := hide (none_jb h.job)
  obtain ⟨sp', rfl⟩ : ∃ p, sp = .pointer (some ⟨p, 0, none⟩) := h.pool.pl.ptr
  have H0 := hide (Stepped.refl h hi)
  have Hord := hide hi.ord
  have Hg := hide hg
  have Hkd := hide hkd
  obtain ⟨L, hL⟩ : ∃ L, L = T.length := ⟨_, rfl⟩
  have HL := hide hL
  rw [← hL] at hm hM
  have HM := hide hM
  clear h hi hg hkd hL hM
  have N1 : ¬ (N : Int) < 1 := by omega
  go_enter Tryz.func15, Tryz.ntmps15
  go_wp2_with fail
  refine (unhide Hn).mono ?_
  rintro e w2 ⟨rfl, hw2⟩
  subst hw2
  clear Hn
  go_wp2_with fail
  go_loopw [8, 9] (fun j x wr => ∃ r : Nat, r ≤ M ∧ j = .int .i64 (r : Int) ∧ Stepped w2 (.pointer (some ⟨sp', 0, none⟩)) most G J H kd day T old q F I n was gone s m r wr) (fun j _ _ => N - (intOf j).toNat)
  case atStart => exact ⟨0, Nat.zero_le _, rfl, unhide H0⟩
  case round =>
    obtain ⟨r, hr, rfl, G1, H1, hT, hI, hW1, hW2, hC⟩ := hrel
    by_cases hlt : r < M
    · have hrN : (r : Int) < N := by have := unhide HM; omega
      have hrL : r < T.length := by have := unhide HM; have := unhide HL; omega
      have hd : T.drop r = T[r] :: T.drop (r + 1) := List.drop_eq_getElem_cons hrL
      have ht : T.take (r + 1) = T.take r ++ [T[r]] := (List.take_append_getElem hrL).symm
      have hgk : goneF gone (T.take r) T[r] = false := by
        unfold goneF
        rw [unhide Hg _ (List.getElem_mem hrL), decide_eq_false (not_take (unhide Hord) hrL)]; rfl
      have Hmm : ((m + r : Nat) : Int) < most := by have := unhide HL; omega
      have Hm60 : m + r < 60 := by omega
      have Ht := hide ht
      clear ht
      obtain ⟨k, hk⟩ : ∃ k, k = T[r] := ⟨_, rfl⟩
      obtain ⟨U, hU⟩ : ∃ U, U = T.drop (r + 1) := ⟨_, rfl⟩
      obtain ⟨s1, hs1⟩ : ∃ s1, s1 = runT was (T.take r) s := ⟨_, rfl⟩
      obtain ⟨g1, hg1⟩ : ∃ g1, g1 = goneF gone (T.take r) := ⟨_, rfl⟩
      rw [hd, ← hk, ← hU, ← hs1] at hI
      rw [hd, ← hk, ← hU, ← hs1, ← hg1] at hT
      rw [← hk, ← hg1] at hgk
      rw [← hk] at Ht
      have Hk := hide hk
      have HU := hide hU
      have Hs1 := hide hs1
      have Hg1 := hide hg1
      have HIr := hide hI
      have hkn := hI.lt k List.mem_cons_self
      have hTJ := hT.job.hJ
      have Hlook := hide (look_take k (m + r) hT hI Hmm hm60 hgk (fun e w' hb => by
        rcases unhide Hkd with h | h
        · exact absurd e h
        · subst h
          exact (alike_none (k : Int) (blkB was k) (hT.job.below hb)).mono fun _ _ ⟨x, y⟩ => ⟨x, by rw [y]; exact Below.refl _ _⟩))
      obtain ⟨b, off, c, c2, hsl, hHb, hbJ, cb⟩ := hT.job.first
      have cc := hsl.2.1
      have cd := hsl.2.2.1
      have HC := hide hC
      clear hsl hI hT hk hU hs1 hg1 hd hC
      go_wp2_with fail
      refine (unhide Hlook).mono ?_
      rintro e w3 ⟨rfl, G2, H2, hT2, hV1, hV2, hC2⟩
      clear Hlook c2 cb cc cd hHb hbJ
      have HT2 := hide hT2
      have HC2 := hide hC2
      have c3 := hT2.job.c3
      obtain ⟨b2, off2, d2, c2, hsl, _, _, cb⟩ := hT2.job.first
      have cc := hsl.2.1
      have cd := hsl.2.2.1
      have B3 : Below w3.heap.size w3 w3.drew := (Below.refl _ _).drew
      have Hlet := hide (stl_let k (hT2.still.below B3) hkn hgk)
      clear hT2 hC2 hsl
      go_wp2_with fail
      go_still_tail 10, (by kernel_rfl)
      change wpList _ _ _ _ _ w3.drew
      go_wp2_with fail
      refine (unhide Hlet).mono ?_
      rintro e w4 ⟨rfl, hS4, hC4⟩
      clear Hlet c2 cb cc cd c3
      have hT4 := ((unhide HT2).below B3).letGo hS4 hC4
      have HC4 := hide hC4
      obtain ⟨b4, off4, d4, c2, hsl, hHb4, hbJ4, _⟩ := hT4.job.first
      have cc := hsl.2.1
      have cd := hsl.2.2.1
      have z2 := hT4.job.z2
      have ST := hide (sl_tail hsl rfl)
      have HT4 := hide hT4
      obtain ⟨X, hX⟩ : ∃ X : Nat, X = U.length := ⟨_, rfl⟩
      rw [← hX] at c2 cc ST
      have e1 : X + 1 - 1 = X := by omega
      rw [e1] at ST
      have rel : ∀ A x c, Sl eI w4 A x c (U.map Int.ofNat) → (∀ b off, A = some ⟨b, off, none⟩ → H2 b ∧ b ≠ J) → Stepped w2 (.pointer (some ⟨sp', 0, none⟩)) most G J H kd day T old q F I n was gone s m (r + 1) (w4.setCell ⟨J, 2, none⟩ (.slice A x c)) := fun A x c hv hn => by
        have hTd := (unhide HT4).todo hv hn
        have hI' := (unhide HIr).next Hm60
        have eU := unhide HU
        have es := unhide Hs1
        have eg := unhide Hg1
        have eR : takeF was s1 k = runT was (T.take (r + 1)) s := by rw [unhide Ht, runT_snoc, ← es]
        have eG : (fun j => if j = k then true else g1 j) = goneF gone (T.take (r + 1)) := by rw [unhide Ht, eg]; exact goneF_snoc gone _ k
        rw [eG, eR, eU] at hTd
        rw [eR, eU] at hI'
        have hC := unhide HC
        have hsz := hC.size
        have hc2 := unhide HC2
        refine ⟨G2, H2, hTd, hI', hW1.trans hV1 hsz, hW2.trans hV2 hsz, ?_⟩
        refine hC.trans ((hc2.mono fun b _ hb => ?_).trans ((Chg.of_below B3).trans (((unhide HC4).mono fun b _ hb => .inl (.inr (.inl hb))).trans ((setCell_chg ⟨J, 2, none⟩ _ w4).mono fun b _ hb => ?_))))
        · rcases hb with hb | rfl
          · exact (hW1.from' b hb).elim (fun h => .inl (.inl h)) .inr
          · exact (hW2.from' b hTJ).elim (fun h => .inl (.inr (.inr h))) .inr
        · rw [show b = J from hb]
          exact (hW2.from' J hTJ).elim (fun h => .inl (.inr (.inr h))) .inr
      have Rel := hide rel
      clear rel hsl hT4 hC4 hS4 hX
      by_cases hd4 : d4 = 1
      · have hv := (unhide ST).2 hd4
        rw [hd4] at hv
        have hv : Sl eI w4 (some ⟨b4, off4, none⟩) X 0 (U.map Int.ofNat) := hv
        go_wp2_with fail
        go_roundw
        case rel => exact ⟨r + 1, by omega, by go_num, unhide Rel _ _ _ hv fun b off e => by injection e with e; injection e with e1 _; subst e1; exact ⟨hHb4, hbJ4⟩⟩
        case measure => simp [intOf]; omega
      · have hv := (unhide ST).1 hd4
        go_wp2_with fail
        go_roundw
        case rel => exact ⟨r + 1, by omega, by go_num, unhide Rel _ _ _ hv fun b off e => by injection e with e; injection e with e1 _; subst e1; exact ⟨hHb4, hbJ4⟩⟩
        case measure => simp [intOf]; omega
    · have hrM : r = M := by omega
      have hrM2 := unhide HM
      have hS : Stepped w2 (.pointer (some ⟨sp', 0, none⟩)) most G J H kd day T old q F I n was gone s m r wr := ⟨G1, H1, hT, hI, hW1, hW2, hC⟩
      rw [hrM] at hS
      have HS := hide hS
      have HrM := hide hrM
      by_cases hrN : r < N
      · have hrL : r = L := by omega
        have hd : T.drop r = [] := List.drop_eq_nil_of_le (by have := unhide HL; omega)
        obtain ⟨A, a, c, c2, hs, _⟩ := hT.job.todo
        rw [hd] at hs
        have ha : a = 0 := hs.1
        subst ha
        have cc := hs.2.2.1
        have hrN' : (r : Int) < N := by omega
        clear hs hT hI hC hS hrM hrM2 hlt hr hrL hd
        go_wp2_with fail
        go_ret2
        exact ⟨by rw [← unhide HrM]; rfl, unhide HS⟩
      · have hrN' : ¬ (r : Int) < N := by omega
        clear hT hI hC hS hrM hrM2 hlt hr
        go_wp2_with fail
        go_ret2
        exact ⟨by rw [← unhide HrM]; rfl, unhide HS⟩
end
end Go.Proofs.YtjjfdkdneibjbaaGreatDoor
/- Walk of package job: the point that was made. -/
namespace Go.Proofs.YtjjfdkdneibjbaaGreatDoor
open Go.RowKit

theorem Tryz.infoPoint : (Tryz.prog.toTables.info? 44).map (·.size) = some 4 := by kernel_rfl
theorem Tryz.eqE (w : World) (a : Option Addr) (n c n' c' : Nat) : (binOp .eql 42 (.slice a n c) (.slice none n' c')).run Tryz.prog w = .ok (.bool a.isNone) w := Lib.run_eql_slice_nil w _ _ a n c n' c' Tryz.underlying42
set_option maxHeartbeats 2000000 in
set_option maxRecDepth 20000 in
theorem clone_ex (A : Option Addr) (n c : Nat) (l : List Ext) (w : World) (h : Sl eE w A n c l) (h64 : n ≤ 64) : Calls Tryz.prog 54 #[.slice A n c] w fun e w' => (∃ A' c', e = .returned (.slice A' n c') ∧ Own eE 107 w' w.heap.size (.slice A' n c') l) ∧ Below w.heap.size w w' := by
  obtain ⟨i0, hi, hz0, hz1, hz2⟩ := info_parts Tryz.infoE
  have qe := Tryz.eqE
  rcases A with _ | ad
  · have hn : n = 0 := by
      rcases Nat.eq_zero_or_pos n with h0 | h0
      · exact h0
      · obtain ⟨b, off, e, _⟩ := h.2.2.2 h0
        cases e
    have hl : l = [] := List.eq_nil_of_length_eq_zero (by have := h.1; omega)
    subst hn; subst hl
    clear h
    go_enter Tryz.func54, Tryz.ntmps54
    go_wp2_with fail
    go_ret
    exact ⟨⟨none, 0, rfl, Own.nil _ _ _ _⟩, Below.refl _ _⟩
  · have o1 : Own eE 107 (w.alloc (.cells #[] 107)) w.heap.size (.slice (some ⟨w.heap.size, 0, none⟩) 0 0) [] := Own.lit w #[] 0 rfl rfl (by unfold maxLen; omega) (Nat.le_refl _)
    have HN := hide h.1
    have hs1 := hide (h.below ((Below.refl w.heap.size w).alloc (Nat.le_refl _) (.cells #[] 107)))
    have b1 := h.2.1
    have b2 := h.2.2.1
    have s1 : w.heap.size ≤ (w.alloc (.cells #[] 107)).heap.size := by simp
    have B1 : Below w.heap.size w (w.alloc (.cells #[] 107)) := (Below.refl _ _).alloc (Nat.le_refl _) _
    clear h
    go_enter Tryz.func54, Tryz.ntmps54
    go_wp2_with (at_builtin; refine wpList_append_sl eE rfl _ _ _ rfl w.heap.size 107 i0 _ 24 Tryz.underlying42 hi hz0 hz1 hz2 rfl (by decide) (.slice (some ⟨w.heap.size, 0, none⟩) 0 0) [] rfl _ o1 (some ad) n c l rfl (unhide hs1) (eE_one l) ?c3 ?c4 s1 ?_)
    case c3 => unfold maxLen; simp; omega
    case c4 => simp; omega
    intro v4 w4 hown4 hgr4 hloc4
    have B4 : Below w.heap.size w w4 := B1.grown hgr4 s1 fun q hq => (o1.lt q hq).1
    obtain ⟨A4, c4, rfl, _, _⟩ := hown4.sl
    have HO := hide hown4
    clear hown4 hgr4 hloc4
    go_wp2
    go_ret
    exact ⟨⟨A4, c4, by rw [unhide HN]; rfl, by rw [unhide HN]; exact unhide HO⟩, B4⟩
/-- A result's block, a job's cells. -/
def PtB (w W : World) (J : Nat) (kd day : Int) (v : Value) : Prop := Below w.heap.size w W ∧ w.heap.size + 1 ≤ W.heap.size ∧ (W.cell? ⟨J, 0, none⟩ = some (.int .i64 kd) ∧ W.cell? ⟨J, 1, none⟩ = some (.int .i64 day) ∧ W.cell? ⟨J, 5, none⟩ = some v) ∧
  W.heap[w.heap.size]? = some (.cells #[.int .i64 0, .int .i64 0, .int .i64 0, .slice none 0 0] 44 (0, 0)) ∧ J < w.heap.size
section
variable {w W W' : World} {J : Nat} {kd day : Int} {v : Value}
theorem PtB.below (h : PtB w W J kd day v) (hb : Below W.heap.size W W') : PtB w W' J kd day v := by
  obtain ⟨b, s, ⟨c0, c1, c5⟩, r, l⟩ := h
  have := hb.size
  exact ⟨b.trans (hb.mono (by omega)), by omega, ⟨((bcell hb).1 _ 0 (by omega)).trans c0, ((bcell hb).1 _ 1 (by omega)).trans c1, ((bcell hb).1 _ 5 (by omega)).trans c5⟩, (hb.block _ (by omega)).trans r, l⟩
theorem PtB.drew (h : PtB w W J kd day v) : PtB w W.drew J kd day v := ⟨h.1.drew, h.2.1, h.2.2.1, h.2.2.2.1, h.2.2.2.2⟩
theorem PtB.s (h : PtB w W J kd day v) : W.cell? ⟨J, 0, none⟩ = some (.int .i64 kd) ∧ W.cell? ⟨J, 1, none⟩ = some (.int .i64 day) ∧ W.cell? ⟨J, 5, none⟩ = some v := h.2.2.1
theorem PtB.z (h : PtB w W J kd day v) : W.cell? ⟨w.heap.size, 0, none⟩ = some (.int .i64 0) ∧ W.cell? ⟨w.heap.size, 1, none⟩ = some (.int .i64 0) ∧ W.cell? ⟨w.heap.size, 2, none⟩ = some (.int .i64 0) ∧ W.cell? ⟨w.heap.size, 3, none⟩ = some (.slice none 0 0) ∧
    W.frozen? ⟨w.heap.size, 0, none⟩ = false ∧ W.frozen? ⟨w.heap.size, 1, none⟩ = false ∧ W.frozen? ⟨w.heap.size, 2, none⟩ = false ∧ W.frozen? ⟨w.heap.size, 3, none⟩ = false := by
  have r := h.2.2.2.1
  exact ⟨cell_of_heap r rfl, cell_of_heap r rfl, cell_of_heap r rfl, cell_of_heap r rfl, by simp [World.frozen?, r], by simp [World.frozen?, r], by simp [World.frozen?, r], by simp [World.frozen?, r]⟩
/-- Another object in one block. -/
abbrev set4 (W : World) (b : Nat) (x y z u : Value) : World := (((W.setCell ⟨b, 0, none⟩ x).setCell ⟨b, 1, none⟩ y).setCell ⟨b, 2, none⟩ z).setCell ⟨b, 3, none⟩ u
theorem set4_other (W : World) (b k : Nat) (x y z u : Value) (h : k ≠ b) : (set4 W b x y z u).heap[k]? = W.heap[k]? := by
  unfold set4
  rw [Below.heap_setCell _ _ _ _ h, Below.heap_setCell _ _ _ _ h, Below.heap_setCell _ _ _ _ h, Below.heap_setCell _ _ _ _ h]
theorem set4_size (W : World) (b : Nat) (x y z u : Value) : (set4 W b x y z u).heap.size = W.heap.size := by simp [set4, World.setCell]
theorem set4_below {B : Nat} (h : Below B w W) (b : Nat) (hb : B ≤ b) (x y z u : Value) : Below B w (set4 W b x y z u) :=
  (((h.setCell (p := ⟨b, 0, none⟩) hb _).setCell (p := ⟨b, 1, none⟩) hb _).setCell (p := ⟨b, 2, none⟩) hb _).setCell (p := ⟨b, 3, none⟩) hb _
theorem PtB.set (h : PtB w W J kd day v) (x y z u : Value) : (set4 W w.heap.size x y z u).heap[w.heap.size]? = some (.cells #[x, y, z, u] 44 (0, 0)) := by
  have r := h.2.2.2.1
  simp [set4, World.setCell, Array.getElem?_modify, r]
theorem PtB.setS (h : PtB w W J kd day v) (x y z u : Value) : (set4 W w.heap.size x y z u).cell? ⟨J, 0, none⟩ = some (.int .i64 kd) ∧ (set4 W w.heap.size x y z u).cell? ⟨J, 1, none⟩ = some (.int .i64 day) ∧ (set4 W w.heap.size x y z u).cell? ⟨J, 5, none⟩ = some v := by
  have e := set4_other W w.heap.size J x y z u (by have := h.2.2.2.2; omega)
  obtain ⟨c0, c1, c5⟩ := h.s
  exact ⟨(World.cell?_of_block (a := ⟨J, 0, none⟩) e).trans c0, (World.cell?_of_block (a := ⟨J, 1, none⟩) e).trans c1, (World.cell?_of_block (a := ⟨J, 5, none⟩) e).trans c5⟩
end
section
variable {w : World} {J q : Nat} {H : Nat → Prop} {kd day : Int} {old set : List Ext}
set_option maxHeartbeats 4000000 in
set_option maxRecDepth 100000 in
theorem point_done (id : Int) (h : JobIs w J H kd day [] q old set) (h64 : set.length ≤ 64) : Calls Tryz.prog 16 #[.pointer (some ⟨J, 0, none⟩), .int .i64 id] w fun e w' => (∃ A c, e = .returned (.tuple #[.agg #[.int .i64 id, .int .i64 kd, .int .i64 day, .slice A set.length c], .bool true]) ∧ Own eE 107 w' w.heap.size (.slice A set.length c) set) ∧ Below w.heap.size w w' := by
  obtain ⟨w1, hw1⟩ : ∃ w1, w1 = w.alloc (.cells #[.int .i64 0, .int .i64 0, .int .i64 0, .slice none 0 0] 44) := ⟨_, rfl⟩
  have B1 : Below w.heap.size w w1 := by rw [hw1]; exact (Below.refl _ _).alloc (Nat.le_refl _) _
  have z1 : w1.heap.size = w.heap.size + 1 := by rw [hw1]; simp
  have hp : w1.heap[w.heap.size]? = some (.cells #[.int .i64 0, .int .i64 0, .int .i64 0, .slice none 0 0] 44 (0, 0)) := by rw [hw1]; exact heap_new _ _
  have h1 := h.below B1
  have Hd := hide (done_jb h1)
  obtain ⟨v, c5, ho, hH⟩ := h1.set
  obtain ⟨A, c, rfl, hs, _⟩ := ho.sl
  have T : PtB w w1 J kd day (.slice A set.length c) := ⟨B1, by omega, ⟨h1.c0, h1.c1, c5⟩, hp, h.lt⟩
  replace T := T.drew
  obtain ⟨N, hN⟩ : ∃ N, N = set.length := ⟨_, rfl⟩
  rw [← hN] at T hs h64 ⊢
  have hcl : ∀ W, Below w1.heap.size w1 W → Calls Tryz.prog 54 #[.slice A N c] W fun e w' => (∃ A' c', e = .returned (.slice A' N c') ∧ Own eE 107 w' W.heap.size (.slice A' N c') set) ∧ Below W.heap.size W w' := fun W hb => clone_ex A N c set W (hs.below hb) h64
  have Hcl := hide hcl
  clear h h1 c5 ho hH hs hcl hN hp
  go_enter Tryz.func16, Tryz.ntmps16
  go_wp2_with fail
  rw [← hw1]
  refine (unhide Hd).mono ?_
  rintro e w2 ⟨rfl, hw2⟩
  subst hw2
  clear Hd hw1
  replace Hcl : Hid (∀ W, w.heap.size + 1 ≤ W.heap.size → Below w2.heap.size w2 W → Calls Tryz.prog 54 #[.slice A N c] W fun e w' => (∃ A' c', e = .returned (.slice A' N c') ∧ Own eE 107 w' (w.heap.size + 1) (.slice A' N c') set) ∧ Below W.heap.size W w') := hide fun W hw hb => (unhide Hcl W hb).mono fun e w' ⟨⟨A', c', x, y⟩, z⟩ => ⟨⟨A', c', x, y.lower hw⟩, z⟩
  have BB : Below w2.heap.size w2 w2.drew := (Below.refl _ _).drew
  go_wp2_with fail
  go_region_held3 (fun W => W.cell? ⟨J, 0, none⟩ = some (.int .i64 kd) ∧ W.cell? ⟨J, 1, none⟩ = some (.int .i64 day) ∧ W.cell? ⟨J, 5, none⟩ = some (.slice A N c))
    (first | with_reducible exact T.s | with_reducible exact T.setS _ _ _ _)
    ((go_at_call 54; refine (unhide Hcl _ T.2.1 BB).mono ?_; intro e v hv; obtain ⟨⟨A', c', he, ho⟩, HB⟩ := hv; subst he; replace T : PtB w v J kd day (.slice A N c) := T.below HB; clear HB; have HO := hide ho; clear ho; obtain ⟨y0, y1, y2, y3, x0, x1, x2, x3⟩ := T.z))
  have T2 := T.set (.int .i64 id) (.int .i64 kd) (.int .i64 day) (.slice A' N c')
  have B9 := set4_below T.1 w.heap.size (Nat.le_refl _) (.int .i64 id) (.int .i64 kd) (.int .i64 day) (.slice A' N c')
  have O9 : Own eE 107 (set4 v w.heap.size (.int .i64 id) (.int .i64 kd) (.int .i64 day) (.slice A' N c')) w.heap.size (.slice A' N c') set := ((unhide HO).of_block fun k hk => set4_other _ _ _ _ _ _ _ (by have := ((unhide HO).lt k hk).1; omega)).lower (by omega)
  have H2 := hide T2
  have H9 := hide B9
  have HO9 := hide O9
  clear T2 B9 O9
  go_wp2_with fail
  refine bodyPost_ret (results_row_tmp Tryz.results16 _ _ w.heap.size 44 #[.int .i64 id, .int .i64 kd, .int .i64 day, .slice A' N c'] (0, 0) _ rfl (unhide H2) Tryz.underlying44 rfl Tryz.infoPoint) rfl ?_
  exact ⟨⟨A', c', rfl, unhide HO9⟩, unhide H9⟩
end
end Go.Proofs.YtjjfdkdneibjbaaGreatDoor
