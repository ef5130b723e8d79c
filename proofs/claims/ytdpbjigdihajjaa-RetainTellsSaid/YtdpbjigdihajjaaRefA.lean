/- The reference's Keep: which points stay. -/
import Derived.Test.YtdpbjigdihajjaaRetE
namespace Go.Proofs.Ytdpbjigdihajjaa
open Go.RowKit Retain

section
variable {P : Program} {ops : Array Oper} {rest : List Oper} {o : Oper} {a : Act} {Q : Exit → Act → World → Prop}
theorem wpList_max (hgd : o.guard = none) (x y : Operand) (ts : Array TypeId) (ho : o.op = .call { callee := .builtin .max, args := #[x, y], argTypes := ts }) (p q r : Int) (hx : a.eval x = .int .i64 p) (hy : a.eval y = .int .i64 q) (hr : max p q = r) (w : World)
    (h : wpList P ops Q rest (a.put o.dst (.int .i64 r)) w) : wpList P ops Q (o :: rest) a w := by
  refine wpList_plain hgd fun K hK => ?_
  have e : (if q > p then q else p) = r := by rw [← hr, Int.max_def]; split <;> split <;> omega
  unfold Oper.wp execOp
  simp only [ho, resolve, invoke, builtin, Sem.run_bind, Sem.run_pure, Result.andThen_ok, List.map_toArray, List.map_cons, List.map_nil, hx, hy, run_max_int2, e]
  exact hK _ _ h
end
/-- Up to there no later day falls into the same stretch. -/
def newB (K : Int) (ds : List Int) (i m : Nat) : Bool := ((ds.drop (i + 1)).take m).all fun x => un K x != un K (ds.getD i 0)
theorem newB_succ {K : Int} {ds : List Int} {i m : Nat} (h : i + 1 + m < ds.length) : newB K ds i (m + 1) = (newB K ds i m && (un K ds[i + 1 + m] != un K (ds.getD i 0))) := by
  unfold newB
  have hl : m < (ds.drop (i + 1)).length := by simp; omega
  rw [List.take_add_one, List.getElem?_eq_getElem hl, List.all_append]
  simp
theorem stays_new {D W M today : Int} {ds : List Int} {i m : Nat} (h : i + 1 + m = ds.length) : staysB D W M today ds i = (decide (i + 1 = ds.length) || (newB 28 ds i m && decide (max (un 28 today - un 28 (ds.getD i 0)) 0 < M)) || (newB 7 ds i m && decide (max (un 7 today - un 7 (ds.getD i 0)) 0 < W)) || (newB 1 ds i m && decide (max (un 1 today - un 1 (ds.getD i 0)) 0 < D))) := by
  have e : (ds.drop (i + 1)).take m = ds.drop (i + 1) := List.take_of_length_le (by simp; omega)
  unfold staysB lastB newB
  rw [e]
theorem un_one (x : Int) : un 1 x = max x 0 := by unfold un; simp
theorem quo_nn {k d : Int} (hk : 1 ≤ k) (h0 : 0 ≤ d) (h : d ≤ 9223372036854775807) : wrap64 (d.tdiv k) = d / k := by
  rw [quo_un hk h0 h]; unfold un; rw [Int.max_eq_left h0]
set_option maxHeartbeats 4000000 in
set_option maxRecDepth 100000 in
theorem keep17_any (D W M today : Int) (A : Option Addr) (n c i : Nat) (ps : List Pt) (w : World) (hi : i < n) (hs : Sl ePt w A n c ps) (hd : ∀ p ∈ ps, p.day ≤ 9223372036854775807) (ht : today ≤ 9223372036854775807) :
    Calls Try.prog 10 #[.slice A n c, .int .i64 i, .int .i64 D, .int .i64 W, .int .i64 M, .int .i64 today] w
      fun e w' => e = .returned (.bool (staysB D W M today (ps.map Pt.day) i)) ∧ w' = w := by
  have hn := hs.1
  have b1 := hs.2.1
  have b2 := hs.2.2.1
  obtain ⟨b, off, eA, lA, hr⟩ := hs.2.2.2 (by omega)
  subst eA
  have hip : i < ps.length := by omega
  have x2 : w.cell? ⟨b, off + i * 4 + 2, none⟩ = some (.int .i64 ps[i].day) := hr i hip 2 (by decide)
  have hdi := hd ps[i] (List.getElem_mem hip)
  obtain ⟨y, hy⟩ : ∃ y, y = ps[i].day := ⟨_, rfl⟩
  rw [← hy] at x2 hdi
  obtain ⟨t, ht'⟩ : ∃ t, max today 0 = t := ⟨_, rfl⟩
  obtain ⟨d, hd'⟩ : ∃ t, max y 0 = t := ⟨_, rfl⟩
  have t0 : 0 ≤ t := by omega
  have t1 : t ≤ 9223372036854775807 := by omega
  have d0 : 0 ≤ d := by omega
  have d1 : d ≤ 9223372036854775807 := by omega
  have Hd := hide hd
  have Hr := hide hr
  have Hn := hide hn
  have Hy := hide hy
  have hud : ∀ K, un K ((ps.map Pt.day).getD i 0) = d / K := fun K => by
    rw [List.getD_eq_getElem?_getD, List.getElem?_map, List.getElem?_eq_getElem hip, Option.map_some, Option.getD_some, ← unhide Hy]
    unfold un; rw [hd']
  have hut : ∀ K, un K today = t / K := fun K => by unfold un; rw [ht']
  have Hud := hide hud
  have Hut := hide hut
  have HT := hide ht'
  have HD := hide hd'
  clear hd hr hn hy hud hut hs ht ht' hd'
  go_enter Try.func10, Try.ntmps10
  go_wp2_with (first | (refine wpList_max rfl _ _ _ rfl today 0 t rfl rfl (unhide HT) _ ?_) | (refine wpList_max rfl _ _ _ rfl y 0 d rfl rfl (unhide HD) _ ?_))
  go_loopw [14, 15, 16, 17] (fun v1 v7 v28 j wr => ∃ k : Nat, i + 1 ≤ k ∧ k ≤ n ∧ j = .int .i64 k ∧ v1 = .bool (newB 1 (ps.map Pt.day) i (k - (i + 1))) ∧ v7 = .bool (newB 7 (ps.map Pt.day) i (k - (i + 1))) ∧ v28 = .bool (newB 28 (ps.map Pt.day) i (k - (i + 1))) ∧ wr = w) (fun _ _ _ j _ => n - (intOf j).toNat)
  case atStart => exact ⟨i + 1, by omega, by omega, by go_num, by simp [newB], by simp [newB], by simp [newB], rfl⟩
  case round =>
    obtain ⟨k, hk1, hk2, rfl, rfl, rfl, rfl, rfl⟩ := hrel
    by_cases hlt : k < n
    · have hkp : k < ps.length := by have := unhide Hn; omega
      have z2 : wr.cell? ⟨b, off + k * 4 + 2, none⟩ = some (.int .i64 ps[k].day) := (unhide Hr) k hkp 2 (by decide)
      have hdk := (unhide Hd) ps[k] (List.getElem_mem hkp)
      obtain ⟨q, hq⟩ : ∃ q, q = ps[k].day := ⟨_, rfl⟩
      rw [← hq] at z2 hdk
      obtain ⟨e, he⟩ : ∃ t, max q 0 = t := ⟨_, rfl⟩
      have e0 : 0 ≤ e := by omega
      have e1 : e ≤ 9223372036854775807 := by omega
      have hnx : ∀ K, newB K (ps.map Pt.day) i (k + 1 - (i + 1)) = (newB K (ps.map Pt.day) i (k - (i + 1)) && (e / K != d / K)) := fun K => by
        have := newB_succ (K := K) (ds := ps.map Pt.day) (i := i) (m := k - (i + 1)) (by simp; omega)
        rw [show k + 1 - (i + 1) = k - (i + 1) + 1 by omega, this, unhide Hud K]
        have e2 : ∀ h, un K ((ps.map Pt.day)[i + 1 + (k - (i + 1))]'h) = e / K := fun h => by
          rw [List.getElem_map]
          have e3 : ∀ h', (ps[i + 1 + (k - (i + 1))]'h').day = q := fun h' => by rw [hq]; congr 2; omega
          rw [e3]; unfold un; rw [he]
        rw [e2]
      have q7 := quo_nn (k := 7) (by omega) e0 e1
      have q28 := quo_nn (k := 28) (by omega) e0 e1
      have r7 := quo_nn (k := 7) (by omega) d0 d1
      have r28 := quo_nn (k := 28) (by omega) d0 d1
      have Hnx := hide hnx
      have HE := hide he
      have HQ7 := hide q7
      have HQ28 := hide q28
      have HR7 := hide r7
      have HR28 := hide r28
      clear hnx hq he q7 q28 r7 r28
      obtain ⟨B1, hB1⟩ : ∃ B, B = newB 1 (ps.map Pt.day) i (k - (i + 1)) := ⟨_, rfl⟩
      obtain ⟨B7, hB7⟩ : ∃ B, B = newB 7 (ps.map Pt.day) i (k - (i + 1)) := ⟨_, rfl⟩
      obtain ⟨B28, hB28⟩ : ∃ B, B = newB 28 (ps.map Pt.day) i (k - (i + 1)) := ⟨_, rfl⟩
      rw [← hB1, ← hB7, ← hB28]
      have HB1 := hide hB1
      have HB7 := hide hB7
      have HB28 := hide hB28
      clear hB1 hB7 hB28
      cases B1 <;> cases B7 <;> cases B28
      all_goals go_wp2_with (refine wpList_max rfl _ _ _ rfl q 0 e rfl rfl (unhide HE) _ ?_)
      all_goals go_roundw
      all_goals first
        | (case rel => exact ⟨k + 1, by omega, by omega, by go_num, by rw [unhide Hnx 1, ← unhide HB1]; simp, by rw [unhide Hnx 7, ← unhide HB7]; simp, by rw [unhide Hnx 28, ← unhide HB28]; simp, trivial⟩)
        | skip
      all_goals (simp [intOf]; omega)
    · have hkn : k = n := by omega
      subst hkn
      have hlen : i + 1 + (k - (i + 1)) = (ps.map Pt.day).length := by have := unhide Hn; simp; omega
      have hst := stays_new (D := D) (W := W) (M := M) (today := today) hlen
      rw [unhide Hud, unhide Hud, unhide Hud, unhide Hut, unhide Hut, unhide Hut] at hst
      have Hst := hide hst
      have hln : (i + 1 = (ps.map Pt.day).length) ↔ (i + 1 = k) := by have := unhide Hn; simp; omega
      have Hln := hide hln
      have q7 := quo_nn (k := 7) (by omega) t0 t1
      have q28 := quo_nn (k := 28) (by omega) t0 t1
      have r7 := quo_nn (k := 7) (by omega) d0 d1
      have r28 := quo_nn (k := 28) (by omega) d0 d1
      clear hst hln hlen
      obtain ⟨B1, hB1⟩ : ∃ B, B = newB 1 (ps.map Pt.day) i (k - (i + 1)) := ⟨_, rfl⟩
      obtain ⟨B7, hB7⟩ : ∃ B, B = newB 7 (ps.map Pt.day) i (k - (i + 1)) := ⟨_, rfl⟩
      obtain ⟨B28, hB28⟩ : ∃ B, B = newB 28 (ps.map Pt.day) i (k - (i + 1)) := ⟨_, rfl⟩
      rw [← hB1, ← hB7, ← hB28]
      have HB1 := hide hB1
      have HB7 := hide hB7
      have HB28 := hide hB28
      clear hB1 hB7 hB28
      have hk1' : wrap64 ((k : Int) - 1) = (k : Int) - 1 := by unfold wrap64; omega
      by_cases hlast : i + 1 = k
      · have hres : staysB D W M today (ps.map Pt.day) i = true := by
          rw [unhide Hst, decide_eq_true ((unhide Hln).2 hlast)]
          simp
        have Hres := hide hres
        clear hres
        go_wp2
        go_ret
        exact ⟨ret_bool (unhide Hres).symm, rfl⟩
      · cases B1 <;> cases B7 <;> cases B28
        all_goals go_wp2
        all_goals
          go_ret
          refine ⟨ret_bool ?_, rfl⟩
          rw [unhide Hst, ← unhide HB1, ← unhide HB7, ← unhide HB28, Bool.eq_iff_iff]
          simp only [unhide Hln, Bool.or_eq_true, Bool.and_eq_true, decide_eq_true_eq, beq_iff_eq, Bool.false_eq_true, false_and, true_and, or_false, false_or, true_iff, iff_true]
          omega
end Go.Proofs.Ytdpbjigdihajjaa
