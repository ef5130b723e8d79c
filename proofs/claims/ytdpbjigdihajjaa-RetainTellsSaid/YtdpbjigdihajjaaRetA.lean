/- Walks of package retain: Week, Month, same, unit.last. -/
import Derived.Test.YtdpbjigdihajjaaRetPlain
namespace Go.Proofs.Ytdpbjigdihajjaa
open Go.RowKit Retain

structure Pt where
  id : Int
  kind : Int
  day : Int
  eA : Option Addr
  eN : Nat
  eC : Nat
def ePt : Enc Pt := ⟨4, fun p j => match j with | 0 => .int .i64 p.id | 1 => .int .i64 p.kind | 2 => .int .i64 p.day | _ => .slice p.eA p.eN p.eC⟩

theorem Rd.pt {w : World} {b off : Nat} {ps : List Pt} (h : Rd ePt w b off ps) {i : Nat} (hi : i < ps.length) :
    w.cell? ⟨b, off + i * 4, none⟩ = some (.int .i64 ps[i].id) ∧ w.cell? ⟨b, off + i * 4 + 1, none⟩ = some (.int .i64 ps[i].kind) ∧
    w.cell? ⟨b, off + i * 4 + 2, none⟩ = some (.int .i64 ps[i].day) ∧ w.cell? ⟨b, off + i * 4 + 3, none⟩ = some (.slice ps[i].eA ps[i].eN ps[i].eC) :=
  ⟨h i hi 0 (by decide), h i hi 1 (by decide), h i hi 2 (by decide), h i hi 3 (by decide)⟩

theorem un_bd {k d : Int} (hk : 1 ≤ k) (h : d ≤ 9223372036854775807) : 0 ≤ un k d ∧ un k d ≤ 9223372036854775807 := by
  unfold un
  have h0 : 0 ≤ max d 0 := by omega
  have h1 : max d 0 ≤ 9223372036854775807 := by omega
  exact ⟨Int.ediv_nonneg h0 (by omega), Int.le_trans (Int.ediv_le_self _ h0) h1⟩
theorem quo_un {k d : Int} (hk : 1 ≤ k) (h0 : 0 ≤ d) (h : d ≤ 9223372036854775807) : wrap64 (d.tdiv k) = un k d := by
  rw [Int.tdiv_eq_ediv_of_nonneg h0]
  have h1 : 0 ≤ d / k := Int.ediv_nonneg h0 (by omega)
  have h2 : d / k ≤ d := Int.ediv_le_self _ h0
  have e : un k d = d / k := by unfold un; rw [Int.max_eq_left h0]
  rw [e]; unfold wrap64; omega

theorem same_any (d : Int) (w : World) (_h : d ≤ 9223372036854775807) : Calls Try.prog 78 #[.int .i64 d] w fun e w' => e = .returned (.int .i64 (un 1 d)) ∧ w' = w := by
  go_enter Try.func78, Try.ntmps78
  go_wp2
  all_goals
    go_ret
    refine ⟨?_, rfl⟩
    simp [un]
    omega
theorem month_any (d : Int) (w : World) (h : d ≤ 9223372036854775807) : Calls Try.prog 14 #[.int .i64 d] w fun e w' => e = .returned (.int .i64 (un 28 d)) ∧ w' = w := by
  have H := hide h
  clear h
  go_enter Try.func14, Try.ntmps14
  go_wp2
  · go_ret
    refine ⟨?_, rfl⟩
    have h0 : d < 0 := by assumption
    exact ret_int (by unfold un; rw [Int.max_eq_right (by omega)]; unfold wrap64; omega)
  · go_ret
    refine ⟨?_, rfl⟩
    have h0 : 0 ≤ d := by assumption
    rw [← quo_un (by omega) h0 (unhide H)]; rfl
theorem week_any (d : Int) (w : World) (h : d ≤ 9223372036854775807) : Calls Try.prog 13 #[.int .i64 d] w fun e w' => e = .returned (.int .i64 (un 7 d)) ∧ w' = w := by
  have H := hide h
  clear h
  go_enter Try.func13, Try.ntmps13
  go_wp2
  · go_ret
    refine ⟨?_, rfl⟩
    have h0 : d < 0 := by assumption
    exact ret_int (by unfold un; rw [Int.max_eq_right (by omega)]; unfold wrap64; omega)
  · go_ret
    refine ⟨?_, rfl⟩
    have h0 : 0 ≤ d := by assumption
    rw [← quo_un (by omega) h0 (unhide H)]; rfl

theorem last_false_of {at_ k : Nat} {F many today : Int} {ps : List Pt} {q : Pt} {ha : at_ < ps.length} (hk : k < (ps.drop (at_ + 1)).length) (hq : q = (ps.drop (at_ + 1))[k]'hk)
    (he : un F q.day = un F ps[at_].day) : lastB F many today (ps.map Pt.day) at_ = false := by
  rw [Bool.eq_false_iff]; intro hc
  rw [lastB_iff] at hc
  rw [List.length_drop] at hk
  have := hc.1 (at_ + 1 + k) (by omega) (by simp; omega)
  rw [List.getElem_drop] at hq
  subst hq
  simp [List.getElem?_eq_getElem ha, List.getElem?_eq_getElem (show at_ + 1 + k < ps.length by omega)] at this
  exact this he
def Apart (F : Int) (ps : List Pt) (at_ m : Nat) : Prop := ∀ j (h : at_ + 1 + j < ps.length) (ha : at_ < ps.length), j < m → un F ps[at_ + 1 + j].day ≠ un F ps[at_].day
theorem Apart.snoc {at_ k : Nat} {F : Int} {ps : List Pt} {q : Pt} {ha : at_ < ps.length} (hn : Apart F ps at_ k) {hk : k < (ps.drop (at_ + 1)).length} (hq : q = (ps.drop (at_ + 1))[k]'hk)
    (he : ¬ un F q.day = un F ps[at_].day) : Apart F ps at_ (k + 1) := by
  intro j h ha hj
  by_cases e : j = k
  · subst e; rw [List.getElem_drop] at hq; subst hq; exact he
  · exact hn j h ha (by omega)
theorem last_of {at_ : Nat} {F many today : Int} {ps : List Pt} {ha : at_ < ps.length} {m : Nat} (hn : Apart F ps at_ m) (hm : m = ps.length - (at_ + 1)) :
    lastB F many today (ps.map Pt.day) at_ = decide (max (un F today - un F ps[at_].day) 0 < many) := by
  rw [Bool.eq_iff_iff, lastB_iff, decide_eq_true_iff]
  have e : (ps.map Pt.day).getD at_ 0 = ps[at_].day := by simp [List.getElem?_eq_getElem ha]
  rw [e]
  refine and_iff_right_of_imp fun _ j h1 h2 => ?_
  rw [List.length_map] at h2
  have := hn (j - (at_ + 1)) (by omega) ha (by omega)
  have e2 : at_ + 1 + (j - (at_ + 1)) = j := by omega
  simp only [e2] at this
  simpa [List.getElem?_eq_getElem h2] using this

set_option maxHeartbeats 400000 in
theorem last_month (many today : Int)
    (b off c at_ : Nat) (ps : List Pt) (w : World) (hb : b < w.heap.size) (hp : Rd ePt w b off ps) (ha : at_ < ps.length) (hc : ps.length ≤ c) (hc2 : c ≤ 9223372036854775807)
    (hd : ∀ p ∈ ps, p.day ≤ 9223372036854775807) (ht : today ≤ 9223372036854775807) :
    Calls Try.prog 79 #[.agg #[.func (.func 14) #[] #[], .int .i64 many], .slice (some ⟨b, off, none⟩) ps.length c, .int .i64 at_, .int .i64 today] w
      fun e w' => e = .returned (.bool (lastB 28 many today (ps.map Pt.day) at_)) ∧ Below w.heap.size w w' := by
  have h0 := (hp.pt ha).2.2.1
  have Hd := hide hd
  clear hd
  have hdat := (unhide Hd) ps[at_] (List.getElem_mem ha)
  obtain ⟨u0, u1⟩ := un_bd (k := 28) (by omega) hdat
  obtain ⟨v0, v1⟩ := un_bd (k := 28) (by omega) ht
  go_enter Try.func79, Try.ntmps79
  go_wp2
  go_quiet ((go_at_call 14; refine Calls.quiet_of_same (month_any _ _ (by omega))))
  go_wp2
  all_goals
    have B0 : Below w.heap.size w ((w.alloc (.cells #[.func (.func 14) #[] #[], .int .i64 many] 119)).drewN nq) := below_drewN ((Below.refl _ _).alloc (Nat.le_refl _) _) _
    have C0 : ((w.alloc (.cells #[.func (.func 14) #[] #[], .int .i64 many] 119)).drewN nq).cell? ⟨w.heap.size, 0, none⟩ = some (.func (.func 14) #[] #[]) := World.cell?_alloc_at _ _ _ _ rfl
    have C1 : ((w.alloc (.cells #[.func (.func 14) #[] #[], .int .i64 many] 119)).drewN nq).cell? ⟨w.heap.size, 1, none⟩ = some (.int .i64 many) := World.cell?_alloc_at _ _ _ _ rfl
    go_loopw [25] (fun i wr => ∃ k : Nat, k ≤ ps.length - (at_ + 1) ∧ i = .int .i64 k ∧ Apart 28 ps at_ k ∧ Below w.heap.size w wr ∧
        wr.cell? ⟨w.heap.size, 0, none⟩ = some (.func (.func 14) #[] #[]) ∧ wr.cell? ⟨w.heap.size, 1, none⟩ = some (.int .i64 many) ∧ w.heap.size < wr.heap.size)
      (fun i _ => ps.length - (intOf i).toNat)
    case atStart => exact ⟨0, Nat.zero_le _, rfl, fun j _ _ hj => by omega, B0, C0, C1, by simp⟩
    case round =>
      obtain ⟨k, hk, rfl, hne, HB, hc0, hc1, hsz⟩ := hrel
      by_cases hlt : k < ps.length - (at_ + 1)
      · have hkl : k < (ps.drop (at_ + 1)).length := by simp; omega
        obtain ⟨x0, x1, x2, x3⟩ := ((hp.below HB hb).drop (at_ + 1)).pt hkl
        obtain ⟨q, hq⟩ : ∃ q : Pt, q = (ps.drop (at_ + 1))[k]'hkl := ⟨_, rfl⟩
        have hdq : q.day ≤ 9223372036854775807 := (unhide Hd) q (by rw [hq]; exact List.mem_of_mem_drop (List.getElem_mem _))
        rw [← hq] at x0 x1 x2 x3
        simp only [show ePt.sz = 4 from rfl] at x0 x1 x2 x3
        have Hq := hide hq
        clear hq
        by_cases he : un 28 q.day = un 28 ps[at_].day
        · have he' : (un 28 q.day == un 28 ps[at_].day) = true := by simp [he]
          have He := hide he
          clear he
          first
            | (exfalso; omega)
            | (go_wp2_with (go_at_call 14; refine (month_any _ _ (by omega)).mono ?_; rintro e w' ⟨he1, hw1⟩; subst he1; subst hw1)
               go_ret
               refine ⟨?_, HB.alloc (by omega) _⟩
               rw [last_false_of (ha := ha) hkl (unhide Hq) (unhide He)]
               rfl)
        · have he' : (un 28 q.day == un 28 ps[at_].day) = false := by simp [he]
          have He := hide he
          clear he
          first
            | (exfalso; omega)
            | (go_wp2_with (go_at_call 14; refine (month_any _ _ (by omega)).mono ?_; rintro e w' ⟨he1, hw1⟩; subst he1; subst hw1)
               go_roundw
               case rel => exact ⟨k + 1, by omega, by go_num, hne.snoc (ha := ha) (unhide Hq) (unhide He), HB.alloc (by omega) _, by rw [World.cell?_alloc_past _ _ _ hsz]; exact hc0, by rw [World.cell?_alloc_past _ _ _ hsz]; exact hc1, by simp; omega⟩
               case measure => simp [intOf]; omega)
      · have HL := hide (last_of (many := many) (today := today) (ha := ha) hne (by omega))
        clear hne
        go_wp2
        go_quiet ((go_at_call 14; refine Calls.quiet_of_same (month_any _ _ (by omega))))
        go_wp2
        all_goals
          go_ret
          refine ⟨?_, below_drewN HB _⟩
          exact ret_bool (by rw [unhide HL, decide_eq_decide]; omega)

set_option maxHeartbeats 400000 in
theorem last_week (many today : Int)
    (b off c at_ : Nat) (ps : List Pt) (w : World) (hb : b < w.heap.size) (hp : Rd ePt w b off ps) (ha : at_ < ps.length) (hc : ps.length ≤ c) (hc2 : c ≤ 9223372036854775807)
    (hd : ∀ p ∈ ps, p.day ≤ 9223372036854775807) (ht : today ≤ 9223372036854775807) :
    Calls Try.prog 79 #[.agg #[.func (.func 13) #[] #[], .int .i64 many], .slice (some ⟨b, off, none⟩) ps.length c, .int .i64 at_, .int .i64 today] w
      fun e w' => e = .returned (.bool (lastB 7 many today (ps.map Pt.day) at_)) ∧ Below w.heap.size w w' := by
  have h0 := (hp.pt ha).2.2.1
  have Hd := hide hd
  clear hd
  have hdat := (unhide Hd) ps[at_] (List.getElem_mem ha)
  obtain ⟨u0, u1⟩ := un_bd (k := 7) (by omega) hdat
  obtain ⟨v0, v1⟩ := un_bd (k := 7) (by omega) ht
  go_enter Try.func79, Try.ntmps79
  go_wp2
  go_quiet ((go_at_call 13; refine Calls.quiet_of_same (week_any _ _ (by omega))))
  go_wp2
  all_goals
    have B0 : Below w.heap.size w ((w.alloc (.cells #[.func (.func 13) #[] #[], .int .i64 many] 119)).drewN nq) := below_drewN ((Below.refl _ _).alloc (Nat.le_refl _) _) _
    have C0 : ((w.alloc (.cells #[.func (.func 13) #[] #[], .int .i64 many] 119)).drewN nq).cell? ⟨w.heap.size, 0, none⟩ = some (.func (.func 13) #[] #[]) := World.cell?_alloc_at _ _ _ _ rfl
    have C1 : ((w.alloc (.cells #[.func (.func 13) #[] #[], .int .i64 many] 119)).drewN nq).cell? ⟨w.heap.size, 1, none⟩ = some (.int .i64 many) := World.cell?_alloc_at _ _ _ _ rfl
    go_loopw [25] (fun i wr => ∃ k : Nat, k ≤ ps.length - (at_ + 1) ∧ i = .int .i64 k ∧ Apart 7 ps at_ k ∧ Below w.heap.size w wr ∧
        wr.cell? ⟨w.heap.size, 0, none⟩ = some (.func (.func 13) #[] #[]) ∧ wr.cell? ⟨w.heap.size, 1, none⟩ = some (.int .i64 many) ∧ w.heap.size < wr.heap.size)
      (fun i _ => ps.length - (intOf i).toNat)
    case atStart => exact ⟨0, Nat.zero_le _, rfl, fun j _ _ hj => by omega, B0, C0, C1, by simp⟩
    case round =>
      obtain ⟨k, hk, rfl, hne, HB, hc0, hc1, hsz⟩ := hrel
      by_cases hlt : k < ps.length - (at_ + 1)
      · have hkl : k < (ps.drop (at_ + 1)).length := by simp; omega
        obtain ⟨x0, x1, x2, x3⟩ := ((hp.below HB hb).drop (at_ + 1)).pt hkl
        obtain ⟨q, hq⟩ : ∃ q : Pt, q = (ps.drop (at_ + 1))[k]'hkl := ⟨_, rfl⟩
        have hdq : q.day ≤ 9223372036854775807 := (unhide Hd) q (by rw [hq]; exact List.mem_of_mem_drop (List.getElem_mem _))
        rw [← hq] at x0 x1 x2 x3
        simp only [show ePt.sz = 4 from rfl] at x0 x1 x2 x3
        have Hq := hide hq
        clear hq
        by_cases he : un 7 q.day = un 7 ps[at_].day
        · have he' : (un 7 q.day == un 7 ps[at_].day) = true := by simp [he]
          have He := hide he
          clear he
          first
            | (exfalso; omega)
            | (go_wp2_with (go_at_call 13; refine (week_any _ _ (by omega)).mono ?_; rintro e w' ⟨he1, hw1⟩; subst he1; subst hw1)
               go_ret
               refine ⟨?_, HB.alloc (by omega) _⟩
               rw [last_false_of (ha := ha) hkl (unhide Hq) (unhide He)]
               rfl)
        · have he' : (un 7 q.day == un 7 ps[at_].day) = false := by simp [he]
          have He := hide he
          clear he
          first
            | (exfalso; omega)
            | (go_wp2_with (go_at_call 13; refine (week_any _ _ (by omega)).mono ?_; rintro e w' ⟨he1, hw1⟩; subst he1; subst hw1)
               go_roundw
               case rel => exact ⟨k + 1, by omega, by go_num, hne.snoc (ha := ha) (unhide Hq) (unhide He), HB.alloc (by omega) _, by rw [World.cell?_alloc_past _ _ _ hsz]; exact hc0, by rw [World.cell?_alloc_past _ _ _ hsz]; exact hc1, by simp; omega⟩
               case measure => simp [intOf]; omega)
      · have HL := hide (last_of (many := many) (today := today) (ha := ha) hne (by omega))
        clear hne
        go_wp2
        go_quiet ((go_at_call 13; refine Calls.quiet_of_same (week_any _ _ (by omega))))
        go_wp2
        all_goals
          go_ret
          refine ⟨?_, below_drewN HB _⟩
          exact ret_bool (by rw [unhide HL, decide_eq_decide]; omega)

set_option maxHeartbeats 400000 in
theorem last_same (many today : Int)
    (b off c at_ : Nat) (ps : List Pt) (w : World) (hb : b < w.heap.size) (hp : Rd ePt w b off ps) (ha : at_ < ps.length) (hc : ps.length ≤ c) (hc2 : c ≤ 9223372036854775807)
    (hd : ∀ p ∈ ps, p.day ≤ 9223372036854775807) (ht : today ≤ 9223372036854775807) :
    Calls Try.prog 79 #[.agg #[.func (.func 78) #[] #[], .int .i64 many], .slice (some ⟨b, off, none⟩) ps.length c, .int .i64 at_, .int .i64 today] w
      fun e w' => e = .returned (.bool (lastB 1 many today (ps.map Pt.day) at_)) ∧ Below w.heap.size w w' := by
  have h0 := (hp.pt ha).2.2.1
  have Hd := hide hd
  clear hd
  have hdat := (unhide Hd) ps[at_] (List.getElem_mem ha)
  obtain ⟨u0, u1⟩ := un_bd (k := 1) (by omega) hdat
  obtain ⟨v0, v1⟩ := un_bd (k := 1) (by omega) ht
  go_enter Try.func79, Try.ntmps79
  go_wp2
  go_quiet ((go_at_call 78; refine Calls.quiet_of_same (same_any _ _ (by omega))))
  go_wp2
  all_goals
    have B0 : Below w.heap.size w ((w.alloc (.cells #[.func (.func 78) #[] #[], .int .i64 many] 119)).drewN nq) := below_drewN ((Below.refl _ _).alloc (Nat.le_refl _) _) _
    have C0 : ((w.alloc (.cells #[.func (.func 78) #[] #[], .int .i64 many] 119)).drewN nq).cell? ⟨w.heap.size, 0, none⟩ = some (.func (.func 78) #[] #[]) := World.cell?_alloc_at _ _ _ _ rfl
    have C1 : ((w.alloc (.cells #[.func (.func 78) #[] #[], .int .i64 many] 119)).drewN nq).cell? ⟨w.heap.size, 1, none⟩ = some (.int .i64 many) := World.cell?_alloc_at _ _ _ _ rfl
    go_loopw [25] (fun i wr => ∃ k : Nat, k ≤ ps.length - (at_ + 1) ∧ i = .int .i64 k ∧ Apart 1 ps at_ k ∧ Below w.heap.size w wr ∧
        wr.cell? ⟨w.heap.size, 0, none⟩ = some (.func (.func 78) #[] #[]) ∧ wr.cell? ⟨w.heap.size, 1, none⟩ = some (.int .i64 many) ∧ w.heap.size < wr.heap.size)
      (fun i _ => ps.length - (intOf i).toNat)
    case atStart => exact ⟨0, Nat.zero_le _, rfl, fun j _ _ hj => by omega, B0, C0, C1, by simp⟩
    case round =>
      obtain ⟨k, hk, rfl, hne, HB, hc0, hc1, hsz⟩ := hrel
      by_cases hlt : k < ps.length - (at_ + 1)
      · have hkl : k < (ps.drop (at_ + 1)).length := by simp; omega
        obtain ⟨x0, x1, x2, x3⟩ := ((hp.below HB hb).drop (at_ + 1)).pt hkl
        obtain ⟨q, hq⟩ : ∃ q : Pt, q = (ps.drop (at_ + 1))[k]'hkl := ⟨_, rfl⟩
        have hdq : q.day ≤ 9223372036854775807 := (unhide Hd) q (by rw [hq]; exact List.mem_of_mem_drop (List.getElem_mem _))
        rw [← hq] at x0 x1 x2 x3
        simp only [show ePt.sz = 4 from rfl] at x0 x1 x2 x3
        have Hq := hide hq
        clear hq
        by_cases he : un 1 q.day = un 1 ps[at_].day
        · have he' : (un 1 q.day == un 1 ps[at_].day) = true := by simp [he]
          have He := hide he
          clear he
          first
            | (exfalso; omega)
            | (go_wp2_with (go_at_call 78; refine (same_any _ _ (by omega)).mono ?_; rintro e w' ⟨he1, hw1⟩; subst he1; subst hw1)
               go_ret
               refine ⟨?_, HB.alloc (by omega) _⟩
               rw [last_false_of (ha := ha) hkl (unhide Hq) (unhide He)]
               rfl)
        · have he' : (un 1 q.day == un 1 ps[at_].day) = false := by simp [he]
          have He := hide he
          clear he
          first
            | (exfalso; omega)
            | (go_wp2_with (go_at_call 78; refine (same_any _ _ (by omega)).mono ?_; rintro e w' ⟨he1, hw1⟩; subst he1; subst hw1)
               go_roundw
               case rel => exact ⟨k + 1, by omega, by go_num, hne.snoc (ha := ha) (unhide Hq) (unhide He), HB.alloc (by omega) _, by rw [World.cell?_alloc_past _ _ _ hsz]; exact hc0, by rw [World.cell?_alloc_past _ _ _ hsz]; exact hc1, by simp; omega⟩
               case measure => simp [intOf]; omega)
      · have HL := hide (last_of (many := many) (today := today) (ha := ha) hne (by omega))
        clear hne
        go_wp2
        go_quiet ((go_at_call 78; refine Calls.quiet_of_same (same_any _ _ (by omega))))
        go_wp2
        all_goals
          go_ret
          refine ⟨?_, below_drewN HB _⟩
          exact ret_bool (by rw [unhide HL, decide_eq_decide]; omega)

end Go.Proofs.Ytdpbjigdihajjaa
