/- Walks of package retain: part, Keep, Gone. -/
import Derived.Test.YtdpbjigdihajjaaRetB
namespace Go.Proofs.Ytdpbjigdihajjaa
open Go.RowKit Retain

def days (ps : List Pt) : List Int := ps.map Pt.day
/-- Which points stay, or do not: their ids. -/
def partL (D W M today : Int) (ps : List Pt) (wanted : Bool) (k : Nat) : List Int :=
  (((List.range k).filter fun i => staysB D W M today (ps.map Pt.day) i == wanted).filterMap fun i => ps[i]?).map Pt.id
theorem partL_yes {D W M today : Int} {ps : List Pt} {wanted : Bool} {k : Nat} (hk : k < ps.length) (h : (staysB D W M today (ps.map Pt.day) k == wanted) = true) :
    partL D W M today ps wanted (k + 1) = partL D W M today ps wanted k ++ [ps[k].id] := by
  unfold partL
  rw [List.range_succ, List.filter_append]
  simp [h, hk]
theorem partL_no {D W M today : Int} {ps : List Pt} {wanted : Bool} {k : Nat} (h : (staysB D W M today (ps.map Pt.day) k == wanted) = false) :
    partL D W M today ps wanted (k + 1) = partL D W M today ps wanted k := by
  unfold partL
  rw [List.range_succ, List.filter_append]
  simp [h]
theorem partL_le (D W M today : Int) (ps : List Pt) (wanted : Bool) (k : Nat) : (partL D W M today ps wanted k).length ≤ k := by
  unfold partL
  rw [List.length_map]
  refine Nat.le_trans (List.length_filterMap_le _ _) ?_
  refine Nat.le_trans (List.length_filter_le _ _) (by simp)

theorem Try.info3 : (Try.prog.info? 3).map (fun i => (i.zero, i.size, i.bytes)) = some (some (.int .i64 0), 1, 8) := by kernel_rfl

set_option maxHeartbeats 800000 in
theorem part_any (D W M today : Int) (wanted : Bool) (A : Option Addr) (n c : Nat) (ps : List Pt) (w : World) (hs : Sl ePt w A n c ps) (hr : n * 8 ≤ 140737488351232)
    (hd : ∀ p ∈ ps, p.day ≤ 9223372036854775807) (ht : today ≤ 9223372036854775807) :
    Calls Try.prog 24 #[.slice A n c, .agg #[.int .i64 D, .int .i64 W, .int .i64 M], .int .i64 today, .bool wanted] w
      fun e w' => ∃ v, e = .returned v ∧ w'.ownsRow w.heap.size 3 1 v (partL D W M today ps wanted n).length ((partL D W M today ps wanted n).map (Value.int .i64)) ∧ Below w.heap.size w w' := by
  obtain ⟨i0, hi, hz0, hz1, hz2⟩ := info_parts Try.info3
  have Hd := hide hd
  clear hd
  have hn := hs.1
  have hnc := hs.2.1
  have hc2 := hs.2.2.1
  have HN := hide hn
  clear hn
  go_enter Try.func24, Try.ntmps24
  go_wp2
  have B0 : Below w.heap.size w (w.alloc (.cells #[.int .i64 D, .int .i64 W, .int .i64 M] 24)) := (Below.refl _ _).alloc (Nat.le_refl _) _
  have c0 : (w.alloc (.cells #[.int .i64 D, .int .i64 W, .int .i64 M] 24)).cell? ⟨w.heap.size, 0, none⟩ = some (.int .i64 D) := World.cell?_alloc_at _ _ _ _ rfl
  have c1 : (w.alloc (.cells #[.int .i64 D, .int .i64 W, .int .i64 M] 24)).cell? ⟨w.heap.size, 1, none⟩ = some (.int .i64 W) := World.cell?_alloc_at _ _ _ _ rfl
  have c2 : (w.alloc (.cells #[.int .i64 D, .int .i64 W, .int .i64 M] 24)).cell? ⟨w.heap.size, 2, none⟩ = some (.int .i64 M) := World.cell?_alloc_at _ _ _ _ rfl
  go_loopw [9, 13] (fun v i wr => ∃ k : Nat, k ≤ n ∧ i = .int .i64 k ∧ wr.ownsRow (w.heap.size + 1) 3 1 v (partL D W M today ps wanted k).length ((partL D W M today ps wanted k).map (Value.int .i64)) ∧ Below w.heap.size w wr ∧
      wr.cell? ⟨w.heap.size, 0, none⟩ = some (.int .i64 D) ∧ wr.cell? ⟨w.heap.size, 1, none⟩ = some (.int .i64 W) ∧ wr.cell? ⟨w.heap.size, 2, none⟩ = some (.int .i64 M) ∧ w.heap.size < wr.heap.size)
    (fun _ i _ => n - (intOf i).toNat)
  case atStart => exact ⟨0, Nat.zero_le _, rfl, World.ownsRow_nil _ _ _ _, B0, c0, c1, c2, by simp⟩
  case round =>
    obtain ⟨k, hk, rfl, hown, HB, d0, d1, d2, hsz⟩ := hrel
    by_cases hlt : k < n
    · obtain ⟨b, off, hA, hb, hrd⟩ := hs.2.2.2 (by omega)
      subst hA
      have hk' : k < ps.length := by have := unhide HN; omega
      have hl := partL_le D W M today ps wanted k
      have hbw : b < wr.heap.size := by have := HB.size; omega
      have hrw : Rd ePt wr b off ps := hrd.below HB hb
      obtain ⟨x0, _⟩ := hrw.pt hk'
      have hcc : ps.length ≤ c := by have := unhide HN; omega
      have hcon := stays_any D W M today b off c k ps wr hbw hrw hk' hcc hc2 (unhide Hd) ht
      rw [← unhide HN] at hcon
      have Hcon := hide hcon
      clear hcon
      by_cases ht1 : (staysB D W M today (ps.map Pt.day) k == wanted) = true
      · have HY := hide (partL_yes hk' ht1)
        go_wp2_with fail
        refine (unhide Hcon).mono ?_
        rintro e w2 ⟨rfl, HB2⟩
        have own2 := own_below hown HB2
        have x0' := ((bcell HB2).1 b (off + k * 4) hbw).trans x0
        have s2 := HB2.size
        have BB := HB.trans (HB2.mono (Nat.le_of_lt hsz))
        clear hown x0 hrw
        go_wp2_with (at_builtin; refine wpList_append_own_at _ rfl _ _ _ rfl (w.heap.size + 1) 3 i0 (.int .i64 0) 1 8 Try.underlying40 hi hz0 hz1 hz2 rfl (by decide) _ _ _ rfl (own2.alloc _) ⟨w2.heap.size, 0, none⟩ 1 1 [.int .i64 ps[k].id] rfl rfl ?c1 ?c2 ?c3 ?c4 ?c5 ?_)
        case c1 => exact cell_one_new _ _ _
        case c2 => intro u hu; simp at hu; subst hu; rfl
        case c3 => unfold maxLen; omega
        case c4 => omega
        case c5 => simp; omega
        intro v' w3 hown' hgrow _ _
        go_wp2
        have hb3 : Below w.heap.size w w3 := (BB.alloc (by omega) _).grown hgrow (by simp; omega) (fun j hj => by have := (own2.lt j hj).1; omega)
        have d3 : ∀ j, w3.cell? ⟨w.heap.size, j, none⟩ = wr.cell? ⟨w.heap.size, j, none⟩ := fun j => by
          rw [World.cell?_of_block (hgrow.block w.heap.size (by simp; omega) (fun e => by have := (own2.lt _ e.symm).1; omega)), World.cell?_alloc_past _ _ _ (by omega)]
          exact (bcell HB2).1 _ _ hsz
        go_roundw
        case rel => exact ⟨k + 1, by omega, by go_num, by rw [unhide HY]; simpa using hown', hb3, (d3 0).trans d0, (d3 1).trans d1, (d3 2).trans d2, by have := hgrow.size; simp at this; omega⟩
        case measure => simp [intOf]; omega
      · have ht2 : (staysB D W M today (ps.map Pt.day) k == wanted) = false := by simpa using ht1
        have HY := hide (partL_no ht2)
        clear ht1
        go_wp2_with fail
        refine (unhide Hcon).mono ?_
        rintro e w2 ⟨rfl, HB2⟩
        have own2 := own_below hown HB2
        have s2 := HB2.size
        have BB := HB.trans (HB2.mono (Nat.le_of_lt hsz))
        have T0 := (bcell HB2).1
        clear hown x0 hrw
        go_wp2
        go_roundw
        case rel => exact ⟨k + 1, by omega, by go_num, by rw [unhide HY]; exact own2, BB, (T0 _ _ hsz).trans d0, (T0 _ _ hsz).trans d1, (T0 _ _ hsz).trans d2, by omega⟩
        case measure => simp [intOf]; omega
    · go_wp2
      go_ret
      obtain rfl : k = n := by omega
      exact ⟨_, rfl, own_lower hown (by omega), HB⟩

theorem keep_any (D W M today : Int) (A : Option Addr) (n c : Nat) (ps : List Pt) (w : World) (hs : Sl ePt w A n c ps) (hr : n * 8 ≤ 140737488351232)
    (hd : ∀ p ∈ ps, p.day ≤ 9223372036854775807) (ht : today ≤ 9223372036854775807) :
    Calls Try.prog 7 #[.slice A n c, .agg #[.int .i64 D, .int .i64 W, .int .i64 M], .int .i64 today] w
      fun e w' => ∃ v, e = .returned v ∧ w'.ownsRow w.heap.size 3 1 v (partL D W M today ps true n).length ((partL D W M today ps true n).map (Value.int .i64)) ∧ Below w.heap.size w w' := by
  have B0 : Below w.heap.size w (w.alloc (.cells #[.int .i64 D, .int .i64 W, .int .i64 M] 24)) := (Below.refl _ _).alloc (Nat.le_refl _) _
  have H := hide (part_any D W M today true A n c ps _ (hs.below B0) hr hd ht)
  have hz : w.heap.size + 1 = (w.alloc (.cells #[.int .i64 D, .int .i64 W, .int .i64 M] 24)).heap.size := by simp
  have Hs := hide hs
  have HZ := hide hz
  clear hs hd hz
  go_enter Try.func7, Try.ntmps7
  go_wp2_with fail
  refine (unhide H).mono ?_
  rintro e w2 ⟨v, rfl, hown, HB⟩
  rw [← unhide HZ] at hown
  go_wp2
  go_ret
  exact ⟨_, rfl, own_lower hown (by omega), B0.trans (HB.mono (by rw [← unhide HZ]; omega))⟩

theorem gone_any (D W M today : Int) (A : Option Addr) (n c : Nat) (ps : List Pt) (w : World) (hs : Sl ePt w A n c ps) (hr : n * 8 ≤ 140737488351232)
    (hd : ∀ p ∈ ps, p.day ≤ 9223372036854775807) (ht : today ≤ 9223372036854775807) :
    Calls Try.prog 8 #[.slice A n c, .agg #[.int .i64 D, .int .i64 W, .int .i64 M], .int .i64 today] w
      fun e w' => ∃ v, e = .returned v ∧ w'.ownsRow w.heap.size 3 1 v (partL D W M today ps false n).length ((partL D W M today ps false n).map (Value.int .i64)) ∧ Below w.heap.size w w' := by
  have B0 : Below w.heap.size w (w.alloc (.cells #[.int .i64 D, .int .i64 W, .int .i64 M] 24)) := (Below.refl _ _).alloc (Nat.le_refl _) _
  have H := hide (part_any D W M today false A n c ps _ (hs.below B0) hr hd ht)
  have hz : w.heap.size + 1 = (w.alloc (.cells #[.int .i64 D, .int .i64 W, .int .i64 M] 24)).heap.size := by simp
  have Hs := hide hs
  have HZ := hide hz
  clear hs hd hz
  go_enter Try.func8, Try.ntmps8
  go_wp2_with fail
  refine (unhide H).mono ?_
  rintro e w2 ⟨v, rfl, hown, HB⟩
  rw [← unhide HZ] at hown
  go_wp2
  go_ret
  exact ⟨_, rfl, own_lower hown (by omega), B0.trans (HB.mono (by rw [← unhide HZ]; omega))⟩

end Go.Proofs.Ytdpbjigdihajjaa
