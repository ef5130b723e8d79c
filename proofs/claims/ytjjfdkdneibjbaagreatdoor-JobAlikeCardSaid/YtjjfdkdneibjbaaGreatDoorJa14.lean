/- Joined texts: ArrD, ArrE, ArrF, Fit, SetP. -/
import Derived.Test.YtjjfdkdneibjbaaGreatDoorJa10
import Derived.Test.YtjjfdkdneibjbaaGreatDoorJa04
import Derived.StillTailTactics
/- A map of extents, one behind the other. -/
namespace Go.Proofs.YtjjfdkdneibjbaaGreatDoor
open Go.RowKit

theorem wpStill_load_mid {P : Program} {ops : Array Oper} {w : World} {Q : Act → Prop} {a : Act} {o : Oper} {rest : List Oper} (hgd : o.guard = none) (ty : TypeId) (x : Operand) (ho : o.op = .load ty x)
    (b off : Nat) (hx : a.eval x = .pointer (some ⟨b, off, none⟩)) (cs : List Value) (d : TypeDesc) (hc : w.rangeAt b off cs) (hu : P.underlying ty = some d) (hd : d.isRow = true) (hi : (P.info? ty).map (·.size) = some cs.length)
    (h : wpStill P ops w Q rest (a.put o.dst (.agg cs.toArray))) : wpStill P ops w Q (o :: rest) a := by
  refine wpStill_step fun K hK => ?_
  have hw : Region.wanted o (yielded ops a.tmps) = true := by simp [Region.wanted, hgd]
  rw [if_pos hw]
  unfold Oper.still
  unfold execOp
  simp only [ho, hx, Instr.loadAt, Instr.sureAddr, Sem.run_bind, Sem.run_pure, Result.andThen_ok, run_loadVar_mid w b off ty cs d hc hu hd hi, Oper.stillUpon_value]
  exact hK _ h
/-- The map of a list of extents. -/
def ofL (es : List Ext) : List Int := es.foldl (fun m x => setL m x.from_ x.n x.id) (noneL 64)
theorem ofL_snoc (es : List Ext) (x : Ext) : ofL (es ++ [x]) = setL (ofL es) x.from_ x.n x.id := by simp [ofL]
theorem foldl_len (es : List Ext) : ∀ m : List Int, (es.foldl (fun m x => setL m x.from_ x.n x.id) m).length = m.length := by
  induction es with
  | nil => intro m; rfl
  | cons x es ih => intro m; rw [List.foldl_cons, ih, setL_len]
theorem ofL_len (es : List Ext) : (ofL es).length = 64 := (foldl_len es _).trans (noneL_len (Nat.le_refl _))
set_option maxHeartbeats 4000000 in
set_option maxRecDepth 100000 in
theorem of_any (A : Option Addr) (n c : Nat) (es : List Ext) (w : World) (hs : Sl eE w A n c es) : Calls Tryz.prog 17 #[.slice A n c] w fun e w' => e = .returned (arrV (ofL es)) ∧ Below w.heap.size w w' := by
  have hn := hs.1
  have b1 := hs.2.1
  have b2 := hs.2.2.1
  have R := hide hs.2.2.2
  have Hn := hide hn
  obtain ⟨w1, hw1⟩ : ∃ w1, w1 = w.alloc (.cells (numCells (noneL 0)).toArray 48) := ⟨_, rfl⟩
  have B1 : Below w.heap.size w w1 := by rw [hw1]; exact (Below.refl _ _).alloc (Nat.le_refl _) _
  have s1 : w1.heap.size = w.heap.size + 1 := by rw [hw1]; show (w.heap.push _).size = _; simp
  have a1 : Arr w1 w.heap.size 48 (noneL 0) := by rw [hw1]; exact Arr.alloc w _ _
  have HA1 := hide a1
  clear hs hn a1
  go_enter Tryz.func17, Tryz.ntmps17
  go_wp2_with fail
  change Calls _ _ _ (w.alloc (.cells (numCells (noneL 0)).toArray 48)) _
  rw [← hw1]
  clear hw1
  refine (refnone_any w1).mono ?_
  rintro e w2 ⟨rfl, HB2⟩
  have B2 : Below w.heap.size w w2 := B1.trans (HB2.mono (by omega))
  have a2 := hide ((unhide HA1).below HB2)
  have s2 : w.heap.size + 1 ≤ w2.heap.size := s1 ▸ HB2.size
  clear HB2 HA1 B1
  obtain ⟨w3, hw3⟩ : ∃ W, W = (w2.alloc (.cells (numCells (noneL 0)).toArray 48)).setCells w2.heap.size 0 (numCells (noneL 64)) := ⟨_, rfl⟩
  have a3 : Arr w3 w2.heap.size 48 (noneL 64) := by rw [hw3]; exact (Arr.alloc w2 _ (noneL 0)).store (by simp [noneL])
  have B3 : Below w2.heap.size w2 w3 := by rw [hw3]; exact below_setCells (Nat.le_refl _) _ _ _ ((Below.refl _ _).alloc (Nat.le_refl _) _)
  have s3 : w2.heap.size + 1 ≤ w3.heap.size := by rw [hw3, size_setCells]; show _ ≤ (w2.heap.push _).size; simp
  have H3 := hide a3
  have g2 := hide ((unhide a2).below B3)
  have B30 : Below w.heap.size w w3 := B2.trans (B3.mono (by omega))
  clear a3 B3 B2
  go_wp2_with (refine wpList_store_mid rfl _ _ _ rfl w2.heap.size 0 (numCells (noneL 64)).toArray rfl rfl ((Arr.alloc w2 48 (noneL 0)).there (by simp [numCells, noneL])) (by rw [Tryz.infoMap]; simp [numCells, noneL]) (all_oneCell_toArray (numCells_one _)) ?_)
  change Code.wp _ _ _ _ ((w2.alloc (.cells (numCells (noneL 0)).toArray 48)).setCells w2.heap.size 0 (numCells (noneL 64)))
  rw [← hw3]
  clear hw3
  obtain ⟨p, hp⟩ : ∃ p, p = w2.heap.size := ⟨_, rfl⟩
  rw [← hp] at H3 s3 ⊢
  have hpw : w.heap.size + 1 ≤ p := by omega
  clear hp s2
  go_loopw [4] (fun j wr => ∃ k : Nat, k ≤ n ∧ j = .int .i64 k ∧ Arr wr p 48 (ofL (es.take k)) ∧ Arr wr w.heap.size 48 (noneL 0) ∧ Below w.heap.size w wr) (fun j _ => n - (intOf j).toNat)
  case atStart => exact ⟨0, Nat.zero_le _, rfl, unhide H3, unhide g2, B30⟩
  case round =>
    obtain ⟨k, hk, rfl, h1, h2, HB⟩ := hrel
    have G1 := hide h1
    have G2 := hide h2
    have hpl := h1.lt
    by_cases hlt : k < n
    · have hke : k < es.length := by have := unhide Hn; omega
      obtain ⟨b, off, eA, lA, hr⟩ := unhide R (by omega)
      subst eA
      have x0 : wr.cell? ⟨b, off + k * 3, none⟩ = some (.int .i64 es[k].from_) := ((bcell HB).1 _ _ lA).trans (hr k hke 0 (by decide))
      have x1 : wr.cell? ⟨b, off + k * 3 + 1, none⟩ = some (.int .i64 es[k].n) := ((bcell HB).1 _ _ lA).trans (hr k hke 1 (by decide))
      have x2 : wr.cell? ⟨b, off + k * 3 + 2, none⟩ = some (.int .i64 es[k].id) := ((bcell HB).1 _ _ lA).trans (hr k hke 2 (by decide))
      have hof := hide (show ofL (es.take (k + 1)) = setL (ofL (es.take k)) es[k].from_ es[k].n es[k].id by
        rw [← ofL_snoc, List.take_append_getElem hke])
      obtain ⟨f, hf⟩ : ∃ y, y = es[k].from_ := ⟨_, rfl⟩
      obtain ⟨m, hm⟩ : ∃ y, y = es[k].n := ⟨_, rfl⟩
      obtain ⟨i, hi⟩ : ∃ y, y = es[k].id := ⟨_, rfl⟩
      rw [← hf] at x0 hof
      rw [← hm] at x1 hof
      rw [← hi] at x2 hof
      obtain ⟨L, hLe⟩ : ∃ L, L = ofL (es.take k) := ⟨_, rfl⟩
      rw [← hLe] at G1 hof
      have hL64 : L.length = 64 := by rw [hLe]; exact ofL_len _
      have hl' : (numCells L).length = 64 := by rw [numCells_len, hL64]
      have Hl' := hide hl'
      have HL64 := hide hL64
      clear hr h1 h2 hf hm hi hLe hl' hL64
      have G1d : Arr wr.drew p 48 L := (unhide G1).kept rfl
      have Gd := hide G1d
      clear G1d
      go_wp2
      refine wp_region_still_tail 5 (by kernel_rfl) (by kernel_rfl) ?_
      simp only [List.take_succ_cons, List.take_zero, List.drop_succ_cons, List.drop_zero]
      refine wpStill_load_mid rfl _ _ rfl p 0 rfl (numCells L) _ (unhide Gd).range Tryz.underlying48 rfl (by rw [Tryz.infoMap, unhide Hl']) ?_
      repeat still_step
      refine wpStill_nil ?_
      change wpList _ _ _ _ _ wr.drew
      go_wp2_with fail
      refine (set_any L (unhide HL64) f m i wr.drew).mono ?_
      rintro e w5 ⟨rfl, HB5⟩
      have g5 := hide ((unhide Gd).below HB5)
      have G2d : Arr wr.drew w.heap.size 48 (noneL 0) := (unhide G2).kept rfl
      have g6 := hide (G2d.below HB5)
      have B5 : Below w.heap.size w w5 := HB.trans ((show Below wr.heap.size wr w5 from ⟨HB5.os, HB5.tape, HB5.output, HB5.size, HB5.block⟩).mono HB.size)
      have s5 := B5.size
      have hl2 : (setL L f m i).length = 64 := by rw [setL_len]; exact unhide HL64
      have hl3 : (numCells (setL L f m i)).length = 64 := by rw [numCells_len, hl2]
      have h9 := (unhide g5).store (M := setL L f m i) (by rw [hl2, unhide HL64])
      have h10 := (unhide g6).kept (setCells_other p (numCells (setL L f m i)) 0 w5 w.heap.size (by omega))
      have B9 : Below w.heap.size w (w5.setCells p 0 (numCells (setL L f m i))) := below_setCells (by omega) _ _ _ B5
      have H9 := hide h9
      have H10 := hide h10
      have Hl3 := hide hl3
      clear HB5 G2d hl2 hl3 h9 h10 B5 x0 x1 x2
      go_wp2_with (refine wpList_store_mid rfl _ _ _ rfl p 0 (numCells (setL L f m i)).toArray rfl rfl ((unhide g5).there (by rw [List.size_toArray, unhide Hl3, unhide HL64])) (by rw [Tryz.infoMap, List.size_toArray, unhide Hl3]) (all_oneCell_toArray (numCells_one _)) ?_)
      go_roundw
      case rel => exact ⟨k + 1, by omega, by go_num, by rw [unhide hof]; exact unhide H9, unhide H10, B9⟩
      case measure => simp [intOf]; omega
    · have hkn : k = n := by omega
      subst hkn
      have hte : es.take k = es := List.take_of_length_le (by have := unhide Hn; omega)
      rw [hte] at G1
      have hl' : (numCells (ofL es)).length = 64 := by rw [numCells_len, ofL_len]
      have Hl' := hide hl'
      clear h1 h2 hl' hte
      go_wp2_with (first | (refine wpList_load_mid rfl _ _ rfl p 0 rfl (numCells (ofL es)) _ (unhide G1).range Tryz.underlying48 rfl (by rw [Tryz.infoMap, unhide Hl']) ?_) | (refine wpList_store_mid rfl _ _ _ rfl w.heap.size 0 (numCells (ofL es)).toArray rfl rfl ((unhide G2).there (by rw [List.size_toArray, unhide Hl']; simp [noneL])) (by rw [Tryz.infoMap, List.size_toArray, unhide Hl']) (all_oneCell_toArray (numCells_one _)) ?_))
      refine bodyPost_ret (v := arrV (ofL es)) (results_arr Tryz.results17 rfl ((unhide G2).store (by rw [ofL_len]; simp [noneL])) Tryz.underlying48 (by rw [Tryz.infoMap, ofL_len])) rfl ⟨rfl, below_setCells (by omega) _ _ _ HB⟩
end Go.Proofs.YtjjfdkdneibjbaaGreatDoor
/- The tidy map of an array: the plain law. -/
namespace Go.Proofs.YtjjfdkdneibjbaaGreatDoor
open Go.RowKit

/-- Does a block go on with the extent ahead of it? -/
def joinB (L : List Int) (k : Nat) : Bool := decide (0 < k) && ((L.getD k 0 == 0 && L.getD (k - 1) 0 == 0) || (decide (0 < L.getD k 0) && decide (0 < L.getD (k - 1) 0) && L.getD k 0 == L.getD (k - 1) 0 + 1))
def grow1 : List Ext → List Ext
  | [] => []
  | [x] => [⟨x.from_, x.n + 1, x.id⟩]
  | x :: y :: l => x :: grow1 (y :: l)
/-- The extents of the first blocks. -/
def extsL (L : List Int) : Nat → List Ext
  | 0 => []
  | k + 1 => if L.getD k 0 < 0 then extsL L k else if joinB L k = true then grow1 (extsL L k) else extsL L k ++ [⟨k, 1, L.getD k 0⟩]
theorem grow1_snoc (l : List Ext) (x : Ext) : grow1 (l ++ [x]) = l ++ [⟨x.from_, x.n + 1, x.id⟩] := by
  induction l with
  | nil => rfl
  | cons y l ih =>
    cases l with
    | nil => rfl
    | cons z l =>
      show y :: grow1 (z :: l ++ [x]) = _
      rw [ih]; rfl
/-- The last extent ends where it should. -/
structure Tidy (L : List Int) (k : Nat) (es : List Ext) : Prop where
  good : ∀ x ∈ es, 0 ≤ x.from_ ∧ 1 ≤ x.n ∧ x.from_ + x.n ≤ (k : Int) ∧ 0 ≤ x.id ∧ x.id + x.n ≤ 61 + (if x.id = 0 then 64 else 0)
  last : 0 < k → 0 ≤ L.getD (k - 1) 0 → ∃ l x, es = l ++ [x] ∧ x.from_ + x.n = (k : Int) ∧ (x.id = 0 ↔ L.getD (k - 1) 0 = 0) ∧ (0 < x.id → x.id + x.n - 1 = L.getD (k - 1) 0)
theorem tidy_ext (L : List Int) (hL : ∀ k, -1 ≤ L.getD k 0 ∧ L.getD k 0 ≤ 60) (k : Nat) (hk : k ≤ 64) : Tidy L k (extsL L k) := by
  induction k with
  | zero => exact ⟨fun x h => by simp [extsL] at h, fun h => by omega⟩
  | succ k ih =>
    have ih := ih (by omega)
    have hb := hL k
    unfold extsL
    by_cases h1 : L.getD k 0 < 0
    · rw [if_pos h1]
      refine ⟨fun x hx => ?_, fun _ h => ?_⟩
      · have := ih.good x hx; omega
      · have : 0 ≤ L.getD k 0 := h
        omega
    · rw [if_neg h1]
      by_cases h2 : joinB L k = true
      · rw [if_pos h2]
        unfold joinB at h2
        simp only [Bool.and_eq_true, Bool.or_eq_true, decide_eq_true_eq, beq_iff_eq] at h2
        obtain ⟨h3, h4⟩ := h2
        obtain ⟨l, x, he, h5, h6, h7⟩ := ih.last h3 (by omega)
        rw [he, grow1_snoc]
        have hg := ih.good x (by rw [he]; simp)
        refine ⟨fun y hy => ?_, fun _ _ => ⟨l, _, rfl, ?_, ?_, fun h => ?_⟩⟩
        · rcases List.mem_append.1 hy with hy | hy
          · have := ih.good y (by rw [he]; exact List.mem_append_left _ hy)
            omega
          · simp only [List.mem_singleton] at hy
            subst hy
            refine ⟨hg.1, by show 1 ≤ x.n + 1; omega, by show x.from_ + (x.n + 1) ≤ _; omega, hg.2.2.2.1, ?_⟩
            show x.id + (x.n + 1) ≤ 61 + (if x.id = 0 then 64 else 0)
            split
            · omega
            · rename_i hx
              have := h7 (by omega)
              have : ¬ L.getD (k - 1) 0 = 0 := fun e => hx (h6.2 e)
              omega
        · show x.from_ + (x.n + 1) = _; omega
        · show x.id = 0 ↔ L.getD k 0 = 0
          rw [h6]; omega
        · have h8 : 0 < x.id := h
          have := h7 h8
          show x.id + (x.n + 1) - 1 = L.getD k 0
          have : ¬ L.getD (k - 1) 0 = 0 := fun e => by have := h6.2 e; omega
          omega
      · rw [if_neg h2]
        refine ⟨fun y hy => ?_, fun _ _ => ⟨_, _, rfl, ?_, ?_, fun h => ?_⟩⟩
        · rcases List.mem_append.1 hy with hy | hy
          · have := ih.good y hy
            omega
          · simp only [List.mem_singleton] at hy
            subst hy
            refine ⟨by show (0 : Int) ≤ k; omega, by show (1 : Int) ≤ 1; omega, by show (k : Int) + 1 ≤ _; omega, by show 0 ≤ L.getD k 0; omega, ?_⟩
            show L.getD k 0 + 1 ≤ 61 + (if L.getD k 0 = 0 then 64 else 0)
            split <;> omega
        · show (k : Int) + 1 = _; omega
        · exact Iff.rfl
        · show L.getD k 0 + 1 - 1 = L.getD k 0; omega
end Go.Proofs.YtjjfdkdneibjbaaGreatDoor
/- The tidy map of an array: the walk. UNDER WAY. -/
namespace Go.Proofs.YtjjfdkdneibjbaaGreatDoor
open Go.RowKit

theorem extsL_le (L : List Int) (k : Nat) : (extsL L k).length ≤ k := by
  induction k with
  | zero => simp [extsL]
  | succ k ih =>
    unfold extsL
    split
    · omega
    · split
      · have : ∀ l : List Ext, (grow1 l).length = l.length := by
          intro l
          induction l with
          | nil => rfl
          | cons x l ih2 =>
            cases l with
            | nil => rfl
            | cons y l => simp only [grow1, List.length_cons] at ih2 ⊢; omega
        rw [this]; omega
      · rw [List.length_append, List.length_singleton]; omega
set_option maxHeartbeats 4000000 in
set_option maxRecDepth 100000 in
theorem extents_any (L : List Int) (hL : L.length = 64) (hb : ∀ k, -1 ≤ L.getD k 0 ∧ L.getD k 0 ≤ 60) (w : World) : Calls Tryz.prog 49 #[arrV L] w fun e w' => ∃ A c, e = .returned (.slice A (extsL L 64).length c) ∧ Own eE 107 w' w.heap.size (.slice A (extsL L 64).length c) (extsL L 64) ∧ Below w.heap.size w w' := by
  obtain ⟨i0, hi, hz0, hz1, hz2⟩ := info_parts Tryz.infoE
  obtain ⟨w1, hw1⟩ : ∃ w1, w1 = w.alloc (.cells (numCells L).toArray 48) := ⟨_, rfl⟩
  have B1 : Below w.heap.size w w1 := by rw [hw1]; exact (Below.refl _ _).alloc (Nat.le_refl _) _
  have s1 : w1.heap.size = w.heap.size + 1 := by rw [hw1]; show (w.heap.push _).size = _; simp
  have a1 := hide (show Arr w1 w.heap.size 48 L by rw [hw1]; exact Arr.alloc w _ _)
  have HL := hide hL
  have Hb := hide hb
  clear hL hb
  change Calls _ _ #[.agg (numCells L).toArray] w _
  go_enter Tryz.func49, Tryz.ntmps49
  go_wp2_with fail
  rw [← hw1]
  clear hw1
  obtain ⟨B, hB⟩ : ∃ B, B = w.heap.size + 1 := ⟨_, rfl⟩
  have hBs : B ≤ w1.heap.size := by omega
  have hBl : w.heap.size < B := by omega
  clear hB s1
  go_loopw [3, 4] (fun v j wr => ∃ k : Nat, k ≤ 64 ∧ j = .int .i64 k ∧ Arr wr w.heap.size 48 L ∧ (∃ A c, v = .slice A (extsL L k).length c ∧ Own eE 107 wr B (.slice A (extsL L k).length c) (extsL L k)) ∧ Below w.heap.size w wr ∧ B ≤ wr.heap.size) (fun _ j _ => 64 - (intOf j).toNat)
  case atStart => exact ⟨0, by omega, rfl, unhide a1, ⟨none, 0, rfl, Own.nil _ _ _ _⟩, B1, by omega⟩
  case round =>
    obtain ⟨k, hk, rfl, h1, ⟨Av, cv, rfl, hown⟩, HB, hsz⟩ := hrel
    have H1 := hide h1
    have Hown := hide hown
    have hle := extsL_le L k
    by_cases hlt : k < 64
    · have hkl : k < L.length := by rw [unhide HL]; exact hlt
      have ck := h1.cell hkl
      have hgk : L.getD k 0 = L[k] := by rw [List.getD_eq_getElem?_getD, List.getElem?_eq_getElem hkl, Option.getD_some]
      rw [← hgk] at ck
      obtain ⟨a, ha⟩ : ∃ a, a = L.getD k 0 := ⟨_, rfl⟩
      rw [← ha] at ck
      have hab := unhide Hb k
      rw [← ha] at hab
      obtain ⟨ha1, ha2⟩ := hab
      have Ha := hide ha
      clear h1 hown ha hgk
      by_cases hneg : a < 0
      · have hx := hide (show extsL L (k + 1) = extsL L k by rw [extsL, if_pos (by rw [← unhide Ha]; exact hneg)])
        go_wp2
        go_roundw
        case rel => exact ⟨k + 1, by omega, by go_num, unhide H1, ⟨Av, cv, by rw [unhide hx], by rw [unhide hx]; exact unhide Hown⟩, HB, hsz⟩
        case measure => simp [intOf]; omega
      · rcases Nat.eq_zero_or_pos k with hk0 | hk0
        · have hj := hide (show joinB L k = false by rw [hk0]; rfl)
          obtain ⟨E, hE⟩ : ∃ E, E = extsL L k := ⟨_, rfl⟩
          have hxE := hide (show extsL L (k + 1) = E ++ [⟨(k : Int), 1, a⟩] by rw [extsL, if_neg (by rw [← unhide Ha]; exact hneg), if_neg (by rw [unhide hj]; simp), ← unhide Ha, hE])
          rw [← hE] at Hown hle ⊢
          have HE := hide hE
          clear hE
          subst hk0
          go_wp2
          go_quiet (fail)
          obtain ⟨W, hW⟩ : ∃ W, W = wr.drewN nq := ⟨_, rfl⟩
          have A9 := hide (show Arr W w.heap.size 48 L by rw [hW]; exact unhide H1)
          have c9 : W.cell? ⟨w.heap.size, 0, none⟩ = some (.int .i64 a) := by rw [hW]; exact ck
          have o9 : Own eE 107 W B (.slice Av E.length cv) E := by rw [hW]; exact unhide Hown
          have B9 : Below w.heap.size w W := by rw [hW]; exact below_drewN HB _
          have s9 : B ≤ W.heap.size := by rw [hW]; exact hsz
          rw [← hW]
          clear hW HB hsz ck
          go_wp2_with (at_builtin; refine wpList_append_one eE rfl _ _ _ rfl B 107 i0 _ 24 Tryz.underlying42 hi hz0 hz1 hz2 rfl (by decide) (.slice Av E.length cv) E rfl _ o9 ⟨0, 1, a⟩ #[.int .i64 0, .int .i64 1, .int .i64 a] rfl (by simp [Act.eval]) (by intro u hu; simp at hu; rcases hu with rfl | rfl | rfl <;> rfl) ?c3 ?c4 s9 ?_)
          case c3 => unfold maxLen; omega
          case c4 => omega
          intro v4 w4 hown4 hgr4 hloc4
          have hal (w : World) (o : Obj) : (w.alloc o).heap.size = w.heap.size + 1 := by show (w.heap.push o).size = _; simp
          have hb4 := B9.alloc (by omega) (.cells #[.int .i64 0, .int .i64 1, .int .i64 a] 107)
          have B4 : Below w.heap.size w w4 := hb4.grown hgr4 hb4.size fun q hq => by have := (o9.lt q hq).1; omega
          have s4 : B ≤ w4.heap.size := by have := hgr4.size; rw [hal] at this; omega
          have A4 := hide ((unhide A9).kept (w' := w4) ((hgr4.block w.heap.size (by rw [hal]; omega) fun e => by have := (o9.lt _ e.symm).1; omega).trans (Below.heap_alloc W _ _ (by omega))))
          have hx4 := hide (show extsL L (0 + 1) = E ++ [⟨0, 1, a⟩] from unhide hxE)
          obtain ⟨A5, c5, hv5, _⟩ := hown4.sl
          rw [← unhide hx4] at hv5 hown4
          subst hv5
          have O4 := hide hown4
          clear hown4 hgr4 hloc4 hb4 o9 B9
          go_wp2
          go_roundw
          case rel => exact ⟨0 + 1, by omega, by go_num, unhide A4, ⟨A5, c5, rfl, unhide O4⟩, B4, s4⟩
          case measure => simp [intOf]
        · obtain ⟨m, rfl⟩ : ∃ m, k = m + 1 := ⟨k - 1, by omega⟩
          have hml : m < L.length := by omega
          have cm := (unhide H1).cell hml
          have hgm : L.getD m 0 = L[m] := by rw [List.getD_eq_getElem?_getD, List.getElem?_eq_getElem hml, Option.getD_some]
          rw [← hgm] at cm
          obtain ⟨b, hb⟩ : ∃ b, b = L.getD m 0 := ⟨_, rfl⟩
          rw [← hb] at cm
          have hbb := unhide Hb m
          rw [← hb] at hbb
          obtain ⟨hb1, hb2⟩ := hbb
          have hjb : joinB L (m + 1) = ((a == 0 && b == 0) || (decide (0 < a) && decide (0 < b) && a == b + 1)) := by
            unfold joinB
            rw [← unhide Ha, show m + 1 - 1 = m from rfl, ← hb]
            simp
          have Hjb := hide hjb
          obtain ⟨E, hE⟩ : ∃ E, E = extsL L (m + 1) := ⟨_, rfl⟩
          have hxE0 : joinB L (m + 1) = false → extsL L (m + 1 + 1) = E ++ [⟨(m : Int) + 1, 1, a⟩] := fun h => by rw [extsL, if_neg (by rw [← unhide Ha]; exact hneg), if_neg (by rw [h]; simp), ← unhide Ha, hE]; rfl
          have HxE0 := hide hxE0
          have hxJ : joinB L (m + 1) = true → extsL L (m + 1 + 1) = grow1 E := fun h => by rw [extsL, if_neg (by rw [← unhide Ha]; exact hneg), if_pos h, hE]
          have HxJ := hide hxJ
          have hlast : 0 ≤ b → ∃ l x, E = l ++ [x] ∧ x.n ≤ 64 ∧ 1 ≤ x.n := fun h => by
            have htd := tidy_ext L (unhide Hb) (m + 1) (by omega)
            obtain ⟨l, x, h1, _⟩ := htd.last (by omega) (by rw [show m + 1 - 1 = m from rfl, ← hb]; exact h)
            have hg := htd.good x (by rw [h1]; simp)
            exact ⟨l, x, by rw [hE, h1], by omega, hg.2.1⟩
          have Hlast := hide hlast
          clear hxJ hlast
          rw [← hE] at Hown hle ⊢
          have HE := hide hE
          have Hbb := hide hb
          clear hE hgm hb hjb hml hxE0
          rcases (show (a = 0 ∧ b = 0) ∨ (a = 0 ∧ b ≠ 0) ∨ (0 < a ∧ b ≤ 0) ∨ (0 < a ∧ 0 < b ∧ a = b + 1) ∨ (0 < a ∧ 0 < b ∧ a ≠ b + 1) by omega) with ⟨h1, h2⟩ | ⟨h1, h2⟩ | ⟨h1, h2⟩ | ⟨h1, h2, h3⟩ | ⟨h1, h2, h3⟩
          · have q1 : (a == 0) = true := beq_iff_eq.2 h1
            have q2 : (b == 0) = true := beq_iff_eq.2 h2
            have hxE := hide ((unhide HxJ) (by rw [unhide Hjb, q1, q2]; rfl))
            have hb0 : 0 ≤ b := by omega
            clear h1 h2
            obtain ⟨l, x, hEl, hn64, hn1⟩ := (unhide Hlast) (by omega)
            have hgr := hide (show extsL L (m + 1 + 1) = l ++ [⟨x.from_, x.n + 1, x.id⟩] by rw [unhide hxE, hEl, grow1_snoc])
            have hlen : E.length = l.length + 1 := by rw [hEl]; simp
            have hEx : ∀ h, E[l.length]'h = x := fun h => by simp [hEl]
            have hEs : ∀ y, E.set l.length y = l ++ [y] := fun y => by rw [hEl]; simp
            obtain ⟨f, nx, ix⟩ := x
            go_wp2
            go_quiet (fail)
            obtain ⟨W, hW⟩ : ∃ W, W = wr.drewN nq := ⟨_, rfl⟩
            have A9 := hide (show Arr W w.heap.size 48 L by rw [hW]; exact unhide H1)
            have o9 : Own eE 107 W B (.slice Av E.length cv) E := by rw [hW]; exact unhide Hown
            have B9 : Below w.heap.size w W := by rw [hW]; exact below_drewN HB _
            have s9 : B ≤ W.heap.size := by rw [hW]; exact hsz
            rw [← hW]
            clear hW HB hsz ck cm
            rcases o9.shape with ⟨_, h0⟩ | ⟨g, cap, hvv, hg1, hg2, hg3, hg4⟩
            · rw [h0] at hlen; simp at hlen
            · injection hvv with e1 e2 e3
              subst e1 e3
              clear e2
              have hll : l.length < E.length := by omega
              have c1 : W.cell? ⟨g, l.length * 3 + 1, none⟩ = some (.int .i64 nx) := by
                have := o9.cell (i := l.length) (j := 1) hll (by decide)
                rw [hEx] at this
                simpa [eE] using this
              have f1 := o9.frozen (l.length * 3 + 1)
              have o10 := Own.set o9 hll (j := 1) (by decide) (.int .i64 (nx + 1)) ⟨f, nx + 1, ix⟩ (fun j hj => by
                have hj3 : j < 3 := hj
                rw [hEx]
                rcases (show j = 0 ∨ j = 1 ∨ j = 2 by omega) with rfl | rfl | rfl <;> rfl)
              rw [hEs] at o10
              have A10 := hide ((unhide A9).kept (w' := W.setCell ⟨g, l.length * 3 + 1, none⟩ (.int .i64 (nx + 1))) (Below.heap_setCell W ⟨g, l.length * 3 + 1, none⟩ _ _ (by show w.heap.size ≠ g; omega)))
              have B10 : Below w.heap.size w (W.setCell ⟨g, l.length * 3 + 1, none⟩ (.int .i64 (nx + 1))) := B9.setCell (p := ⟨g, l.length * 3 + 1, none⟩) (by show w.heap.size ≤ g; omega) _
              have s10 : B ≤ (W.setCell ⟨g, l.length * 3 + 1, none⟩ (.int .i64 (nx + 1))).heap.size := by
                rw [show (W.setCell ⟨g, l.length * 3 + 1, none⟩ (.int .i64 (nx + 1))).heap.size = W.heap.size by simp [World.setCell]]; exact s9
              have hsl : ((E.length : Nat) : Int) - 1 = (l.length : Int) := by omega
              have o11 : Own eE 107 (W.setCell ⟨g, l.length * 3 + 1, none⟩ (.int .i64 (nx + 1))) B (.slice (some ⟨g, 0, none⟩) (l.length + 1) cv) (l ++ [⟨f, nx + 1, ix⟩]) := by
                rw [← hlen]; exact o10
              have O10 := hide o11
              clear o11
              have hlE : E.length ≤ 64 := by omega
              clear o9 o10 hEx hEs hEl
              go_wp2
              go_roundw
              case rel => exact ⟨m + 1 + 1, by omega, by go_num, unhide A10, ⟨some ⟨g, 0, none⟩, cv, by rw [unhide hgr, List.length_append]; rfl, by rw [unhide hgr, List.length_append]; exact unhide O10⟩, B10, s10⟩
              case measure => simp [intOf]; omega
          · have q1 : (a == 0) = true := beq_iff_eq.2 h1
            have q2 : (b == 0) = false := beq_eq_false_iff_ne.2 h2
            have q3 : decide ((0 : Int) < a) = false := decide_eq_false (by omega)
            have hxE := hide ((unhide HxE0) (by rw [unhide Hjb, q1, q2, q3]; rfl))
            clear h1 h2
            go_wp2
            go_quiet (fail)
            obtain ⟨W, hW⟩ : ∃ W, W = wr.drewN nq := ⟨_, rfl⟩
            have A9 := hide (show Arr W w.heap.size 48 L by rw [hW]; exact unhide H1)
            have c9 : W.cell? ⟨w.heap.size, m + 1, none⟩ = some (.int .i64 a) := by rw [hW]; exact ck
            have o9 : Own eE 107 W B (.slice Av E.length cv) E := by rw [hW]; exact unhide Hown
            have B9 : Below w.heap.size w W := by rw [hW]; exact below_drewN HB _
            have s9 : B ≤ W.heap.size := by rw [hW]; exact hsz
            rw [← hW]
            clear hW HB hsz ck cm
            go_wp2_with (at_builtin; refine wpList_append_one eE rfl _ _ _ rfl B 107 i0 _ 24 Tryz.underlying42 hi hz0 hz1 hz2 rfl (by decide) (.slice Av E.length cv) E rfl _ o9 ⟨(m : Int) + 1, 1, a⟩ #[.int .i64 ((m : Int) + 1), .int .i64 1, .int .i64 a] rfl (by simp [Act.eval]) (by intro u hu; simp at hu; rcases hu with rfl | rfl | rfl <;> rfl) ?c3 ?c4 s9 ?_)
            case c3 => unfold maxLen; omega
            case c4 => omega
            intro v4 w4 hown4 hgr4 hloc4
            have hal (w : World) (o : Obj) : (w.alloc o).heap.size = w.heap.size + 1 := by show (w.heap.push o).size = _; simp
            have hb4 := B9.alloc (by omega) (.cells #[.int .i64 ((m : Int) + 1), .int .i64 1, .int .i64 a] 107)
            have B4 : Below w.heap.size w w4 := hb4.grown hgr4 hb4.size fun q hq => by have := (o9.lt q hq).1; omega
            have s4 : B ≤ w4.heap.size := by have := hgr4.size; rw [hal] at this; omega
            have A4 := hide ((unhide A9).kept (w' := w4) ((hgr4.block w.heap.size (by rw [hal]; omega) fun e => by have := (o9.lt _ e.symm).1; omega).trans (Below.heap_alloc W _ _ (by omega))))
            have hx4 := hide (show extsL L (m + 1 + 1) = E ++ [⟨(m : Int) + 1, 1, a⟩] from unhide hxE)
            obtain ⟨A5, c5, hv5, _⟩ := hown4.sl
            rw [← unhide hx4] at hv5 hown4
            subst hv5
            have O4 := hide hown4
            clear hown4 hgr4 hloc4 hb4 o9 B9
            go_wp2
            go_roundw
            case rel => exact ⟨m + 1 + 1, by omega, by go_num, unhide A4, ⟨A5, c5, rfl, unhide O4⟩, B4, s4⟩
            case measure => simp [intOf]; omega
          · have q1 : (a == 0) = false := beq_eq_false_iff_ne.2 (by omega)
            have q3 : decide ((0 : Int) < a) = true := decide_eq_true h1
            have q4 : decide ((0 : Int) < b) = false := decide_eq_false (by omega)
            have hxE := hide ((unhide HxE0) (by rw [unhide Hjb, q1, q3, q4]; rfl))
            clear h1 h2
            go_wp2
            go_quiet (fail)
            obtain ⟨W, hW⟩ : ∃ W, W = wr.drewN nq := ⟨_, rfl⟩
            have A9 := hide (show Arr W w.heap.size 48 L by rw [hW]; exact unhide H1)
            have c9 : W.cell? ⟨w.heap.size, m + 1, none⟩ = some (.int .i64 a) := by rw [hW]; exact ck
            have o9 : Own eE 107 W B (.slice Av E.length cv) E := by rw [hW]; exact unhide Hown
            have B9 : Below w.heap.size w W := by rw [hW]; exact below_drewN HB _
            have s9 : B ≤ W.heap.size := by rw [hW]; exact hsz
            rw [← hW]
            clear hW HB hsz ck cm
            go_wp2_with (at_builtin; refine wpList_append_one eE rfl _ _ _ rfl B 107 i0 _ 24 Tryz.underlying42 hi hz0 hz1 hz2 rfl (by decide) (.slice Av E.length cv) E rfl _ o9 ⟨(m : Int) + 1, 1, a⟩ #[.int .i64 ((m : Int) + 1), .int .i64 1, .int .i64 a] rfl (by simp [Act.eval]) (by intro u hu; simp at hu; rcases hu with rfl | rfl | rfl <;> rfl) ?c3 ?c4 s9 ?_)
            case c3 => unfold maxLen; omega
            case c4 => omega
            intro v4 w4 hown4 hgr4 hloc4
            have hal (w : World) (o : Obj) : (w.alloc o).heap.size = w.heap.size + 1 := by show (w.heap.push o).size = _; simp
            have hb4 := B9.alloc (by omega) (.cells #[.int .i64 ((m : Int) + 1), .int .i64 1, .int .i64 a] 107)
            have B4 : Below w.heap.size w w4 := hb4.grown hgr4 hb4.size fun q hq => by have := (o9.lt q hq).1; omega
            have s4 : B ≤ w4.heap.size := by have := hgr4.size; rw [hal] at this; omega
            have A4 := hide ((unhide A9).kept (w' := w4) ((hgr4.block w.heap.size (by rw [hal]; omega) fun e => by have := (o9.lt _ e.symm).1; omega).trans (Below.heap_alloc W _ _ (by omega))))
            have hx4 := hide (show extsL L (m + 1 + 1) = E ++ [⟨(m : Int) + 1, 1, a⟩] from unhide hxE)
            obtain ⟨A5, c5, hv5, _⟩ := hown4.sl
            rw [← unhide hx4] at hv5 hown4
            subst hv5
            have O4 := hide hown4
            clear hown4 hgr4 hloc4 hb4 o9 B9
            go_wp2
            go_roundw
            case rel => exact ⟨m + 1 + 1, by omega, by go_num, unhide A4, ⟨A5, c5, rfl, unhide O4⟩, B4, s4⟩
            case measure => simp [intOf]; omega
          · have q1 : (a == 0) = false := beq_eq_false_iff_ne.2 (by omega)
            have q3 : decide ((0 : Int) < a) = true := decide_eq_true h1
            have q4 : decide ((0 : Int) < b) = true := decide_eq_true h2
            have q5 : (a == b + 1) = true := beq_iff_eq.2 h3
            have hxE := hide ((unhide HxJ) (by rw [unhide Hjb, q1, q3, q4, q5]; rfl))
            have hb0 : 0 ≤ b := by omega
            clear h1 h2 h3
            obtain ⟨l, x, hEl, hn64, hn1⟩ := (unhide Hlast) (by omega)
            have hgr := hide (show extsL L (m + 1 + 1) = l ++ [⟨x.from_, x.n + 1, x.id⟩] by rw [unhide hxE, hEl, grow1_snoc])
            have hlen : E.length = l.length + 1 := by rw [hEl]; simp
            have hEx : ∀ h, E[l.length]'h = x := fun h => by simp [hEl]
            have hEs : ∀ y, E.set l.length y = l ++ [y] := fun y => by rw [hEl]; simp
            obtain ⟨f, nx, ix⟩ := x
            go_wp2
            go_quiet (fail)
            obtain ⟨W, hW⟩ : ∃ W, W = wr.drewN nq := ⟨_, rfl⟩
            have A9 := hide (show Arr W w.heap.size 48 L by rw [hW]; exact unhide H1)
            have o9 : Own eE 107 W B (.slice Av E.length cv) E := by rw [hW]; exact unhide Hown
            have B9 : Below w.heap.size w W := by rw [hW]; exact below_drewN HB _
            have s9 : B ≤ W.heap.size := by rw [hW]; exact hsz
            rw [← hW]
            clear hW HB hsz ck cm
            rcases o9.shape with ⟨_, h0⟩ | ⟨g, cap, hvv, hg1, hg2, hg3, hg4⟩
            · rw [h0] at hlen; simp at hlen
            · injection hvv with e1 e2 e3
              subst e1 e3
              clear e2
              have hll : l.length < E.length := by omega
              have c1 : W.cell? ⟨g, l.length * 3 + 1, none⟩ = some (.int .i64 nx) := by
                have := o9.cell (i := l.length) (j := 1) hll (by decide)
                rw [hEx] at this
                simpa [eE] using this
              have f1 := o9.frozen (l.length * 3 + 1)
              have o10 := Own.set o9 hll (j := 1) (by decide) (.int .i64 (nx + 1)) ⟨f, nx + 1, ix⟩ (fun j hj => by
                have hj3 : j < 3 := hj
                rw [hEx]
                rcases (show j = 0 ∨ j = 1 ∨ j = 2 by omega) with rfl | rfl | rfl <;> rfl)
              rw [hEs] at o10
              have A10 := hide ((unhide A9).kept (w' := W.setCell ⟨g, l.length * 3 + 1, none⟩ (.int .i64 (nx + 1))) (Below.heap_setCell W ⟨g, l.length * 3 + 1, none⟩ _ _ (by show w.heap.size ≠ g; omega)))
              have B10 : Below w.heap.size w (W.setCell ⟨g, l.length * 3 + 1, none⟩ (.int .i64 (nx + 1))) := B9.setCell (p := ⟨g, l.length * 3 + 1, none⟩) (by show w.heap.size ≤ g; omega) _
              have s10 : B ≤ (W.setCell ⟨g, l.length * 3 + 1, none⟩ (.int .i64 (nx + 1))).heap.size := by
                rw [show (W.setCell ⟨g, l.length * 3 + 1, none⟩ (.int .i64 (nx + 1))).heap.size = W.heap.size by simp [World.setCell]]; exact s9
              have hsl : ((E.length : Nat) : Int) - 1 = (l.length : Int) := by omega
              have o11 : Own eE 107 (W.setCell ⟨g, l.length * 3 + 1, none⟩ (.int .i64 (nx + 1))) B (.slice (some ⟨g, 0, none⟩) (l.length + 1) cv) (l ++ [⟨f, nx + 1, ix⟩]) := by
                rw [← hlen]; exact o10
              have O10 := hide o11
              clear o11
              have hlE : E.length ≤ 64 := by omega
              clear o9 o10 hEx hEs hEl
              go_wp2
              go_roundw
              case rel => exact ⟨m + 1 + 1, by omega, by go_num, unhide A10, ⟨some ⟨g, 0, none⟩, cv, by rw [unhide hgr, List.length_append]; rfl, by rw [unhide hgr, List.length_append]; exact unhide O10⟩, B10, s10⟩
              case measure => simp [intOf]; omega
          · have q1 : (a == 0) = false := beq_eq_false_iff_ne.2 (by omega)
            have q3 : decide ((0 : Int) < a) = true := decide_eq_true h1
            have q4 : decide ((0 : Int) < b) = true := decide_eq_true h2
            have q5 : (a == b + 1) = false := beq_eq_false_iff_ne.2 h3
            have hxE := hide ((unhide HxE0) (by rw [unhide Hjb, q1, q3, q4, q5]; rfl))
            clear h1 h2 h3
            go_wp2
            go_quiet (fail)
            obtain ⟨W, hW⟩ : ∃ W, W = wr.drewN nq := ⟨_, rfl⟩
            have A9 := hide (show Arr W w.heap.size 48 L by rw [hW]; exact unhide H1)
            have c9 : W.cell? ⟨w.heap.size, m + 1, none⟩ = some (.int .i64 a) := by rw [hW]; exact ck
            have o9 : Own eE 107 W B (.slice Av E.length cv) E := by rw [hW]; exact unhide Hown
            have B9 : Below w.heap.size w W := by rw [hW]; exact below_drewN HB _
            have s9 : B ≤ W.heap.size := by rw [hW]; exact hsz
            rw [← hW]
            clear hW HB hsz ck cm
            go_wp2_with (at_builtin; refine wpList_append_one eE rfl _ _ _ rfl B 107 i0 _ 24 Tryz.underlying42 hi hz0 hz1 hz2 rfl (by decide) (.slice Av E.length cv) E rfl _ o9 ⟨(m : Int) + 1, 1, a⟩ #[.int .i64 ((m : Int) + 1), .int .i64 1, .int .i64 a] rfl (by simp [Act.eval]) (by intro u hu; simp at hu; rcases hu with rfl | rfl | rfl <;> rfl) ?c3 ?c4 s9 ?_)
            case c3 => unfold maxLen; omega
            case c4 => omega
            intro v4 w4 hown4 hgr4 hloc4
            have hal (w : World) (o : Obj) : (w.alloc o).heap.size = w.heap.size + 1 := by show (w.heap.push o).size = _; simp
            have hb4 := B9.alloc (by omega) (.cells #[.int .i64 ((m : Int) + 1), .int .i64 1, .int .i64 a] 107)
            have B4 : Below w.heap.size w w4 := hb4.grown hgr4 hb4.size fun q hq => by have := (o9.lt q hq).1; omega
            have s4 : B ≤ w4.heap.size := by have := hgr4.size; rw [hal] at this; omega
            have A4 := hide ((unhide A9).kept (w' := w4) ((hgr4.block w.heap.size (by rw [hal]; omega) fun e => by have := (o9.lt _ e.symm).1; omega).trans (Below.heap_alloc W _ _ (by omega))))
            have hx4 := hide (show extsL L (m + 1 + 1) = E ++ [⟨(m : Int) + 1, 1, a⟩] from unhide hxE)
            obtain ⟨A5, c5, hv5, _⟩ := hown4.sl
            rw [← unhide hx4] at hv5 hown4
            subst hv5
            have O4 := hide hown4
            clear hown4 hgr4 hloc4 hb4 o9 B9
            go_wp2
            go_roundw
            case rel => exact ⟨m + 1 + 1, by omega, by go_num, unhide A4, ⟨A5, c5, rfl, unhide O4⟩, B4, s4⟩
            case measure => simp [intOf]; omega
    · have hk64 : k = 64 := by omega
      subst hk64
      clear h1 hown
      go_wp2
      go_ret
      exact ⟨_, _, rfl, (unhide Hown).lower (by omega), HB⟩
end Go.Proofs.YtjjfdkdneibjbaaGreatDoor
/- A chain of points that may be: what it is made of. UNDER WAY. -/
namespace Go.Proofs.YtjjfdkdneibjbaaGreatDoor
open Go.RowKit

/-- Extents as the laws make them. -/
def Fine (es : List Ext) : Prop := es.length ≤ 64 ∧ ∀ x ∈ es, 0 ≤ x.from_ ∧ 1 ≤ x.n ∧ x.from_ + x.n ≤ 64 ∧ 0 ≤ x.id ∧ (x.id ≠ 0 → x.id + x.n ≤ 61)
theorem Fine.good {es : List Ext} (h : Fine es) : GoodE es := fun x hx => by
  obtain ⟨h1, h2, h3, h4, h5⟩ := h.2 x hx
  refine ⟨h1, h2, h3, h4, ?_⟩
  by_cases e : x.id = 0
  · omega
  · have := h5 e; omega
theorem exts_fine (L : List Int) (hb : ∀ k, -1 ≤ L.getD k 0 ∧ L.getD k 0 ≤ 60) : Fine (extsL L 64) := by
  refine ⟨extsL_le L 64, fun x hx => ?_⟩
  obtain ⟨h1, h2, h3, h4, h5⟩ := (tidy_ext L hb 64 (by omega)).good x hx
  refine ⟨h1, h2, by omega, h4, fun e => ?_⟩
  rw [if_neg e] at h5
  omega
theorem ids_fine {es : List Ext} (h : Fine es) : ∀ i ∈ idsL es, 1 ≤ i ∧ i ≤ 60 := by
  intro i hi
  obtain ⟨x, hx, hm⟩ := List.mem_flatMap.1 hi
  obtain ⟨h1, h2, h3, h4, h5⟩ := h.2 x hx
  unfold idsX at hm
  split at hm
  · rename_i h6
    obtain ⟨j, hj, rfl⟩ := List.mem_map.1 hm
    have := List.mem_range.1 hj
    have := h5 (by omega)
    omega
  · simp at hm
/-- The numbers of a map are within the pool. -/
def InPool (L : List Int) : Prop := ∀ k, -1 ≤ L.getD k 0 ∧ L.getD k 0 ≤ 60
theorem InPool.set {L : List Int} (h : InPool L) (j : Nat) (v : Int) (hv : -1 ≤ v ∧ v ≤ 60) : InPool (L.set j v) := fun k => by
  rw [List.getD_eq_getElem?_getD, List.getElem?_set]
  by_cases e : j = k
  · subst e
    rw [if_pos rfl]
    split
    · exact hv
    · simp
  · rw [if_neg e, ← List.getD_eq_getElem?_getD]
    exact h k
theorem InPool.none : InPool (noneL 64) := fun k => by
  rw [List.getD_eq_getElem?_getD, noneL_at (by omega)]
  by_cases h1 : k < 64
  · rw [if_pos h1]; decide
  · rw [if_neg h1, if_neg h1]; decide
theorem InPool.setTo {L : List Int} (h : InPool L) (f : Nat) (i : Int) (n : Nat) (hn : 0 < i → i + n ≤ 61) : InPool (setTo L f i n) := by
  have key : ∀ k, k ≤ n → InPool (Go.Proofs.YtjjfdkdneibjbaaGreatDoor.setTo L f i k) := by
    intro k
    induction k with
    | zero => intro _; exact h
    | succ k ih =>
      intro hk
      have := ih (by omega)
      show InPool ((Go.Proofs.YtjjfdkdneibjbaaGreatDoor.setTo L f i k).set (f + k) (if 0 < i then i + k else 0))
      refine this.set _ _ ?_
      split
      · rename_i h1; have := hn h1; omega
      · omega
  exact key n (Nat.le_refl _)
theorem InPool.setL {L : List Int} (h : InPool L) (f n i : Int) : InPool (setL L f n i) := by
  unfold Go.Proofs.YtjjfdkdneibjbaaGreatDoor.setL
  split
  · rename_i ha
    unfold aloneB wholeB at ha
    simp at ha
    refine h.setTo _ _ _ fun h1 => ?_
    omega
  · exact h
theorem InPool.ofL (es : List Ext) : InPool (ofL es) := by
  unfold Go.Proofs.YtjjfdkdneibjbaaGreatDoor.ofL
  have key : ∀ (es : List Ext) (m : List Int), InPool m → InPool (es.foldl (fun m x => Go.Proofs.YtjjfdkdneibjbaaGreatDoor.setL m x.from_ x.n x.id) m) := by
    intro es
    induction es with
    | nil => intro m h; exact h
    | cons x es ih => intro m h; exact ih _ (h.setL _ _ _)
  exact key es _ InPool.none
end Go.Proofs.YtjjfdkdneibjbaaGreatDoor
/- A map of extents, one more block behind it: the plain law. -/
namespace Go.Proofs.YtjjfdkdneibjbaaGreatDoor
open Go.RowKit

/-- An extent and the next one are one. -/
def oneE (a b : Ext) : Bool := decide (a.from_ + a.n = b.from_) && (if a.id = 0 then decide (b.id = 0) else decide (0 < b.id) && decide (b.id = a.id + a.n))
/-- A map with an extent behind it. -/
def addE : List Ext → Ext → List Ext
  | [], x => [x]
  | [y], x => if oneE y x = true then [⟨y.from_, y.n + x.n, y.id⟩] else [y, x]
  | y :: z :: l, x => y :: addE (z :: l) x
theorem addE_snoc (l : List Ext) (y x : Ext) : addE (l ++ [y]) x = if oneE y x = true then l ++ [⟨y.from_, y.n + x.n, y.id⟩] else l ++ [y, x] := by
  induction l with
  | nil => rfl
  | cons z l ih =>
    cases l with
    | nil =>
      show z :: addE [y] x = _
      unfold addE
      split <;> rfl
    | cons u l =>
      show z :: addE (u :: l ++ [y]) x = _
      rw [ih]
      split <;> rfl
theorem addE_len (l : List Ext) (x : Ext) : (addE l x).length ≤ l.length + 1 := by
  rcases List.eq_nil_or_concat l with rfl | ⟨m, y, rfl⟩
  · simp [addE]
  · rw [List.concat_eq_append, addE_snoc]
    split <;> simp
/-- No two that follow one another are one. -/
def NoOne (l : List Ext) : Prop := ∀ m y z r, l = m ++ y :: z :: r → oneE y z = false
theorem NoOne.nil : NoOne [] := fun m y z r h => by
  have := congrArg List.length h
  simp at this
theorem NoOne.snoc {l : List Ext} {y x : Ext} (h : NoOne (l ++ [y])) (hx : oneE y x = false) : NoOne (l ++ [y] ++ [x]) := fun m a b r e => by
  rcases List.eq_nil_or_concat r with rfl | ⟨r', c, rfl⟩
  · have e2 : l ++ [y] ++ [x] = (m ++ [a]) ++ [b] := by rw [e]; simp
    obtain ⟨e3, e4⟩ := List.append_inj' e2 rfl
    obtain ⟨_, e5⟩ := List.append_inj' e3 rfl
    simp only [List.cons.injEq, and_true] at e4 e5
    rw [← e4, ← e5]; exact hx
  · rw [List.concat_eq_append] at e
    have e2 : l ++ [y] ++ [x] = (m ++ a :: b :: r') ++ [c] := by rw [e]; simp
    exact h m a b r' (List.append_inj' e2 rfl).1
theorem NoOne.one (x : Ext) : NoOne [x] := fun m y z r h => by
  have := congrArg List.length h
  simp at this
  omega
theorem NoOne.grow {l : List Ext} {y y' : Ext} (h : NoOne (l ++ [y])) (hf : y'.from_ = y.from_) (hi : y'.id = y.id) : NoOne (l ++ [y']) := fun m a b r e => by
  rcases List.eq_nil_or_concat r with rfl | ⟨r', c, rfl⟩
  · have e2 : l ++ [y'] = (m ++ [a]) ++ [b] := by rw [e]; simp
    obtain ⟨e3, e4⟩ := List.append_inj' e2 rfl
    simp only [List.cons.injEq, and_true] at e4
    have h1 := h m a y [] (by rw [e3]; simp)
    unfold oneE at h1 ⊢
    rw [← e4, hf, hi]; exact h1
  · rw [List.concat_eq_append] at e
    have e2 : l ++ [y'] = (m ++ a :: b :: r') ++ [c] := by rw [e]; simp
    have e3 := (List.append_inj' e2 rfl).1
    exact h m a b (r' ++ [y]) (by rw [e3]; simp)
theorem NoOne.take {l : List Ext} (h : NoOne l) (k : Nat) : NoOne (l.take k) := fun m y z r e => h m y z (r ++ l.drop k) (by
  conv => lhs; rw [← List.take_append_drop k l, e]
  simp)
/-- Built anew, one by one, it is what it was. -/
theorem addE_anew {l : List Ext} (h : NoOne l) {k : Nat} (hk : k < l.length) : addE (l.take k) l[k] = l.take (k + 1) := by
  rw [← List.take_append_getElem hk]
  rcases List.eq_nil_or_concat (l.take k) with e | ⟨m, y, e⟩
  · rw [e]; rfl
  · rw [List.concat_eq_append] at e
    rw [e, addE_snoc, if_neg]
    · simp
    · have := h m y l[k] (l.drop (k + 1)) (by
        conv => lhs; rw [← List.take_append_drop k l, e, List.drop_eq_getElem_cons hk]
        simp)
      simp [this]
theorem grow1_nil_or (l : List Ext) : l = [] ∨ ∃ m x, l = m ++ [x] := by
  rcases List.eq_nil_or_concat l with h | ⟨m, y, h⟩
  · exact .inl h
  · exact .inr ⟨m, y, by rw [h, List.concat_eq_append]⟩
/-- What a tidy map's last extent says of the next block. -/
theorem extsL_one (L : List Int) (hL : InPool L) (k : Nat) (hk : k < 64) (h0 : 0 ≤ L.getD k 0) :
    (extsL L k = [] → joinB L k = false) ∧ ∀ m y, extsL L k = m ++ [y] → oneE y ⟨k, 1, L.getD k 0⟩ = joinB L k := by
  have hT := tidy_ext L hL k (by omega)
  rcases Nat.eq_zero_or_pos k with hk0 | hk0
  · subst hk0
    refine ⟨fun _ => rfl, fun m y e => ?_⟩
    have := congrArg List.length e
    simp [extsL] at this
  · have hb := hL (k - 1)
    by_cases h1 : 0 ≤ L.getD (k - 1) 0
    · obtain ⟨l, x, e1, e2, e3, e4⟩ := hT.last hk0 h1
      refine ⟨fun e => by rw [e1] at e; simp at e, fun m y e => ?_⟩
      rw [e1] at e
      obtain ⟨_, e5⟩ := List.append_inj' e rfl
      simp only [List.cons.injEq, and_true] at e5
      rw [← e5]
      have hg := hT.good x (by rw [e1]; simp)
      unfold oneE joinB
      rw [Bool.eq_iff_iff]
      simp only [Bool.and_eq_true, Bool.or_eq_true, decide_eq_true_eq, beq_iff_eq]
      by_cases hx : x.id = 0
      · rw [if_pos hx]
        have := e3.1 hx
        simp only [decide_eq_true_eq]
        omega
      · rw [if_neg hx]
        have h5 := e4 (by omega)
        have h6 : L.getD (k - 1) 0 ≠ 0 := fun e => hx (e3.2 e)
        simp only [Bool.and_eq_true, decide_eq_true_eq]
        omega
    · have e1 : extsL L k = extsL L (k - 1) := by
        obtain ⟨j, rfl⟩ : ∃ j, k = j + 1 := ⟨k - 1, by omega⟩
        rw [extsL, if_pos (by show L.getD j 0 < 0; have : j + 1 - 1 = j := rfl; rw [this] at h1; omega)]
        rfl
      have hj : joinB L k = false := by
        unfold joinB
        have a1 : (L.getD (k - 1) 0 == 0) = false := beq_eq_false_iff_ne.2 (by omega)
        have a2 : decide (0 < L.getD (k - 1) 0) = false := decide_eq_false (by omega)
        rw [a1, a2]
        simp
      refine ⟨fun _ => hj, fun m y e => ?_⟩
      rw [hj]
      have hT2 := tidy_ext L hL (k - 1) (by omega)
      have hg := hT2.good y (by rw [← e1, e]; simp)
      unfold oneE
      rw [decide_eq_false (by show ¬ (y.from_ + y.n = (k : Int)); omega)]
      rfl
theorem extsL_noone (L : List Int) (hL : InPool L) (k : Nat) (hk : k ≤ 64) : NoOne (extsL L k) := by
  induction k with
  | zero => exact NoOne.nil
  | succ k ih =>
    have ih := ih (by omega)
    rw [extsL]
    split
    · exact ih
    · rename_i h1
      obtain ⟨g1, g2⟩ := extsL_one L hL k (by omega) (by omega)
      split
      · rename_i h2
        rcases grow1_nil_or (extsL L k) with e | ⟨m, y, e⟩
        · rw [g1 e] at h2; cases h2
        · rw [e, grow1_snoc]
          rw [e] at ih
          exact ih.grow rfl rfl
      · rename_i h2
        rcases grow1_nil_or (extsL L k) with e | ⟨m, y, e⟩
        · rw [e]; exact NoOne.one _
        · rw [e] at ih ⊢
          exact ih.snoc (by rw [g2 m y e]; simpa using h2)
theorem extsL_congr {L M : List Int} : ∀ k, (∀ j, j < k → L.getD j 0 = M.getD j 0) → extsL L k = extsL M k
  | 0, _ => rfl
  | k + 1, h => by
    have e1 := extsL_congr k fun j hj => h j (by omega)
    have e2 := h k (by omega)
    have e3 : joinB L k = joinB M k := by
      unfold joinB
      rcases Nat.eq_zero_or_pos k with h0 | h0
      · subst h0; rfl
      · rw [e2, h (k - 1) (by omega)]
    rw [extsL, extsL, e1, e2, e3]
/-- Nothing is said of the blocks from one on. -/
theorem extsL_rest {L : List Int} {k : Nat} (h : ∀ j, k ≤ j → j < 64 → L.getD j 0 < 0) (m : Nat) (hm : k + m ≤ 64) : extsL L (k + m) = extsL L k := by
  induction m with
  | zero => rfl
  | succ m ih =>
    show extsL L (k + m + 1) = _
    rw [extsL, if_pos (h (k + m) (by omega) (by omega))]
    exact ih (by omega)
/-- One more block, behind all of which something is said. -/
theorem extsL_set (L : List Int) (hL : InPool L) (hl : L.length = 64) (k : Nat) (hk : k < 64) (id : Int) (hid : 0 ≤ id ∧ id ≤ 60) (h : ∀ j, k ≤ j → j < 64 → L.getD j 0 < 0) :
    addE (extsL L 64) ⟨k, 1, id⟩ = extsL (L.set k id) 64 := by
  have hL' : InPool (L.set k id) := hL.set k id (by omega)
  have gk : (L.set k id).getD k 0 = id := by
    rw [List.getD_eq_getElem?_getD, List.getElem?_set_self (by omega), Option.getD_some]
  have go : ∀ j, j ≠ k → (L.set k id).getD j 0 = L.getD j 0 := fun j hj => by
    rw [List.getD_eq_getElem?_getD, List.getElem?_set_ne (fun e => hj e.symm), ← List.getD_eq_getElem?_getD]
  have e1 : extsL L 64 = extsL L k := by
    have := extsL_rest h (64 - k) (by omega)
    rw [show k + (64 - k) = 64 by omega] at this
    exact this
  have e2 : extsL (L.set k id) 64 = extsL (L.set k id) (k + 1) := by
    have := extsL_rest (L := L.set k id) (k := k + 1) (fun j h1 h2 => by rw [go j (by omega)]; exact h j (by omega) h2) (64 - (k + 1)) (by omega)
    rw [show k + 1 + (64 - (k + 1)) = 64 by omega] at this
    exact this
  have e3 : extsL (L.set k id) k = extsL L k := extsL_congr k fun j hj => go j (by omega)
  obtain ⟨g1, g2⟩ := extsL_one (L.set k id) hL' k hk (by rw [gk]; omega)
  rw [e1, e2, extsL, if_neg (by rw [gk]; omega), e3, gk]
  rw [e3] at g1 g2
  rw [gk] at g2
  rcases grow1_nil_or (extsL L k) with e | ⟨m, y, e⟩
  · rw [g1 e, e]; rfl
  · rw [e, addE_snoc, ← g2 m y e]
    split
    · rw [grow1_snoc]
    · simp
end Go.Proofs.YtjjfdkdneibjbaaGreatDoor
