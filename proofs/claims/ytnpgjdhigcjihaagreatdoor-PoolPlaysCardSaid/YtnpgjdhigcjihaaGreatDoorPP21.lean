/- Joined texts: RqA. -/
import Derived.Test.YtnpgjdhigcjihaaGreatDoorPP20
import Derived.Test.YtnpgjdhigcjihaaGreatDoorPP19
/- What is done to a pool: the document's one and the program's one tell the same, and hold the same blocks. -/
namespace Go.Proofs.YtnpgjdhigcjihaaGreatDoor
open Go.RowKit

theorem putE_nodup {es : List (Int × Blk)} (h : (es.map (·.1)).Nodup) (k : Int) (x : Blk) : ((putE es k x).map (·.1)).Nodup := by
  induction es with
  | nil => simp [putE]
  | cons p es ih =>
    rw [List.map_cons, List.nodup_cons] at h
    rw [putE_cons]
    by_cases e : p.1 = k
    · rw [if_pos e, List.map_cons, List.nodup_cons]
      exact ⟨by rw [← e]; exact h.1, h.2⟩
    · rw [if_neg e, List.map_cons, List.nodup_cons]
      refine ⟨?_, ih h.2⟩
      rw [← lkE_none, lkE_put_other _ _ e, lkE_none]
      exact h.1
theorem delE_nodup {es : List (Int × Blk)} (h : (es.map (·.1)).Nodup) (k : Int) : ((delE es k).map (·.1)).Nodup := by
  unfold delE
  exact h.sublist (List.filter_sublist.map _)
/-- A pool's blocks: few, small, none held too often. -/
structure EOk (es : List (Int × Blk)) (most : Int) (k : Nat) : Prop where
  nd : (es.map (·.1)).Nodup
  good : ∀ id t r, lkE es id = some (t, r) → 1 ≤ id ∧ 1 ≤ r ∧ t.size = 8 ∧ zeroB t = false
  uniq : ∀ id id' t r r', lkE es id = some (t, r) → lkE es id' = some (t, r') → id' = id
  len : (es.length : Int) ≤ most
  ids : ∀ id t r, lkE es id = some (t, r) → id ≤ 60
  refs : ∀ id t r, lkE es id = some (t, r) → r ≤ k
section
variable {es es' : List (Int × Blk)} {most : Int} {k : Nat}
theorem EOk.nil (most : Int) (h : 0 ≤ most) (k : Nat) : EOk [] most k := ⟨List.nodup_nil, fun _ _ _ h => (by cases h), fun _ _ _ _ _ h => (by cases h), h, fun _ _ _ h => (by cases h), fun _ _ _ h => (by cases h)⟩
theorem EOk.mono (h : EOk es most k) {j : Nat} (hj : k ≤ j) : EOk es most j := ⟨h.nd, h.good, h.uniq, h.len, h.ids, fun id t r e => by have := h.refs id t r e; omega⟩
theorem EOk.of (h : EOk es most k) (hn : (es'.map (·.1)).Nodup) (he : ∀ id, lkE es' id = lkE es id) : EOk es' most k ∧ allL es' = allL es := by
  have h2 : allL es' = allL es := ((says_all h.nd).of he).all hn
  refine ⟨⟨hn, fun id t r e => h.good id t r (by rw [← he]; exact e), fun id id' t r r' a b => h.uniq id id' t r r' (by rw [← he]; exact a) (by rw [← he]; exact b), ?_, fun id t r e => h.ids id t r (by rw [← he]; exact e), fun id t r e => h.refs id t r (by rw [← he]; exact e)⟩, h2⟩
  have := congrArg List.length h2
  rw [allL_len, allL_len] at this
  rw [this]
  exact h.len
theorem EOk.put (h : EOk es most k) {id r q : Int} {t : ByteArray} (hl : lkE es id = some (t, r)) (h1 : 1 ≤ q) (h2 : q ≤ (k : Int) + 1) : EOk (putE es id (t, q)) most (k + 1) where
  nd := putE_nodup h.nd _ _
  good := fun j u v e => by
    by_cases e1 : j = id
    · subst e1
      rw [lkE_put_same] at e
      cases e
      have := h.good _ _ _ hl
      exact ⟨this.1, h1, this.2.2⟩
    · rw [lkE_put_other _ _ e1] at e
      exact h.good _ _ _ e
  uniq := fun i j u v v' a b => by
    have key : ∀ i u v, lkE (putE es id (t, q)) i = some (u, v) → ∃ v', lkE es i = some (u, v') := fun i u v hi => by
      by_cases e : i = id
      · subst e
        rw [lkE_put_same] at hi
        cases hi
        exact ⟨r, hl⟩
      · rw [lkE_put_other _ _ e] at hi
        exact ⟨v, hi⟩
    obtain ⟨v1, a1⟩ := key _ _ _ a
    obtain ⟨v2, a2⟩ := key _ _ _ b
    exact h.uniq _ _ _ _ _ a1 a2
  len := by rw [putE_old_len _ _ hl]; exact h.len
  ids := fun j u v e => by
    by_cases e1 : j = id
    · subst e1; exact h.ids _ _ _ hl
    · rw [lkE_put_other _ _ e1] at e
      exact h.ids _ _ _ e
  refs := fun j u v e => by
    by_cases e1 : j = id
    · subst e1
      rw [lkE_put_same] at e
      cases e
      omega
    · rw [lkE_put_other _ _ e1] at e
      have := h.refs _ _ _ e
      omega
theorem EOk.del (h : EOk es most k) {id r : Int} {t : ByteArray} (hl : lkE es id = some (t, r)) : EOk (delE es id) most (k + 1) where
  nd := delE_nodup h.nd _
  good := fun j u v e => by
    rw [lkE_del] at e
    split at e
    · cases e
    · exact h.good _ _ _ e
  uniq := fun i j u v v' a b => by
    rw [lkE_del] at a b
    split at a
    · cases a
    · split at b
      · cases b
      · exact h.uniq _ _ _ _ _ a b
  len := by have := delE_len h.nd hl; have := h.len; omega
  ids := fun j u v e => by
    rw [lkE_del] at e
    split at e
    · cases e
    · exact h.ids _ _ _ e
  refs := fun j u v e => by
    rw [lkE_del] at e
    split at e
    · cases e
    · have := h.refs _ _ _ e
      omega
theorem EOk.new (h : EOk es most k) {id : Int} {b : ByteArray} (hR : lkE es id = none) (h1 : 1 ≤ id) (h2 : id ≤ 60) (hb : b.size = 8) (hz : zeroB b = false) (hno : ∀ i q, lkE es i ≠ some (b, q)) (hl : (es.length : Int) < most) : EOk (putE es id (b, 1)) most (k + 1) where
  nd := putE_nodup h.nd _ _
  good := fun j u v e => by
    by_cases e1 : j = id
    · subst e1
      rw [lkE_put_same] at e
      cases e
      exact ⟨h1, by omega, hb, hz⟩
    · rw [lkE_put_other _ _ e1] at e
      exact h.good _ _ _ e
  uniq := fun i j u v v' a b => by
    by_cases e : i = id
    · subst e
      rw [lkE_put_same] at a
      cases a
      by_cases e' : j = i
      · exact e'
      · rw [lkE_put_other _ _ e'] at b
        exact absurd b (hno _ _)
    · rw [lkE_put_other _ _ e] at a
      by_cases e' : j = id
      · subst e'
        rw [lkE_put_same] at b
        cases b
        exact absurd a (hno _ _)
      · rw [lkE_put_other _ _ e'] at b
        exact h.uniq _ _ _ _ _ a b
  len := by rw [putE_new_len _ hR]; omega
  ids := fun j u v e => by
    by_cases e1 : j = id
    · subst e1; exact h2
    · rw [lkE_put_other _ _ e1] at e
      exact h.ids _ _ _ e
  refs := fun j u v e => by
    by_cases e1 : j = id
    · subst e1
      rw [lkE_put_same] at e
      cases e
      omega
    · rw [lkE_put_other _ _ e1] at e
      have := h.refs _ _ _ e
      omega
theorem EOk.bound (h : EOk es most k) (hk : k ≤ 1000) : ∀ x ∈ allL es, -1000000 ≤ x.refs ∧ x.refs ≤ 1000000 := fun x hx => by
  have e := ((says_all h.nd).mem x).1 hx
  have := (h.good _ _ _ e).2.1
  have := h.refs _ _ _ e
  omega
theorem EOk.small (h : EOk es most k) (h1 : most ≤ 60) : es.length ≤ 60 := by have := h.len; omega
/-- What a call of the document's pool gives: the pool behind it, with whatever else it tells. -/
def RGives (f : Nat) (most : Int) (es es' : List (Int × Blk)) (args more : Array Value) : Prop := ∀ (w : World) (B : Nat) (A : Option Addr) (n c : Nat), Own eSh 56 w B (.slice A n c) (allL es) → B ≤ w.heap.size →
  Calls Tryz.prog f (#[.agg #[.int .i64 most, .slice A n c]] ++ args) w fun x w' => ∃ A' n' c', x = .returned (.tuple (#[.agg #[.int .i64 most, .slice A' n' c']] ++ more)) ∧ Own eSh 56 w' B (.slice A' n' c') (allL es') ∧ (∀ q, (Value.slice A' n' c').ownBlock = some q → (Value.slice A n c).ownBlock = some q ∨ w.heap.size ≤ q) ∧ Below w.heap.size w w'
/-- What a call of the program's pool gives. -/
def PGives (f : Nat) (most : Int) (es es' : List (Int × Blk)) (args : Array Value) (v : Value) : Prop := ∀ (w : World) (G : Nat → Prop) (s : Value), Plt w G s most es →
  Calls Tryz.prog f (#[s] ++ args) w fun x w' => x = .returned v ∧ ∃ G', Plt w' G' s most es' ∧ Went G G' w ∧ Chg G w w'
theorem PGives.of_below {f : Nat} {args : Array Value} {v : Value} (h : ∀ (w : World) (G : Nat → Prop) (s : Value), Plt w G s most es → Calls Tryz.prog f (#[s] ++ args) w fun x w' => x = .returned v ∧ Below w.heap.size w w') : PGives f most es es args v := fun w G s hp =>
  (h w G s hp).mono fun _ _ ⟨a, b⟩ => ⟨a, G, hp.below b, Went.refl _ _, Chg.of_below b⟩
theorem RGives.same {f : Nat} {args more : Array Value} (h : ∀ (w : World) (A : Option Addr) (n c : Nat), Sl eSh w A n c (allL es) → n = es.length → Calls Tryz.prog f (#[.agg #[.int .i64 most, .slice A n c]] ++ args) w fun x w' => x = .returned (.tuple (#[.agg #[.int .i64 most, .slice A n c]] ++ more)) ∧ Below w.heap.size w w') : RGives f most es es args more := fun w B A n c ho hB =>
  (h w A n c (ksl ho) ((ksl ho).1.trans (allL_len es))).mono fun _ _ ⟨a, b⟩ => ⟨A, n, c, a, ho.below b, fun q hq => .inl hq, b⟩
theorem RGives.new {f : Nat} {args more : Array Value} (h : ∀ (w : World) (B : Nat) (A : Option Addr) (n c : Nat), Own eSh 56 w B (.slice A n c) (allL es) → Sl eSh w A n c (allL es) → n = es.length → Calls Tryz.prog f (#[.agg #[.int .i64 most, .slice A n c]] ++ args) w fun x w' => (∃ v, x = .returned (.tuple (#[.agg #[.int .i64 most, v]] ++ more)) ∧ Own eSh 56 w' w.heap.size v (allL es')) ∧ Below w.heap.size w w') : RGives f most es es' args more := fun w B A n c ho hB =>
  (h w B A n c ho (ksl ho) ((ksl ho).1.trans (allL_len es))).mono fun _ _ ⟨⟨v, a, o⟩, b⟩ => by
    obtain ⟨A', c', hv, _, _⟩ := o.sl
    subst hv
    exact ⟨A', _, c', a, o.lower hB, fun q hq => .inr (o.lt q hq).1, b⟩
theorem do_put (b : ByteArray) (hE : EOk es most k) (h0 : 0 ≤ most) (h1 : most ≤ 60) (hk : k ≤ 1000) :
    ∃ (N E : Int) (es' : List (Int × Blk)), EOk es' most (k + 1) ∧ RGives 6 most es es' #[.string b] #[.int .i64 N, .int .i64 E] ∧ PGives 7 most es es' #[.string b] (.tuple #[.int .i64 N, .int .i64 E]) := by
  have hs := says_all hE.nd
  have hsm := hE.small h1
  by_cases hb : b.size = 8
  · cases hz : zeroB b with
    | true => exact ⟨0, 0, es, hE.mono (by omega), RGives.same fun w A n c _ _ => rput_zero most b A n c w hb hz, PGives.of_below fun w G s hp => (pl_put_zero b hp.pl hb hz).mono fun _ _ ⟨a, _, c⟩ => ⟨a, c⟩⟩
    | false =>
      by_cases hx : ∃ id r, lkE es id = some (b, r)
      · obtain ⟨id, r, hl⟩ := hx
        have hg := hE.good _ _ _ hl
        have hr := hE.refs _ _ _ hl
        have hf : FindL (allL es) b id := hs.find (.inl ⟨r, hl, fun id' r' h' => hE.uniq id id' b r r' hl h'⟩)
        have hE' := hE.put hl (q := r + 1) (by omega) (by omega)
        have hall : refsL (allL es) id 1 = allL (putE es id (b, r + 1)) := (hs.refs (fun j t q e => (hE.good j t q e).2.1) id 1 r b hl fun j => by
          by_cases e : j = id
          · subst e; rw [if_pos rfl, if_pos (by omega), lkE_put_same]
          · rw [if_neg e, lkE_put_other _ _ e]).uniq (says_all hE'.nd)
        refine ⟨id, 0, _, hE', RGives.new fun w B A n c _ h2 h3 => ?_, fun w G s hp => hp.call fun hp hG => pl_put_had b id r hp hG (by omega) hl (by omega)⟩
        have := rput_had most id b A n c _ w h2 (by omega) hb hz hf (by omega) (hE.bound hk)
        rw [hall] at this
        exact this
      · have hno : ∀ id r, lkE es id ≠ some (b, r) := fun id r e => hx ⟨id, r, e⟩
        have hf : FindL (allL es) b 0 := hs.find (.inr ⟨rfl, hno⟩)
        by_cases hm : (es.length : Int) < most
        · obtain ⟨k0, hk0⟩ := firsts_has (allL es)
          have h1i : ∀ x ∈ allL es, 1 ≤ x.id := fun x hx => (hE.good _ _ _ ((hs.mem x).1 hx)).1
          have hg : ∀ j t q, lkE es j = some (t, q) → 1 ≤ q := fun j t q e => (hE.good j t q e).2.1
          have hle := hs.least h1i hg hk0
          have hkl := hk0.1
          rw [allL_len] at hkl
          have hE' := hE.new (hs.firsts h1i hk0) (by omega) (by omega) hb hz hno hm
          have hall := (hs.put h1i hk0 b).uniq (says_all hE'.nd)
          refine ⟨(k0 : Int) + 1, 0, _, hE', RGives.new fun w B A n c h2 h3 h4 => ?_, fun w G s hp => hp.call fun hp hG => pl_put_new b _ hp hG hb hz hno h0 (by omega) hm hle (by omega)⟩
          have := rput_new most k0 B b A n c _ w h2 (by omega) hb hz hf (by omega) hk0
          rw [hall] at this
          exact this
        · have hm2 : (es.length : Int) = most := by have := hE.len; omega
          exact ⟨0, 5, es, hE.mono (by omega), RGives.same fun w A n c h2 h3 => rput_full most b A n c _ w h2 (by omega) hb hz hf (by omega), PGives.of_below fun w G s hp => (pl_put_full b hp.pl hb hz hno h0 (by omega) hm2).mono fun _ _ ⟨a, _, c⟩ => ⟨a, c⟩⟩
  · exact ⟨0, 1, es, hE.mono (by omega), RGives.same fun w A n c _ _ => rput_bad most b A n c w hb, PGives.of_below fun w G s hp => (pl_put_bad b hp.pl hb).mono fun _ _ ⟨a, c⟩ => ⟨a, by rw [c]; exact Below.refl _ _⟩⟩
theorem do_hold (id : Int) (hE : EOk es most k) (h1 : most ≤ 60) (hk : k ≤ 1000) :
    ∃ (E : Int) (es' : List (Int × Blk)), EOk es' most (k + 1) ∧ RGives 8 most es es' #[.int .i64 id, .int .i64 1] #[.int .i64 E] ∧ PGives 9 most es es' #[.int .i64 id] (.int .i64 E) := by
  have hs := says_all hE.nd
  have hsm := hE.small h1
  by_cases hi : id = 0
  · subst hi
    exact ⟨0, es, hE.mono (by omega), RGives.same fun w A n c _ _ => rhold_zero most 1 A n c w, PGives.of_below fun w G s hp => by
      obtain ⟨bs, h2, _⟩ := hp.pl
      obtain ⟨p, rfl⟩ := h2.ptr
      exact (hold_of 0 0 p (fun w' => w' = w) (turn_zero 1 h2)).mono fun _ _ ⟨a, b⟩ => ⟨a, by rw [b]; exact Below.refl _ _⟩⟩
  · cases hl : lkE es id with
    | none => exact ⟨2, es, hE.mono (by omega), RGives.same fun w A n c h2 h3 => rhold_none most id 1 A n c _ w h2 (by omega) hi (hs.no hl), PGives.of_below fun w G s hp => by
        obtain ⟨bs, h2, _⟩ := hp.pl
        obtain ⟨p, rfl⟩ := h2.ptr
        exact (hold_of id 2 p (fun w' => w' = w) (turn_none id 1 h2 hi hl)).mono fun _ _ ⟨a, b⟩ => ⟨a, by rw [b]; exact Below.refl _ _⟩⟩
    | some x =>
      obtain ⟨t, r⟩ := x
      have hg := hE.good _ _ _ hl
      have hr := hE.refs _ _ _ hl
      have hE' := hE.put hl (q := r + 1) (by omega) (by omega)
      have hall : refsL (allL es) id 1 = allL (putE es id (t, r + 1)) := (hs.refs (fun j t q e => (hE.good j t q e).2.1) id 1 r t hl fun j => by
        by_cases e : j = id
        · subst e; rw [if_pos rfl, if_pos (by omega), lkE_put_same]
        · rw [if_neg e, lkE_put_other _ _ e]).uniq (says_all hE'.nd)
      obtain ⟨k0, hk0, _, hat⟩ := hs.at_ hl
      rw [allL_len] at hk0
      refine ⟨0, _, hE', RGives.new fun w B A n c _ h2 h3 => ?_, fun w G s hp => hp.call fun hp hG => ?_⟩
      · have := rhold_yes most id 1 k0 A n c _ w h2 (by omega) hi (by omega) hat (hE.bound hk) (by decide)
        rw [hall] at this
        exact this
      · obtain ⟨bs, h2, h3⟩ := hp
        obtain ⟨p, rfl⟩ := h2.ptr
        exact (hold_of id 0 p _ (turn_up id 1 t r h2 hG hi hl (by omega) (by omega) (by omega) (by omega) (by omega) (by omega))).mono fun _ _ ⟨a, b, c⟩ => ⟨a, ⟨bs, b, h3.old hl (by omega)⟩, c⟩
theorem do_drop (id : Int) (hE : EOk es most k) (h1 : most ≤ 60) (hk : k ≤ 1000) :
    ∃ (E : Int) (es' : List (Int × Blk)), EOk es' most (k + 1) ∧ RGives 8 most es es' #[.int .i64 id, .int .i64 (-1)] #[.int .i64 E] ∧ PGives 10 most es es' #[.int .i64 id] (.int .i64 E) := by
  have hs := says_all hE.nd
  have hsm := hE.small h1
  by_cases hi : id = 0
  · subst hi
    exact ⟨0, es, hE.mono (by omega), RGives.same fun w A n c _ _ => rhold_zero most (-1) A n c w, PGives.of_below fun w G s hp => by
      obtain ⟨bs, h2, _⟩ := hp.pl
      obtain ⟨p, rfl⟩ := h2.ptr
      exact (drop_of 0 0 p (fun w' => w' = w) (turn_zero (-1) h2)).mono fun _ _ ⟨a, b⟩ => ⟨a, by rw [b]; exact Below.refl _ _⟩⟩
  · cases hl : lkE es id with
    | none => exact ⟨2, es, hE.mono (by omega), RGives.same fun w A n c h2 h3 => rhold_none most id (-1) A n c _ w h2 (by omega) hi (hs.no hl), PGives.of_below fun w G s hp => (pl_drop_none id hp.pl hi hl).mono fun _ _ ⟨a, b⟩ => ⟨a, by rw [b]; exact Below.refl _ _⟩⟩
    | some x =>
      obtain ⟨t, r⟩ := x
      have hg := hE.good _ _ _ hl
      have hr := hE.refs _ _ _ hl
      obtain ⟨k0, hk0, _, hat⟩ := hs.at_ hl
      rw [allL_len] at hk0
      by_cases hr1 : r = 1
      · subst hr1
        have hE' := hE.del hl
        have hall : refsL (allL es) id (-1) = allL (delE es id) := (hs.refs (fun j t q e => (hE.good j t q e).2.1) id (-1) 1 t hl fun j => by
          rw [lkE_del, if_neg (show ¬ (0 : Int) < 1 + -1 by decide)]).uniq (says_all hE'.nd)
        refine ⟨0, _, hE', RGives.new fun w B A n c _ h2 h3 => ?_, fun w G s hp => hp.call fun hp hG => pl_drop_last id t hp hG hl⟩
        have := rhold_yes most id (-1) k0 A n c _ w h2 (by omega) hi (by omega) hat (hE.bound hk) (by decide)
        rw [hall] at this
        exact this
      · have hE' := hE.put hl (q := r - 1) (by omega) (by omega)
        have hall : refsL (allL es) id (-1) = allL (putE es id (t, r - 1)) := (hs.refs (fun j t q e => (hE.good j t q e).2.1) id (-1) r t hl fun j => by
          by_cases e : j = id
          · subst e; rw [if_pos rfl, if_pos (by omega), lkE_put_same, Int.sub_eq_add_neg]
          · rw [if_neg e, lkE_put_other _ _ e]).uniq (says_all hE'.nd)
        refine ⟨0, _, hE', RGives.new fun w B A n c _ h2 h3 => ?_, fun w G s hp => hp.call fun hp hG => pl_drop_down id t r hp hG hl (by omega) (by omega)⟩
        have := rhold_yes most id (-1) k0 A n c _ w h2 (by omega) hi (by omega) hat (hE.bound hk) (by decide)
        rw [hall] at this
        exact this
theorem do_get (id : Int) (hE : EOk es most k) (h1 : most ≤ 60) :
    ∃ (t : ByteArray) (E : Int), (∀ (w : World) (A : Option Addr) (n c : Nat), Sl eSh w A n c (allL es) → Calls Tryz.prog 15 #[.agg #[.int .i64 most, .slice A n c], .int .i64 id] w fun x w' => x = .returned (.tuple #[.string t, .int .i64 E]) ∧ Below w.heap.size w w') ∧
      ∀ (w : World) (G : Nat → Prop) (s : Value), Plt w G s most es → Calls Tryz.prog 14 #[s, .int .i64 id] w fun x w' => x = .returned (.tuple #[.string t, .int .i64 E]) ∧ Below w.heap.size w w' := by
  have hs := says_all hE.nd
  have hsm := hE.small h1
  have hn : ∀ (w : World) (A : Option Addr) (n c : Nat), Sl eSh w A n c (allL es) → n ≤ 1000 := fun w A n c h2 => by have := h2.1; rw [allL_len] at this; omega
  by_cases hi : id = 0
  · subst hi
    exact ⟨_, 0, fun w A n c _ => rget_zero most A n c w, fun w G s hp => by
      obtain ⟨bs, h2, _⟩ := hp.pl
      exact pget_zero h2⟩
  · cases hl : lkE es id with
    | none => exact ⟨_, 2, fun w A n c h2 => rget_none most id A n c _ w h2 (hn w A n c h2) hi (hs.no hl), fun w G s hp => by
        obtain ⟨bs, h2, _⟩ := hp.pl
        exact (pget_no id h2 hi hl).mono fun _ _ ⟨a, b⟩ => ⟨a, by rw [b]; exact Below.refl _ _⟩⟩
    | some x =>
      obtain ⟨t, r⟩ := x
      have hg := hE.good _ _ _ hl
      obtain ⟨k0, hk0, he, hat⟩ := hs.at_ hl
      exact ⟨t, 0, fun w A n c h2 => rget_yes most id k0 t A n c _ w h2 (hn w A n c h2) hi hk0 (by rw [he]) hat, fun w G s hp => by
        obtain ⟨bs, h2, _⟩ := hp.pl
        exact (pget_there id h2 hi t r hl (by omega)).mono fun _ _ ⟨a, b⟩ => ⟨a, by rw [b]; exact Below.refl _ _⟩⟩
/-- How often a block is held. -/
theorem do_refs (id : Int) (hE : EOk es most k) :
    ∃ K R : Int, AtL (allL es) id K ∧ ((K = -1 ∧ R = 0) ∨ ∃ i, ∃ h : i < (allL es).length, K = (i : Int) ∧ (allL es)[i].refs = R) ∧
      ∀ (w : World) (G : Nat → Prop) (s : Value), Plt w G s most es → Calls Tryz.prog 18 #[s, .int .i64 id] w fun x w' => x = .returned (.int .i64 R) ∧ w' = w := by
  have hs := says_all hE.nd
  cases hl : lkE es id with
  | none => exact ⟨-1, 0, hs.no hl, .inl ⟨rfl, rfl⟩, fun w G s hp => pl_refs id hp.pl _ 0 (by rw [hl]; rfl)⟩
  | some x =>
    obtain ⟨t, r⟩ := x
    obtain ⟨k0, hk0, he, hat⟩ := hs.at_ hl
    exact ⟨k0, r, hat, .inr ⟨k0, hk0, rfl, by rw [he]⟩, fun w G s hp => pl_refs id hp.pl t r (by rw [hl]; rfl)⟩
theorem do_find (b : ByteArray) (hb : b.size ≤ 100) (hE : EOk es most k) (h1 : most ≤ 60) :
    ∃ R : Int, FindL (allL es) b R ∧ ∀ (w : World) (G : Nat → Prop) (s : Value), Plt w G s most es → Calls Tryz.prog 19 #[s, .string b] w fun x w' => x = .returned (.int .i64 R) ∧ Below w.heap.size w w' := by
  have hs := says_all hE.nd
  have hsm := hE.small h1
  have key : ∃ R, IsAt es b R := by
    by_cases hx : ∃ id r, lkE es id = some (b, r)
    · obtain ⟨id, r, hl⟩ := hx
      exact ⟨id, .inl ⟨r, hl, fun id' r' h' => hE.uniq id id' b r r' hl h'⟩⟩
    · exact ⟨0, .inr ⟨rfl, fun id r e => hx ⟨id, r, e⟩⟩⟩
  obtain ⟨R, hR⟩ := key
  exact ⟨R, hs.find hR, fun w G s hp => (pl_find b R hp.pl (by omega) (by omega) hR).mono fun _ _ ⟨a, _, c⟩ => ⟨a, c⟩⟩
end
end Go.Proofs.YtnpgjdhigcjihaaGreatDoor
