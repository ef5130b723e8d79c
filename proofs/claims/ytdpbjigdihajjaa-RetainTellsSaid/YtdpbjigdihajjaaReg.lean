/- A region whose order is open, by one relation over what is done so far: each operation is shown once, whatever came ahead of it. -/
import Derived.Test.YtdpbjigdihajjaaProg
import Derived.WalkKit
namespace Go.Proofs.Ytdpbjigdihajjaa
open Go.RowKit
section
variable {P : Program} {ops : Array Oper} {Q : Exit → Act → World → Prop} {md : Region.Mode}
/-- b, and number i too. -/
def upd (b : Nat → Bool) (i : Nat) : Nat → Bool := fun j => if j = i then true else b j
def lst (l : Array Bool) : Nat → Bool := fun j => l.getD j false
theorem lst_set {l : Array Bool} {i : Nat} (hi : i < l.size) : lst (l.setIfInBounds i true) = upd (lst l) i := by
  funext j
  unfold lst upd
  by_cases h : j = i
  · subst h; simp [hi]
  · have h' : ¬ i = j := fun e => h e.symm
    simp [h, Array.getElem?_setIfInBounds_ne h']
def left (n : Nat) (b : Nat → Bool) : Nat := (List.range n).countP fun j => !b j
theorem left_upd {n : Nat} {b : Nat → Bool} {i : Nat} (hi : i < n) (hb : b i = false) : left n (upd b i) + 1 = left n b := by
  unfold left
  induction n with
  | zero => omega
  | succ n ih =>
    rw [List.range_succ, List.countP_append, List.countP_append]
    by_cases h : i = n
    · subst h
      have : (List.range i).countP (fun j => !upd b i j) = (List.range i).countP fun j => !b j := by
        refine List.countP_congr fun j hj => ?_
        have : j < i := List.mem_range.1 hj
        simp [upd, show ¬ j = i by omega]
      rw [this]
      simp [upd, hb]
    · have := ih (by omega)
      simp [upd, show ¬ n = i by omega] at this ⊢
      omega
theorem left_zero {n : Nat} {b : Nat → Bool} (h : left n b = 0) : ∀ i, i < n → b i = true := by
  intro i hi
  unfold left at h
  rw [List.countP_eq_zero] at h
  simpa using h i (List.mem_range.2 hi)
theorem left_pos {n : Nat} {b : Nat → Bool} (h : ∀ i, i < n → b i = true) : left n b = 0 := by
  unfold left
  rw [List.countP_eq_zero]
  intro i hi
  simp [h i (List.mem_range.1 hi)]

theorem wpAny_inv (n : Nat) (hn : ops.size = n) (I : (Nat → Bool) → Act → World → Prop)
    (acyc : ∀ i o, ops[i]? = some o → ∀ e ∈ o.after, Region.binds md e = true → e.on < i)
    (step : ∀ b a w i o, ops[i]? = some o → I b a w → b i = false → (∀ e ∈ o.after, Region.binds md e = true → b e.on = true) → wpOp P ops Q i (I (upd b i)) a w)
    (fin : ∀ b a w, (∀ i, i < n → b i = true) → I b a w → Q .normal a w) :
    ∀ (fuel : Nat) (l : Array Bool) (a : Act) (w : World), l.size = n → left n (lst l) ≤ fuel → I (lst l) a w → wpAny P md ops Q fuel l a w := by
  have hend : ∀ (l : Array Bool), l.size = n → Region.ready md ops l = [] → ∀ i, i < n → lst l i = true := by
    intro l hl hr i hi
    induction i using Nat.strongRecOn with
    | _ i ih =>
      cases hb : lst l i with
      | true => rfl
      | false =>
        exfalso
        have ho : ops[i]? = some (ops[i]'(by omega)) := Array.getElem?_eq_getElem _
        have : i ∈ Region.ready md ops l := by
          rw [mem_ready]
          refine ⟨?_, _, ho, fun e he hbd => ?_⟩
          · unfold lst at hb
            simp [show i < l.size by omega] at hb ⊢
            exact hb
          · exact ih e.on (acyc i _ ho e he hbd) (by have := acyc i _ ho e he hbd; omega)
        rw [hr] at this
        cases this
  have hstep : ∀ (l : Array Bool) (a : Act) (w : World), l.size = n → I (lst l) a w → ∀ i ∈ Region.ready md ops l, i < n ∧ lst l i = false ∧ wpOp P ops Q i (I (lst (l.setIfInBounds i true))) a w := by
    intro l a w hl hI i hi
    rw [mem_ready] at hi
    obtain ⟨h1, o, ho, he⟩ := hi
    have hlt : i < n := by rw [← hn]; exact (Array.getElem?_eq_some_iff.1 ho).1
    have hb : lst l i = false := by
      unfold lst
      simp [show i < l.size by omega] at h1 ⊢
      exact h1
    refine ⟨hlt, hb, ?_⟩
    rw [lst_set (by omega)]
    exact step _ a w i o ho hI hb he
  intro fuel
  induction fuel with
  | zero =>
    intro l a w hl hc hI
    have hall := left_zero (Nat.le_zero.1 hc)
    refine ⟨?_, fin _ a w hall hI⟩
    rw [List.eq_nil_iff_forall_not_mem]
    intro i hi
    obtain ⟨hlt, hb, _⟩ := hstep l a w hl hI i hi
    rw [hall i hlt] at hb
    cases hb
  | succ fuel ih =>
    intro l a w hl hc hI
    refine ⟨fun hr => fin _ a w (hend l hl hr) hI, fun i hi => ?_⟩
    obtain ⟨hlt, hb, hw⟩ := hstep l a w hl hI i hi
    refine wpOp_mono (fun a' w' hI' => ?_) hw
    refine ih _ a' w' (by simpa using hl) ?_ hI'
    rw [lst_set (by omega)]
    have := left_upd hlt hb
    omega

theorem wpOp_k {i : Nat} {o : Oper} {I : Act → World → Prop} {a : Act} {w : World} (ho : ops[i]? = some o) (hg : o.guard = none)
    (h : ∀ K : Act → World → Prop, (∀ a w, I a w → K a w) → o.wp P a w K Q) : wpOp P ops Q i I a w := by
  unfold wpOp
  simp only [ho]
  rw [if_pos (by simp [Region.wanted, hg])]
  exact .inl (h _ fun _ _ h => h)

def acycB (ops : Array Oper) : Bool := (List.range ops.size).all fun i => match ops[i]? with
  | some o => o.after.all fun e => !Region.binds .any e || decide (e.on < i)
  | none => true
theorem acycB_spec (h : acycB ops = true) : ∀ i o, ops[i]? = some o → ∀ e ∈ o.after, Region.binds .any e = true → e.on < i := by
  intro i o ho e he hb
  have h1 := List.all_eq_true.1 h i (List.mem_range.2 (Array.getElem?_eq_some_iff.1 ho).1)
  simp only [ho] at h1
  have h2 := Array.all_eq_true_iff_forall_mem.1 h1 e he
  simpa [hb] using h2
/-- All that o waits for is done. -/
def waits (o : Oper) (b : Nat → Bool) : Bool := o.after.all fun e => !Region.binds .any e || b e.on

theorem wp_region_inv {id : Nat} {a : Act} {w : World} (n : Nat) (hm : P.follows .mixedOrders = true) (hn : ops.size = n) (I : (Nat → Bool) → Act → World → Prop)
    (acyc : acycB ops = true)
    (start : I (fun _ => false) a w.drew)
    (step : ∀ i o, ops[i]? = some o → ∀ b a w, I b a w → b i = false → waits o b = true → wpOp P ops Q i (I (upd b i)) a w)
    (fin : ∀ b a w, (∀ i, i < n → b i = true) → I b a w → Q .normal a w) : (Code.region id ops true).wp P Q a w := by
  refine wp_region_any hm ?_
  refine wpAny_inv n hn I (acycB_spec acyc) (fun b a w i o ho hI hb he => step i o ho b a w hI hb (Array.all_eq_true_iff_forall_mem.2 fun e hm => by cases hbd : Region.binds .any e <;> simp; exact he e hm hbd)) fin ops.size _ a _ (by simpa using hn) ?_ ?_
  · unfold left
    rw [hn]
    exact Nat.le_trans List.countP_le_length (by simp)
  · have : lst (Array.replicate ops.size false) = fun _ => false := by
      funext j; unfold lst; simp [Array.getElem?_replicate]
      split <;> rfl
    rw [this]
    exact start
end
end Go.Proofs.Ytdpbjigdihajjaa
