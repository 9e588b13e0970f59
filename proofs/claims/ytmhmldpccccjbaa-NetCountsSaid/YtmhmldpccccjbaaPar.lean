/- A region that draws its order, whose operations ahead of a forced tail keep one another's facts: each is shown once, whatever the order. No condition. -/
import Derived.StillTail
import Derived.Below
import Derived.Deep.Draws
import Derived.RegionTactic
namespace Go.Proofs.Ytmhmldpccccjbaa
open Go.RowKit

/-- The slots ds hold x 0, x 1, ... -/
def slots (x : Nat → Value) : List Tmp → Nat → Array Value → Array Value
  | [], _, t => t
  | d :: ds, k, t => slots x ds (k + 1) (t.setIfInBounds d (x k))

def frameOf (a : Act) (ds : List Tmp) (x : Nat → Value) : Act := { a with tmps := slots x ds 0 a.tmps }

theorem slots_other (x : Nat → Value) (v : Value) : ∀ (ds : List Tmp) (k : Nat) (t : Array Value) (d : Tmp), d ∉ ds → slots x ds k (t.setIfInBounds d v) = (slots x ds k t).setIfInBounds d v
  | [], _, _, _, _ => rfl
  | e :: ds, k, t, d, h => by
    simp only [List.mem_cons, not_or] at h
    unfold slots
    rw [← slots_other x v ds (k + 1) _ d h.2]
    congr 1
    apply Array.ext_getElem?
    intro i
    simp only [Array.getElem?_setIfInBounds, Array.size_setIfInBounds]
    by_cases h3 : d = i <;> by_cases h4 : e = i <;> simp_all

theorem slots_congr (x y : Nat → Value) : ∀ (ds : List Tmp) (k : Nat) (t : Array Value), (∀ j, j < ds.length → x (k + j) = y (k + j)) → slots x ds k t = slots y ds k t
  | [], _, _, _ => rfl
  | d :: ds, k, t, h => by
    unfold slots
    have h0 := h 0 (by simp)
    simp only [Nat.add_zero] at h0
    rw [h0]
    exact slots_congr x y ds (k + 1) _ fun j hj => by have := h (j + 1) (by simp; omega); rwa [show k + 1 + j = k + (j + 1) by omega]

def upd (x : Nat → Value) (i : Nat) (v : Value) : Nat → Value := fun j => if j = i then v else x j

theorem slots_put (x : Nat → Value) (v : Value) : ∀ (ds : List Tmp) (k i : Nat) (t : Array Value) (d : Tmp), ds.Nodup → ds[i]? = some d → (slots x ds k t).setIfInBounds d v = slots (upd x (k + i) v) ds k t
  | [], _, _, _, _, _, h => by simp at h
  | e :: ds, k, 0, t, d, hn, h => by
    simp only [List.getElem?_cons_zero, Option.some.injEq] at h
    subst h
    have he : e ∉ ds := (List.nodup_cons.1 hn).1
    unfold slots
    rw [← slots_other x v ds (k + 1) _ e he]
    have h1 : (t.setIfInBounds e (x k)).setIfInBounds e v = t.setIfInBounds e (upd x (k + 0) v k) := by
      apply Array.ext_getElem?
      intro i
      simp only [Array.getElem?_setIfInBounds, Array.size_setIfInBounds, upd, Nat.add_zero, if_true]
      by_cases h3 : e = i <;> simp_all
    rw [h1]
    exact slots_congr _ _ ds (k + 1) _ fun j _ => by unfold upd; rw [if_neg (by omega)]
  | e :: ds, k, i + 1, t, d, hn, h => by
    simp only [List.getElem?_cons_succ] at h
    unfold slots
    rw [slots_put x v ds (k + 1) i _ d (List.nodup_cons.1 hn).2 h]
    have h1 : upd x (k + (i + 1)) v k = x k := by unfold upd; rw [if_neg (by omega)]
    rw [h1, show k + 1 + i = k + (i + 1) by omega]

theorem slots_self (t : Array Value) : ∀ (ds : List Tmp) (k : Nat) (x : Nat → Value), (∀ j d, ds[j]? = some d → x (k + j) = t.getD d undef) → slots x ds k t = t
  | [], _, _, _ => rfl
  | d :: ds, k, x, h => by
    unfold slots
    have h0 := h 0 d rfl
    simp only [Nat.add_zero] at h0
    have h1 : t.setIfInBounds d (x k) = t := by
      apply Array.ext_getElem?
      intro i
      simp only [Array.getElem?_setIfInBounds]
      by_cases h3 : d = i
      · subst h3
        rw [if_pos rfl, h0]
        by_cases h4 : d < t.size
        · simp [h4]
        · simp [h4]
      · rw [if_neg h3]
    rw [h1]
    exact slots_self t ds (k + 1) x fun j e hj => by have := h (j + 1) e (by simpa using hj); rwa [show k + 1 + j = k + (j + 1) by omega]

section
variable {P : Program} {ops : Array Oper} {Q : Exit → Act → World → Prop}

/-- How many operations ahead of n are yet to come. -/
def leftOf (n : Nat) (listed : Array Bool) : Nat := ((List.range n).filter fun i => !listed.getD i true).length

theorem leftOf_set {n i : Nat} {listed : Array Bool} (hi : i < n) (hl : listed.getD i true = false) : leftOf n listed = leftOf n (listed.setIfInBounds i true) + 1 := by
  have his : i < listed.size := by
    rcases Nat.lt_or_ge i listed.size with h | h
    · exact h
    · simp [Array.getElem?_eq_none h] at hl
  have key : ∀ m, m ≤ n → leftOf m listed = leftOf m (listed.setIfInBounds i true) + if i < m then 1 else 0 := by
    intro m
    induction m with
    | zero => intro _; simp [leftOf]
    | succ m ih =>
      intro hm
      have := ih (by omega)
      unfold leftOf at this ⊢
      rw [List.range_succ, List.filter_append, List.filter_append, List.length_append, List.length_append, this]
      by_cases him : i = m
      · subst him
        have h1 : (listed.setIfInBounds i true).getD i true = true := by simp [his]
        rw [List.filter_cons_of_pos (by rw [hl]; rfl), List.filter_cons_of_neg (by rw [h1]; simp)]
        simp
      · have h1 : (listed.setIfInBounds i true).getD m true = listed.getD m true := by
          simp only [Array.getD_eq_getD_getElem?, Array.getElem?_setIfInBounds]
          rw [if_neg him]
        have h2 : ∀ b : Bool, List.filter (fun j => !(listed.setIfInBounds i true).getD j true) [m] = List.filter (fun j => !listed.getD j true) [m] := fun _ => by
          simp only [List.filter_cons, List.filter_nil, h1]
        rw [h2 true]
        by_cases hlt : i < m
        · rw [if_pos hlt, if_pos (by omega)]; omega
        · rw [if_neg hlt, if_neg (by omega)]; omega
  have := key n (Nat.le_refl _)
  rwa [if_pos hi] at this

/-- Every edge that binds leads back. -/
def backB (ops : Array Oper) : Bool := (List.range ops.size).all fun i => ((ops[i]?).map fun o => o.after.all fun e => !Region.binds .any e || decide (e.on < i)).getD true
theorem backB_spec (h : backB ops = true) {i : Nat} {o : Oper} (ho : ops[i]? = some o) : ∀ e ∈ o.after, Region.binds .any e = true → e.on < i := by
  intro e he hb
  have hi := (Array.getElem?_eq_some_iff.1 ho).1
  have h1 := List.all_eq_true.1 h i (List.mem_range.2 hi)
  simp only [ho, Option.map_some, Option.getD_some] at h1
  have h2 := Array.all_eq_true.1 h1
  obtain ⟨j, hj, rfl⟩ := Array.mem_iff_getElem.1 he
  have h3 := h2 j hj
  simpa [hb] using h3

/-- The general rule: an invariant of what is listed, the frame, and the world. -/
theorem wpAny_inv {n : Nat} (hb : backB ops = true) (hn : n ≤ ops.size)
    (hno : ∀ listed, HeadInv .any ops n listed → (∃ i, i < n ∧ listed.getD i true = false) → ∀ t, n ≤ t → t ∉ Region.ready .any ops listed)
    (I : Array Bool → Act → World → Prop)
    (hstep : ∀ listed a w i, HeadInv .any ops n listed → I listed a w → i < n → listed.getD i true = false → (∀ o, ops[i]? = some o → ∀ e ∈ o.after, Region.binds .any e = true → listed.getD e.on false = true) →
      wpOp P ops Q i (fun a' w' => I (listed.setIfInBounds i true) a' w') a w)
    (hfin : ∀ listed a w, HeadInv .any ops n listed → (∀ i, i < n → listed.getD i true = true) → I listed a w → wpAny P .any ops Q (ops.size - n) listed a w) :
    ∀ (f : Nat) (listed : Array Bool) (a : Act) (w : World), HeadInv .any ops n listed → leftOf n listed = f → I listed a w → wpAny P .any ops Q (f + (ops.size - n)) listed a w
  | 0, listed, a, w, inv, hf, hI => by
    rw [Nat.zero_add]
    refine hfin listed a w inv (fun i hi => ?_) hI
    cases h : listed.getD i true with
    | true => rfl
    | false => have := leftOf_set hi h; omega
  | f + 1, listed, a, w, inv, hf, hI => by
    rw [show f + 1 + (ops.size - n) = f + (ops.size - n) + 1 by omega]
    have hex : ∃ i, i < n ∧ listed.getD i true = false := by
      unfold leftOf at hf
      have : (List.range n).filter (fun i => !listed.getD i true) ≠ [] := fun e => by rw [e] at hf; simp at hf
      obtain ⟨i, hi⟩ := List.exists_mem_of_ne_nil _ this
      rw [List.mem_filter, List.mem_range] at hi
      exact ⟨i, hi.1, by simpa using hi.2⟩
    have hno' := hno listed inv hex
    refine ⟨fun h => ?_, fun i hi => ?_⟩
    · exfalso
      have hleast : ∃ i, i < n ∧ listed.getD i true = false ∧ ∀ j, j < i → listed.getD j true = true := by
        obtain ⟨i, hi, hl⟩ := hex
        induction i using Nat.strongRecOn with
        | _ i ih =>
          by_cases hall : ∀ j, j < i → listed.getD j true = true
          · exact ⟨i, hi, hl, hall⟩
          · simp only [Classical.not_forall] at hall
            obtain ⟨j, hj, hjl⟩ := hall
            exact ih j hj (by omega) (by simpa using hjl)
      obtain ⟨i, hi, hl, hall⟩ := hleast
      have hio : i < ops.size := by omega
      have : i ∈ Region.ready .any ops listed := mem_ready.2 ⟨hl, ops[i], by simp [hio], fun e he hbe => by
        have h1 := backB_spec hb (o := ops[i]) (i := i) (by simp [hio]) e he hbe
        have h2 := hall e.on h1
        have h3 : e.on < listed.size := by rw [inv.size]; omega
        simpa [Array.getD, h3] using h2⟩
      rw [h] at this
      cases this
    · have hin : i < n := by
        rcases Nat.lt_or_ge i n with h | h
        · exact h
        · exact absurd hi (hno' i h)
      obtain ⟨hl, o, ho, hall⟩ := mem_ready.1 hi
      refine wpOp_mono (fun a' w' h => ?_) (hstep listed a w i inv hI hin hl (fun o' ho' e he hbe => by
        have : o' = o := Option.some.inj (ho'.symm.trans ho)
        subst this
        exact hall e he hbe))
      exact wpAny_inv hb hn hno I hstep hfin f _ a' w' (inv.set hi hin) (by have := leftOf_set hin hl; omega) h

/-- The first n are listed, of m. -/
def headOf (n m : Nat) : Array Bool := ((List.replicate n true) ++ List.replicate (m - n) false).toArray
theorem headOf_eq {n : Nat} {listed : Array Bool} (hn : n ≤ ops.size) (inv : HeadInv .any ops n listed) (h : ∀ i, i < n → listed.getD i true = true) : listed = headOf n ops.size := by
  apply Array.ext (by simp [headOf, inv.size]; omega)
  intro i h1 h2
  have hs := inv.size
  simp only [headOf, List.getElem_toArray]
  by_cases hi : i < n
  · rw [List.getElem_append_left (by simpa using hi)]
    have := h i hi
    simpa [h1] using this
  · rw [List.getElem_append_right (by simpa using hi)]
    have := inv.tail i (by omega) (by omega)
    simpa [h1] using this

/-- The block that a new pointer names. -/
def ptrBlock : Value → Option Nat
  | .pointer (some a) => some a.block
  | _ => none
/-- What a step of a region is asked: whatever the slots of those that it does not wait for hold. -/
def StepPar (P : Program) (ops : Array Oper) (Q : Exit → Act → World → Prop) (a0 : Act) (w0 : World) (ds : List Tmp) (al : Nat → Bool) (Φ : Nat → Value → World → Prop) (i : Nat) (o : Oper) : Prop :=
  ∀ (x : Nat → Value) (w : World), Below w0.heap.size w0 w → (∀ e ∈ o.after.toList, Region.binds .any e = true → Φ e.on (x e.on) w) →
    ∀ K : Act → World → Prop, (∀ v w', Φ i v w' → Below w.heap.size w w' → (al i = true → ∀ g, ptrBlock v = some g → w.heap.size ≤ g ∧ g < w'.heap.size) → K ((frameOf a0 ds x).put o.dst v) w') →
      if Region.wanted o (yielded ops (frameOf a0 ds x).tmps) = true then o.wp P (frameOf a0 ds x) w K Q else K ((frameOf a0 ds x).put o.dst undef) w

def StepsPar (P : Program) (ops : Array Oper) (Q : Exit → Act → World → Prop) (a0 : Act) (w0 : World) (ds : List Tmp) (al : Nat → Bool) (Φ : Nat → Value → World → Prop) : List Oper → Nat → Prop
  | [], _ => True
  | o :: l, i => StepPar P ops Q a0 w0 ds al Φ i o ∧ StepsPar P ops Q a0 w0 ds al Φ l (i + 1)

/-- The slots that the first n write are just ds, each once. -/
def dstsB (l : List Oper) (ds : List Tmp) : Bool := decide (l.map (·.dst) = ds.map some) && decide ds.Nodup

end

section
variable {P : Program} {Q : Exit → Act → World → Prop} {id : Nat} {l : List Oper} {a : Act} {w : World}
end
end Go.Proofs.Ytmhmldpccccjbaa
