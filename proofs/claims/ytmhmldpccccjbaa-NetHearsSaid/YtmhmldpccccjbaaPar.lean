/- A region that draws its order, whose operations ahead of a forced tail keep one another's facts: each is shown once, whatever the order. No condition. -/
import Derived.StillTail
import Derived.Below
import Derived.Deep.Draws
import Derived.RegionTactic
namespace Go.Proofs.Ytmhmldpccccjbaa
open Go.RowKit

/-- The slots ds hold x 0, x 1, ... -/
def slots (x : Nat → Value) : List Tmp → Nat → Array Value → Array Value
  | [], _, t => t
  | d :: ds, k, t => slots x ds (k + 1) (t.setIfInBounds d (x k))

def frameOf (a : Act) (ds : List Tmp) (x : Nat → Value) : Act := { a with tmps := slots x ds 0 a.tmps }

theorem slots_other (x : Nat → Value) (v : Value) : ∀ (ds : List Tmp) (k : Nat) (t : Array Value) (d : Tmp), d ∉ ds → slots x ds k (t.setIfInBounds d v) = (slots x ds k t).setIfInBounds d v
  | [], _, _, _, _ => rfl
  | e :: ds, k, t, d, h => by
    simp only [List.mem_cons, not_or] at h
    unfold slots
    rw [← slots_other x v ds (k + 1) _ d h.2]
    congr 1
    apply Array.ext_getElem?
    intro i
    simp only [Array.getElem?_setIfInBounds, Array.size_setIfInBounds]
    by_cases h3 : d = i <;> by_cases h4 : e = i <;> simp_all

theorem slots_congr (x y : Nat → Value) : ∀ (ds : List Tmp) (k : Nat) (t : Array Value), (∀ j, j < ds.length → x (k + j) = y (k + j)) → slots x ds k t = slots y ds k t
  | [], _, _, _ => rfl
  | d :: ds, k, t, h => by
    unfold slots
    have h0 := h 0 (by simp)
    simp only [Nat.add_zero] at h0
    rw [h0]
    exact slots_congr x y ds (k + 1) _ fun j hj => by have := h (j + 1) (by simp; omega); rwa [show k + 1 + j = k + (j + 1) by omega]

def upd (x : Nat → Value) (i : Nat) (v : Value) : Nat → Value := fun j => if j = i then v else x j

theorem slots_put (x : Nat → Value) (v : Value) : ∀ (ds : List Tmp) (k i : Nat) (t : Array Value) (d : Tmp), ds.Nodup → ds[i]? = some d → (slots x ds k t).setIfInBounds d v = slots (upd x (k + i) v) ds k t
  | [], _, _, _, _, _, h => by simp at h
  | e :: ds, k, 0, t, d, hn, h => by
    simp only [List.getElem?_cons_zero, Option.some.injEq] at h
    subst h
    have he : e ∉ ds := (List.nodup_cons.1 hn).1
    unfold slots
    rw [← slots_other x v ds (k + 1) _ e he]
    have h1 : (t.setIfInBounds e (x k)).setIfInBounds e v = t.setIfInBounds e (upd x (k + 0) v k) := by
      apply Array.ext_getElem?
      intro i
      simp only [Array.getElem?_setIfInBounds, Array.size_setIfInBounds, upd, Nat.add_zero, if_true]
      by_cases h3 : e = i <;> simp_all
    rw [h1]
    exact slots_congr _ _ ds (k + 1) _ fun j _ => by unfold upd; rw [if_neg (by omega)]
  | e :: ds, k, i + 1, t, d, hn, h => by
    simp only [List.getElem?_cons_succ] at h
    unfold slots
    rw [slots_put x v ds (k + 1) i _ d (List.nodup_cons.1 hn).2 h]
    have h1 : upd x (k + (i + 1)) v k = x k := by unfold upd; rw [if_neg (by omega)]
    rw [h1, show k + 1 + i = k + (i + 1) by omega]

theorem slots_self (t : Array Value) : ∀ (ds : List Tmp) (k : Nat) (x : Nat → Value), (∀ j d, ds[j]? = some d → x (k + j) = t.getD d undef) → slots x ds k t = t
  | [], _, _, _ => rfl
  | d :: ds, k, x, h => by
    unfold slots
    have h0 := h 0 d rfl
    simp only [Nat.add_zero] at h0
    have h1 : t.setIfInBounds d (x k) = t := by
      apply Array.ext_getElem?
      intro i
      simp only [Array.getElem?_setIfInBounds]
      by_cases h3 : d = i
      · subst h3
        rw [if_pos rfl, h0]
        by_cases h4 : d < t.size
        · simp [h4]
        · simp [h4]
      · rw [if_neg h3]
    rw [h1]
    exact slots_self t ds (k + 1) x fun j e hj => by have := h (j + 1) e (by simpa using hj); rwa [show k + 1 + j = k + (j + 1) by omega]

section
variable {P : Program} {ops : Array Oper} {Q : Exit → Act → World → Prop}

/-- How many operations ahead of n are yet to come. -/
def leftOf (n : Nat) (listed : Array Bool) : Nat := ((List.range n).filter fun i => !listed.getD i true).length

theorem leftOf_set {n i : Nat} {listed : Array Bool} (hi : i < n) (hl : listed.getD i true = false) : leftOf n listed = leftOf n (listed.setIfInBounds i true) + 1 := by
  have his : i < listed.size := by
    rcases Nat.lt_or_ge i listed.size with h | h
    · exact h
    · simp [Array.getElem?_eq_none h] at hl
  have key : ∀ m, m ≤ n → leftOf m listed = leftOf m (listed.setIfInBounds i true) + if i < m then 1 else 0 := by
    intro m
    induction m with
    | zero => intro _; simp [leftOf]
    | succ m ih =>
      intro hm
      have := ih (by omega)
      unfold leftOf at this ⊢
      rw [List.range_succ, List.filter_append, List.filter_append, List.length_append, List.length_append, this]
      by_cases him : i = m
      · subst him
        have h1 : (listed.setIfInBounds i true).getD i true = true := by simp [his]
        rw [List.filter_cons_of_pos (by rw [hl]; rfl), List.filter_cons_of_neg (by rw [h1]; simp)]
        simp
      · have h1 : (listed.setIfInBounds i true).getD m true = listed.getD m true := by
          simp only [Array.getD_eq_getD_getElem?, Array.getElem?_setIfInBounds]
          rw [if_neg him]
        have h2 : ∀ b : Bool, List.filter (fun j => !(listed.setIfInBounds i true).getD j true) [m] = List.filter (fun j => !listed.getD j true) [m] := fun _ => by
          simp only [List.filter_cons, List.filter_nil, h1]
        rw [h2 true]
        by_cases hlt : i < m
        · rw [if_pos hlt, if_pos (by omega)]; omega
        · rw [if_neg hlt, if_neg (by omega)]; omega
  have := key n (Nat.le_refl _)
  rwa [if_pos hi] at this

/-- Every edge that binds leads back. -/
def backB (ops : Array Oper) : Bool := (List.range ops.size).all fun i => ((ops[i]?).map fun o => o.after.all fun e => !Region.binds .any e || decide (e.on < i)).getD true
theorem backB_spec (h : backB ops = true) {i : Nat} {o : Oper} (ho : ops[i]? = some o) : ∀ e ∈ o.after, Region.binds .any e = true → e.on < i := by
  intro e he hb
  have hi := (Array.getElem?_eq_some_iff.1 ho).1
  have h1 := List.all_eq_true.1 h i (List.mem_range.2 hi)
  simp only [ho, Option.map_some, Option.getD_some] at h1
  have h2 := Array.all_eq_true.1 h1
  obtain ⟨j, hj, rfl⟩ := Array.mem_iff_getElem.1 he
  have h3 := h2 j hj
  simpa [hb] using h3

/-- The general rule: an invariant of what is listed, the frame, and the world. -/
theorem wpAny_inv {n : Nat} (hb : backB ops = true) (hn : n ≤ ops.size)
    (hno : ∀ listed, HeadInv .any ops n listed → (∃ i, i < n ∧ listed.getD i true = false) → ∀ t, n ≤ t → t ∉ Region.ready .any ops listed)
    (I : Array Bool → Act → World → Prop)
    (hstep : ∀ listed a w i, HeadInv .any ops n listed → I listed a w → i < n → listed.getD i true = false → (∀ o, ops[i]? = some o → ∀ e ∈ o.after, Region.binds .any e = true → listed.getD e.on false = true) →
      wpOp P ops Q i (fun a' w' => I (listed.setIfInBounds i true) a' w') a w)
    (hfin : ∀ listed a w, HeadInv .any ops n listed → (∀ i, i < n → listed.getD i true = true) → I listed a w → wpAny P .any ops Q (ops.size - n) listed a w) :
    ∀ (f : Nat) (listed : Array Bool) (a : Act) (w : World), HeadInv .any ops n listed → leftOf n listed = f → I listed a w → wpAny P .any ops Q (f + (ops.size - n)) listed a w
  | 0, listed, a, w, inv, hf, hI => by
    rw [Nat.zero_add]
    refine hfin listed a w inv (fun i hi => ?_) hI
    cases h : listed.getD i true with
    | true => rfl
    | false => have := leftOf_set hi h; omega
  | f + 1, listed, a, w, inv, hf, hI => by
    rw [show f + 1 + (ops.size - n) = f + (ops.size - n) + 1 by omega]
    have hex : ∃ i, i < n ∧ listed.getD i true = false := by
      unfold leftOf at hf
      have : (List.range n).filter (fun i => !listed.getD i true) ≠ [] := fun e => by rw [e] at hf; simp at hf
      obtain ⟨i, hi⟩ := List.exists_mem_of_ne_nil _ this
      rw [List.mem_filter, List.mem_range] at hi
      exact ⟨i, hi.1, by simpa using hi.2⟩
    have hno' := hno listed inv hex
    refine ⟨fun h => ?_, fun i hi => ?_⟩
    · exfalso
      have hleast : ∃ i, i < n ∧ listed.getD i true = false ∧ ∀ j, j < i → listed.getD j true = true := by
        obtain ⟨i, hi, hl⟩ := hex
        induction i using Nat.strongRecOn with
        | _ i ih =>
          by_cases hall : ∀ j, j < i → listed.getD j true = true
          · exact ⟨i, hi, hl, hall⟩
          · simp only [Classical.not_forall] at hall
            obtain ⟨j, hj, hjl⟩ := hall
            exact ih j hj (by omega) (by simpa using hjl)
      obtain ⟨i, hi, hl, hall⟩ := hleast
      have hio : i < ops.size := by omega
      have : i ∈ Region.ready .any ops listed := mem_ready.2 ⟨hl, ops[i], by simp [hio], fun e he hbe => by
        have h1 := backB_spec hb (o := ops[i]) (i := i) (by simp [hio]) e he hbe
        have h2 := hall e.on h1
        have h3 : e.on < listed.size := by rw [inv.size]; omega
        simpa [Array.getD, h3] using h2⟩
      rw [h] at this
      cases this
    · have hin : i < n := by
        rcases Nat.lt_or_ge i n with h | h
        · exact h
        · exact absurd hi (hno' i h)
      obtain ⟨hl, o, ho, hall⟩ := mem_ready.1 hi
      refine wpOp_mono (fun a' w' h => ?_) (hstep listed a w i inv hI hin hl (fun o' ho' e he hbe => by
        have : o' = o := Option.some.inj (ho'.symm.trans ho)
        subst this
        exact hall e he hbe))
      exact wpAny_inv hb hn hno I hstep hfin f _ a' w' (inv.set hi hin) (by have := leftOf_set hin hl; omega) h

/-- The first n are listed, of m. -/
def headOf (n m : Nat) : Array Bool := ((List.replicate n true) ++ List.replicate (m - n) false).toArray
theorem headOf_eq {n : Nat} {listed : Array Bool} (hn : n ≤ ops.size) (inv : HeadInv .any ops n listed) (h : ∀ i, i < n → listed.getD i true = true) : listed = headOf n ops.size := by
  apply Array.ext (by simp [headOf, inv.size]; omega)
  intro i h1 h2
  have hs := inv.size
  simp only [headOf, List.getElem_toArray]
  by_cases hi : i < n
  · rw [List.getElem_append_left (by simpa using hi)]
    have := h i hi
    simpa [h1] using this
  · rw [List.getElem_append_right (by simpa using hi)]
    have := inv.tail i (by omega) (by omega)
    simpa [h1] using this

/-- The block that a new pointer names. -/
def ptrBlock : Value → Option Nat
  | .pointer (some a) => some a.block
  | _ => none
/-- What a step of a region is asked: whatever the slots of those that it does not wait for hold. -/
def StepPar (P : Program) (ops : Array Oper) (Q : Exit → Act → World → Prop) (a0 : Act) (w0 : World) (ds : List Tmp) (al : Nat → Bool) (Φ : Nat → Value → World → Prop) (i : Nat) (o : Oper) : Prop :=
  ∀ (x : Nat → Value) (w : World), Below w0.heap.size w0 w → (∀ e ∈ o.after.toList, Region.binds .any e = true → Φ e.on (x e.on) w) →
    ∀ K : Act → World → Prop, (∀ v w', Φ i v w' → Below w.heap.size w w' → (al i = true → ∀ g, ptrBlock v = some g → w.heap.size ≤ g ∧ g < w'.heap.size) → K ((frameOf a0 ds x).put o.dst v) w') →
      if Region.wanted o (yielded ops (frameOf a0 ds x).tmps) = true then o.wp P (frameOf a0 ds x) w K Q else K ((frameOf a0 ds x).put o.dst undef) w

def StepsPar (P : Program) (ops : Array Oper) (Q : Exit → Act → World → Prop) (a0 : Act) (w0 : World) (ds : List Tmp) (al : Nat → Bool) (Φ : Nat → Value → World → Prop) : List Oper → Nat → Prop
  | [], _ => True
  | o :: l, i => StepPar P ops Q a0 w0 ds al Φ i o ∧ StepsPar P ops Q a0 w0 ds al Φ l (i + 1)

theorem stepsPar_at {a0 : Act} {w0 : World} {ds : List Tmp} {al : Nat → Bool} {Φ : Nat → Value → World → Prop} : ∀ (l : List Oper) (k i : Nat) (o : Oper), StepsPar P ops Q a0 w0 ds al Φ l k → l[i]? = some o → StepPar P ops Q a0 w0 ds al Φ (k + i) o
  | [], _, _, _, _, h => by simp at h
  | o' :: l, k, 0, o, h, ho => by
    simp only [List.getElem?_cons_zero, Option.some.injEq] at ho
    subst ho
    exact h.1
  | o' :: l, k, i + 1, o, h, ho => by
    have := stepsPar_at l (k + 1) i o h.2 (by simpa using ho)
    rwa [show k + 1 + i = k + (i + 1) by omega] at this

/-- The slots that the first n write are just ds, each once. -/
def dstsB (l : List Oper) (ds : List Tmp) : Bool := decide (l.map (·.dst) = ds.map some) && decide ds.Nodup

theorem wp_region_par {id : Nat} {l : List Oper} {a : Act} {w : World} (n : Nat) (ds : List Tmp) (al : Nat → Bool) (Φ : Nat → Value → World → Prop) (hm : P.follows .mixedOrders = true)
    (hB : (backB l.toArray && decide (n ≤ l.length) && dstsB (l.take n) ds) = true)
    (hno : ∀ listed, HeadInv .any l.toArray n listed → (∃ i, i < n ∧ listed.getD i true = false) → ∀ t, n ≤ t → t ∉ Region.ready .any l.toArray listed)
    (hstab : ∀ i v w1 w2, Φ i v w1 → Below w1.heap.size w1 w2 → Φ i v w2)
    (hsteps : StepsPar P l.toArray Q a w ds al Φ (l.take n) 0)
    (hfin : ∀ (x : Nat → Value) (w' : World), Below w.heap.size w w' → (∀ i, i < n → Φ i (x i) w') → (∀ i j, i < n → j < n → al i = true → al j = true → i ≠ j → ∀ g, ptrBlock (x i) = some g → ptrBlock (x j) ≠ some g) → wpAny P .any l.toArray Q (l.length - n) (headOf n l.length) (frameOf a ds x) w') :
    (Code.region id l.toArray true).wp P Q a w := by
  simp only [Bool.and_eq_true, decide_eq_true_eq, dstsB] at hB
  obtain ⟨⟨hb, hn⟩, hds, hnd⟩ := hB
  have hlen : ds.length = n := by
    have := congrArg List.length hds
    simp at this
    omega
  refine wp_region_any hm ?_
  have inv0 : HeadInv .any l.toArray n (Array.replicate l.toArray.size false) :=
    ⟨by simp, fun j oj _ hl => (by rw [getD_replicate_false] at hl; cases hl), fun t _ ht => getD_in (by simpa using ht) (getD_replicate_false _ _)⟩
  have hn' : n ≤ l.toArray.size := by simpa using hn
  have key := wpAny_inv (P := P) (ops := l.toArray) (Q := Q) (n := n) hb hn' hno
    (fun listed a' w' => Below w.heap.size w w' ∧ ∃ x : Nat → Value, a' = frameOf a ds x ∧ (∀ i, i < n → listed.getD i false = true → Φ i (x i) w') ∧ (∀ i, i < n → listed.getD i false = true → al i = true → ∀ g, ptrBlock (x i) = some g → g < w'.heap.size) ∧ (∀ i j, i < n → j < n → listed.getD i false = true → listed.getD j false = true → al i = true → al j = true → i ≠ j → ∀ g, ptrBlock (x i) = some g → ptrBlock (x j) ≠ some g))
    (fun listed a' w' i inv hI hi hl hdeps => by
      obtain ⟨hbw, x, rfl, hx, hlt, hne⟩ := hI
      have hil : i < l.length := by omega
      have ho : l.toArray[i]? = some l[i] := by simp [hil]
      have hst := stepsPar_at (l.take n) 0 i l[i] hsteps (by simp [hi, hil])
      rw [Nat.zero_add] at hst
      have hd : (l[i]).dst = some (ds[i]'(by omega)) := by
        have h1 : ((l.take n).map (·.dst))[i]? = (ds.map some)[i]? := by rw [hds]
        simp [hi, hil, show i < ds.length by omega] at h1
        exact h1
      have hds2 : ds[i]? = some (ds[i]'(by omega)) := by simp [show i < ds.length by omega]
      refine wpOp_step ho fun K hK => hst x w' hbw (fun e he hbe => hx e.on (by have := backB_spec hb ho e (by simpa using he) hbe; omega) (hdeps _ ho e (by simpa using he) hbe)) K (fun v w'' hv hb2 hfr => ?_)
      refine hK _ _ ⟨hbw.trans (hb2.mono hbw.size), upd x i v, ?_, fun j hj hlj => ?_, fun j hj hlj haj g hg => ?_, fun j k hj hk hlj hlk haj hak hjk g hgj hgk => ?_⟩
      · rw [hd]
        unfold frameOf Act.put
        simp only
        have := slots_put x v ds 0 i a.tmps _ hnd hds2
        rw [Nat.zero_add] at this
        rw [this]
      · unfold upd
        by_cases hji : j = i
        · subst hji; rw [if_pos rfl]; exact hv
        · rw [if_neg hji]
          rw [getD_set_ne false (fun e => hji e.symm)] at hlj
          exact hstab j _ _ _ (hx j hj hlj) hb2
      · unfold upd at hg
        by_cases hji : j = i
        · subst hji; rw [if_pos rfl] at hg; exact (hfr haj g hg).2
        · rw [if_neg hji] at hg
          rw [getD_set_ne false (fun e => hji e.symm)] at hlj
          exact Nat.lt_of_lt_of_le (hlt j hj hlj haj g hg) hb2.size
      · unfold upd at hgj hgk
        by_cases hji : j = i
        · have hki : ¬ k = i := fun e => hjk (hji.trans e.symm)
          subst hji
          rw [if_pos rfl] at hgj
          rw [if_neg hki] at hgk
          rw [getD_set_ne false (fun e => hki e.symm)] at hlk
          have h1 := (hfr haj g hgj).1
          have h2 := hlt k hk hlk hak g hgk
          omega
        · rw [if_neg hji] at hgj
          rw [getD_set_ne false (fun e => hji e.symm)] at hlj
          by_cases hki : k = i
          · subst hki
            rw [if_pos rfl] at hgk
            have h1 := (hfr hak g hgk).1
            have h2 := hlt j hj hlj haj g hgj
            omega
          · rw [if_neg hki] at hgk
            rw [getD_set_ne false (fun e => hki e.symm)] at hlk
            exact hne j k hj hk hlj hlk haj hak hjk g hgj hgk)
    (fun listed a' w' inv hall hI => by
      obtain ⟨hbw, x, rfl, hx, hlt, hne⟩ := hI
      have := headOf_eq hn' inv hall
      subst this
      have hl : ∀ i, i < n → (headOf n l.toArray.size).getD i false = true := fun i hi => by
        have h1 := hall i hi
        have h2 : i < (headOf n l.toArray.size).size := by rw [inv.size]; omega
        simp only [Array.getD, h2, dite_true] at h1 ⊢
        exact h1
      have := hfin x w' hbw (fun i hi => hx i hi (hl i hi)) (fun i j hi hj hai haj hij => hne i j hi hj (hl i hi) (hl j hj) hai haj hij)
      simpa using this)
    (leftOf n (Array.replicate l.toArray.size false)) _ a w.drew inv0 rfl
    ⟨(Below.refl _ _).drew, fun i => a.tmps.getD (ds.getD i 0) undef, by unfold frameOf; rw [slots_self]; intro j d hj; simp [hj], fun i _ hl => by (rw [getD_replicate_false] at hl; cases hl), fun i _ hl => by (rw [getD_replicate_false] at hl; cases hl), fun i _ _ _ hl => by (rw [getD_replicate_false] at hl; cases hl)⟩
  have hleft : leftOf n (Array.replicate l.toArray.size false) = n := by
    unfold leftOf
    rw [List.filter_eq_self.2]
    · simp
    · intro i hi
      rw [List.mem_range] at hi
      have : i < l.length := by omega
      simp [this]
  rw [hleft, show n + (l.toArray.size - n) = l.toArray.size by omega] at key
  exact key
end

section
variable {P : Program} {Q : Exit → Act → World → Prop} {id : Nat} {l : List Oper} {a : Act} {w : World}
/-- All operations keep one another's facts. -/
theorem wp_region_par_all (n : Nat) (ds : List Tmp) (al : Nat → Bool) (Φ : Nat → Value → World → Prop) (hm : P.follows .mixedOrders = true) (hB : (backB l.toArray && decide (n = l.length) && dstsB l ds) = true)
    (hstab : ∀ i v w1 w2, Φ i v w1 → Below w1.heap.size w1 w2 → Φ i v w2)
    (hsteps : StepsPar P l.toArray Q a w ds al Φ l 0)
    (hfin : ∀ (x : Nat → Value) (w' : World), Below w.heap.size w w' → (∀ i, i < n → Φ i (x i) w') → (∀ i j, i < n → j < n → al i = true → al j = true → i ≠ j → ∀ g, ptrBlock (x i) = some g → ptrBlock (x j) ≠ some g) → Q .normal (frameOf a ds x) w') :
    (Code.region id l.toArray true).wp P Q a w := by
  simp only [Bool.and_eq_true, decide_eq_true_eq] at hB
  obtain ⟨⟨hb, rfl⟩, hd⟩ := hB
  refine wp_region_par l.length ds al Φ hm (by simp [hb, hd]) (fun listed _ _ t ht hr => ?_) hstab (by simpa using hsteps) (fun x w' hb hx hne => ?_)
  · obtain ⟨_, o, ho, _⟩ := mem_ready.1 hr
    have := (Array.getElem?_eq_some_iff.1 ho).1
    simp at this
    omega
  · rw [Nat.sub_self]
    refine ⟨?_, hfin x w' hb hx hne⟩
    rw [List.eq_nil_iff_forall_not_mem]
    intro t hr
    obtain ⟨hl, o, ho, _⟩ := mem_ready.1 hr
    have := (Array.getElem?_eq_some_iff.1 ho).1
    have hlt : t < l.length := by simpa using this
    have hg : (headOf l.length l.length)[t]? = some true := by simp [headOf, List.getElem?_replicate, hlt]
    rw [Array.getD_eq_getD_getElem?] at hl
    simp only [List.size_toArray, hg, Option.getD_some] at hl
    cases hl
/-- The first n keep one another's facts; behind them the order is forced. -/
theorem wp_region_par_tail (n : Nat) (ds : List Tmp) (al : Nat → Bool) (Φ : Nat → Value → World → Prop) (hm : P.follows .mixedOrders = true)
    (hB : (backB l.toArray && decide (n < l.length) && dstsB (l.take n) ds && Region.sinkB .any l.toArray n && Region.chainB .any l.toArray n && Region.seqB .any l.toArray (l.length - n) n (headOf n l.length)) = true)
    (hstab : ∀ i v w1 w2, Φ i v w1 → Below w1.heap.size w1 w2 → Φ i v w2)
    (hsteps : StepsPar P l.toArray Q a w ds al Φ (l.take n) 0)
    (hfin : ∀ (x : Nat → Value) (w' : World), Below w.heap.size w w' → (∀ i, i < n → Φ i (x i) w') → (∀ i j, i < n → j < n → al i = true → al j = true → i ≠ j → ∀ g, ptrBlock (x i) = some g → ptrBlock (x j) ≠ some g) → wpList P l.toArray Q (l.drop n) (frameOf a ds x) w') :
    (Code.region id l.toArray true).wp P Q a w := by
  simp only [Bool.and_eq_true, decide_eq_true_eq] at hB
  obtain ⟨⟨⟨⟨⟨hb, hn⟩, hd⟩, hs⟩, hc⟩, hq⟩ := hB
  have hn' : n < l.toArray.size := by simpa using hn
  refine wp_region_par n ds al Φ hm (by simp [hb, hd]; omega) (fun listed inv ⟨i, hi, hl⟩ t ht => tail_waits hs hc hn' inv (n - i) i rfl hi hl t ht) hstab hsteps (fun x w' hb hx hne => ?_)
  have := wpAny_of_seq (P := P) (ops := l.toArray) (md := .any) (Q' := Q) (l.drop n) n (headOf n l.length) (frameOf a ds x) w' (fun j => by simp [List.getElem?_drop]) (by rw [List.length_drop]; exact hq) (hfin x w' hb hx hne)
  rwa [List.length_drop] at this
end
end Go.Proofs.Ytmhmldpccccjbaa
