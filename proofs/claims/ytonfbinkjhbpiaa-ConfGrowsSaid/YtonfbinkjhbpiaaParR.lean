/- The rule for a region that draws its order, over any relation of worlds that the operations keep. No condition. -/
import Derived.Test.YtonfbinkjhbpiaaPar
namespace Go.Proofs.Ytonfbinkjhbpiaa
open Go.RowKit

section
variable {R : World → World → Prop} {P : Program} {ops : Array Oper} {Q : Exit → Act → World → Prop}

/-- What a step of a region is asked: whatever the slots of those that it does not wait for hold. -/
def StepParR (R : World → World → Prop) (P : Program) (ops : Array Oper) (Q : Exit → Act → World → Prop) (a0 : Act) (w0 : World) (ds : List Tmp) (al : Nat → Bool) (Φ : Nat → Value → World → Prop) (i : Nat) (o : Oper) : Prop :=
  ∀ (x : Nat → Value) (w : World), R w0 w → (∀ e ∈ o.after.toList, Region.binds .any e = true → Φ e.on (x e.on) w) →
    ∀ K : Act → World → Prop, (∀ v w', Φ i v w' → R w w' → (al i = true → ∀ g, ptrBlock v = some g → w.heap.size ≤ g ∧ g < w'.heap.size) → K ((frameOf a0 ds x).put o.dst v) w') →
      if Region.wanted o (yielded ops (frameOf a0 ds x).tmps) = true then o.wp P (frameOf a0 ds x) w K Q else K ((frameOf a0 ds x).put o.dst undef) w

def StepsParR (R : World → World → Prop) (P : Program) (ops : Array Oper) (Q : Exit → Act → World → Prop) (a0 : Act) (w0 : World) (ds : List Tmp) (al : Nat → Bool) (Φ : Nat → Value → World → Prop) : List Oper → Nat → Prop
  | [], _ => True
  | o :: l, i => StepParR R P ops Q a0 w0 ds al Φ i o ∧ StepsParR R P ops Q a0 w0 ds al Φ l (i + 1)

theorem stepsParR_at {a0 : Act} {w0 : World} {ds : List Tmp} {al : Nat → Bool} {Φ : Nat → Value → World → Prop} : ∀ (l : List Oper) (k i : Nat) (o : Oper), StepsParR R P ops Q a0 w0 ds al Φ l k → l[i]? = some o → StepParR R P ops Q a0 w0 ds al Φ (k + i) o
  | [], _, _, _, _, h => by simp at h
  | o' :: l, k, 0, o, h, ho => by
    simp only [List.getElem?_cons_zero, Option.some.injEq] at ho
    subst ho
    exact h.1
  | o' :: l, k, i + 1, o, h, ho => by
    have := stepsParR_at l (k + 1) i o h.2 (by simpa using ho)
    rwa [show k + 1 + i = k + (i + 1) by omega] at this

theorem wp_region_parR {id : Nat} {l : List Oper} {a : Act} {w : World} (n : Nat) (ds : List Tmp) (al : Nat → Bool) (Φ : Nat → Value → World → Prop) (hrefl : R w w.drew) (htrans : ∀ a b c, R a b → R b c → R a c) (hsize : ∀ a b : World, R a b → a.heap.size ≤ b.heap.size) (hm : P.follows .mixedOrders = true)
    (hB : (backB l.toArray && decide (n ≤ l.length) && dstsB (l.take n) ds) = true)
    (hno : ∀ listed, HeadInv .any l.toArray n listed → (∃ i, i < n ∧ listed.getD i true = false) → ∀ t, n ≤ t → t ∉ Region.ready .any l.toArray listed)
    (hstab : ∀ i v w1 w2, Φ i v w1 → R w1 w2 → Φ i v w2)
    (hsteps : StepsParR R P l.toArray Q a w ds al Φ (l.take n) 0)
    (hfin : ∀ (x : Nat → Value) (w' : World), R w w' → (∀ i, i < n → Φ i (x i) w') → (∀ i j, i < n → j < n → al i = true → al j = true → i ≠ j → ∀ g, ptrBlock (x i) = some g → ptrBlock (x j) ≠ some g) → wpAny P .any l.toArray Q (l.length - n) (headOf n l.length) (frameOf a ds x) w') :
    (Code.region id l.toArray true).wp P Q a w := by
  simp only [Bool.and_eq_true, decide_eq_true_eq, dstsB] at hB
  obtain ⟨⟨hb, hn⟩, hds, hnd⟩ := hB
  have hlen : ds.length = n := by
    have := congrArg List.length hds
    simp at this
    omega
  refine wp_region_any hm ?_
  have inv0 : HeadInv .any l.toArray n (Array.replicate l.toArray.size false) :=
    ⟨by simp, fun j oj _ hl => (by rw [getD_replicate_false] at hl; cases hl), fun t _ ht => getD_in (by simpa using ht) (getD_replicate_false _ _)⟩
  have hn' : n ≤ l.toArray.size := by simpa using hn
  have key := wpAny_inv (P := P) (ops := l.toArray) (Q := Q) (n := n) hb hn' hno
    (fun listed a' w' => R w w' ∧ ∃ x : Nat → Value, a' = frameOf a ds x ∧ (∀ i, i < n → listed.getD i false = true → Φ i (x i) w') ∧ (∀ i, i < n → listed.getD i false = true → al i = true → ∀ g, ptrBlock (x i) = some g → g < w'.heap.size) ∧ (∀ i j, i < n → j < n → listed.getD i false = true → listed.getD j false = true → al i = true → al j = true → i ≠ j → ∀ g, ptrBlock (x i) = some g → ptrBlock (x j) ≠ some g))
    (fun listed a' w' i inv hI hi hl hdeps => by
      obtain ⟨hbw, x, rfl, hx, hlt, hne⟩ := hI
      have hil : i < l.length := by omega
      have ho : l.toArray[i]? = some l[i] := by simp [hil]
      have hst := stepsParR_at (l.take n) 0 i l[i] hsteps (by simp [hi, hil])
      rw [Nat.zero_add] at hst
      have hd : (l[i]).dst = some (ds[i]'(by omega)) := by
        have h1 : ((l.take n).map (·.dst))[i]? = (ds.map some)[i]? := by rw [hds]
        simp [hi, hil, show i < ds.length by omega] at h1
        exact h1
      have hds2 : ds[i]? = some (ds[i]'(by omega)) := by simp [show i < ds.length by omega]
      refine wpOp_step ho fun K hK => hst x w' hbw (fun e he hbe => hx e.on (by have := backB_spec hb ho e (by simpa using he) hbe; omega) (hdeps _ ho e (by simpa using he) hbe)) K (fun v w'' hv hb2 hfr => ?_)
      refine hK _ _ ⟨htrans _ _ _ hbw hb2, upd x i v, ?_, fun j hj hlj => ?_, fun j hj hlj haj g hg => ?_, fun j k hj hk hlj hlk haj hak hjk g hgj hgk => ?_⟩
      · rw [hd]
        unfold frameOf Act.put
        simp only
        have := slots_put x v ds 0 i a.tmps _ hnd hds2
        rw [Nat.zero_add] at this
        rw [this]
      · unfold upd
        by_cases hji : j = i
        · subst hji; rw [if_pos rfl]; exact hv
        · rw [if_neg hji]
          rw [getD_set_ne false (fun e => hji e.symm)] at hlj
          exact hstab j _ _ _ (hx j hj hlj) hb2
      · unfold upd at hg
        by_cases hji : j = i
        · subst hji; rw [if_pos rfl] at hg; exact (hfr haj g hg).2
        · rw [if_neg hji] at hg
          rw [getD_set_ne false (fun e => hji e.symm)] at hlj
          exact Nat.lt_of_lt_of_le (hlt j hj hlj haj g hg) (hsize _ _ hb2)
      · unfold upd at hgj hgk
        by_cases hji : j = i
        · have hki : ¬ k = i := fun e => hjk (hji.trans e.symm)
          subst hji
          rw [if_pos rfl] at hgj
          rw [if_neg hki] at hgk
          rw [getD_set_ne false (fun e => hki e.symm)] at hlk
          have h1 := (hfr haj g hgj).1
          have h2 := hlt k hk hlk hak g hgk
          omega
        · rw [if_neg hji] at hgj
          rw [getD_set_ne false (fun e => hji e.symm)] at hlj
          by_cases hki : k = i
          · subst hki
            rw [if_pos rfl] at hgk
            have h1 := (hfr hak g hgk).1
            have h2 := hlt j hj hlj haj g hgj
            omega
          · rw [if_neg hki] at hgk
            rw [getD_set_ne false (fun e => hki e.symm)] at hlk
            exact hne j k hj hk hlj hlk haj hak hjk g hgj hgk)
    (fun listed a' w' inv hall hI => by
      obtain ⟨hbw, x, rfl, hx, hlt, hne⟩ := hI
      have := headOf_eq hn' inv hall
      subst this
      have hl : ∀ i, i < n → (headOf n l.toArray.size).getD i false = true := fun i hi => by
        have h1 := hall i hi
        have h2 : i < (headOf n l.toArray.size).size := by rw [inv.size]; omega
        simp only [Array.getD, h2, dite_true] at h1 ⊢
        exact h1
      have := hfin x w' hbw (fun i hi => hx i hi (hl i hi)) (fun i j hi hj hai haj hij => hne i j hi hj (hl i hi) (hl j hj) hai haj hij)
      simpa using this)
    (leftOf n (Array.replicate l.toArray.size false)) _ a w.drew inv0 rfl
    ⟨hrefl, fun i => a.tmps.getD (ds.getD i 0) undef, by unfold frameOf; rw [slots_self]; intro j d hj; simp [hj], fun i _ hl => by (rw [getD_replicate_false] at hl; cases hl), fun i _ hl => by (rw [getD_replicate_false] at hl; cases hl), fun i _ _ _ hl => by (rw [getD_replicate_false] at hl; cases hl)⟩
  have hleft : leftOf n (Array.replicate l.toArray.size false) = n := by
    unfold leftOf
    rw [List.filter_eq_self.2]
    · simp
    · intro i hi
      rw [List.mem_range] at hi
      have : i < l.length := by omega
      simp [this]
  rw [hleft, show n + (l.toArray.size - n) = l.toArray.size by omega] at key
  exact key
end

section
variable {R : World → World → Prop} {P : Program} {Q : Exit → Act → World → Prop} {id : Nat} {l : List Oper} {a : Act} {w : World}
/-- All operations keep one another's facts. -/
theorem wp_region_parR_all (n : Nat) (ds : List Tmp) (al : Nat → Bool) (Φ : Nat → Value → World → Prop) (hrefl : R w w.drew) (htrans : ∀ a b c, R a b → R b c → R a c) (hsize : ∀ a b : World, R a b → a.heap.size ≤ b.heap.size) (hm : P.follows .mixedOrders = true) (hB : (backB l.toArray && decide (n = l.length) && dstsB l ds) = true)
    (hstab : ∀ i v w1 w2, Φ i v w1 → R w1 w2 → Φ i v w2)
    (hsteps : StepsParR R P l.toArray Q a w ds al Φ l 0)
    (hfin : ∀ (x : Nat → Value) (w' : World), R w w' → (∀ i, i < n → Φ i (x i) w') → (∀ i j, i < n → j < n → al i = true → al j = true → i ≠ j → ∀ g, ptrBlock (x i) = some g → ptrBlock (x j) ≠ some g) → Q .normal (frameOf a ds x) w') :
    (Code.region id l.toArray true).wp P Q a w := by
  simp only [Bool.and_eq_true, decide_eq_true_eq] at hB
  obtain ⟨⟨hb, rfl⟩, hd⟩ := hB
  refine wp_region_parR l.length ds al Φ hrefl htrans hsize hm (by simp [hb, hd]) (fun listed _ _ t ht hr => ?_) hstab (by simpa using hsteps) (fun x w' hb hx hne => ?_)
  · obtain ⟨_, o, ho, _⟩ := mem_ready.1 hr
    have := (Array.getElem?_eq_some_iff.1 ho).1
    simp at this
    omega
  · rw [Nat.sub_self]
    refine ⟨?_, hfin x w' hb hx hne⟩
    rw [List.eq_nil_iff_forall_not_mem]
    intro t hr
    obtain ⟨hl, o, ho, _⟩ := mem_ready.1 hr
    have := (Array.getElem?_eq_some_iff.1 ho).1
    have hlt : t < l.length := by simpa using this
    have hg : (headOf l.length l.length)[t]? = some true := by simp [headOf, List.getElem?_replicate, hlt]
    rw [Array.getD_eq_getD_getElem?] at hl
    simp only [List.size_toArray, hg, Option.getD_some] at hl
    cases hl
/-- The first n keep one another's facts; behind them the order is forced. -/
theorem wp_region_parR_tail (n : Nat) (ds : List Tmp) (al : Nat → Bool) (Φ : Nat → Value → World → Prop) (hrefl : R w w.drew) (htrans : ∀ a b c, R a b → R b c → R a c) (hsize : ∀ a b : World, R a b → a.heap.size ≤ b.heap.size) (hm : P.follows .mixedOrders = true)
    (hB : (backB l.toArray && decide (n < l.length) && dstsB (l.take n) ds && Region.sinkB .any l.toArray n && Region.chainB .any l.toArray n && Region.seqB .any l.toArray (l.length - n) n (headOf n l.length)) = true)
    (hstab : ∀ i v w1 w2, Φ i v w1 → R w1 w2 → Φ i v w2)
    (hsteps : StepsParR R P l.toArray Q a w ds al Φ (l.take n) 0)
    (hfin : ∀ (x : Nat → Value) (w' : World), R w w' → (∀ i, i < n → Φ i (x i) w') → (∀ i j, i < n → j < n → al i = true → al j = true → i ≠ j → ∀ g, ptrBlock (x i) = some g → ptrBlock (x j) ≠ some g) → wpList P l.toArray Q (l.drop n) (frameOf a ds x) w') :
    (Code.region id l.toArray true).wp P Q a w := by
  simp only [Bool.and_eq_true, decide_eq_true_eq] at hB
  obtain ⟨⟨⟨⟨⟨hb, hn⟩, hd⟩, hs⟩, hc⟩, hq⟩ := hB
  have hn' : n < l.toArray.size := by simpa using hn
  refine wp_region_parR n ds al Φ hrefl htrans hsize hm (by simp [hb, hd]; omega) (fun listed inv ⟨i, hi, hl⟩ t ht => tail_waits hs hc hn' inv (n - i) i rfl hi hl t ht) hstab hsteps (fun x w' hb hx hne => ?_)
  have := wpAny_of_seq (P := P) (ops := l.toArray) (md := .any) (Q' := Q) (l.drop n) n (headOf n l.length) (frameOf a ds x) w' (fun j => by simp [List.getElem?_drop]) (by rw [List.length_drop]; exact hq) (hfin x w' hb hx hne)
  rwa [List.length_drop] at this
end
end Go.Proofs.Ytonfbinkjhbpiaa
