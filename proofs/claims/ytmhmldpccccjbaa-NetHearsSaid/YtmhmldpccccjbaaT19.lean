/- The operations of a drawn region put into another order. Condition: none but what the text says. -/
import Derived.Test.YtmhmldpccccjbaaT11
import Derived.Test.YtmhmldpccccjbaaT9
namespace Go.Proofs.Ytmhmldpccccjbaa
open Go.RowKit
set_option linter.unusedVariables false
set_option linter.unusedSimpArgs false

/-- Where the i-th operation stands in the new order. -/
def piL (pm : List Nat) (i : Nat) : Nat := if i < pm.length then pm.idxOf i else i
def remapO (pm : List Nat) (o : Oper) : Oper := { o with after := (o.after.toList.map fun e => { e with on := piL pm e.on }).toArray, guard := match o.guard with
  | some (j, b) => some (piL pm j, b)
  | none => none }
def permL (pm : List Nat) (l : List Oper) : List Oper := pm.filterMap fun i => (l[i]?).map (remapO pm)
def permB (pm : List Nat) (n : Nat) : Bool := Nat.beq pm.length n && pm.all (fun i => Nat.blt i n) && ((List.range n).all (fun i => pm.contains i) && (List.range n).all fun k => match pm[k]? with
  | some i => Nat.beq (piL pm i) k
  | none => false)
section
variable {P : Program} {Q : Exit → Act → World → Prop} {pm : List Nat} {l : List Oper}
theorem pi_lt (hp : permB pm l.length = true) {i : Nat} (hi : i < l.length) : piL pm i < l.length ∧ pm[piL pm i]? = some i := by
  simp only [permB, Bool.and_eq_true] at hp
  have hl : pm.length = l.length := Nat.eq_of_beq_eq_true hp.1.1
  have hm : i ∈ pm := by
    have := List.all_eq_true.1 hp.2.1 i (List.mem_range.2 hi)
    simpa using this
  unfold piL
  rw [if_pos (by omega)]
  have h1 : pm.idxOf i < pm.length := List.idxOf_lt_length_of_mem hm
  refine ⟨by omega, ?_⟩
  rw [List.getElem?_eq_getElem h1]
  simp
theorem pi_inj (hp : permB pm l.length = true) {i j : Nat} (hi : i < l.length) (hj : j < l.length) (h : piL pm i = piL pm j) : i = j := by
  have h1 := (pi_lt hp hi).2
  have h2 := (pi_lt hp hj).2
  rw [h, h2] at h1
  exact (Option.some.inj h1).symm
theorem pi_ge (hp : permB pm l.length = true) {i : Nat} (hi : l.length ≤ i) : piL pm i = i := by
  simp only [permB, Bool.and_eq_true] at hp
  have hl : pm.length = l.length := Nat.eq_of_beq_eq_true hp.1.1
  unfold piL
  rw [if_neg (by omega)]
theorem filterMap_get {α β : Type} (f : α → Option β) : ∀ (L : List α), (∀ x ∈ L, (f x).isSome = true) → ∀ k : Nat, (L.filterMap f)[k]? = (L[k]?).bind f
  | [], _, k => by simp
  | x :: L, h, k => by
    obtain ⟨y, hy⟩ := Option.isSome_iff_exists.1 (h x (by simp))
    rw [List.filterMap_cons_some hy]
    cases k with
    | zero => simp [hy]
    | succ k => simpa using filterMap_get f L (fun z hz => h z (by simp [hz])) k
theorem perm_at (hp : permB pm l.length = true) {k : Nat} : (permL pm l)[k]? = (pm[k]?).bind fun i => (l[i]?).map (remapO pm) := by
  refine filterMap_get _ _ (fun x hx => ?_) k
  simp only [permB, Bool.and_eq_true] at hp
  have := List.all_eq_true.1 hp.1.2 x hx
  have hx : x < l.length := Nat.blt_eq.mp this
  simp [hx]
theorem perm_len (hp : permB pm l.length = true) : (permL pm l).length = l.length := by
  have hl : pm.length = l.length := by simp only [permB, Bool.and_eq_true] at hp; exact Nat.eq_of_beq_eq_true hp.1.1
  have h1 : ∀ k, (permL pm l)[k]? = none ↔ l.length ≤ k := fun k => by
    rw [perm_at hp]
    constructor
    · intro h
      rcases Nat.lt_or_ge k pm.length with h2 | h2
      · rw [List.getElem?_eq_getElem h2] at h
        simp only [Option.bind_some, Option.map_eq_none_iff, List.getElem?_eq_none_iff] at h
        have h3 : pm[k] ∈ pm := List.getElem_mem h2
        simp only [permB, Bool.and_eq_true] at hp
        have := Nat.blt_eq.mp (List.all_eq_true.1 hp.1.2 _ h3)
        omega
      · omega
    · intro h
      rw [List.getElem?_eq_none (by omega)]; rfl
  have h2 := (h1 l.length).2 (Nat.le_refl _)
  have h3 : ∀ k, k < l.length → k < (permL pm l).length := fun k hk => by
    rcases Nat.lt_or_ge k (permL pm l).length with h | h
    · exact h
    · have := (h1 k).1 (List.getElem?_eq_none h); omega
  have h4 := List.getElem?_eq_none_iff.1 h2
  rcases Nat.eq_zero_or_pos l.length with h0 | h0
  · omega
  · have := h3 (l.length - 1) (by omega); omega
theorem perm_get (hp : permB pm l.length = true) {i : Nat} {o : Oper} (ho : l[i]? = some o) : (permL pm l)[piL pm i]? = some (remapO pm o) := by
  have hi := (List.getElem?_eq_some_iff.1 ho).1
  rw [perm_at hp, (pi_lt hp hi).2]
  simp [ho]
theorem remap_wp {o : Oper} {a : Act} {w : World} {K : Act → World → Prop} : (remapO pm o).wp P a w K Q = o.wp P a w K Q := rfl
theorem perm_yield (hp : permB pm l.length = true) (j : Nat) (tmps : Array Value) : yielded (permL pm l).toArray tmps (piL pm j) = yielded l.toArray tmps j := by
  unfold yielded
  rcases Nat.lt_or_ge j l.length with hj | hj
  · have h1 := perm_get hp (List.getElem?_eq_getElem hj)
    simp [h1, hj, remapO]
  · rw [pi_ge hp hj]
    have h1 : (permL pm l)[j]? = none := List.getElem?_eq_none (by rw [perm_len hp]; exact hj)
    simp [h1, hj]
theorem perm_wanted (hp : permB pm l.length = true) (o : Oper) (tmps : Array Value) : Region.wanted (remapO pm o) (yielded (permL pm l).toArray tmps) = Region.wanted o (yielded l.toArray tmps) := by
  unfold Region.wanted remapO
  cases hg : o.guard with
  | none => rfl
  | some g =>
    obtain ⟨j, b⟩ := g
    simp only [hg]
    rw [perm_yield hp]
/-- Which are listed, in the one order and in the other. -/
structure LsR (pm : List Nat) (N : Nat) (A A' : Array Bool) : Prop where
  s : A.size = N
  s' : A'.size = N
  h : ∀ i, i < N → A[i]? = A'[piL pm i]?
theorem LsR.getD (hp : permB pm l.length = true) {A A' : Array Bool} (h : LsR pm l.length A A') (i : Nat) (d : Bool) : A'.getD (piL pm i) d = A.getD i d := by
  rcases Nat.lt_or_ge i l.length with hi | hi
  · rw [Array.getD_eq_getD_getElem?, Array.getD_eq_getD_getElem?, h.h i hi]
  · rw [pi_ge hp hi, Array.getD_eq_getD_getElem?, Array.getD_eq_getD_getElem?, Array.getElem?_eq_none (by rw [h.s']; exact hi), Array.getElem?_eq_none (by rw [h.s]; exact hi)]
theorem perm_ready (hp : permB pm l.length = true) {A A' : Array Bool} (h : LsR pm l.length A A') {i : Nat} (hi : i ∈ Region.ready .any l.toArray A) : piL pm i ∈ Region.ready .any (permL pm l).toArray A' := by
  obtain ⟨h1, o, ho, h2⟩ := mem_ready.1 hi
  have ho' : l[i]? = some o := by simpa using ho
  refine mem_ready.2 ⟨by rw [h.getD hp]; exact h1, remapO pm o, by simpa using perm_get hp ho', fun e he hb => ?_⟩
  simp only [remapO, List.mem_toArray, List.mem_map, Array.mem_toList_iff] at he
  obtain ⟨e0, he0, rfl⟩ := he
  simp only at hb ⊢
  rw [h.getD hp]
  exact h2 e0 he0 hb
theorem pi_onto (hp : permB pm l.length = true) {k : Nat} (hk : k < l.length) : ∃ i, i < l.length ∧ piL pm i = k := by
  have hl : pm.length = l.length := by simp only [permB, Bool.and_eq_true] at hp; exact Nat.eq_of_beq_eq_true hp.1.1
  simp only [permB, Bool.and_eq_true] at hp
  have h1 := List.all_eq_true.1 hp.2.2 k (List.mem_range.2 hk)
  rw [List.getElem?_eq_getElem (by omega)] at h1
  have h2 := List.all_eq_true.1 hp.1.2 (pm[k]'(by omega)) (List.getElem_mem _)
  exact ⟨_, Nat.blt_eq.mp h2, Nat.eq_of_beq_eq_true h1⟩
theorem perm_ready_nil (hp : permB pm l.length = true) {A A' : Array Bool} (h : LsR pm l.length A A') (hr : Region.ready .any l.toArray A = []) : Region.ready .any (permL pm l).toArray A' = [] := by
  rw [List.eq_nil_iff_forall_not_mem] at hr ⊢
  intro k hk
  obtain ⟨h1, o, ho, h2⟩ := mem_ready.1 hk
  have hkl : k < l.length := by
    have := (Array.getElem?_eq_some_iff.1 ho).1
    simpa [perm_len hp] using this
  obtain ⟨i, hi, rfl⟩ := pi_onto hp hkl
  refine hr i (mem_ready.2 ⟨by rw [h.getD hp] at h1; exact h1, l[i], by simp [hi], fun e he hb => ?_⟩)
  have h3 := perm_get hp (List.getElem?_eq_getElem hi)
  have h4 : (permL pm l)[piL pm i]? = some o := by simpa using ho
  rw [h3] at h4
  injection h4 with h4
  subst h4
  have := h2 { e with on := piL pm e.on } (by simp only [remapO, List.mem_toArray, List.mem_map, Array.mem_toList_iff]; exact ⟨e, he, rfl⟩) hb
  simp only at this
  rwa [h.getD hp] at this
theorem LsR.set (hp : permB pm l.length = true) {A A' : Array Bool} (h : LsR pm l.length A A') {i : Nat} (hi : i < l.length) : LsR pm l.length (A.setIfInBounds i true) (A'.setIfInBounds (piL pm i) true) := by
  refine ⟨by simp [h.s], by simp [h.s'], fun j hj => ?_⟩
  by_cases e : j = i
  · subst e
    have h1 := (pi_lt hp hj).1
    simp [h.s, h.s', hj, h1]
  · have : piL pm j ≠ piL pm i := fun e' => e (pi_inj hp hj hi e')
    rw [Array.getElem?_setIfInBounds_ne (Ne.symm e), Array.getElem?_setIfInBounds_ne (Ne.symm this)]
    exact h.h j hj
theorem wpAny_perm (hp : permB pm l.length = true) : ∀ (fuel : Nat) (A A' : Array Bool) (a : Act) (w : World), LsR pm l.length A A' → wpAny P .any (permL pm l).toArray Q fuel A' a w → wpAny P .any l.toArray Q fuel A a w
  | 0, A, A', a, w, hr, h => by
    refine ⟨?_, h.2⟩
    rw [List.eq_nil_iff_forall_not_mem]
    intro i hi
    have := perm_ready hp hr hi
    rw [h.1] at this
    cases this
  | fuel + 1, A, A', a, w, hr, h => by
    refine ⟨fun h0 => h.1 (perm_ready_nil hp hr h0), fun i hi => ?_⟩
    have h2 := h.2 _ (perm_ready hp hr hi)
    obtain ⟨_, o, ho, _⟩ := mem_ready.1 hi
    have ho' : l[i]? = some o := by simpa using ho
    have hil := (List.getElem?_eq_some_iff.1 ho').1
    have ho2 : (permL pm l).toArray[piL pm i]? = some (remapO pm o) := by simpa using perm_get hp ho'
    unfold wpOp at h2 ⊢
    rw [ho2] at h2
    rw [ho]
    simp only at h2 ⊢
    rw [perm_wanted hp] at h2
    split
    · rename_i hw
      rw [if_pos hw] at h2
      rcases h2 with h2 | h2
      · exact .inl (Oper.wp_mono (fun a' w' hh => wpAny_perm hp fuel _ _ a' w' (hr.set hp hil) hh) (by rw [remap_wp] at h2; exact h2))
      · exact .inr h2
    · rename_i hw
      rw [if_neg hw] at h2
      exact wpAny_perm hp fuel _ _ _ w (hr.set hp hil) h2
theorem TA.perm {B : Nat} {w0 : World} {gh : List Value} {σ : St} {Q : Exit → St → Prop} (pm : List Nat) (hp : permB pm l.length = true) (h : TA P B w0 gh (permL pm l).toArray σ Q) : TA P B w0 gh l.toArray σ Q := fun ρ a w hr => by
  have h1 := h ρ a w hr
  have hl := perm_len hp
  have e1 : (permL pm l).toArray.size = l.toArray.size := by simp [hl]
  rw [e1] at h1
  refine wpAny_perm hp _ _ _ a w.drew ⟨by simp, by simp, fun i hi => ?_⟩ h1
  have := (pi_lt hp hi).1
  simp [Array.getElem?_replicate, hi, this]
end
end Go.Proofs.Ytmhmldpccccjbaa
