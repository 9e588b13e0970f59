/- How far more than half are: the layer and the reference say one thing, in plain words. No condition. -/
import Derived.Test.YtonfbinkjhbpiaaA4
namespace Go.Proofs.Ytonfbinkjhbpiaa
open Go.RowKit Go.Shelf
set_option linter.unusedVariables false
set_option linter.unusedSimpArgs false

theorem far_come (X : Nat) (m : Int) (hm : hasB X m = true) (ps : List (Int × Int)) : farF X ps m = comeN ps m := by
  suffices H : ∀ (ps : List (Int × Int)) (F : Int → Int) (f : Int), F m = f →
      (ps.foldl (fun F p => if hasB X p.1 = true then farU F p.1 p.2 else F) F) m = ps.foldl (fun f p => if p.1 = m ∧ f < p.2 then p.2 else f) f from H ps _ _ rfl
  intro ps
  induction ps with
  | nil => intro F f h; exact h
  | cons p ps ih =>
    intro F f h
    rw [List.foldl_cons, List.foldl_cons]
    refine ih _ _ ?_
    by_cases hp : p.1 = m
    · subst hp
      rw [if_pos hm]
      unfold farU
      rw [if_pos rfl, h]
      by_cases hlt : f < p.2
      · rw [if_pos ⟨rfl, hlt⟩]; omega
      · rw [if_neg (fun h => hlt h.2)]; omega
    · rw [show (if p.1 = m ∧ f < p.2 then p.2 else f) = f from if_neg (fun h => hp h.1)]
      split
      · unfold farU
        rw [if_neg (fun e => hp e.symm), h]
      · exact h
theorem asX_ofS (F : Int → Int) (m : Int) (pre : List Int) : asX F m pre = ofS (pre.filter fun n => decide (F m ≤ F n)) := by
  suffices H : ∀ (pre : List Int) (a : Nat), pre.foldl (fun a n => if F m ≤ F n then a ||| oneN n else a) a = (pre.filter fun n => decide (F m ≤ F n)).foldl (fun x m => x ||| oneN m) a from H pre 0
  intro pre
  induction pre with
  | nil => intro a; rfl
  | cons n pre ih =>
    intro a
    rw [List.foldl_cons, ih]
    by_cases h : F m ≤ F n
    · rw [List.filter_cons_of_pos (by simpa using h), List.foldl_cons, if_pos h]
    · rw [List.filter_cons_of_neg (by simpa using h), if_neg h]
theorem agreed_law (l : List Int) (ps : List (Int × Int)) : agreedN (askX l) ps = if rightB l = true then ragN l ps l else 0 := by
  cases hr : rightB l with
  | false => rw [askX_wrong hr, agreedN_zero]; rfl
  | true =>
    rw [if_pos rfl]
    have hl := (rightB_of hr).2
    have hX := askX_right hr
    unfold agreedN
    rw [hX, ← hl]
    have hmem : ∀ m ∈ l, hasB (ofS l) m = true := fun m hm => by rw [hasB_ofS _ _ (right_mem hr hm)]; simpa using hm
    have key : ∀ m ∈ l, moreB (ofS l) (asX (farF (ofS l) ps) m l) = rmajB l (setN l ps (comeN ps m)) := fun m hm => by
      rw [asX_ofS]
      have hf : l.filter (fun n => decide (farF (ofS l) ps m ≤ farF (ofS l) ps n)) = setN l ps (comeN ps m) := by
        unfold setN
        refine List.filter_congr fun n hn => ?_
        rw [far_come _ _ (hmem m hm), far_come _ _ (hmem n hn)]
      rw [hf]
      have := majority_law l (setN l ps (comeN ps m))
      rw [hX, hr, Bool.true_and] at this
      exact this
    unfold bestX ragN
    rw [← hl]
    suffices H : ∀ (pre : List Int) (b : Int), (∀ m ∈ pre, m ∈ l) →
        pre.foldl (fun b m => if moreB (ofS l) (asX (farF (ofS l) ps) m l) = true then max b (farF (ofS l) ps m) else b) b = pre.foldl (fun b m => if rmajB l (setN l ps (comeN ps m)) = true ∧ b < comeN ps m then comeN ps m else b) b from H l 0 fun _ h => h
    intro pre
    induction pre with
    | nil => intro b _; rfl
    | cons m pre ih =>
      intro b h
      have hm := h m (by simp)
      rw [List.foldl_cons, List.foldl_cons, ih _ fun x hx => h x (by simp [hx]), key m hm, far_come _ _ (hmem m hm)]
      congr 1
      by_cases hc : rmajB l (setN l ps (comeN ps m)) = true
      · rw [if_pos hc]
        by_cases hb : b < comeN ps m
        · rw [if_pos ⟨hc, hb⟩]; omega
        · rw [if_neg (fun h => hb h.2)]; omega
      · rw [if_neg hc, if_neg (fun h => hc h.1)]
end Go.Proofs.Ytonfbinkjhbpiaa
