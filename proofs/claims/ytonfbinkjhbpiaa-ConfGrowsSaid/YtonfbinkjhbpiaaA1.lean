/- How far more than half are, in plain words: what the rounds of Agreed reckon. No condition. -/
import Derived.Test.YtonfbinkjhbpiaaC24
namespace Go.Proofs.Ytonfbinkjhbpiaa
open Go.RowKit Go.Shelf
set_option linter.unusedVariables false

/-- Matches as cells. -/
def pm (ps : List (Int × Int)) : List Value := ps.flatMap fun p => [Value.int .i64 p.1, Value.int .u64 p.2]
theorem pm_get : ∀ (ps : List (Int × Int)) (i : Nat) (p : Int × Int), ps[i]? = some p → (pm ps)[i * 2]? = some (.int .i64 p.1) ∧ (pm ps)[i * 2 + 1]? = some (.int .u64 p.2)
  | [], i, p, h => by simp at h
  | q :: ps, 0, p, h => by
    simp at h
    subst h
    simp [pm]
  | q :: ps, i + 1, p, h => by
    have := pm_get ps i p (by simpa using h)
    unfold pm at this ⊢
    rw [List.flatMap_cons, show (i + 1) * 2 = i * 2 + 2 by omega, show i * 2 + 2 + 1 = i * 2 + 1 + 2 by omega]
    simpa using this
theorem pm_len (ps : List (Int × Int)) : (pm ps).length = ps.length * 2 := by
  induction ps with
  | nil => rfl
  | cons p ps ih => unfold pm at ih ⊢; rw [List.flatMap_cons, List.length_append, ih]; simp; omega
theorem pm_app (a b : List (Int × Int)) : pm (a ++ b) = pm a ++ pm b := by unfold pm; rw [List.flatMap_append]

/-- Far as each number is: one more is heard of. -/
def farU (F : Int → Int) (m v : Int) : Int → Int := fun i => if i = m then max (F m) v else F i
def farF (X : Nat) (ps : List (Int × Int)) : Int → Int := ps.foldl (fun F p => if hasB X p.1 = true then farU F p.1 p.2 else F) (fun _ => 0)
theorem farF_snoc (X : Nat) (ps : List (Int × Int)) (p : Int × Int) : farF X (ps ++ [p]) = if hasB X p.1 = true then farU (farF X ps) p.1 p.2 else farF X ps := by
  unfold farF
  rw [List.foldl_append]
  rfl
def farC (F : Int → Int) : Array Value := #[.int .u64 (F 0), .int .u64 (F 1), .int .u64 (F 2), .int .u64 (F 3), .int .u64 (F 4), .int .u64 (F 5)]
theorem farC_get (F : Int → Int) (m : Int) (h : 0 ≤ m ∧ m ≤ 5) : (farC F)[m.toNat]? = some (.int .u64 (F m)) := by
  have : m = 0 ∨ m = 1 ∨ m = 2 ∨ m = 3 ∨ m = 4 ∨ m = 5 := by omega
  rcases this with rfl | rfl | rfl | rfl | rfl | rfl <;> rfl
theorem farC_set (F : Int → Int) (m v : Int) (h : 0 ≤ m ∧ m ≤ 5) : (farC F).setIfInBounds m.toNat (.int .u64 (max (F m) v)) = farC (farU F m v) := by
  have : m = 0 ∨ m = 1 ∨ m = 2 ∨ m = 3 ∨ m = 4 ∨ m = 5 := by omega
  rcases this with rfl | rfl | rfl | rfl | rfl | rfl <;> simp [farC, farU]
theorem hasB_range {X : Nat} {m : Int} (h : hasB X m = true) : 1 ≤ m ∧ m ≤ 5 := by
  by_cases hm : 1 ≤ m ∧ m ≤ 5
  · exact hm
  · rw [hasB_out _ hm] at h; cases h

/-- Who is as far as m, among some. -/
def asX (F : Int → Int) (m : Int) (pre : List Int) : Nat := pre.foldl (fun a n => if F m ≤ F n then a ||| oneN n else a) 0
theorem asX_snoc (F : Int → Int) (m : Int) (pre : List Int) (n : Int) : asX F m (pre ++ [n]) = if F m ≤ F n then asX F m pre ||| oneN n else asX F m pre := by
  unfold asX
  rw [List.foldl_append]
  rfl
theorem asX_lt (F : Int → Int) (m : Int) (pre : List Int) : asX F m pre < 64 := by
  suffices H : ∀ (pre : List Int) (a : Nat), a < 64 → pre.foldl (fun a n => if F m ≤ F n then a ||| oneN n else a) a < 64 from H pre 0 (by omega)
  intro pre
  induction pre with
  | nil => intro a h; exact h
  | cons n pre ih =>
    intro a h
    rw [List.foldl_cons]
    refine ih _ ?_
    split
    · exact or_lt64 _ _ h (oneN_lt n)
    · exact h
/-- How far more than half are, so many being gone through. -/
def bestX (F : Int → Int) (X : Nat) (pre : List Int) : Int := pre.foldl (fun b m => if moreB X (asX F m (memS X)) = true then max b (F m) else b) 0
theorem bestX_snoc (F : Int → Int) (X : Nat) (pre : List Int) (m : Int) : bestX F X (pre ++ [m]) = if moreB X (asX F m (memS X)) = true then max (bestX F X pre) (F m) else bestX F X pre := by
  unfold bestX
  rw [List.foldl_append]
  rfl
def agreedN (X : Nat) (ps : List (Int × Int)) : Int := bestX (farF X ps) X (memS X)
theorem agreedN_zero (ps : List (Int × Int)) : agreedN 0 ps = 0 := by unfold agreedN; rw [memS_zero]; rfl

theorem blk_own {β : Type} (g : Nat) (t : TypeId) (f : β → Array Value) : Own (fun s W => Blk W g t (f s)) := fun s X Y row hs hg hrow =>
  (hg.block g hs.lt (fun e => by
    obtain ⟨o, h1, h2⟩ := hrow g e.symm
    unfold Blk at hs
    rw [hs] at h1
    injection h1 with h1
    subst h1
    cases h2)).trans hs
end Go.Proofs.Ytonfbinkjhbpiaa
