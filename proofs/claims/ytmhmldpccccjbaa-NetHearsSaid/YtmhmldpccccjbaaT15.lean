/- The words that bring a state into its form, in one. No condition. -/
import Derived.Test.YtmhmldpccccjbaaT14
namespace Go.Proofs.Ytmhmldpccccjbaa
open Go.RowKit
set_option linter.unusedVariables false
set_option linter.unusedSimpArgs false

theorem nrm :
    (∀ {α β : Type} (f : α → β) (l : List α), (l.map f).length = l.length) ∧ (∀ {α : Type} (a b : List α), (a ++ b).length = a.length + b.length) ∧
    ((!true) = false) ∧ ((!false) = true) ∧ ((false = true) = False) ∧
    (∀ k n, ofC (.int k n) = .v (.int k n)) ∧ (∀ b, ofC (.bool b) = .v (.bool b)) ∧ (∀ s, ofC (.string s) = .v (.string s)) ∧ (∀ a, ofC (.pointer a) = .v (.pointer a)) ∧ (ofC (.slice none 0 0) = .nil_) ∧ (∀ a, ofC (.map a) = .v (.map a)) ∧ (ofC .nilFunc = .v .nilFunc) ∧ (ofC .nilIface = .v .nilIface) ∧
    (∀ k n, ofV (.int k n) = .v (.int k n)) ∧ (∀ b, ofV (.bool b) = .v (.bool b)) ∧ (∀ s, ofV (.string s) = .v (.string s)) ∧ (∀ a, ofV (.pointer a) = .v (.pointer a)) ∧ (ofV (.slice none 0 0) = .nil_) ∧ (∀ cs : Array Value, ofV (.agg cs) = .agg (cs.toList.map ofC)) ∧ (ofV .nilFunc = .v .nilFunc) ∧ (ofV .nilIface = .v .nilIface) ∧
    (∀ {α β : Type} (f : α → β) (a : α) (l : List α), (a :: l).map f = f a :: l.map f) ∧ (∀ {α β : Type} (f : α → β), [].map f = []) ∧
    (∀ {α : Type} (x d : α) (xs : List α), (x :: xs).getD 0 d = x) ∧ (∀ {α : Type} (x d : α) (xs : List α) (n : Nat), (x :: xs).getD (n + 1) d = xs.getD n d) ∧
    (∀ {α : Type} (x : α) (xs : List α) (n : Nat), (x :: xs).take (n + 1) = x :: xs.take n) ∧ (∀ {α : Type} (xs : List α), xs.take 0 = []) ∧ (∀ {α : Type} (x : α) (xs : List α) (n : Nat), (x :: xs).drop (n + 1) = xs.drop n) ∧ (∀ {α : Type} (xs : List α), xs.drop 0 = xs) ∧ (∀ {α : Type} (n : Nat), ([] : List α).take n = []) ∧ (∀ {α : Type} (n : Nat), ([] : List α).drop n = []) ∧
    (∀ {α : Type} (x y : α) (xs : List α), (x :: xs).set 0 y = y :: xs) ∧ (∀ {α : Type} (x y : α) (xs : List α) (n : Nat), (x :: xs).set (n + 1) y = x :: xs.set n y) ∧
    (∀ {α : Type} (xs : List α), [] ++ xs = xs) ∧ (∀ {α : Type} (x : α) (xs ys : List α), x :: xs ++ ys = x :: (xs ++ ys)) ∧ (∀ {α : Type} (x : α) (xs : List α), (x :: xs).length = xs.length + 1) ∧ (∀ {α : Type}, ([] : List α).length = 0) ∧ (∀ n : Nat, 0 + n = n) :=
  ⟨fun _ _ => List.length_map _, fun _ _ => List.length_append, rfl, rfl, Bool.false_eq_true, fun _ _ => rfl, fun _ => rfl, fun _ => rfl, fun _ => rfl, rfl, fun _ => rfl, rfl, rfl, fun _ _ => rfl, fun _ => rfl, fun _ => rfl, fun _ => rfl, rfl, fun _ => rfl, rfl, rfl,
    fun _ _ _ => rfl, fun _ => rfl, fun _ _ _ => rfl, fun _ _ _ _ => rfl, fun _ _ _ => rfl, fun _ => by simp, fun _ _ _ => rfl, fun _ => rfl, fun _ => by simp, fun _ => by simp, fun _ _ _ => rfl, fun _ _ _ _ => rfl, fun _ => rfl, fun _ _ _ => rfl, fun _ _ => rfl, rfl, Nat.zero_add⟩
end Go.Proofs.Ytmhmldpccccjbaa
