/- A store as a growth; what the round of ConfMoves hands on. No condition. -/
import Derived.Test.YtonfbinkjhbpiaaC22
namespace Go.Proofs.Ytonfbinkjhbpiaa
open Go.RowKit Go.Shelf
set_option linter.unusedVariables false

theorem below_of_grown1 {w w1 w2 : World} {B g : Nat} (h : Below B w w1) (hB : B ≤ w1.heap.size) (k : w1.grownBy w2 (some g)) (hg : B ≤ g) : Below B w w2 :=
  h.grown k hB (fun j hj => by injection hj with hj; omega)

/-- Row a, stored into any number of times, nothing else. -/
def Zeroed (base : Nat) (A : Option Addr) (n c : Nat) (w w' : World) : Prop :=
  w.grownBy w' (Value.ownBlock (.slice A n c)) ∧ ∃ l : List Value, w'.ownsRow base 3 1 (.slice A n c) n l

section
variable {base n c : Nat} {A : Option Addr} {w w' : World} {xs : List Value}
theorem Zeroed.row_ge (ho : w.ownsRow base 3 1 (.slice A n c) n xs) : ∀ j, Value.ownBlock (.slice A n c) = some j → base ≤ j := fun j hj => (ho.lt j hj).1
theorem Zeroed.blk (h : Zeroed base A n c w w') (ho : w.ownsRow base 3 1 (.slice A n c) n xs) {g : Nat} {t : TypeId} {cs : Array Value} (k : Blk w g t cs) (hne : 3 ≠ t) : Blk w' g t cs := by
  refine k.grown h.1 fun e => ?_
  rcases A with _ | ad
  · simp [Value.ownBlock] at e
  · have := own_apart ho k hne ad rfl
    simp [Value.ownBlock] at e
    exact this e
theorem Zeroed.sees (h : Zeroed base A n c w w') (ho : w.ownsRow base 3 1 (.slice A n c) n xs) {e : Option TypeId} {size m : Nat} {B : Option Addr} {ys : List Value} (s : Sees w e size B m ys)
    (hB : ∀ ad, B = some ad → 0 < m → ad.block < base) : Sees w' e size B m ys :=
  s.grown h.1 fun ad h0 h1 e => by have := Zeroed.row_ge ho _ e; have := hB ad h0 h1; omega
theorem Zeroed.own (h : Zeroed base A n c w w') (ho : w.ownsRow base 3 1 (.slice A n c) n xs) {base' m d : Nat} {B : Option Addr} {ys : List Value} (s : w.ownsRow base' 3 1 (.slice B m d) m ys)
    (hA : ∀ ad, A = some ad → ad.block < base') : w'.ownsRow base' 3 1 (.slice B m d) m ys := by
  refine s.kept h.1 ?_
  rcases A with _ | ad
  · cases hb : Value.ownBlock (.slice B m d) with
    | none => exact .inl rfl
    | some j => exact .inr (by simp [Value.ownBlock])
  · cases hb : Value.ownBlock (.slice B m d) with
    | none => exact .inl rfl
    | some j => exact .inr (by have := (s.lt j hb).1; have := hA ad rfl; simp only [Value.ownBlock]; intro e; injection e with e; omega)
theorem Zeroed.below (h : Zeroed base A n c w w') (ho : w.ownsRow base 3 1 (.slice A n c) n xs) {B : Nat} {w0 : World} (hb : Below B w0 w) (hB : B ≤ w.heap.size) (hle : B ≤ base) : Below B w0 w' :=
  hb.grown h.1 hB fun j hj => Nat.le_trans hle (Zeroed.row_ge ho j hj)
end
end Go.Proofs.Ytonfbinkjhbpiaa
