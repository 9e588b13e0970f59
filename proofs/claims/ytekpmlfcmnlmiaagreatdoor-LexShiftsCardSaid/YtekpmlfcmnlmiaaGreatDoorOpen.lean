/- How what comes in reads as a tree, by its type's shape. Condition: the type has integers, bools, strings, slices, structs alone. -/
import Derived.Test.YtekpmlfcmnlmiaaGreatDoorT16
import Derived.Test.YtekpmlfcmnlmiaaGreatDoorRead
import Derived.OpenShut
namespace Go.Proofs.YtekpmlfcmnlmiaaGreatDoor
open Go.ChangeShapes Go.WideShapes Go.ChangeAt Go.RowKit
set_option linter.unusedVariables false
set_option linter.unusedSimpArgs false

/-- The shape of a cell. -/
inductive Sh where
  | int (k : IntKind)
  | bool
  | str
  | sl (el : List Sh)
mutual
def ShV : Sh → TV → Prop
  | .int k, t => ∃ n, t = .v (.int k n) ∧ (Lit.int k n).wf = true
  | .bool, t => ∃ b, t = .v (.bool b)
  | .str, t => ∃ s : ByteArray, t = .v (.string s) ∧ s.size ≤ maxLen
  | .sl el, t => ∃ els, t = .sl false els ∧ els.length ≤ maxLen ∧ ∀ c ∈ els, ShL el c
def ShL : List Sh → List TV → Prop
  | [], ts => ts = []
  | s :: ss, ts => ∃ t us, ts = t :: us ∧ ShV s t ∧ ShL ss us
end
theorem ShL.append : ∀ {a b : List Sh} {x y : List TV}, ShL a x → ShL b y → ShL (a ++ b) (x ++ y)
  | [], b, x, y, h, k => by simp only [ShL] at h; subst h; exact k
  | s :: a, b, x, y, h, k => by
    simp only [ShL] at h
    obtain ⟨t, us, rfl, h1, h2⟩ := h
    show ShL (s :: (a ++ b)) (t :: (us ++ y))
    simp only [ShL]
    exact ⟨t, _, rfl, h1, h2.append k⟩
theorem ShL.len : ∀ {a : List Sh} {x : List TV}, ShL a x → x.length = a.length
  | [], x, h => by simp only [ShL] at h; subst h; rfl
  | s :: a, x, h => by
    simp only [ShL] at h
    obtain ⟨t, us, rfl, _, h2⟩ := h
    simp [h2.len]
def shFs (f : TypeId → Option (List Sh)) (co : TypeId → Nat) : List Field → Nat → Option (List Sh × Nat)
  | [], acc => some ([], acc)
  | x :: xs, acc => if x.offset = acc then (f x.type).bind fun s => if s.length = co x.type then (shFs f co xs (acc + s.length)).map fun r => (s ++ r.1, r.2) else none else none
def repSh : Nat → List Sh → List Sh
  | 0, _ => []
  | n + 1, s => s ++ repSh n s
/-- A type's cells. -/
def shOf (P : Program) : Nat → TypeId → Option (List Sh)
  | 0, _ => none
  | n + 1, t => match P.underlying t with
    | some .bool => some [.bool]
    | some (.int k) => some [.int k]
    | some .string => some [.str]
    | some (.slice e) => (shOf P n e).bind fun s => if 0 < s.length ∧ s.length = P.cellsOf e then some [.sl s] else none
    | some (.struct fs) => (shFs (shOf P n) P.cellsOf fs.toList 0).bind fun r => if r.2 = P.cellsOf t then some r.1 else none
    | some (.array len e) => (shOf P n e).bind fun s => if s.length = P.cellsOf e ∧ len * s.length = P.cellsOf t then some (repSh len s) else none
    | _ => none

/-- The world as it is when a function is called. -/
def cIn (w : World) : Cx := ⟨w, fun _ => True, w.heap.size, fun _ => .nilFunc, fun _ => False, fun _ _ _ _ _ => False⟩
section
variable {H : Type} {enc : TypeId × Value → H} {P : Program} {w : World} {base : Nat} {held : Bool}
end
theorem i64_of {n : Int} (h : (Lit.int .i64 n).wf = true) : -9223372036854775808 ≤ n ∧ n < 9223372036854775808 := by
  have h1 : IntKind.i64.min = -9223372036854775808 := by decide
  have h2 : IntKind.i64.max = 9223372036854775807 := by decide
  simp [Lit.wf] at h
  omega
end Go.Proofs.YtekpmlfcmnlmiaaGreatDoor
