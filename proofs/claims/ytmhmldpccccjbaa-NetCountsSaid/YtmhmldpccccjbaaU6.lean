/- Small words for walks that are reckoned: wraps, closers. No condition. -/
import Derived.Test.YtmhmldpccccjbaaU4
import Derived.Test.YtmhmldpccccjbaaTy
namespace Go.Proofs.Ytmhmldpccccjbaa
open Go.RowKit
set_option linter.unusedVariables false
set_option linter.unusedSimpArgs false

def tabX : Tab := fun t => match tg t with
  | some x => some (x, zg t)
  | none => none
theorem tabX_ok : TabOk Try.prog tabX where
  ty t x z h := by
    unfold tabX at h
    split at h
    · rename_i y hy
      simp only [Option.some.injEq, Prod.mk.injEq] at h
      obtain ⟨rfl, rfl⟩ := h
      exact ⟨tT hy, fun v hv => zT hv⟩
    · cases h
  mo := by kernel_rfl
end Go.Proofs.Ytmhmldpccccjbaa

namespace Go.Proofs.Ytmhmldpccccjbaa
open Go.RowKit
set_option linter.unusedVariables false
set_option linter.unusedSimpArgs false

theorem wr_i64 (x : Int) : IntKind.i64.wrap x = (x + 9223372036854775808) % 18446744073709551616 - 9223372036854775808 := by
  have e1 : (2 : Int) ^ 64 = 18446744073709551616 := by decide
  have e2 : (2 : Int) ^ (64 - 1) = 9223372036854775808 := by decide
  simp only [IntKind.wrap, IntKind.bits, IntKind.signed, Bool.true_and, decide_eq_true_eq, e1, e2]
  by_cases hx : x % 18446744073709551616 ≥ 9223372036854775808
  · rw [if_pos hx]; omega
  · rw [if_neg hx]; omega
theorem wr_u64 (x : Int) : IntKind.u64.wrap x = x % 18446744073709551616 := by
  simp only [IntKind.wrap, IntKind.bits, IntKind.signed]; simp
theorem wr_u8 (x : Int) : IntKind.u8.wrap x = x % 256 := by
  simp only [IntKind.wrap, IntKind.bits, IntKind.signed]; simp
theorem wr_i32 (x : Int) : IntKind.i32.wrap x = (x + 2147483648) % 4294967296 - 2147483648 := by
  have e1 : (2 : Int) ^ 32 = 4294967296 := by decide
  have e2 : (2 : Int) ^ (32 - 1) = 2147483648 := by decide
  simp only [IntKind.wrap, IntKind.bits, IntKind.signed, Bool.true_and, decide_eq_true_eq, e1, e2]
  by_cases hx : x % 4294967296 ≥ 2147483648
  · rw [if_pos hx]; omega
  · rw [if_neg hx]; omega
theorem wr_u32 (x : Int) : IntKind.u32.wrap x = x % 4294967296 := by
  simp only [IntKind.wrap, IntKind.bits, IntKind.signed]; simp
theorem wrs : (∀ x : Int, IntKind.i64.wrap x = (x + 9223372036854775808) % 18446744073709551616 - 9223372036854775808) ∧ (∀ x : Int, IntKind.u64.wrap x = x % 18446744073709551616) ∧ (∀ x : Int, IntKind.u8.wrap x = x % 256) ∧ (∀ x : Int, IntKind.i32.wrap x = (x + 2147483648) % 4294967296 - 2147483648) ∧ (∀ x : Int, IntKind.u32.wrap x = x % 4294967296) := ⟨wr_i64, wr_u64, wr_u8, wr_i32, wr_u32⟩
theorem wz : (∀ x : Int, -9223372036854775808 ≤ x → x < 9223372036854775808 → IntKind.i64.wrap x = x) ∧ (∀ x : Int, 0 ≤ x → x < 18446744073709551616 → IntKind.u64.wrap x = x) ∧ (∀ x : Int, 0 ≤ x → x < 256 → IntKind.u8.wrap x = x) ∧ (∀ x : Int, -2147483648 ≤ x → x < 2147483648 → IntKind.i32.wrap x = x) ∧ (∀ x : Int, 0 ≤ x → x < 4294967296 → IntKind.u32.wrap x = x) :=
  ⟨fun x h1 h2 => by rw [wr_i64]; omega, fun x h1 h2 => by rw [wr_u64]; omega, fun x h1 h2 => by rw [wr_u8]; omega, fun x h1 h2 => by rw [wr_i32]; omega, fun x h1 h2 => by rw [wr_u32]; omega⟩
/-- Truths in their plain form. -/
theorem bls : (∀ (p : Prop) [Decidable p], (decide p = true) = p) ∧ (∀ (p : Prop) [Decidable p], (decide p = false) = ¬ p) ∧ (∀ b : Bool, ((!b) = true) = (b = false)) ∧ (∀ b : Bool, ((!b) = false) = (b = true)) ∧ (∀ a b : Bool, ((a && b) = true) = (a = true ∧ b = true)) ∧ (∀ a b : Bool, ((a || b) = true) = (a = true ∨ b = true)) ∧ (∀ a b : Bool, ((a || b) = false) = (a = false ∧ b = false)) ∧
    (∀ {α : Type} [BEq α] [LawfulBEq α] (a b : α), ((a == b) = true) = (a = b)) ∧ (∀ {α : Type} [BEq α] [LawfulBEq α] (a b : α), ((a == b) = false) = ¬ (a = b)) ∧ (∀ a b : Int, (¬ a < b) = (b ≤ a)) ∧ (∀ a b : Int, (¬ a ≤ b) = (b < a)) ∧ (∀ a b : ByteArray, (bsEq a b = true) = (bs a = bs b)) ∧ (∀ a b : ByteArray, (bsEq a b = false) = ¬ (bs a = bs b)) ∧ (bs ⟨#[]⟩ = []) ∧
    (∀ {α β : Type} (f : α → β) (l : List α), (l.map f).length = l.length) ∧ (∀ {α : Type} (a b : List α), (a ++ b).length = a.length + b.length) ∧ (∀ {α : Type} (n : Nat) (a : List α), (a.take n).length = min n a.length) ∧ (∀ {α : Type} (n : Nat) (a : List α), (a.drop n).length = a.length - n) :=
  ⟨fun _ _ => by simp, fun _ _ => by simp, fun _ => by simp, fun _ => by simp, fun _ _ => by simp, fun _ _ => by simp, fun _ _ => by simp, fun _ _ => by simp, fun _ _ => by simp, fun _ _ => by simp, fun _ _ => by simp, bsEq_t, bsEq_f, rfl, fun _ _ => List.length_map _, fun _ _ => List.length_append, fun _ _ => List.length_take, fun _ _ => List.length_drop⟩
theorem Out_row_slI {h : List LB} {q : Option Nat} {i : Nat} {b : Bool} {els : List (List TV)} : Out h q (.row i) (.sl b els) ↔ (∃ e sz, hf h i = .row e sz els) ∧ FrLL els ∧ q ≠ some i ∧ b = true := by
  simp only [Out]
  constructor
  · rintro ⟨e, sz, els', h1, h2, ⟨_, h3⟩ | ⟨h3, h4⟩⟩
    · cases h3
    · injection h4 with h4 h5
      subst h5
      exact ⟨⟨e, sz, h1⟩, h2, h3, h4⟩
  · rintro ⟨⟨e, sz, h1⟩, h2, h3, rfl⟩
    exact ⟨e, sz, els, h1, h2, .inr ⟨h3, rfl⟩⟩
/-- What is handed out, in its plain form. -/
theorem outs : (∀ t h, (XV.p t h).den = t) ∧ (XV.any.den = .any) ∧ (∀ i, (XV.row i).den = .row i) ∧ (∀ vs, (XV.ag vs).den = .agg (XV.denL vs)) ∧ (∀ vs, (XV.tu vs).den = .tup (XV.denL vs)) ∧ (∀ e sz els h, (XV.ow e sz els h).den = .osl e sz els) ∧ (XV.denL [] = []) ∧ (∀ v vs, XV.denL (v :: vs) = v.den :: XV.denL vs) ∧
    (XLB.none.den = .none) ∧ (∀ t cs, (XLB.cells t cs).den = .cells t (XV.denL cs)) ∧ (∀ e sz els h, (XLB.row e sz els h).den = .row e sz els) ∧ (∀ {α β : Type} (f : α → β) (a : α) (l : List α), (a :: l).map f = f a :: l.map f) ∧ (∀ {α β : Type} (f : α → β), [].map f = []) ∧
    (∀ h q x y, Out h q (.v x) (.v y) ↔ x = y) ∧ (∀ h q ts rs, Out h q (.agg ts) (.agg rs) ↔ OutL h q ts rs) ∧ (∀ h q ts rs, Out h q (.tup ts) (.tup rs) ↔ OutL h q ts rs) ∧ (∀ h q, OutL h q [] [] ↔ True) ∧ (∀ h q t r ts rs, OutL h q (t :: ts) (r :: rs) ↔ Out h q t r ∧ OutL h q ts rs) ∧
    (∀ h q b els b' els', Out h q (.sl b els) (.sl b' els') ↔ b = true ∧ FrLL els ∧ b' = true ∧ els = els') ∧ (∀ h q i e sz els, Out h q (.row i) (.osl e sz els) ↔ hf h i = .row e sz els ∧ FrLL els ∧ q = some i) ∧ (∀ h q i b els, Out h q (.row i) (.sl b els) ↔ (∃ e sz, hf h i = .row e sz els) ∧ FrLL els ∧ q ≠ some i ∧ b = true) ∧ (∀ h q e sz els, Out h q .nil_ (.osl e sz els) ↔ q = none ∧ els = []) ∧ (∀ h q b els, Out h q .nil_ (.sl b els) ↔ b = true ∧ els = []) ∧ (∀ h q, Out h q .nil_ .nil_ ↔ True) ∧
    (∀ x l, hf (x :: l) 0 = x) ∧ (∀ x l n, hf (x :: l) (n + 1) = hf l n) ∧ (∀ p, (p ∧ True) = p) ∧ (∀ p, (True ∧ p) = p) :=
  ⟨fun _ _ => rfl, rfl, fun _ => rfl, fun _ => rfl, fun _ => rfl, fun _ _ _ _ => rfl, rfl, fun _ _ => rfl, rfl, fun _ _ => rfl, fun _ _ _ _ => rfl, fun _ _ _ => rfl, fun _ => rfl, fun _ _ _ _ => Out_v, fun _ _ _ _ => Out_agg, fun _ _ _ _ => Out_tup, fun _ _ => OutL_nil, fun _ _ _ _ _ _ => OutL_cons, fun _ _ _ _ _ _ => Out_sl, fun _ _ _ _ _ _ => Out_row_osl, fun _ _ _ _ _ => Out_row_slI, fun _ _ _ _ _ => Out_nil_osl, fun _ _ _ _ => Out_nil_sl, fun _ _ => Out_nil_nil, fun _ _ => rfl, fun _ _ _ => rfl, fun _ => and_true _, fun _ => true_and _⟩
theorem OutL.nil {h : List LB} {q : Option Nat} : OutL h q [] [] := by simp [OutL]
theorem OutL.cons {h : List LB} {q : Option Nat} {t r : TV} {ts rs : List TV} (h1 : Out h q t r) (h2 : OutL h q ts rs) : OutL h q (t :: ts) (r :: rs) := OutL_cons.2 ⟨h1, h2⟩
theorem Out.v {h : List LB} {q : Option Nat} {x y : Value} (e : x = y) : Out h q (.v x) (.v y) := Out_v.2 e
theorem Out.agg {h : List LB} {q : Option Nat} {ts rs : List TV} (h1 : OutL h q ts rs) : Out h q (.agg ts) (.agg rs) := Out_agg.2 h1
theorem Out.tup {h : List LB} {q : Option Nat} {ts rs : List TV} (h1 : OutL h q ts rs) : Out h q (.tup ts) (.tup rs) := Out_tup.2 h1
theorem IdxG.map {α : Type} {f : α → List TV} {l : List α} {hp : NlLL (l.map f)} {m : Int} {k : Nat → (c : List TV) → NlL c → Prop} (j : Nat) (hm : m = (j : Int)) (hj : j < l.length) (hk : ∀ x (hx : l[j]? = some x) (hc : NlL (f x)), k j (f x) hc) : IdxG (l.map f) hp m k := by
  have hx : l[j]? = some l[j] := List.getElem?_eq_getElem hj
  exact IdxG.mk (j := j) (c := f l[j]) (by rw [List.getElem?_map, hx]; rfl) hm (hk _ hx _)
end Go.Proofs.Ytmhmldpccccjbaa
