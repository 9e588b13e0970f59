/- What the table says of types, by number. No condition. -/
import Derived.Test.YtpckkajodpiiaaaT3
import Derived.Test.YtpckkajodpiiaaaProg
namespace Go.Proofs.Ytpckkajodpiiaaa
open Go.RowKit
set_option linter.unusedVariables false
theorem tb_at {α : Type} {f : Nat → Option α} {xs : List (Option α)} {k n : Nat} (h : (List.range n).map (fun t => f (t + k)) = xs) {t : Nat} {x : α} (hx : xs[t]? = some (some x)) : f (t + k) = some x := by
  rw [← h, List.getElem?_map] at hx
  rcases Nat.lt_or_ge t n with h1 | h1
  · simp [h1] at hx; exact hx
  · simp [h1] at hx
def told : List Nat := [1, 2, 3, 4, 5, 6, 7, 8, 9, 10, 11, 12, 13, 14, 15, 16, 17, 18, 19, 20, 21, 22, 23, 24, 25, 26, 27, 28, 29, 30, 31, 33, 35, 37, 38, 39, 40, 41, 42, 43, 44, 45, 46, 47, 48, 49, 50, 52, 54, 55, 56, 57, 58, 59, 60, 62, 64, 66, 67, 68, 69, 70, 71, 72, 73, 74, 75, 76, 77, 78, 79, 81, 82, 83, 84, 85, 86, 87, 88, 89, 90, 91, 92, 93, 94, 95, 96, 97, 98, 99, 100, 101, 102, 103, 104, 105, 106, 107, 108, 109, 110, 111, 112, 113, 114, 115, 116, 117, 118, 119]
def zrowOf (P : Program) (t : Nat) : Option Value := if told.contains t then (P.info? t).bind (·.zero) else none
def tb0 : List (Option TI) := [some ⟨0, false, 1, [], 0, 0, 0, none⟩, some ⟨0, false, 1, [], 0, 0, 8, none⟩, some ⟨5, false, 1, [], 0, 0, 8, some .i64⟩, some ⟨5, false, 1, [], 0, 0, 8, some .i64⟩, some ⟨6, false, 1, [], 0, 0, 1, none⟩, some ⟨5, false, 1, [], 0, 0, 1, some .u8⟩, some ⟨5, false, 1, [], 0, 0, 1, some .u8⟩, some ⟨1, true, 4, [(0, 2), (1, 3), (2, 4), (3, 6)], 0, 0, 24, none⟩, some ⟨1, true, 4, [(0, 2), (1, 3), (2, 4), (3, 6)], 0, 0, 24, none⟩, some ⟨4, false, 1, [], 0, 0, 16, none⟩, some ⟨4, false, 1, [], 0, 0, 16, none⟩, some ⟨4, false, 1, [], 0, 0, 16, none⟩, some ⟨5, false, 1, [], 0, 0, 8, some .u64⟩, some ⟨1, true, 2, [(0, 9), (1, 12)], 0, 0, 24, none⟩, some ⟨1, true, 2, [(0, 9), (1, 12)], 0, 0, 24, none⟩, some ⟨7, false, 1, [], 105, 0, 8, none⟩, some ⟨7, false, 1, [], 108, 0, 8, none⟩, some ⟨7, false, 1, [], 118, 0, 8, none⟩, some ⟨1, true, 1, [(0, 17)], 0, 0, 8, none⟩, some ⟨1, true, 1, [(0, 17)], 0, 0, 8, none⟩, some ⟨0, false, 1, [], 0, 0, 16, none⟩, some ⟨5, false, 1, [], 0, 0, 4, some .i32⟩, some ⟨5, false, 1, [], 0, 0, 8, some .u64⟩, some ⟨1, true, 2, [(0, 22), (1, 22)], 0, 0, 16, none⟩, some ⟨1, true, 2, [(0, 22), (1, 22)], 0, 0, 16, none⟩, some ⟨3, false, 1, [], 46, 0, 24, none⟩, some ⟨1, true, 3, [(0, 24), (2, 25)], 0, 0, 40, none⟩, some ⟨1, true, 3, [(0, 24), (2, 25)], 0, 0, 40, none⟩, some ⟨0, false, 1, [], 0, 0, 8, none⟩, some ⟨0, false, 1, [], 0, 0, 8, none⟩, some ⟨0, false, 1, [], 0, 0, 8, none⟩, some ⟨5, false, 1, [], 0, 0, 8, some .i64⟩, some ⟨0, false, 1, [], 0, 0, 0, none⟩, some ⟨0, false, 1, [], 0, 0, 8, none⟩, some ⟨0, false, 1, [], 0, 0, 0, none⟩, some ⟨0, false, 1, [], 0, 0, 8, none⟩, some ⟨0, false, 1, [], 0, 0, 0, none⟩, some ⟨0, false, 1, [], 0, 0, 8, none⟩, some ⟨0, false, 1, [], 0, 0, 8, none⟩, some ⟨0, false, 1, [], 0, 0, 8, none⟩]
theorem tb0_ok : (List.range 40).map (fun t => tiOf Try.prog (t + 0)) = tb0 := by kernel_rfl
def tb1 : List (Option TI) := [some ⟨2, true, 9, [], 27, 3, 120, none⟩, some ⟨0, false, 1, [], 0, 0, 8, none⟩, some ⟨0, false, 1, [], 0, 0, 8, none⟩, some ⟨0, false, 1, [], 0, 0, 8, none⟩, some ⟨3, false, 1, [], 5, 0, 24, none⟩, some ⟨1, true, 3, [(0, 22), (1, 3), (2, 44)], 0, 0, 40, none⟩, some ⟨1, true, 3, [(0, 22), (1, 3), (2, 44)], 0, 0, 40, none⟩, some ⟨0, false, 1, [], 0, 0, 8, none⟩, some ⟨3, false, 1, [], 50, 0, 24, none⟩, some ⟨1, true, 3, [(0, 24), (2, 25)], 0, 0, 40, none⟩, some ⟨1, true, 3, [(0, 24), (2, 25)], 0, 0, 40, none⟩, some ⟨0, false, 1, [], 0, 0, 0, none⟩, some ⟨0, false, 1, [], 0, 0, 8, none⟩, some ⟨0, false, 1, [], 0, 0, 0, none⟩, some ⟨0, false, 1, [], 0, 0, 8, none⟩, some ⟨0, false, 1, [], 0, 0, 8, none⟩, some ⟨3, false, 1, [], 27, 0, 24, none⟩, some ⟨0, false, 1, [], 0, 0, 8, none⟩, some ⟨0, false, 1, [], 0, 0, 8, none⟩, some ⟨0, false, 1, [], 0, 0, 8, none⟩, some ⟨3, false, 1, [], 24, 0, 24, none⟩, some ⟨0, false, 1, [], 0, 0, 0, none⟩, some ⟨0, false, 1, [], 0, 0, 8, none⟩, some ⟨0, false, 1, [], 0, 0, 0, none⟩, some ⟨0, false, 1, [], 0, 0, 8, none⟩, some ⟨0, false, 1, [], 0, 0, 0, none⟩, some ⟨0, false, 1, [], 0, 0, 8, none⟩, some ⟨0, false, 1, [], 0, 0, 8, none⟩, some ⟨0, false, 1, [], 0, 0, 8, none⟩, some ⟨0, false, 1, [], 0, 0, 8, none⟩, some ⟨3, false, 1, [], 72, 0, 24, none⟩, some ⟨1, true, 6, [(0, 3), (1, 3), (2, 3), (3, 3), (4, 22), (5, 5)], 0, 0, 48, none⟩, some ⟨1, true, 6, [(0, 3), (1, 3), (2, 3), (3, 3), (4, 22), (5, 5)], 0, 0, 48, none⟩, some ⟨5, false, 1, [], 0, 0, 8, some .u64⟩, some ⟨0, false, 1, [], 0, 0, 8, none⟩, some ⟨0, false, 1, [], 0, 0, 8, none⟩, some ⟨0, false, 1, [], 0, 0, 8, none⟩, some ⟨0, false, 1, [], 0, 0, 8, none⟩, some ⟨1, true, 3, [(0, 27)], 0, 0, 40, none⟩, some ⟨1, true, 3, [(0, 27)], 0, 0, 40, none⟩]
theorem tb1_ok : (List.range 40).map (fun t => tiOf Try.prog (t + 40)) = tb1 := by kernel_rfl
def tb2 : List (Option TI) := [some ⟨0, false, 1, [], 0, 0, 0, none⟩, some ⟨0, false, 1, [], 0, 0, 8, none⟩, some ⟨0, false, 1, [], 0, 0, 8, none⟩, some ⟨0, false, 1, [], 0, 0, 8, none⟩, some ⟨0, false, 1, [], 0, 0, 8, none⟩, some ⟨0, false, 1, [], 0, 0, 8, none⟩, some ⟨0, false, 1, [], 0, 0, 8, none⟩, some ⟨0, false, 1, [], 0, 0, 8, none⟩, some ⟨0, false, 1, [], 0, 0, 8, none⟩, some ⟨0, false, 1, [], 0, 0, 8, none⟩, some ⟨0, false, 1, [], 0, 0, 8, none⟩, some ⟨0, false, 1, [], 0, 0, 8, none⟩, some ⟨0, false, 1, [], 0, 0, 8, none⟩, some ⟨0, false, 1, [], 0, 0, 8, none⟩, some ⟨0, false, 1, [], 0, 0, 8, none⟩, some ⟨0, false, 1, [], 0, 0, 8, none⟩, some ⟨0, false, 1, [], 0, 0, 8, none⟩, some ⟨0, false, 1, [], 0, 0, 8, none⟩, some ⟨0, false, 1, [], 0, 0, 8, none⟩, some ⟨0, false, 1, [], 0, 0, 8, none⟩, some ⟨0, false, 1, [], 0, 0, 8, none⟩, some ⟨0, false, 1, [], 0, 0, 8, none⟩, some ⟨0, false, 1, [], 0, 0, 8, none⟩, some ⟨0, false, 1, [], 0, 0, 8, none⟩, some ⟨1, true, 4, [(0, 17), (1, 17), (2, 17), (3, 9)], 0, 0, 40, none⟩, some ⟨1, true, 4, [(0, 17), (1, 17), (2, 17), (3, 9)], 0, 0, 40, none⟩, some ⟨2, true, 0, [], 16, 0, 0, none⟩, some ⟨1, true, 0, [(0, 106)], 0, 0, 0, none⟩, some ⟨1, true, 0, [(0, 106)], 0, 0, 0, none⟩, some ⟨0, false, 1, [], 0, 0, 8, none⟩, some ⟨5, false, 1, [], 0, 0, 4, some .u32⟩, some ⟨5, false, 1, [], 0, 0, 1, some .u8⟩, some ⟨5, false, 1, [], 0, 0, 1, some .u8⟩, some ⟨0, false, 1, [], 0, 0, 8, none⟩, some ⟨7, false, 1, [], 5, 0, 8, none⟩, some ⟨5, false, 1, [], 0, 0, 4, some .i32⟩, some ⟨5, false, 1, [], 0, 0, 4, some .i32⟩, some ⟨1, true, 11, [(0, 12), (1, 12), (2, 110), (3, 111), (4, 5), (5, 5), (6, 112), (7, 113), (8, 114), (9, 115), (10, 116)], 0, 0, 48, none⟩, some ⟨1, true, 11, [(0, 12), (1, 12), (2, 110), (3, 111), (4, 5), (5, 5), (6, 112), (7, 113), (8, 114), (9, 115), (10, 116)], 0, 0, 48, none⟩, some ⟨0, false, 1, [], 0, 0, 8, none⟩]
theorem tb2_ok : (List.range 40).map (fun t => tiOf Try.prog (t + 80)) = tb2 := by kernel_rfl
def zb0 : List (Option Value) := [none, some (.nilFunc), some (.int .i64 0), some (.int .i64 0), some (.bool false), some (.int .u8 0), some (.int .u8 0), some (.agg #[.int .i64 0, .int .i64 0, .bool false, .int .u8 0]), some (.agg #[.int .i64 0, .int .i64 0, .bool false, .int .u8 0]), some (.string ⟨#[]⟩), some (.string ⟨#[]⟩), some (.string ⟨#[]⟩), some (.int .u64 0), some (.agg #[.string ⟨#[]⟩, .int .u64 0]), some (.agg #[.string ⟨#[]⟩, .int .u64 0]), some (.pointer none), some (.pointer none), some (.pointer none), some (.agg #[.pointer none]), some (.agg #[.pointer none]), some (.nilIface), some (.int .i32 0), some (.int .u64 0), some (.agg #[.int .u64 0, .int .u64 0]), some (.agg #[.int .u64 0, .int .u64 0]), some (.slice none 0 0), some (.agg #[.int .u64 0, .int .u64 0, .slice none 0 0]), some (.agg #[.int .u64 0, .int .u64 0, .slice none 0 0]), some (.nilFunc), some (.nilFunc), some (.nilFunc), some (.int .i64 0), none, some (.nilFunc), none, some (.nilFunc), none, some (.nilFunc), some (.nilFunc), some (.nilFunc)]
theorem zb0_ok : (List.range 40).map (fun t => zrowOf Try.prog (t + 0)) = zb0 := by kernel_rfl
def zb1 : List (Option Value) := [some (.agg #[.int .u64 0, .int .u64 0, .slice none 0 0, .int .u64 0, .int .u64 0, .slice none 0 0, .int .u64 0, .int .u64 0, .slice none 0 0]), some (.nilFunc), some (.nilFunc), some (.nilFunc), some (.slice none 0 0), some (.agg #[.int .u64 0, .int .i64 0, .slice none 0 0]), some (.agg #[.int .u64 0, .int .i64 0, .slice none 0 0]), some (.nilFunc), some (.slice none 0 0), some (.agg #[.int .u64 0, .int .u64 0, .slice none 0 0]), some (.agg #[.int .u64 0, .int .u64 0, .slice none 0 0]), none, some (.nilFunc), none, some (.nilFunc), some (.nilFunc), some (.slice none 0 0), some (.nilFunc), some (.nilFunc), some (.nilFunc), some (.slice none 0 0), none, some (.nilFunc), none, some (.nilFunc), none, some (.nilFunc), some (.nilFunc), some (.nilFunc), some (.nilFunc), some (.slice none 0 0), some (.agg #[.int .i64 0, .int .i64 0, .int .i64 0, .int .i64 0, .int .u64 0, .int .u8 0]), some (.agg #[.int .i64 0, .int .i64 0, .int .i64 0, .int .i64 0, .int .u64 0, .int .u8 0]), some (.int .u64 0), some (.nilFunc), some (.nilFunc), some (.nilFunc), some (.nilFunc), some (.agg #[.int .u64 0, .int .u64 0, .slice none 0 0]), some (.agg #[.int .u64 0, .int .u64 0, .slice none 0 0])]
theorem zb1_ok : (List.range 40).map (fun t => zrowOf Try.prog (t + 40)) = zb1 := by kernel_rfl
def zb2 : List (Option Value) := [none, some (.nilFunc), some (.nilFunc), some (.nilFunc), some (.nilFunc), some (.nilFunc), some (.nilFunc), some (.nilFunc), some (.nilFunc), some (.nilFunc), some (.nilFunc), some (.nilFunc), some (.nilFunc), some (.nilFunc), some (.nilFunc), some (.nilFunc), some (.nilFunc), some (.nilFunc), some (.nilFunc), some (.nilFunc), some (.nilFunc), some (.nilFunc), some (.nilFunc), some (.nilFunc), some (.agg #[.pointer none, .pointer none, .pointer none, .string ⟨#[]⟩]), some (.agg #[.pointer none, .pointer none, .pointer none, .string ⟨#[]⟩]), some (.agg #[]), some (.agg #[]), some (.agg #[]), some (.nilFunc), some (.int .u32 0), some (.int .u8 0), some (.int .u8 0), some (.nilFunc), some (.pointer none), some (.int .i32 0), some (.int .i32 0), some (.agg #[.int .u64 0, .int .u64 0, .int .u32 0, .int .u8 0, .int .u8 0, .int .u8 0, .int .u8 0, .nilFunc, .pointer none, .int .i32 0, .int .i32 0]), some (.agg #[.int .u64 0, .int .u64 0, .int .u32 0, .int .u8 0, .int .u8 0, .int .u8 0, .int .u8 0, .nilFunc, .pointer none, .int .i32 0, .int .i32 0]), some (.pointer none)]
theorem zb2_ok : (List.range 40).map (fun t => zrowOf Try.prog (t + 80)) = zb2 := by kernel_rfl
def tg (t : Nat) : Option TI := (match t / 40 with | 0 => tb0 | 1 => tb1 | 2 => tb2 | _ => [])[t % 40]?.join
def zg (t : Nat) : Option Value := (match t / 40 with | 0 => zb0 | 1 => zb1 | 2 => zb2 | _ => [])[t % 40]?.join
theorem zfin {t : Nat} {x : Value} (h : zrowOf Try.prog t = some x) : (Try.prog.info? t).map (·.zero) = some (some x) := by
  unfold zrowOf at h
  split at h
  · cases hi : Try.prog.info? t with
    | none => simp [hi] at h
    | some i => simp [hi] at h ⊢; exact h
  · cases h
theorem tT {t : Nat} {x : TI} (h : tg t = some x) : tiOf Try.prog t = some x := by
  unfold tg at h
  have ht : t = t % 40 + 40 * (t / 40) := by omega
  generalize t % 40 = r at h ht
  generalize t / 40 = q at h ht
  subst ht
  split at h
  · rw [Option.join_eq_some_iff] at h
    exact tb_at (k := 0) tb0_ok h
  · rw [Option.join_eq_some_iff] at h
    exact tb_at (k := 40) tb1_ok h
  · rw [Option.join_eq_some_iff] at h
    exact tb_at (k := 80) tb2_ok h
  · simp at h
theorem zT {t : Nat} {x : Value} (h : zg t = some x) : (Try.prog.info? t).map (·.zero) = some (some x) := by
  unfold zg at h
  have ht : t = t % 40 + 40 * (t / 40) := by omega
  generalize t % 40 = r at h ht
  generalize t / 40 = q at h ht
  subst ht
  split at h
  · rw [Option.join_eq_some_iff] at h
    exact zfin (tb_at (k := 0) zb0_ok h)
  · rw [Option.join_eq_some_iff] at h
    exact zfin (tb_at (k := 40) zb1_ok h)
  · rw [Option.join_eq_some_iff] at h
    exact zfin (tb_at (k := 80) zb2_ok h)
  · simp at h
end Go.Proofs.Ytpckkajodpiiaaa
