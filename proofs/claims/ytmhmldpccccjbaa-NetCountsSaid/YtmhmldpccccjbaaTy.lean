/- What the table says of types, by number. No condition. -/
import Derived.Test.YtmhmldpccccjbaaT3
import Derived.Test.YtmhmldpccccjbaaProg
namespace Go.Proofs.Ytmhmldpccccjbaa
open Go.RowKit
set_option linter.unusedVariables false
theorem tb_at {α : Type} {f : Nat → Option α} {xs : List (Option α)} {k n : Nat} (h : (List.range n).map (fun t => f (t + k)) = xs) {t : Nat} {x : α} (hx : xs[t]? = some (some x)) : f (t + k) = some x := by
  rw [← h, List.getElem?_map] at hx
  rcases Nat.lt_or_ge t n with h1 | h1
  · simp [h1] at hx; exact hx
  · simp [h1] at hx
def told : List Nat := [1, 2, 3, 4, 5, 6, 7, 8, 9, 10, 11, 12, 13, 14, 15, 16, 17, 18, 19, 20, 21, 22, 23, 24, 25, 26, 27, 28, 29, 30, 31, 32, 33, 35, 36, 37, 38, 39, 40, 41, 42, 43, 44, 45, 46, 47, 48, 49, 50, 51, 52, 53, 54, 55, 56, 57, 58, 59, 61, 62, 63, 64, 65, 67, 68, 69, 70, 72, 73, 74, 75, 76, 77, 78, 80, 81, 82, 83, 84, 85, 86, 87, 88, 89, 90, 91, 92, 93, 94, 95, 96, 97, 98, 99, 100, 101, 102, 103, 105, 107, 108, 109, 110, 111, 112, 113, 114, 116, 117, 118, 119, 120, 121, 122, 123, 124, 125, 126, 127, 128, 129, 130, 131, 132, 133, 134, 135, 136, 137, 138, 139, 140, 141]
def zrowOf (P : Program) (t : Nat) : Option Value := if told.contains t then (P.info? t).bind (·.zero) else none
def tb0 : List (Option TI) := [some ⟨0, false, 1, [], 0, 0, 0, none⟩, some ⟨0, false, 1, [], 0, 0, 8, none⟩, some ⟨5, false, 1, [], 0, 0, 8, some .i64⟩, some ⟨5, false, 1, [], 0, 0, 8, some .i64⟩, some ⟨6, false, 1, [], 0, 0, 1, none⟩, some ⟨5, false, 1, [], 0, 0, 1, some .u8⟩, some ⟨5, false, 1, [], 0, 0, 1, some .u8⟩, some ⟨1, true, 4, [(0, 2), (1, 3), (2, 4), (3, 6)], 0, 0, 24, none⟩, some ⟨1, true, 4, [(0, 2), (1, 3), (2, 4), (3, 6)], 0, 0, 24, none⟩, some ⟨4, false, 1, [], 0, 0, 16, none⟩, some ⟨4, false, 1, [], 0, 0, 16, none⟩, some ⟨4, false, 1, [], 0, 0, 16, none⟩, some ⟨5, false, 1, [], 0, 0, 8, some .u64⟩, some ⟨1, true, 2, [(0, 9), (1, 12)], 0, 0, 24, none⟩, some ⟨1, true, 2, [(0, 9), (1, 12)], 0, 0, 24, none⟩, some ⟨7, false, 1, [], 127, 0, 8, none⟩, some ⟨7, false, 1, [], 130, 0, 8, none⟩, some ⟨7, false, 1, [], 140, 0, 8, none⟩, some ⟨1, true, 1, [(0, 17)], 0, 0, 8, none⟩, some ⟨1, true, 1, [(0, 17)], 0, 0, 8, none⟩, some ⟨0, false, 1, [], 0, 0, 16, none⟩, some ⟨5, false, 1, [], 0, 0, 4, some .i32⟩, some ⟨3, false, 1, [], 65, 0, 24, none⟩, some ⟨3, false, 1, [], 77, 0, 24, none⟩, some ⟨1, true, 3, [(0, 22), (1, 3), (2, 23)], 0, 0, 56, none⟩, some ⟨1, true, 3, [(0, 22), (1, 3), (2, 23)], 0, 0, 56, none⟩, some ⟨3, false, 1, [], 3, 0, 24, none⟩, some ⟨0, false, 1, [], 0, 0, 8, none⟩, some ⟨0, false, 1, [], 0, 0, 8, none⟩, some ⟨0, false, 1, [], 0, 0, 8, none⟩, some ⟨0, false, 1, [], 0, 0, 8, none⟩, some ⟨3, false, 1, [], 32, 0, 24, none⟩, some ⟨2, true, 2, [], 3, 2, 16, none⟩, some ⟨5, false, 1, [], 0, 0, 8, some .i64⟩, some ⟨0, false, 1, [], 0, 0, 0, none⟩, some ⟨0, false, 1, [], 0, 0, 8, none⟩, some ⟨0, false, 1, [], 0, 0, 8, none⟩, some ⟨0, false, 1, [], 0, 0, 8, none⟩, some ⟨0, false, 1, [], 0, 0, 8, none⟩, some ⟨0, false, 1, [], 0, 0, 8, none⟩]
theorem tb0_ok : (List.range 40).map (fun t => tiOf Try.prog (t + 0)) = tb0 := by kernel_rfl
def tb1 : List (Option TI) := [some ⟨0, false, 1, [], 0, 0, 8, none⟩, some ⟨0, false, 1, [], 0, 0, 8, none⟩, some ⟨0, false, 1, [], 0, 0, 8, none⟩, some ⟨3, false, 1, [], 52, 0, 24, none⟩, some ⟨1, true, 2, [(0, 3), (1, 43)], 0, 0, 32, none⟩, some ⟨1, true, 2, [(0, 3), (1, 43)], 0, 0, 32, none⟩, some ⟨0, false, 1, [], 0, 0, 8, none⟩, some ⟨0, false, 1, [], 0, 0, 8, none⟩, some ⟨0, false, 1, [], 0, 0, 8, none⟩, some ⟨0, false, 1, [], 0, 0, 8, none⟩, some ⟨3, false, 1, [], 5, 0, 24, none⟩, some ⟨1, true, 2, [(0, 3), (1, 50)], 0, 0, 32, none⟩, some ⟨1, true, 2, [(0, 3), (1, 50)], 0, 0, 32, none⟩, some ⟨0, false, 1, [], 0, 0, 8, none⟩, some ⟨3, false, 1, [], 57, 0, 24, none⟩, some ⟨0, false, 1, [], 0, 0, 8, none⟩, some ⟨1, true, 4, [(0, 3), (1, 3), (2, 3), (3, 5)], 0, 0, 32, none⟩, some ⟨1, true, 4, [(0, 3), (1, 3), (2, 3), (3, 5)], 0, 0, 32, none⟩, some ⟨1, true, 3, [(0, 3), (1, 3), (2, 5)], 0, 0, 24, none⟩, some ⟨1, true, 3, [(0, 3), (1, 3), (2, 5)], 0, 0, 24, none⟩, some ⟨0, false, 1, [], 0, 0, 0, none⟩, some ⟨0, false, 1, [], 0, 0, 8, none⟩, some ⟨1, true, 3, [(0, 3), (1, 3), (2, 50)], 0, 0, 40, none⟩, some ⟨1, true, 3, [(0, 3), (1, 3), (2, 50)], 0, 0, 40, none⟩, some ⟨1, true, 4, [(0, 3), (1, 63)], 0, 0, 48, none⟩, some ⟨1, true, 4, [(0, 3), (1, 63)], 0, 0, 48, none⟩, some ⟨0, false, 1, [], 0, 0, 0, none⟩, some ⟨0, false, 1, [], 0, 0, 8, none⟩, some ⟨0, false, 1, [], 0, 0, 8, none⟩, some ⟨3, false, 1, [], 4, 0, 24, none⟩, some ⟨3, false, 1, [], 59, 0, 24, none⟩, some ⟨0, false, 1, [], 0, 0, 0, none⟩, some ⟨0, false, 1, [], 0, 0, 8, none⟩, some ⟨0, false, 1, [], 0, 0, 8, none⟩, some ⟨0, false, 1, [], 0, 0, 8, none⟩, some ⟨0, false, 1, [], 0, 0, 8, none⟩, some ⟨1, true, 2, [(0, 3), (1, 3)], 0, 0, 16, none⟩, some ⟨1, true, 2, [(0, 3), (1, 3)], 0, 0, 16, none⟩, some ⟨0, false, 1, [], 0, 0, 8, none⟩, some ⟨0, false, 1, [], 0, 0, 0, none⟩]
theorem tb1_ok : (List.range 40).map (fun t => tiOf Try.prog (t + 40)) = tb1 := by kernel_rfl
def tb2 : List (Option TI) := [some ⟨0, false, 1, [], 0, 0, 8, none⟩, some ⟨0, false, 1, [], 0, 0, 8, none⟩, some ⟨0, false, 1, [], 0, 0, 8, none⟩, some ⟨0, false, 1, [], 0, 0, 8, none⟩, some ⟨0, false, 1, [], 0, 0, 8, none⟩, some ⟨2, true, 9, [], 25, 3, 168, none⟩, some ⟨0, false, 1, [], 0, 0, 8, none⟩, some ⟨7, false, 1, [], 25, 0, 8, none⟩, some ⟨0, false, 1, [], 0, 0, 8, none⟩, some ⟨0, false, 1, [], 0, 0, 8, none⟩, some ⟨0, false, 1, [], 0, 0, 8, none⟩, some ⟨0, false, 1, [], 0, 0, 8, none⟩, some ⟨0, false, 1, [], 0, 0, 8, none⟩, some ⟨0, false, 1, [], 0, 0, 8, none⟩, some ⟨0, false, 1, [], 0, 0, 8, none⟩, some ⟨0, false, 1, [], 0, 0, 8, none⟩, some ⟨0, false, 1, [], 0, 0, 8, none⟩, some ⟨0, false, 1, [], 0, 0, 8, none⟩, some ⟨0, false, 1, [], 0, 0, 8, none⟩, some ⟨0, false, 1, [], 0, 0, 8, none⟩, some ⟨0, false, 1, [], 0, 0, 8, none⟩, some ⟨5, false, 1, [], 0, 0, 8, some .u64⟩, some ⟨0, false, 1, [], 0, 0, 8, none⟩, some ⟨0, false, 1, [], 0, 0, 8, none⟩, some ⟨0, false, 1, [], 0, 0, 0, none⟩, some ⟨0, false, 1, [], 0, 0, 8, none⟩, some ⟨0, false, 1, [], 0, 0, 0, none⟩, some ⟨0, false, 1, [], 0, 0, 8, none⟩, some ⟨0, false, 1, [], 0, 0, 8, none⟩, some ⟨0, false, 1, [], 0, 0, 8, none⟩, some ⟨0, false, 1, [], 0, 0, 8, none⟩, some ⟨0, false, 1, [], 0, 0, 8, none⟩, some ⟨0, false, 1, [], 0, 0, 8, none⟩, some ⟨0, false, 1, [], 0, 0, 8, none⟩, some ⟨0, false, 1, [], 0, 0, 8, none⟩, some ⟨0, false, 1, [], 0, 0, 0, none⟩, some ⟨0, false, 1, [], 0, 0, 8, none⟩, some ⟨0, false, 1, [], 0, 0, 8, none⟩, some ⟨0, false, 1, [], 0, 0, 8, none⟩, some ⟨0, false, 1, [], 0, 0, 8, none⟩]
theorem tb2_ok : (List.range 40).map (fun t => tiOf Try.prog (t + 80)) = tb2 := by kernel_rfl
def tb3 : List (Option TI) := [some ⟨0, false, 1, [], 0, 0, 8, none⟩, some ⟨0, false, 1, [], 0, 0, 8, none⟩, some ⟨0, false, 1, [], 0, 0, 8, none⟩, some ⟨0, false, 1, [], 0, 0, 8, none⟩, some ⟨0, false, 1, [], 0, 0, 8, none⟩, some ⟨0, false, 1, [], 0, 0, 8, none⟩, some ⟨1, true, 4, [(0, 17), (1, 17), (2, 17), (3, 9)], 0, 0, 40, none⟩, some ⟨1, true, 4, [(0, 17), (1, 17), (2, 17), (3, 9)], 0, 0, 40, none⟩, some ⟨2, true, 0, [], 16, 0, 0, none⟩, some ⟨1, true, 0, [(0, 128)], 0, 0, 0, none⟩, some ⟨1, true, 0, [(0, 128)], 0, 0, 0, none⟩, some ⟨0, false, 1, [], 0, 0, 8, none⟩, some ⟨5, false, 1, [], 0, 0, 4, some .u32⟩, some ⟨5, false, 1, [], 0, 0, 1, some .u8⟩, some ⟨5, false, 1, [], 0, 0, 1, some .u8⟩, some ⟨0, false, 1, [], 0, 0, 8, none⟩, some ⟨7, false, 1, [], 5, 0, 8, none⟩, some ⟨5, false, 1, [], 0, 0, 4, some .i32⟩, some ⟨5, false, 1, [], 0, 0, 4, some .i32⟩, some ⟨1, true, 11, [(0, 12), (1, 12), (2, 132), (3, 133), (4, 5), (5, 5), (6, 134), (7, 135), (8, 136), (9, 137), (10, 138)], 0, 0, 48, none⟩, some ⟨1, true, 11, [(0, 12), (1, 12), (2, 132), (3, 133), (4, 5), (5, 5), (6, 134), (7, 135), (8, 136), (9, 137), (10, 138)], 0, 0, 48, none⟩, some ⟨0, false, 1, [], 0, 0, 8, none⟩]
theorem tb3_ok : (List.range 22).map (fun t => tiOf Try.prog (t + 120)) = tb3 := by kernel_rfl
def zb0 : List (Option Value) := [none, some (.nilFunc), some (.int .i64 0), some (.int .i64 0), some (.bool false), some (.int .u8 0), some (.int .u8 0), some (.agg #[.int .i64 0, .int .i64 0, .bool false, .int .u8 0]), some (.agg #[.int .i64 0, .int .i64 0, .bool false, .int .u8 0]), some (.string ⟨#[]⟩), some (.string ⟨#[]⟩), some (.string ⟨#[]⟩), some (.int .u64 0), some (.agg #[.string ⟨#[]⟩, .int .u64 0]), some (.agg #[.string ⟨#[]⟩, .int .u64 0]), some (.pointer none), some (.pointer none), some (.pointer none), some (.agg #[.pointer none]), some (.agg #[.pointer none]), some (.nilIface), some (.int .i32 0), some (.slice none 0 0), some (.slice none 0 0), some (.agg #[.slice none 0 0, .int .i64 0, .slice none 0 0]), some (.agg #[.slice none 0 0, .int .i64 0, .slice none 0 0]), some (.slice none 0 0), some (.nilFunc), some (.nilFunc), some (.nilFunc), some (.nilFunc), some (.slice none 0 0), some (.agg #[.int .i64 0, .int .i64 0]), some (.int .i64 0), none, some (.nilFunc), some (.nilFunc), some (.nilFunc), some (.nilFunc), some (.nilFunc)]
theorem zb0_ok : (List.range 40).map (fun t => zrowOf Try.prog (t + 0)) = zb0 := by kernel_rfl
def zb1 : List (Option Value) := [some (.nilFunc), some (.nilFunc), some (.nilFunc), some (.slice none 0 0), some (.agg #[.int .i64 0, .slice none 0 0]), some (.agg #[.int .i64 0, .slice none 0 0]), some (.nilFunc), some (.nilFunc), some (.nilFunc), some (.nilFunc), some (.slice none 0 0), some (.agg #[.int .i64 0, .slice none 0 0]), some (.agg #[.int .i64 0, .slice none 0 0]), some (.nilFunc), some (.slice none 0 0), some (.map none), some (.agg #[.int .i64 0, .int .i64 0, .int .i64 0, .int .u8 0]), some (.agg #[.int .i64 0, .int .i64 0, .int .i64 0, .int .u8 0]), some (.agg #[.int .i64 0, .int .i64 0, .int .u8 0]), some (.agg #[.int .i64 0, .int .i64 0, .int .u8 0]), none, some (.nilFunc), some (.agg #[.int .i64 0, .int .i64 0, .slice none 0 0]), some (.agg #[.int .i64 0, .int .i64 0, .slice none 0 0]), some (.agg #[.int .i64 0, .int .i64 0, .int .i64 0, .slice none 0 0]), some (.agg #[.int .i64 0, .int .i64 0, .int .i64 0, .slice none 0 0]), none, some (.nilFunc), some (.nilFunc), some (.slice none 0 0), some (.slice none 0 0), none, some (.nilFunc), some (.nilFunc), some (.nilFunc), some (.nilFunc), some (.agg #[.int .i64 0, .int .i64 0]), some (.agg #[.int .i64 0, .int .i64 0]), some (.nilFunc), none]
theorem zb1_ok : (List.range 40).map (fun t => zrowOf Try.prog (t + 40)) = zb1 := by kernel_rfl
def zb2 : List (Option Value) := [some (.nilFunc), some (.nilFunc), some (.nilFunc), some (.nilFunc), some (.nilFunc), some (.agg #[.slice none 0 0, .int .i64 0, .slice none 0 0, .slice none 0 0, .int .i64 0, .slice none 0 0, .slice none 0 0, .int .i64 0, .slice none 0 0]), some (.nilFunc), some (.pointer none), some (.nilFunc), some (.nilFunc), some (.nilFunc), some (.nilFunc), some (.nilFunc), some (.nilFunc), some (.nilFunc), some (.nilFunc), some (.nilFunc), some (.nilFunc), some (.nilFunc), some (.nilFunc), some (.nilFunc), some (.int .u64 0), some (.nilFunc), some (.nilFunc), none, some (.nilFunc), none, some (.nilFunc), some (.nilFunc), some (.nilFunc), some (.nilFunc), some (.nilFunc), some (.nilFunc), some (.nilFunc), some (.nilFunc), none, some (.nilFunc), some (.nilFunc), some (.nilFunc), some (.nilFunc)]
theorem zb2_ok : (List.range 40).map (fun t => zrowOf Try.prog (t + 80)) = zb2 := by kernel_rfl
def zb3 : List (Option Value) := [some (.nilFunc), some (.nilFunc), some (.nilFunc), some (.nilFunc), some (.nilFunc), some (.nilFunc), some (.agg #[.pointer none, .pointer none, .pointer none, .string ⟨#[]⟩]), some (.agg #[.pointer none, .pointer none, .pointer none, .string ⟨#[]⟩]), some (.agg #[]), some (.agg #[]), some (.agg #[]), some (.nilFunc), some (.int .u32 0), some (.int .u8 0), some (.int .u8 0), some (.nilFunc), some (.pointer none), some (.int .i32 0), some (.int .i32 0), some (.agg #[.int .u64 0, .int .u64 0, .int .u32 0, .int .u8 0, .int .u8 0, .int .u8 0, .int .u8 0, .nilFunc, .pointer none, .int .i32 0, .int .i32 0]), some (.agg #[.int .u64 0, .int .u64 0, .int .u32 0, .int .u8 0, .int .u8 0, .int .u8 0, .int .u8 0, .nilFunc, .pointer none, .int .i32 0, .int .i32 0]), some (.pointer none)]
theorem zb3_ok : (List.range 22).map (fun t => zrowOf Try.prog (t + 120)) = zb3 := by kernel_rfl
def tg (t : Nat) : Option TI := (match t / 40 with | 0 => tb0 | 1 => tb1 | 2 => tb2 | 3 => tb3 | _ => [])[t % 40]?.join
def zg (t : Nat) : Option Value := (match t / 40 with | 0 => zb0 | 1 => zb1 | 2 => zb2 | 3 => zb3 | _ => [])[t % 40]?.join
theorem zfin {t : Nat} {x : Value} (h : zrowOf Try.prog t = some x) : (Try.prog.info? t).map (·.zero) = some (some x) := by
  unfold zrowOf at h
  split at h
  · cases hi : Try.prog.info? t with
    | none => simp [hi] at h
    | some i => simp [hi] at h ⊢; exact h
  · cases h
theorem tT {t : Nat} {x : TI} (h : tg t = some x) : tiOf Try.prog t = some x := by
  unfold tg at h
  have ht : t = t % 40 + 40 * (t / 40) := by omega
  generalize t % 40 = r at h ht
  generalize t / 40 = q at h ht
  subst ht
  split at h
  · rw [Option.join_eq_some_iff] at h
    exact tb_at (k := 0) tb0_ok h
  · rw [Option.join_eq_some_iff] at h
    exact tb_at (k := 40) tb1_ok h
  · rw [Option.join_eq_some_iff] at h
    exact tb_at (k := 80) tb2_ok h
  · rw [Option.join_eq_some_iff] at h
    exact tb_at (k := 120) tb3_ok h
  · simp at h
theorem zT {t : Nat} {x : Value} (h : zg t = some x) : (Try.prog.info? t).map (·.zero) = some (some x) := by
  unfold zg at h
  have ht : t = t % 40 + 40 * (t / 40) := by omega
  generalize t % 40 = r at h ht
  generalize t / 40 = q at h ht
  subst ht
  split at h
  · rw [Option.join_eq_some_iff] at h
    exact zfin (tb_at (k := 0) zb0_ok h)
  · rw [Option.join_eq_some_iff] at h
    exact zfin (tb_at (k := 40) zb1_ok h)
  · rw [Option.join_eq_some_iff] at h
    exact zfin (tb_at (k := 80) zb2_ok h)
  · rw [Option.join_eq_some_iff] at h
    exact zfin (tb_at (k := 120) zb3_ok h)
  · simp at h
end Go.Proofs.Ytmhmldpccccjbaa
