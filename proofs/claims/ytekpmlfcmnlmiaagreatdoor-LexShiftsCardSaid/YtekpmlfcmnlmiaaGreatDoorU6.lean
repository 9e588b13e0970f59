/- Small words for walks that are reckoned: wraps, closers. No condition. -/
import Derived.Test.YtekpmlfcmnlmiaaGreatDoorT3
import Derived.Test.YtekpmlfcmnlmiaaGreatDoorProg
import Derived.Test.YtekpmlfcmnlmiaaGreatDoorU4
namespace Go.Proofs.YtekpmlfcmnlmiaaGreatDoor
open Go.RowKit
set_option linter.unusedVariables false
theorem tb_at {α : Type} {f : Nat → Option α} {xs : List (Option α)} {k n : Nat} (h : (List.range n).map (fun t => f (t + k)) = xs) {t : Nat} {x : α} (hx : xs[t]? = some (some x)) : f (t + k) = some x := by
  rw [← h, List.getElem?_map] at hx
  rcases Nat.lt_or_ge t n with h1 | h1
  · simp [h1] at hx; exact hx
  · simp [h1] at hx
def told : List Nat := [1, 2, 3, 4, 5, 6, 7, 8, 9, 10, 11, 12, 13, 14, 15, 16, 17, 18, 19, 20, 21, 22, 23, 24, 25, 26, 27, 29, 30, 31, 32, 33, 34, 35, 36, 37, 38, 39, 41, 42, 43, 44, 45, 46, 47, 48, 49, 50, 51, 52, 53, 55, 56, 57, 58, 59, 60, 61, 62, 64, 65, 66, 67, 68, 69, 70, 72, 73, 74, 75, 77, 78, 79, 81, 82, 84, 85, 86, 87, 88, 89, 90, 91, 92, 93, 94, 95, 96, 97, 98, 99, 100, 101, 102, 104, 105, 106, 107, 108, 110, 111, 113, 114, 115, 116, 117, 118, 119, 120, 121, 122, 123, 125, 126, 127, 128, 129, 130, 131, 132, 134, 135, 136, 137, 138, 139, 140, 141, 142, 143, 144, 145, 146, 147, 148, 149, 150, 151, 152, 153, 154, 155, 156, 157, 158, 159, 160, 161, 162, 163]
def zrowOf (P : Program) (t : Nat) : Option Value := if told.contains t then (P.info? t).bind (·.zero) else none
def tb0 : List (Option TI) := [some ⟨0, false, 1, [], 0, 0, 0, none⟩, some ⟨0, false, 1, [], 0, 0, 8, none⟩, some ⟨5, false, 1, [], 0, 0, 8, some .i64⟩, some ⟨5, false, 1, [], 0, 0, 8, some .i64⟩, some ⟨6, false, 1, [], 0, 0, 1, none⟩, some ⟨5, false, 1, [], 0, 0, 1, some .u8⟩, some ⟨5, false, 1, [], 0, 0, 1, some .u8⟩, some ⟨1, true, 4, [(0, 2), (1, 3), (2, 4), (3, 6)], 0, 0, 24, none⟩, some ⟨1, true, 4, [(0, 2), (1, 3), (2, 4), (3, 6)], 0, 0, 24, none⟩, some ⟨4, false, 1, [], 0, 0, 16, none⟩, some ⟨4, false, 1, [], 0, 0, 16, none⟩, some ⟨4, false, 1, [], 0, 0, 16, none⟩, some ⟨5, false, 1, [], 0, 0, 8, some .u64⟩, some ⟨1, true, 2, [(0, 9), (1, 12)], 0, 0, 24, none⟩, some ⟨1, true, 2, [(0, 9), (1, 12)], 0, 0, 24, none⟩, some ⟨7, false, 1, [], 153, 0, 8, none⟩, some ⟨7, false, 1, [], 156, 0, 8, none⟩, some ⟨7, false, 1, [], 163, 0, 8, none⟩, some ⟨1, true, 1, [(0, 17)], 0, 0, 8, none⟩, some ⟨1, true, 1, [(0, 17)], 0, 0, 8, none⟩, some ⟨0, false, 1, [], 0, 0, 16, none⟩, some ⟨5, false, 1, [], 0, 0, 4, some .i32⟩, some ⟨3, false, 1, [], 24, 0, 24, none⟩, some ⟨0, false, 1, [], 0, 0, 8, none⟩, some ⟨3, false, 1, [], 43, 0, 24, none⟩, some ⟨0, false, 1, [], 0, 0, 8, none⟩, some ⟨5, false, 1, [], 0, 0, 8, some .i64⟩, some ⟨0, false, 1, [], 0, 0, 8, none⟩, some ⟨0, false, 1, [], 0, 0, 0, none⟩, some ⟨0, false, 1, [], 0, 0, 8, none⟩, some ⟨0, false, 1, [], 0, 0, 8, none⟩, some ⟨0, false, 1, [], 0, 0, 8, none⟩, some ⟨0, false, 1, [], 0, 0, 8, none⟩, some ⟨0, false, 1, [], 0, 0, 8, none⟩, some ⟨0, false, 1, [], 0, 0, 8, none⟩, some ⟨5, false, 1, [], 0, 0, 8, some .u64⟩, some ⟨0, false, 1, [], 0, 0, 8, none⟩, some ⟨0, false, 1, [], 0, 0, 8, none⟩, some ⟨1, true, 2, [(0, 26), (1, 3)], 0, 0, 16, none⟩, some ⟨1, true, 2, [(0, 26), (1, 3)], 0, 0, 16, none⟩]
theorem tb0_ok : (List.range 40).map (fun t => tiOf Tryz.prog (t + 0)) = tb0 := by kernel_rfl
def tb1 : List (Option TI) := [some ⟨0, false, 1, [], 0, 0, 0, none⟩, some ⟨0, false, 1, [], 0, 0, 8, none⟩, some ⟨1, true, 5, [(0, 3), (1, 9), (2, 2), (3, 3), (4, 3)], 0, 0, 48, none⟩, some ⟨1, true, 5, [(0, 3), (1, 9), (2, 2), (3, 3), (4, 3)], 0, 0, 48, none⟩, some ⟨0, false, 1, [], 0, 0, 8, none⟩, some ⟨0, false, 1, [], 0, 0, 8, none⟩, some ⟨0, false, 1, [], 0, 0, 8, none⟩, some ⟨0, false, 1, [], 0, 0, 8, none⟩, some ⟨3, false, 1, [], 9, 0, 24, none⟩, some ⟨0, false, 1, [], 0, 0, 8, none⟩, some ⟨0, false, 1, [], 0, 0, 8, none⟩, some ⟨0, false, 1, [], 0, 0, 8, none⟩, some ⟨0, false, 1, [], 0, 0, 8, none⟩, some ⟨0, false, 1, [], 0, 0, 8, none⟩, some ⟨0, false, 1, [], 0, 0, 0, none⟩, some ⟨0, false, 1, [], 0, 0, 8, none⟩, some ⟨7, false, 1, [], 59, 0, 8, none⟩, some ⟨3, false, 1, [], 5, 0, 24, none⟩, some ⟨1, true, 2, [(0, 56), (1, 57)], 0, 0, 32, none⟩, some ⟨1, true, 2, [(0, 56), (1, 57)], 0, 0, 32, none⟩, some ⟨0, false, 1, [], 0, 0, 8, none⟩, some ⟨0, false, 1, [], 0, 0, 16, none⟩, some ⟨0, false, 1, [], 0, 0, 16, none⟩, some ⟨0, false, 1, [], 0, 0, 0, none⟩, some ⟨0, false, 1, [], 0, 0, 8, none⟩, some ⟨0, false, 1, [], 0, 0, 8, none⟩, some ⟨0, false, 1, [], 0, 0, 8, none⟩, some ⟨0, false, 1, [], 0, 0, 8, none⟩, some ⟨0, false, 1, [], 0, 0, 8, none⟩, some ⟨0, false, 1, [], 0, 0, 8, none⟩, some ⟨0, false, 1, [], 0, 0, 8, none⟩, some ⟨0, false, 1, [], 0, 0, 0, none⟩, some ⟨0, false, 1, [], 0, 0, 8, none⟩, some ⟨0, false, 1, [], 0, 0, 8, none⟩, some ⟨0, false, 1, [], 0, 0, 8, none⟩, some ⟨0, false, 1, [], 0, 0, 8, none⟩, some ⟨0, false, 1, [], 0, 0, 0, none⟩, some ⟨0, false, 1, [], 0, 0, 8, none⟩, some ⟨0, false, 1, [], 0, 0, 8, none⟩, some ⟨5, false, 1, [], 0, 0, 4, some .u32⟩]
theorem tb1_ok : (List.range 40).map (fun t => tiOf Tryz.prog (t + 40)) = tb1 := by kernel_rfl
def tb2 : List (Option TI) := [some ⟨0, false, 1, [], 0, 0, 0, none⟩, some ⟨0, false, 1, [], 0, 0, 8, none⟩, some ⟨5, false, 1, [], 0, 0, 8, some .u64⟩, some ⟨0, false, 1, [], 0, 0, 0, none⟩, some ⟨0, false, 1, [], 0, 0, 8, none⟩, some ⟨7, false, 1, [], 5, 0, 8, none⟩, some ⟨0, false, 1, [], 0, 0, 8, none⟩, some ⟨0, false, 1, [], 0, 0, 8, none⟩, some ⟨0, false, 1, [], 0, 0, 8, none⟩, some ⟨0, false, 1, [], 0, 0, 8, none⟩, some ⟨2, true, 16, [], 9, 16, 256, none⟩, some ⟨0, false, 1, [], 0, 0, 8, none⟩, some ⟨0, false, 1, [], 0, 0, 8, none⟩, some ⟨0, false, 1, [], 0, 0, 8, none⟩, some ⟨0, false, 1, [], 0, 0, 8, none⟩, some ⟨0, false, 1, [], 0, 0, 8, none⟩, some ⟨0, false, 1, [], 0, 0, 8, none⟩, some ⟨0, false, 1, [], 0, 0, 8, none⟩, some ⟨0, false, 1, [], 0, 0, 8, none⟩, some ⟨0, false, 1, [], 0, 0, 8, none⟩, some ⟨0, false, 1, [], 0, 0, 8, none⟩, some ⟨2, true, 35, [], 9, 35, 560, none⟩, some ⟨0, false, 1, [], 0, 0, 8, none⟩, some ⟨0, false, 1, [], 0, 0, 0, none⟩, some ⟨0, false, 1, [], 0, 0, 8, none⟩, some ⟨0, false, 1, [], 0, 0, 8, none⟩, some ⟨2, true, 24, [], 5, 24, 24, none⟩, some ⟨0, false, 1, [], 0, 0, 8, none⟩, some ⟨0, false, 1, [], 0, 0, 8, none⟩, some ⟨0, false, 1, [], 0, 0, 0, none⟩, some ⟨0, false, 1, [], 0, 0, 8, none⟩, some ⟨0, false, 1, [], 0, 0, 8, none⟩, some ⟨0, false, 1, [], 0, 0, 0, none⟩, some ⟨0, false, 1, [], 0, 0, 8, none⟩, some ⟨0, false, 1, [], 0, 0, 8, none⟩, some ⟨0, false, 1, [], 0, 0, 8, none⟩, some ⟨0, false, 1, [], 0, 0, 8, none⟩, some ⟨0, false, 1, [], 0, 0, 8, none⟩, some ⟨0, false, 1, [], 0, 0, 8, none⟩, some ⟨2, true, 20, [], 82, 20, 160, none⟩]
theorem tb2_ok : (List.range 40).map (fun t => tiOf Tryz.prog (t + 80)) = tb2 := by kernel_rfl
def tb3 : List (Option TI) := [some ⟨2, true, 65, [], 5, 65, 65, none⟩, some ⟨0, false, 1, [], 0, 0, 8, none⟩, some ⟨0, false, 1, [], 0, 0, 8, none⟩, some ⟨0, false, 1, [], 0, 0, 8, none⟩, some ⟨0, false, 1, [], 0, 0, 0, none⟩, some ⟨0, false, 1, [], 0, 0, 8, none⟩, some ⟨3, false, 1, [], 148, 0, 24, none⟩, some ⟨5, false, 1, [], 0, 0, 8, some .i64⟩, some ⟨0, false, 1, [], 0, 0, 8, none⟩, some ⟨7, false, 1, [], 141, 0, 8, none⟩, some ⟨0, false, 1, [], 0, 0, 8, none⟩, some ⟨0, false, 1, [], 0, 0, 8, none⟩, some ⟨0, false, 1, [], 0, 0, 8, none⟩, some ⟨2, true, 256, [], 5, 256, 256, none⟩, some ⟨1, true, 2, [(0, 5), (1, 5)], 0, 0, 2, none⟩, some ⟨1, true, 2, [(0, 5), (1, 5)], 0, 0, 2, none⟩, some ⟨2, true, 32, [], 135, 16, 32, none⟩, some ⟨7, false, 1, [], 148, 0, 8, none⟩, some ⟨0, false, 1, [], 0, 0, 8, none⟩, some ⟨0, false, 1, [], 0, 0, 8, none⟩, some ⟨1, true, 3, [(0, 9), (1, 9), (2, 62)], 0, 0, 48, none⟩, some ⟨1, true, 3, [(0, 9), (1, 9), (2, 62)], 0, 0, 48, none⟩, some ⟨0, false, 1, [], 0, 0, 8, none⟩, some ⟨2, true, 32, [], 5, 32, 32, none⟩, some ⟨2, true, 64, [], 5, 64, 64, none⟩, some ⟨2, true, 3, [], 21, 3, 12, none⟩, some ⟨2, true, 3, [], 21, 3, 12, none⟩, some ⟨1, true, 5, [(0, 79), (1, 79), (2, 146)], 0, 0, 20, none⟩, some ⟨1, true, 5, [(0, 79), (1, 79), (2, 146)], 0, 0, 20, none⟩, some ⟨7, false, 1, [], 151, 0, 8, none⟩, some ⟨1, true, 1, [(0, 9)], 0, 0, 16, none⟩, some ⟨1, true, 1, [(0, 9)], 0, 0, 16, none⟩, some ⟨1, true, 4, [(0, 17), (1, 17), (2, 17), (3, 9)], 0, 0, 40, none⟩, some ⟨1, true, 4, [(0, 17), (1, 17), (2, 17), (3, 9)], 0, 0, 40, none⟩, some ⟨2, true, 0, [], 16, 0, 0, none⟩, some ⟨1, true, 0, [(0, 154)], 0, 0, 0, none⟩, some ⟨1, true, 0, [(0, 154)], 0, 0, 0, none⟩, some ⟨5, false, 1, [], 0, 0, 1, some .u8⟩, some ⟨5, false, 1, [], 0, 0, 1, some .u8⟩, some ⟨0, false, 1, [], 0, 0, 8, none⟩]
theorem tb3_ok : (List.range 40).map (fun t => tiOf Tryz.prog (t + 120)) = tb3 := by kernel_rfl
def tb4 : List (Option TI) := [some ⟨5, false, 1, [], 0, 0, 4, some .i32⟩, some ⟨5, false, 1, [], 0, 0, 4, some .i32⟩, some ⟨1, true, 11, [(0, 12), (1, 12), (2, 79), (3, 157), (4, 5), (5, 5), (6, 158), (7, 159), (8, 85), (9, 160), (10, 161)], 0, 0, 48, none⟩, some ⟨1, true, 11, [(0, 12), (1, 12), (2, 79), (3, 157), (4, 5), (5, 5), (6, 158), (7, 159), (8, 85), (9, 160), (10, 161)], 0, 0, 48, none⟩]
theorem tb4_ok : (List.range 4).map (fun t => tiOf Tryz.prog (t + 160)) = tb4 := by kernel_rfl
def zb0 : List (Option Value) := [none, some (.nilFunc), some (.int .i64 0), some (.int .i64 0), some (.bool false), some (.int .u8 0), some (.int .u8 0), some (.agg #[.int .i64 0, .int .i64 0, .bool false, .int .u8 0]), some (.agg #[.int .i64 0, .int .i64 0, .bool false, .int .u8 0]), some (.string ⟨#[]⟩), some (.string ⟨#[]⟩), some (.string ⟨#[]⟩), some (.int .u64 0), some (.agg #[.string ⟨#[]⟩, .int .u64 0]), some (.agg #[.string ⟨#[]⟩, .int .u64 0]), some (.pointer none), some (.pointer none), some (.pointer none), some (.agg #[.pointer none]), some (.agg #[.pointer none]), some (.nilIface), some (.int .i32 0), some (.slice none 0 0), some (.nilFunc), some (.slice none 0 0), some (.nilFunc), some (.int .i64 0), some (.nilFunc), none, some (.nilFunc), some (.nilFunc), some (.nilFunc), some (.nilFunc), some (.nilFunc), some (.nilFunc), some (.int .u64 0), some (.nilFunc), some (.nilFunc), some (.agg #[.int .i64 0, .int .i64 0]), some (.agg #[.int .i64 0, .int .i64 0])]
theorem zb0_ok : (List.range 40).map (fun t => zrowOf Tryz.prog (t + 0)) = zb0 := by kernel_rfl
def zb1 : List (Option Value) := [none, some (.nilFunc), some (.agg #[.int .i64 0, .string ⟨#[]⟩, .int .i64 0, .int .i64 0, .int .i64 0]), some (.agg #[.int .i64 0, .string ⟨#[]⟩, .int .i64 0, .int .i64 0, .int .i64 0]), some (.nilFunc), some (.nilFunc), some (.nilFunc), some (.nilFunc), some (.slice none 0 0), some (.nilFunc), some (.nilFunc), some (.nilFunc), some (.nilFunc), some (.nilFunc), none, some (.nilFunc), some (.pointer none), some (.slice none 0 0), some (.agg #[.pointer none, .slice none 0 0]), some (.agg #[.pointer none, .slice none 0 0]), some (.nilFunc), some (.nilIface), some (.nilIface), none, some (.nilFunc), some (.nilFunc), some (.nilFunc), some (.nilFunc), some (.nilFunc), some (.nilFunc), some (.nilFunc), none, some (.nilFunc), some (.nilFunc), some (.nilFunc), some (.nilFunc), none, some (.nilFunc), some (.nilFunc), some (.int .u32 0)]
theorem zb1_ok : (List.range 40).map (fun t => zrowOf Tryz.prog (t + 40)) = zb1 := by kernel_rfl
def zb2 : List (Option Value) := [none, some (.nilFunc), some (.int .u64 0), none, some (.nilFunc), some (.pointer none), some (.nilFunc), some (.nilFunc), some (.nilFunc), some (.nilFunc), some (.agg #[.string ⟨#[]⟩, .string ⟨#[]⟩, .string ⟨#[]⟩, .string ⟨#[]⟩, .string ⟨#[]⟩, .string ⟨#[]⟩, .string ⟨#[]⟩, .string ⟨#[]⟩, .string ⟨#[]⟩, .string ⟨#[]⟩, .string ⟨#[]⟩, .string ⟨#[]⟩, .string ⟨#[]⟩, .string ⟨#[]⟩, .string ⟨#[]⟩, .string ⟨#[]⟩]), some (.nilFunc), some (.nilFunc), some (.pointer none), some (.nilFunc), some (.nilFunc), some (.nilFunc), some (.nilFunc), some (.nilFunc), some (.nilFunc), some (.nilFunc), some (.agg #[.string ⟨#[]⟩, .string ⟨#[]⟩, .string ⟨#[]⟩, .string ⟨#[]⟩, .string ⟨#[]⟩, .string ⟨#[]⟩, .string ⟨#[]⟩, .string ⟨#[]⟩, .string ⟨#[]⟩, .string ⟨#[]⟩, .string ⟨#[]⟩, .string ⟨#[]⟩, .string ⟨#[]⟩, .string ⟨#[]⟩, .string ⟨#[]⟩, .string ⟨#[]⟩, .string ⟨#[]⟩, .string ⟨#[]⟩, .string ⟨#[]⟩, .string ⟨#[]⟩, .string ⟨#[]⟩, .string ⟨#[]⟩, .string ⟨#[]⟩, .string ⟨#[]⟩, .string ⟨#[]⟩, .string ⟨#[]⟩, .string ⟨#[]⟩, .string ⟨#[]⟩, .string ⟨#[]⟩, .string ⟨#[]⟩, .string ⟨#[]⟩, .string ⟨#[]⟩, .string ⟨#[]⟩, .string ⟨#[]⟩, .string ⟨#[]⟩]), some (.nilFunc), none, some (.nilFunc), some (.nilFunc), some (.agg #[.int .u8 0, .int .u8 0, .int .u8 0, .int .u8 0, .int .u8 0, .int .u8 0, .int .u8 0, .int .u8 0, .int .u8 0, .int .u8 0, .int .u8 0, .int .u8 0, .int .u8 0, .int .u8 0, .int .u8 0, .int .u8 0, .int .u8 0, .int .u8 0, .int .u8 0, .int .u8 0, .int .u8 0, .int .u8 0, .int .u8 0, .int .u8 0]), some (.nilFunc), some (.nilFunc), none, some (.nilFunc), some (.nilFunc), none, some (.nilFunc), some (.nilFunc), some (.nilFunc), some (.nilFunc), some (.nilFunc), some (.nilFunc), some (.agg #[.int .u64 0, .int .u64 0, .int .u64 0, .int .u64 0, .int .u64 0, .int .u64 0, .int .u64 0, .int .u64 0, .int .u64 0, .int .u64 0, .int .u64 0, .int .u64 0, .int .u64 0, .int .u64 0, .int .u64 0, .int .u64 0, .int .u64 0, .int .u64 0, .int .u64 0, .int .u64 0])]
theorem zb2_ok : (List.range 40).map (fun t => zrowOf Tryz.prog (t + 80)) = zb2 := by kernel_rfl
def zb3 : List (Option Value) := [some (.agg #[.int .u8 0, .int .u8 0, .int .u8 0, .int .u8 0, .int .u8 0, .int .u8 0, .int .u8 0, .int .u8 0, .int .u8 0, .int .u8 0, .int .u8 0, .int .u8 0, .int .u8 0, .int .u8 0, .int .u8 0, .int .u8 0, .int .u8 0, .int .u8 0, .int .u8 0, .int .u8 0, .int .u8 0, .int .u8 0, .int .u8 0, .int .u8 0, .int .u8 0, .int .u8 0, .int .u8 0, .int .u8 0, .int .u8 0, .int .u8 0, .int .u8 0, .int .u8 0, .int .u8 0, .int .u8 0, .int .u8 0, .int .u8 0, .int .u8 0, .int .u8 0, .int .u8 0, .int .u8 0, .int .u8 0, .int .u8 0, .int .u8 0, .int .u8 0, .int .u8 0, .int .u8 0, .int .u8 0, .int .u8 0, .int .u8 0, .int .u8 0, .int .u8 0, .int .u8 0, .int .u8 0, .int .u8 0, .int .u8 0, .int .u8 0, .int .u8 0, .int .u8 0, .int .u8 0, .int .u8 0, .int .u8 0, .int .u8 0, .int .u8 0, .int .u8 0, .int .u8 0]), some (.nilFunc), some (.nilFunc), some (.nilFunc), none, some (.nilFunc), some (.slice none 0 0), some (.int .i64 0), some (.nilFunc), some (.pointer none), some (.nilFunc), some (.nilFunc), some (.nilFunc), none, some (.agg #[.int .u8 0, .int .u8 0]), some (.agg #[.int .u8 0, .int .u8 0]), some (.agg #[.int .u8 0, .int .u8 0, .int .u8 0, .int .u8 0, .int .u8 0, .int .u8 0, .int .u8 0, .int .u8 0, .int .u8 0, .int .u8 0, .int .u8 0, .int .u8 0, .int .u8 0, .int .u8 0, .int .u8 0, .int .u8 0, .int .u8 0, .int .u8 0, .int .u8 0, .int .u8 0, .int .u8 0, .int .u8 0, .int .u8 0, .int .u8 0, .int .u8 0, .int .u8 0, .int .u8 0, .int .u8 0, .int .u8 0, .int .u8 0, .int .u8 0, .int .u8 0]), some (.pointer none), some (.nilFunc), some (.nilFunc), some (.agg #[.string ⟨#[]⟩, .string ⟨#[]⟩, .nilIface]), some (.agg #[.string ⟨#[]⟩, .string ⟨#[]⟩, .nilIface]), some (.nilFunc), some (.agg #[.int .u8 0, .int .u8 0, .int .u8 0, .int .u8 0, .int .u8 0, .int .u8 0, .int .u8 0, .int .u8 0, .int .u8 0, .int .u8 0, .int .u8 0, .int .u8 0, .int .u8 0, .int .u8 0, .int .u8 0, .int .u8 0, .int .u8 0, .int .u8 0, .int .u8 0, .int .u8 0, .int .u8 0, .int .u8 0, .int .u8 0, .int .u8 0, .int .u8 0, .int .u8 0, .int .u8 0, .int .u8 0, .int .u8 0, .int .u8 0, .int .u8 0, .int .u8 0]), some (.agg #[.int .u8 0, .int .u8 0, .int .u8 0, .int .u8 0, .int .u8 0, .int .u8 0, .int .u8 0, .int .u8 0, .int .u8 0, .int .u8 0, .int .u8 0, .int .u8 0, .int .u8 0, .int .u8 0, .int .u8 0, .int .u8 0, .int .u8 0, .int .u8 0, .int .u8 0, .int .u8 0, .int .u8 0, .int .u8 0, .int .u8 0, .int .u8 0, .int .u8 0, .int .u8 0, .int .u8 0, .int .u8 0, .int .u8 0, .int .u8 0, .int .u8 0, .int .u8 0, .int .u8 0, .int .u8 0, .int .u8 0, .int .u8 0, .int .u8 0, .int .u8 0, .int .u8 0, .int .u8 0, .int .u8 0, .int .u8 0, .int .u8 0, .int .u8 0, .int .u8 0, .int .u8 0, .int .u8 0, .int .u8 0, .int .u8 0, .int .u8 0, .int .u8 0, .int .u8 0, .int .u8 0, .int .u8 0, .int .u8 0, .int .u8 0, .int .u8 0, .int .u8 0, .int .u8 0, .int .u8 0, .int .u8 0, .int .u8 0, .int .u8 0, .int .u8 0]), some (.agg #[.int .i32 0, .int .i32 0, .int .i32 0]), some (.agg #[.int .i32 0, .int .i32 0, .int .i32 0]), some (.agg #[.int .u32 0, .int .u32 0, .int .i32 0, .int .i32 0, .int .i32 0]), some (.agg #[.int .u32 0, .int .u32 0, .int .i32 0, .int .i32 0, .int .i32 0]), some (.pointer none), some (.agg #[.string ⟨#[]⟩]), some (.agg #[.string ⟨#[]⟩]), some (.agg #[.pointer none, .pointer none, .pointer none, .string ⟨#[]⟩]), some (.agg #[.pointer none, .pointer none, .pointer none, .string ⟨#[]⟩]), some (.agg #[]), some (.agg #[]), some (.agg #[]), some (.int .u8 0), some (.int .u8 0), some (.nilFunc)]
theorem zb3_ok : (List.range 40).map (fun t => zrowOf Tryz.prog (t + 120)) = zb3 := by kernel_rfl
def zb4 : List (Option Value) := [some (.int .i32 0), some (.int .i32 0), some (.agg #[.int .u64 0, .int .u64 0, .int .u32 0, .int .u8 0, .int .u8 0, .int .u8 0, .int .u8 0, .nilFunc, .pointer none, .int .i32 0, .int .i32 0]), some (.agg #[.int .u64 0, .int .u64 0, .int .u32 0, .int .u8 0, .int .u8 0, .int .u8 0, .int .u8 0, .nilFunc, .pointer none, .int .i32 0, .int .i32 0])]
theorem zb4_ok : (List.range 4).map (fun t => zrowOf Tryz.prog (t + 160)) = zb4 := by kernel_rfl
def tg (t : Nat) : Option TI := (match t / 40 with | 0 => tb0 | 1 => tb1 | 2 => tb2 | 3 => tb3 | 4 => tb4 | _ => [])[t % 40]?.join
def zg (t : Nat) : Option Value := (match t / 40 with | 0 => zb0 | 1 => zb1 | 2 => zb2 | 3 => zb3 | 4 => zb4 | _ => [])[t % 40]?.join
theorem zfin {t : Nat} {x : Value} (h : zrowOf Tryz.prog t = some x) : (Tryz.prog.info? t).map (·.zero) = some (some x) := by
  unfold zrowOf at h
  split at h
  · cases hi : Tryz.prog.info? t with
    | none => simp [hi] at h
    | some i => simp [hi] at h ⊢; exact h
  · cases h
theorem tT {t : Nat} {x : TI} (h : tg t = some x) : tiOf Tryz.prog t = some x := by
  unfold tg at h
  have ht : t = t % 40 + 40 * (t / 40) := by omega
  generalize t % 40 = r at h ht
  generalize t / 40 = q at h ht
  subst ht
  split at h
  · rw [Option.join_eq_some_iff] at h
    exact tb_at (k := 0) tb0_ok h
  · rw [Option.join_eq_some_iff] at h
    exact tb_at (k := 40) tb1_ok h
  · rw [Option.join_eq_some_iff] at h
    exact tb_at (k := 80) tb2_ok h
  · rw [Option.join_eq_some_iff] at h
    exact tb_at (k := 120) tb3_ok h
  · rw [Option.join_eq_some_iff] at h
    exact tb_at (k := 160) tb4_ok h
  · simp at h
theorem zT {t : Nat} {x : Value} (h : zg t = some x) : (Tryz.prog.info? t).map (·.zero) = some (some x) := by
  unfold zg at h
  have ht : t = t % 40 + 40 * (t / 40) := by omega
  generalize t % 40 = r at h ht
  generalize t / 40 = q at h ht
  subst ht
  split at h
  · rw [Option.join_eq_some_iff] at h
    exact zfin (tb_at (k := 0) zb0_ok h)
  · rw [Option.join_eq_some_iff] at h
    exact zfin (tb_at (k := 40) zb1_ok h)
  · rw [Option.join_eq_some_iff] at h
    exact zfin (tb_at (k := 80) zb2_ok h)
  · rw [Option.join_eq_some_iff] at h
    exact zfin (tb_at (k := 120) zb3_ok h)
  · rw [Option.join_eq_some_iff] at h
    exact zfin (tb_at (k := 160) zb4_ok h)
  · simp at h
end Go.Proofs.YtekpmlfcmnlmiaaGreatDoor

namespace Go.Proofs.YtekpmlfcmnlmiaaGreatDoor
open Go.RowKit
set_option linter.unusedVariables false
set_option linter.unusedSimpArgs false

def tabX : Tab := fun t => match tg t with
  | some x => some (x, zg t)
  | none => none
theorem tabX_ok : TabOk Tryz.prog tabX where
  ty t x z h := by
    unfold tabX at h
    split at h
    · rename_i y hy
      simp only [Option.some.injEq, Prod.mk.injEq] at h
      obtain ⟨rfl, rfl⟩ := h
      exact ⟨tT hy, fun v hv => zT hv⟩
    · cases h
  mo := by kernel_rfl
end Go.Proofs.YtekpmlfcmnlmiaaGreatDoor

namespace Go.Proofs.YtekpmlfcmnlmiaaGreatDoor
open Go.RowKit
set_option linter.unusedVariables false
set_option linter.unusedSimpArgs false

theorem wr_i64 (x : Int) : IntKind.i64.wrap x = (x + 9223372036854775808) % 18446744073709551616 - 9223372036854775808 := by
  have e1 : (2 : Int) ^ 64 = 18446744073709551616 := by decide
  have e2 : (2 : Int) ^ (64 - 1) = 9223372036854775808 := by decide
  simp only [IntKind.wrap, IntKind.bits, IntKind.signed, Bool.true_and, decide_eq_true_eq, e1, e2]
  by_cases hx : x % 18446744073709551616 ≥ 9223372036854775808
  · rw [if_pos hx]; omega
  · rw [if_neg hx]; omega
theorem wr_u64 (x : Int) : IntKind.u64.wrap x = x % 18446744073709551616 := by
  simp only [IntKind.wrap, IntKind.bits, IntKind.signed]; simp
theorem wr_u8 (x : Int) : IntKind.u8.wrap x = x % 256 := by
  simp only [IntKind.wrap, IntKind.bits, IntKind.signed]; simp
theorem wr_i32 (x : Int) : IntKind.i32.wrap x = (x + 2147483648) % 4294967296 - 2147483648 := by
  have e1 : (2 : Int) ^ 32 = 4294967296 := by decide
  have e2 : (2 : Int) ^ (32 - 1) = 2147483648 := by decide
  simp only [IntKind.wrap, IntKind.bits, IntKind.signed, Bool.true_and, decide_eq_true_eq, e1, e2]
  by_cases hx : x % 4294967296 ≥ 2147483648
  · rw [if_pos hx]; omega
  · rw [if_neg hx]; omega
theorem wr_u32 (x : Int) : IntKind.u32.wrap x = x % 4294967296 := by
  simp only [IntKind.wrap, IntKind.bits, IntKind.signed]; simp
theorem wrs : (∀ x : Int, IntKind.i64.wrap x = (x + 9223372036854775808) % 18446744073709551616 - 9223372036854775808) ∧ (∀ x : Int, IntKind.u64.wrap x = x % 18446744073709551616) ∧ (∀ x : Int, IntKind.u8.wrap x = x % 256) ∧ (∀ x : Int, IntKind.i32.wrap x = (x + 2147483648) % 4294967296 - 2147483648) ∧ (∀ x : Int, IntKind.u32.wrap x = x % 4294967296) := ⟨wr_i64, wr_u64, wr_u8, wr_i32, wr_u32⟩
theorem wz : (∀ x : Int, -9223372036854775808 ≤ x → x < 9223372036854775808 → IntKind.i64.wrap x = x) ∧ (∀ x : Int, 0 ≤ x → x < 18446744073709551616 → IntKind.u64.wrap x = x) ∧ (∀ x : Int, 0 ≤ x → x < 256 → IntKind.u8.wrap x = x) ∧ (∀ x : Int, -2147483648 ≤ x → x < 2147483648 → IntKind.i32.wrap x = x) ∧ (∀ x : Int, 0 ≤ x → x < 4294967296 → IntKind.u32.wrap x = x) :=
  ⟨fun x h1 h2 => by rw [wr_i64]; omega, fun x h1 h2 => by rw [wr_u64]; omega, fun x h1 h2 => by rw [wr_u8]; omega, fun x h1 h2 => by rw [wr_i32]; omega, fun x h1 h2 => by rw [wr_u32]; omega⟩
/-- Truths in their plain form. -/
theorem bls : (∀ (p : Prop) [Decidable p], (decide p = true) = p) ∧ (∀ (p : Prop) [Decidable p], (decide p = false) = ¬ p) ∧ (∀ b : Bool, ((!b) = true) = (b = false)) ∧ (∀ b : Bool, ((!b) = false) = (b = true)) ∧ (∀ a b : Bool, ((a && b) = true) = (a = true ∧ b = true)) ∧ (∀ a b : Bool, ((a || b) = true) = (a = true ∨ b = true)) ∧ (∀ a b : Bool, ((a || b) = false) = (a = false ∧ b = false)) ∧
    (∀ {α : Type} [BEq α] [LawfulBEq α] (a b : α), ((a == b) = true) = (a = b)) ∧ (∀ {α : Type} [BEq α] [LawfulBEq α] (a b : α), ((a == b) = false) = ¬ (a = b)) ∧ (∀ a b : Int, (¬ a < b) = (b ≤ a)) ∧ (∀ a b : Int, (¬ a ≤ b) = (b < a)) ∧ (∀ a b : ByteArray, (bsEq a b = true) = (bs a = bs b)) ∧ (∀ a b : ByteArray, (bsEq a b = false) = ¬ (bs a = bs b)) ∧ (bs ⟨#[]⟩ = []) ∧
    (∀ {α β : Type} (f : α → β) (l : List α), (l.map f).length = l.length) ∧ (∀ {α : Type} (a b : List α), (a ++ b).length = a.length + b.length) ∧ (∀ {α : Type} (n : Nat) (a : List α), (a.take n).length = min n a.length) ∧ (∀ {α : Type} (n : Nat) (a : List α), (a.drop n).length = a.length - n) :=
  ⟨fun _ _ => by simp, fun _ _ => by simp, fun _ => by simp, fun _ => by simp, fun _ _ => by simp, fun _ _ => by simp, fun _ _ => by simp, fun _ _ => by simp, fun _ _ => by simp, fun _ _ => by simp, fun _ _ => by simp, bsEq_t, bsEq_f, rfl, fun _ _ => List.length_map _, fun _ _ => List.length_append, fun _ _ => List.length_take, fun _ _ => List.length_drop⟩
theorem Out_row_slI {h : List LB} {q : Option Nat} {i : Nat} {b : Bool} {els : List (List TV)} : Out h q (.row i) (.sl b els) ↔ (∃ e sz, hf h i = .row e sz els) ∧ FrLL els ∧ q ≠ some i ∧ b = true := by
  simp only [Out]
  constructor
  · rintro ⟨e, sz, els', h1, h2, ⟨_, h3⟩ | ⟨h3, h4⟩⟩
    · cases h3
    · injection h4 with h4 h5
      subst h5
      exact ⟨⟨e, sz, h1⟩, h2, h3, h4⟩
  · rintro ⟨⟨e, sz, h1⟩, h2, h3, rfl⟩
    exact ⟨e, sz, els, h1, h2, .inr ⟨h3, rfl⟩⟩
/-- What is handed out, in its plain form. -/
theorem outs : (∀ t h, (XV.p t h).den = t) ∧ (XV.any.den = .any) ∧ (∀ i, (XV.row i).den = .row i) ∧ (∀ vs, (XV.ag vs).den = .agg (XV.denL vs)) ∧ (∀ vs, (XV.tu vs).den = .tup (XV.denL vs)) ∧ (∀ e sz els h, (XV.ow e sz els h).den = .osl e sz els) ∧ (XV.denL [] = []) ∧ (∀ v vs, XV.denL (v :: vs) = v.den :: XV.denL vs) ∧
    (XLB.none.den = .none) ∧ (∀ t cs, (XLB.cells t cs).den = .cells t (XV.denL cs)) ∧ (∀ e sz els h, (XLB.row e sz els h).den = .row e sz els) ∧ (∀ {α β : Type} (f : α → β) (a : α) (l : List α), (a :: l).map f = f a :: l.map f) ∧ (∀ {α β : Type} (f : α → β), [].map f = []) ∧
    (∀ h q x y, Out h q (.v x) (.v y) ↔ x = y) ∧ (∀ h q ts rs, Out h q (.agg ts) (.agg rs) ↔ OutL h q ts rs) ∧ (∀ h q ts rs, Out h q (.tup ts) (.tup rs) ↔ OutL h q ts rs) ∧ (∀ h q, OutL h q [] [] ↔ True) ∧ (∀ h q t r ts rs, OutL h q (t :: ts) (r :: rs) ↔ Out h q t r ∧ OutL h q ts rs) ∧
    (∀ h q b els b' els', Out h q (.sl b els) (.sl b' els') ↔ b = true ∧ FrLL els ∧ b' = true ∧ els = els') ∧ (∀ h q i e sz els, Out h q (.row i) (.osl e sz els) ↔ hf h i = .row e sz els ∧ FrLL els ∧ q = some i) ∧ (∀ h q i b els, Out h q (.row i) (.sl b els) ↔ (∃ e sz, hf h i = .row e sz els) ∧ FrLL els ∧ q ≠ some i ∧ b = true) ∧ (∀ h q e sz els, Out h q .nil_ (.osl e sz els) ↔ q = none ∧ els = []) ∧ (∀ h q b els, Out h q .nil_ (.sl b els) ↔ b = true ∧ els = []) ∧ (∀ h q, Out h q .nil_ .nil_ ↔ True) ∧
    (∀ x l, hf (x :: l) 0 = x) ∧ (∀ x l n, hf (x :: l) (n + 1) = hf l n) ∧ (∀ p, (p ∧ True) = p) ∧ (∀ p, (True ∧ p) = p) :=
  ⟨fun _ _ => rfl, rfl, fun _ => rfl, fun _ => rfl, fun _ => rfl, fun _ _ _ _ => rfl, rfl, fun _ _ => rfl, rfl, fun _ _ => rfl, fun _ _ _ _ => rfl, fun _ _ _ => rfl, fun _ => rfl, fun _ _ _ _ => Out_v, fun _ _ _ _ => Out_agg, fun _ _ _ _ => Out_tup, fun _ _ => OutL_nil, fun _ _ _ _ _ _ => OutL_cons, fun _ _ _ _ _ _ => Out_sl, fun _ _ _ _ _ _ => Out_row_osl, fun _ _ _ _ _ => Out_row_slI, fun _ _ _ _ _ => Out_nil_osl, fun _ _ _ _ => Out_nil_sl, fun _ _ => Out_nil_nil, fun _ _ => rfl, fun _ _ _ => rfl, fun _ => and_true _, fun _ => true_and _⟩
theorem OutL.nil {h : List LB} {q : Option Nat} : OutL h q [] [] := by simp [OutL]
theorem OutL.cons {h : List LB} {q : Option Nat} {t r : TV} {ts rs : List TV} (h1 : Out h q t r) (h2 : OutL h q ts rs) : OutL h q (t :: ts) (r :: rs) := OutL_cons.2 ⟨h1, h2⟩
theorem Out.v {h : List LB} {q : Option Nat} {x y : Value} (e : x = y) : Out h q (.v x) (.v y) := Out_v.2 e
theorem Out.agg {h : List LB} {q : Option Nat} {ts rs : List TV} (h1 : OutL h q ts rs) : Out h q (.agg ts) (.agg rs) := Out_agg.2 h1
theorem Out.tup {h : List LB} {q : Option Nat} {ts rs : List TV} (h1 : OutL h q ts rs) : Out h q (.tup ts) (.tup rs) := Out_tup.2 h1
theorem IdxG.map {α : Type} {f : α → List TV} {l : List α} {hp : NlLL (l.map f)} {m : Int} {k : Nat → (c : List TV) → NlL c → Prop} (j : Nat) (hm : m = (j : Int)) (hj : j < l.length) (hk : ∀ x (hx : l[j]? = some x) (hc : NlL (f x)), k j (f x) hc) : IdxG (l.map f) hp m k := by
  have hx : l[j]? = some l[j] := List.getElem?_eq_getElem hj
  exact IdxG.mk (j := j) (c := f l[j]) (by rw [List.getElem?_map, hx]; rfl) hm (hk _ hx _)
end Go.Proofs.YtekpmlfcmnlmiaaGreatDoor
