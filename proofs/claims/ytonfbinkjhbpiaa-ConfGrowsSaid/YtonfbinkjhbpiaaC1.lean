/- The walks of the conf layer's crews: sets of bits. No condition. -/
import Derived.Test.YtonfbinkjhbpiaaBase
import Derived.Laws.BitsAllLaws
namespace Go.Proofs.Ytonfbinkjhbpiaa
open Go.RowKit
set_option linter.unusedVariables false

/-- A number alone, as a bit; nothing, if it is no member's. -/
def oneN (m : Int) : Nat := if m = 1 then 2 else if m = 2 then 4 else if m = 3 then 8 else if m = 4 then 16 else if m = 5 then 32 else 0
/-- Is a number in it? -/
def hasB (X : Nat) (m : Int) : Bool := X &&& oneN m != 0
/-- The numbers in it, rising. -/
def memS (X : Nat) : List Int := [1, 2, 3, 4, 5].filter (hasB X)

theorem oneN_lt (m : Int) : oneN m < 64 := by
  unfold oneN
  repeat' split
  all_goals omega
theorem six (m : Int) : m < 0 ∨ m = 0 ∨ m = 1 ∨ m = 2 ∨ m = 3 ∨ m = 4 ∨ m = 5 ∨ 5 < m := by omega

set_option maxHeartbeats 800000 in
theorem one_any (m : Int) (w : World) : Calls Try.prog 46 #[.int .i64 m] w fun e w' => e = .returned (.int .u64 (oneN m)) ∧ w = w' := by
  rcases six m with h | rfl | rfl | rfl | rfl | rfl | rfl | h
  · have H : Hid (oneN m = 0) := by unfold Hid oneN; repeat' (rw [if_neg (by omega)])
    go_enter Try.func46, Try.ntmps46
    go_wp2
    go_ret
    exact ⟨by rw [H.out]; rfl, rfl⟩
  iterate 6
    · go_enter Try.func46, Try.ntmps46
      go_wp2
      go_ret
      exact ⟨by first | rfl | decide, rfl⟩
  · have H : Hid (oneN m = 0) := by unfold Hid oneN; repeat' (rw [if_neg (by omega)])
    go_enter Try.func46, Try.ntmps46
    go_wp2
    go_ret
    exact ⟨by rw [H.out]; rfl, rfl⟩

theorem and_lt64 (X Y : Nat) (h : Y < 64) : X &&& Y < 64 := Nat.lt_of_le_of_lt Nat.and_le_right h
theorem or_lt64 (X Y : Nat) (h : X < 64) (k : Y < 64) : X ||| Y < 64 := Nat.or_lt_two_pow (n := 6) h k
theorem bits_and (X Y : Nat) (h : X < 64) (k : Y < 64) : bits .and .u64 (X : Int) (Y : Int) = ((X &&& Y : Nat) : Int) := u64_and_nat X Y (by omega) (by omega)
theorem bits_or (X Y : Nat) (h : X < 64) (k : Y < 64) : bits .or .u64 (X : Int) (Y : Int) = ((X ||| Y : Nat) : Int) := u64_or_nat X Y (by omega) (by omega)
theorem bits_xor (X Y : Nat) (h : X < 64) (k : Y < 64) : bits .xor .u64 (X : Int) (Y : Int) = ((X ^^^ Y : Nat) : Int) := u64_xor_nat X Y (by omega) (by omega)

theorem has_any (X : Nat) (hX : X < 64) (m : Int) (w : World) : Calls Try.prog 41 #[.int .u64 X, .int .i64 m] w fun e w' => e = .returned (.bool (hasB X m)) ∧ w = w' := by
  have hb := bits_and X (oneN m) hX (oneN_lt m)
  go_enter Try.func41, Try.ntmps41
  go_wp2_with (go_at_call 46; refine (one_any m w).mono ?_; rintro e w1 ⟨rfl, rfl⟩)
  go_ret
  refine ⟨ret_bool ?_, rfl⟩
  unfold hasB
  rw [bne, bne]
  congr 1
  by_cases h : X &&& oneN m = 0
  · rw [h]; rfl
  · rw [beq_eq_false_iff_ne.2 h, beq_eq_false_iff_ne.2 (by omega)]

/-- Numbers as bits. -/
def ofS (l : List Int) : Nat := l.foldl (fun x m => x ||| oneN m) 0
theorem ofS_snoc (l : List Int) (m : Int) : ofS (l ++ [m]) = ofS l ||| oneN m := by simp [ofS]
theorem ofS_lt (l : List Int) : ofS l < 64 := by
  suffices h : ∀ (l : List Int) (x : Nat), x < 64 → l.foldl (fun x m => x ||| oneN m) x < 64 from h l 0 (by omega)
  intro l
  induction l with
  | nil => intro x h; exact h
  | cons m l ih => intro x h; exact ih _ (or_lt64 _ _ h (oneN_lt m))

set_option maxHeartbeats 400000 in
theorem of_any {e1 : Option TypeId} (A : Option Addr) (n cap : Nat) (l : List Int) (w : World) (hs : Sees w e1 1 A n (ib .i64 l)) (hn : n ≤ 1000000000000) :
    Calls Try.prog 43 #[.slice A n cap] w fun e w' => e = .returned (.int .u64 (ofS l)) ∧ w = w' := by
  have HL := Lib.hid hs.len
  go_enter Try.func43, Try.ntmps43
  go_wp2
  go_loop [2, 4, 7] (fun s _ i => ∃ k : Nat, k ≤ n ∧ i = .int .i64 k ∧ s = .int .u64 (ofS (l.take k))) (fun _ _ i => n - (intOf i).toNat)
  case atStart => exact ⟨0, Nat.zero_le _, rfl, rfl⟩
  case round =>
    obtain ⟨k, hk, rfl, rfl⟩ := hrel
    by_cases hlt : k < n
    · obtain ⟨ad, u, rfl, hu, hc⟩ := hs.at_ hlt
      obtain ⟨x, hx, rfl⟩ := ib_get hu
      have HS := Lib.hid (take_snoc hx)
      have HB := Lib.hid (bits_or (ofS (l.take k)) (oneN x) (ofS_lt _) (oneN_lt _))
      clear hx hu
      go_wp2_with (go_at_call 46; refine (one_any x w).mono ?_; rintro e w1 ⟨rfl, rfl⟩)
      go_round
      case rel => exact ⟨k + 1, by omega, by go_num, by rw [HS.out, ofS_snoc, ← HB.out]⟩
      case measure => simp [intOf]; omega
    · go_wp2
      go_ret
      exact ⟨ret_int (by rw [take_all (by have := HL.out; omega)]), rfl⟩

/-- How many they are. -/
def sizeN (X : Nat) : Nat := (memS X).length
theorem lt64 (X : Nat) (h : X < 64) : X ∈ List.range 64 := List.mem_range.2 h

set_option maxRecDepth 100000 in
set_option maxHeartbeats 4000000 in
theorem ones64_any (X : Nat) (hX : X < 64) (h2 : X % 2 = 0) (w : World) : Calls Try.prog 54 #[.int .u64 X] w fun e w' => e = .returned (.int .i64 (sizeN X)) ∧ w = w' := by
  have HX := Lib.hid hX
  have H2 := Lib.hid h2
  clear hX h2
  go_enter Try.func54, Try.ntmps54
  go_wp2
  go_ret
  refine ⟨ret_int ?_, rfl⟩
  have h : X = 0 ∨ X = 2 ∨ X = 4 ∨ X = 6 ∨ X = 8 ∨ X = 10 ∨ X = 12 ∨ X = 14 ∨ X = 16 ∨ X = 18 ∨ X = 20 ∨ X = 22 ∨ X = 24 ∨ X = 26 ∨ X = 28 ∨ X = 30 ∨ X = 32 ∨ X = 34 ∨ X = 36 ∨ X = 38 ∨ X = 40 ∨ X = 42 ∨ X = 44 ∨ X = 46 ∨ X = 48 ∨ X = 50 ∨ X = 52 ∨ X = 54 ∨ X = 56 ∨ X = 58 ∨ X = 60 ∨ X = 62 := by have h1 := HX.out; have h2 := H2.out; omega
  rcases h with rfl | rfl | rfl | rfl | rfl | rfl | rfl | rfl | rfl | rfl | rfl | rfl | rfl | rfl | rfl | rfl | rfl | rfl | rfl | rfl | rfl | rfl | rfl | rfl | rfl | rfl | rfl | rfl | rfl | rfl | rfl | rfl <;> decide +kernel
end Go.Proofs.Ytonfbinkjhbpiaa
