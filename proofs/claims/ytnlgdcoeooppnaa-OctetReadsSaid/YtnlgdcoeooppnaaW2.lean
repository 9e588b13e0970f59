/- The walks of the octet layer: which bytes are the same, numbers of bytes, bytes of numbers, by the references. No condition. -/
import Derived.Test.YtnlgdcoeooppnaaW1
import Derived.Deep.QuietTactic
namespace Go.Proofs.Ytnlgdcoeooppnaa
open Go.RowKit
set_option linter.unusedVariables false

/-- Are these the same? -/
def eqB (l m : List Int) : Bool := decide (l = m)
theorem eqB_true {l m : List Int} (h : l = m) : eqB l m = true := by simp [eqB, h]
theorem eqB_false {l m : List Int} (h : l ≠ m) : eqB l m = false := by simp [eqB, h]
theorem ret_bool {a b : Bool} (h : a = b) : Ending.returned (.bool a) = .returned (.bool b) := by rw [h]

set_option maxHeartbeats 400000 in
theorem same_any (A B : Option Addr) (n c m d : Nat) (l r : List Int) (w : World) {e1 : Option TypeId} (hs : Sees w e1 1 A n (ib .u8 l)) {e2 : Option TypeId} (hr : Sees w e2 1 B m (ib .u8 r)) (hn : n ≤ 1000000000000) :
    Calls Try.prog 17 #[.slice A n c, .slice B m d] w fun e w' => e = .returned (.bool (eqB l r)) ∧ ∃ nq, w' = w.drewN nq := by
  have HL := Lib.hid hs.len
  have HR := Lib.hid hr.len
  by_cases hnm : n = m
  · subst hnm
    go_enter Try.func17, Try.ntmps17
    go_wp2
    go_loopw [5, 13] (fun _ i wr => ∃ (k q : Nat), k ≤ n ∧ i = .int .i64 k ∧ Hid (l.take k = r.take k) ∧ wr = w.drewN q) (fun _ i _ => n - (intOf i).toNat)
    case atStart => exact ⟨0, 0, by omega, rfl, by simp [Hid], rfl⟩
    case round =>
      obtain ⟨k, q, hk, rfl, HT, rfl⟩ := hrel
      by_cases hlt : k < n
      · obtain ⟨ad, u, rfl, hu, hc⟩ := hs.at_ hlt
        obtain ⟨x, hx, rfl⟩ := ib_get hu
        obtain ⟨ad2, u2, rfl, hu2, hc2⟩ := hr.at_ hlt
        obtain ⟨y, hy, rfl⟩ := ib_get hu2
        have HX := Lib.hid hx
        have HY := Lib.hid hy
        clear hx hy hu hu2
        have hkI : (k : Int) < n := by omega
        by_cases hxy : x = y
        · subst hxy
          go_wp2_with fail
          go_quiet (fail)
          go_wp2
          go_roundw
          case rel => exact ⟨k + 1, q + nq, by omega, by go_num, by unfold Hid; rw [take_snoc HX.out, take_snoc HY.out, HT.out], by simp⟩
          case measure => simp [intOf]; omega
        · have hb : (x == y) = false := by simpa using hxy
          have hb2 : (x != y) = true := by simpa using hxy
          go_wp2_with fail
          go_quiet (fail)
          go_wp2
          go_ret
          refine ⟨ret_bool (eqB_false fun e => ?_).symm, q + nq, by simp⟩
          subst e
          exact hxy (Option.some.inj (HX.out.symm.trans HY.out))
      · go_wp2
        go_ret
        obtain rfl : k = n := by omega
        refine ⟨ret_bool (eqB_true ?_).symm, _, rfl⟩
        have h := HT.out
        rwa [List.take_of_length_le (by have := HL.out; omega), List.take_of_length_le (by have := HR.out; omega)] at h
  · have hb : ((n : Int) == (m : Int)) = false := by simp; omega
    have hb2 : ((n : Int) != (m : Int)) = true := by simp; omega
    go_enter Try.func17, Try.ntmps17
    go_wp2
    go_ret
    refine ⟨ret_bool (eqB_false fun e => ?_).symm, 0, rfl⟩
    subst e
    exact hnm (HL.out.symm.trans HR.out)

set_option maxHeartbeats 400000 in
theorem equalIn_any (A B : Option Addr) (n c m d : Nat) (l r : List Int) (w : World) {e1 : Option TypeId} (hs : Sees w e1 1 A n (ib .u8 l)) {e2 : Option TypeId} (hr : Sees w e2 1 B m (ib .u8 r)) (hn : n ≤ 1000000000000) :
    Calls Try.prog 46 #[.slice A n c, .slice B m d] w fun e w' => e = .returned (.bool (eqB l r)) ∧ ∃ nq, w' = w.drewN nq := by
  have HL := Lib.hid hs.len
  have HR := Lib.hid hr.len
  by_cases hnm : n = m
  · subst hnm
    go_enter Try.func46, Try.ntmps46
    go_wp2
    go_loopw [5, 13] (fun _ i wr => ∃ (k q : Nat), k ≤ n ∧ i = .int .i64 k ∧ Hid (l.take k = r.take k) ∧ wr = w.drewN q) (fun _ i _ => n - (intOf i).toNat)
    case atStart => exact ⟨0, 0, by omega, rfl, by simp [Hid], rfl⟩
    case round =>
      obtain ⟨k, q, hk, rfl, HT, rfl⟩ := hrel
      by_cases hlt : k < n
      · obtain ⟨ad, u, rfl, hu, hc⟩ := hs.at_ hlt
        obtain ⟨x, hx, rfl⟩ := ib_get hu
        obtain ⟨ad2, u2, rfl, hu2, hc2⟩ := hr.at_ hlt
        obtain ⟨y, hy, rfl⟩ := ib_get hu2
        have HX := Lib.hid hx
        have HY := Lib.hid hy
        clear hx hy hu hu2
        have hkI : (k : Int) < n := by omega
        by_cases hxy : x = y
        · subst hxy
          go_wp2_with fail
          go_quiet (fail)
          go_wp2
          go_roundw
          case rel => exact ⟨k + 1, q + nq, by omega, by go_num, by unfold Hid; rw [take_snoc HX.out, take_snoc HY.out, HT.out], by simp⟩
          case measure => simp [intOf]; omega
        · have hb : (x == y) = false := by simpa using hxy
          have hb2 : (x != y) = true := by simpa using hxy
          go_wp2_with fail
          go_quiet (fail)
          go_wp2
          go_ret
          refine ⟨ret_bool (eqB_false fun e => ?_).symm, q + nq, by simp⟩
          subst e
          exact hxy (Option.some.inj (HX.out.symm.trans HY.out))
      · go_wp2
        go_ret
        obtain rfl : k = n := by omega
        refine ⟨ret_bool (eqB_true ?_).symm, _, rfl⟩
        have h := HT.out
        rwa [List.take_of_length_le (by have := HL.out; omega), List.take_of_length_le (by have := HR.out; omega)] at h
  · have hb : ((n : Int) == (m : Int)) = false := by simp; omega
    have hb2 : ((n : Int) != (m : Int)) = true := by simp; omega
    go_enter Try.func46, Try.ntmps46
    go_wp2
    go_ret
    refine ⟨ret_bool (eqB_false fun e => ?_).symm, 0, rfl⟩
    subst e
    exact hnm (HL.out.symm.trans HR.out)

theorem equal_any (A B : Option Addr) (n c m d : Nat) (l r : List Int) (w : World) {e1 : Option TypeId} (hs : Sees w e1 1 A n (ib .u8 l)) {e2 : Option TypeId} (hr : Sees w e2 1 B m (ib .u8 r)) (hn : n ≤ 1000000000000) :
    Calls Try.prog 26 #[.slice A n c, .slice B m d] w fun e w' => e = .returned (.bool (eqB l r)) ∧ ∃ nq, w' = w.drewN nq := by
  go_enter Try.func26, Try.ntmps26
  go_wp2_with (go_at_call 46; refine (equalIn_any A B n c m d l r w hs hr hn).mono ?_; rintro e w1 ⟨rfl, nq, rfl⟩)
  go_ret
  exact ⟨rfl, nq, rfl⟩

set_option maxHeartbeats 400000 in
theorem rcount_any (A : Option Addr) (n cap : Nat) (l : List Int) (c : Int) (w : World) {e1 : Option TypeId} (hs : Sees w e1 1 A n (ib .u8 l)) (hn : n ≤ 1000000000000) :
    Calls Try.prog 27 #[.slice A n cap, .int .u8 c] w fun e w' => e = .returned (.int .i64 (l.count c)) ∧ w = w' := by
  have HL := Lib.hid hs.len
  go_enter Try.func27, Try.ntmps27
  go_wp2
  go_loop [5, 6, 9] (fun s _ i => ∃ k : Nat, k ≤ n ∧ i = .int .i64 k ∧ s = .int .i64 ((l.take k).count c)) (fun _ _ i => n - (intOf i).toNat)
  case atStart => exact ⟨0, Nat.zero_le _, rfl, rfl⟩
  case round =>
    obtain ⟨k, hk, rfl, rfl⟩ := hrel
    by_cases hlt : k < n
    · obtain ⟨ad, u, rfl, hu, hc⟩ := hs.at_ hlt
      obtain ⟨x, hx, rfl⟩ := ib_get hu
      have hcl := take_count_le l c k
      have HS := Lib.hid (take_snoc hx)
      clear hx hu
      go_wp2
      all_goals
        go_round
        case rel => exact ⟨k + 1, by omega, by go_num, by rw [HS.out, count_snoc]; simp [*]⟩
        case measure => simp [intOf]; omega
    · go_wp2
      go_ret
      exact ⟨ret_int (by rw [List.take_of_length_le (by have := HL.out; omega)]), rfl⟩

set_option maxHeartbeats 400000 in
theorem both_any (A B : Option Addr) (n c m d : Nat) (l r : List Int) (w : World) {e1 : Option TypeId} (hs : Sees w e1 1 A n (ib .u8 l)) {e2 : Option TypeId} (hr : Sees w e2 1 B m (ib .u8 r)) (hn : n ≤ 1000000000000) (hm : m ≤ 1000000000000) :
    Calls Try.prog 18 #[.slice A n c, .slice B m d] w fun e w' => ∃ A' c', e = .returned (.slice A' (n + m) c') ∧ w'.ownsRow w.heap.size 5 1 (.slice A' (n + m) c') (n + m) (ib .u8 (l ++ r)) ∧ Below w.heap.size w w' := by
  go_enter Try.func18, Try.ntmps18
  go_wp2_with (at_make; refine Door.enter ?_)
  refine Door.leave (wl_make ty_bytes (base := w.heap.size) (n := 0) (c := n + m) rfl (by omega) (by omega) (by omega) (Nat.le_refl _) rfl rfl rfl rfl rfl ?_)
  intro A1 w1 hown1 hb1 _
  go_wp2_with (at_builtin; refine Door.enter ?_)
  refine Door.leave (wl_append ty_bytes hown1 (hs.below hb1) (Nat.zero_add _) (List.nil_append _) (ib_one _ _) (by omega) hb1.size rfl rfl rfl rfl ?_)
  intro A2 c2 w2 hown2 hb2 _ _
  have hb3 := hb1.trans hb2
  go_wp2_with (at_builtin; refine Door.enter ?_)
  refine Door.leave (wl_append ty_bytes hown2 (hr.below hb3) rfl (zs := ib .u8 (l ++ r)) (by simp [ib]) (ib_one _ _) (by omega) hb3.size rfl rfl rfl rfl ?_)
  intro A3 c3 w3 hown3 hb4 _ _
  go_wp2
  go_ret
  exact ⟨_, _, rfl, hown3, hb3.trans hb4⟩

/-- The number of bytes, the highest first. -/
def numS (l : List Int) : Int := l.foldl (fun x c => 256 * x + c) 0
theorem numS_snoc (l : List Int) (c : Int) : numS (l ++ [c]) = 256 * numS l + c := by simp [numS]
/-- Bytes are from 0 to 255. -/
def isB (l : List Int) : Prop := ∀ x ∈ l, 0 ≤ x ∧ x < 256
theorem isB.take {l : List Int} (h : isB l) (k : Nat) : isB (l.take k) := fun x hx => h x (List.mem_of_mem_take hx)
theorem isB.drop {l : List Int} (h : isB l) (k : Nat) : isB (l.drop k) := fun x hx => h x (List.mem_of_mem_drop hx)
theorem isB.get {l : List Int} (h : isB l) {k : Nat} {x : Int} (hx : l[k]? = some x) : 0 ≤ x ∧ x < 256 := h x (List.mem_of_getElem? hx)
theorem isB.append {l m : List Int} (h : isB l) (k : isB m) : isB (l ++ m) := fun x hx => by
  rcases List.mem_append.1 hx with hx | hx
  · exact h x hx
  · exact k x hx
theorem numS_bd_aux : ∀ (n : Nat) (l : List Int), l.length = n → isB l → 0 ≤ numS l ∧ numS l < 256 ^ n
  | 0, l, hl, _ => by
    obtain rfl := List.eq_nil_of_length_eq_zero hl
    simp [numS]
  | n + 1, l, hl, h => by
    have hne : l ≠ [] := by intro e; subst e; simp at hl
    obtain ⟨xs, x, rfl⟩ : ∃ xs x, l = xs ++ [x] := ⟨l.dropLast, l.getLast hne, (List.dropLast_concat_getLast hne).symm⟩
    have ih := numS_bd_aux n xs (by simpa using hl) (fun y hy => h y (by simp [hy]))
    have hx := h x (by simp)
    rw [numS_snoc, Int.pow_succ]
    omega
theorem numS_bd {l : List Int} (h : isB l) (hl : l.length ≤ 8) : 0 ≤ numS l ∧ numS l < 18446744073709551616 := by
  have := numS_bd_aux l.length l rfl h
  have h2 : (256 : Int) ^ l.length ≤ 18446744073709551616 := by
    have := Nat.pow_le_pow_right (show 0 < 256 by omega) hl
    have h3 : ((256 ^ l.length : Nat) : Int) ≤ 18446744073709551616 := by omega
    simpa using h3
  omega

set_option maxHeartbeats 400000 in
theorem number_any (A : Option Addr) (n cap : Nat) (l : List Int) (w : World) {e1 : Option TypeId} (hs : Sees w e1 1 A n (ib .u8 l)) (hB : isB l) (hn : n ≤ 8) :
    Calls Try.prog 44 #[.slice A n cap] w fun e w' => e = .returned (.int .u64 (numS l)) ∧ w = w' := by
  have HL := Lib.hid hs.len
  go_enter Try.func44, Try.ntmps44
  go_wp2
  go_loop [3, 5, 8] (fun s _ i => ∃ k : Nat, k ≤ n ∧ i = .int .i64 k ∧ s = .int .u64 (numS (l.take k))) (fun _ _ i => n - (intOf i).toNat)
  case atStart => exact ⟨0, Nat.zero_le _, rfl, rfl⟩
  case round =>
    obtain ⟨k, hk, rfl, rfl⟩ := hrel
    by_cases hlt : k < n
    · obtain ⟨ad, u, rfl, hu, hc⟩ := hs.at_ hlt
      obtain ⟨x, hx, rfl⟩ := ib_get hu
      obtain ⟨hx0, hx1⟩ := hB.get hx
      have h1 := numS_bd (hB.take (k + 1)) (by simp; omega)
      have HS := Lib.hid (take_snoc hx)
      rw [HS.out, numS_snoc] at h1
      have h0 := numS_bd (hB.take k) (by simp; omega)
      clear hx hu
      go_wp2
      go_round
      case rel => exact ⟨k + 1, by omega, by go_num, by rw [HS.out, numS_snoc]⟩
      case measure => simp [intOf]; omega
    · go_wp2
      go_ret
      exact ⟨ret_int (by rw [List.take_of_length_le (by have := HL.out; omega)]), rfl⟩

end Go.Proofs.Ytnlgdcoeooppnaa
