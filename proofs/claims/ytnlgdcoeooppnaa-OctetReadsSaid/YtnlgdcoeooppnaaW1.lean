/- The walks of the octet layer's leaves. No condition. -/
import Derived.Test.YtnlgdcoeooppnaaRows
import Derived.Test.YtnlgdcoeooppnaaLaw
import Derived.WalkKit
import Derived.BigQuiet
import Derived.WalkLawsBesides
import Derived.Lib.Hide
import Derived.WalkSpells
namespace Go.Proofs.Ytnlgdcoeooppnaa
open Go.RowKit
set_option linter.unusedVariables false

/-- Numbers as cells. -/
def ib (k : IntKind) (l : List Int) : List Value := l.map (Value.int k)

theorem ib_length (k : IntKind) (l : List Int) : (ib k l).length = l.length := by simp [ib]
theorem ib_get {k : IntKind} {l : List Int} {i : Nat} {u : Value} (h : (ib k l)[i]? = some u) : ∃ c, l[i]? = some c ∧ u = .int k c := by
  simp only [ib, List.getElem?_map, Option.map_eq_some_iff] at h
  obtain ⟨c, hc, rfl⟩ := h
  exact ⟨c, hc, rfl⟩
theorem ib_one (k : IntKind) (l : List Int) : ∀ u ∈ ib k l, u.oneCell' = true := ints_oneCell k l
theorem Sees.len {w : World} {e : Option TypeId} {A : Option Addr} {n : Nat} {k : IntKind} {l : List Int} (h : Sees w e 1 A n (ib k l)) : l.length = n := by
  have := h.1
  simpa [ib_length] using this
theorem take_snoc {α} {l : List α} {k : Nat} {c : α} (h : l[k]? = some c) : l.take (k + 1) = l.take k ++ [c] := by
  rw [List.take_add_one, h]; rfl
theorem ret_int {k : IntKind} {a b : Int} (h : a = b) : Ending.returned (.int k a) = .returned (.int k b) := by rw [h]

theorem ty_bytes : ElemTy Try.prog 22 5 (.int .u8 0) 1 1 := ⟨Try.underlying22, by kernel_rfl, rfl, by omega, by omega⟩

theorem count_snoc (l : List Int) (x c : Int) : (l ++ [x]).count c = l.count c + (if x == c then 1 else 0) := by
  rw [List.count_append]
  congr 1
  simp [List.count_cons]
theorem take_count_le (l : List Int) (c : Int) (k : Nat) : (l.take k).count c ≤ k :=
  Nat.le_trans List.count_le_length (by simp; omega)

set_option maxHeartbeats 400000 in
theorem count_any (A : Option Addr) (n cap : Nat) (l : List Int) (c : Int) (w : World) {e1 : Option TypeId} (hs : Sees w e1 1 A n (ib .u8 l)) (hn : n ≤ 1000000000000) :
    Calls Try.prog 13 #[.slice A n cap, .int .u8 c] w fun e w' => e = .returned (.int .i64 (l.count c)) ∧ w = w' := by
  have HL := Lib.hid hs.len
  go_enter Try.func13, Try.ntmps13
  go_wp2
  go_loop [4, 9] (fun s i => ∃ k : Nat, k ≤ n ∧ i = .int .i64 k ∧ s = .int .i64 ((l.take k).count c)) (fun _ i => n - (intOf i).toNat)
  case atStart => exact ⟨0, Nat.zero_le _, rfl, rfl⟩
  case round =>
    obtain ⟨k, hk, rfl, rfl⟩ := hrel
    by_cases hlt : k < n
    · obtain ⟨ad, u, rfl, hu, hc⟩ := hs.at_ hlt
      obtain ⟨x, hx, rfl⟩ := ib_get hu
      have hcl := take_count_le l c k
      have HS := Lib.hid (take_snoc hx)
      clear hx hu
      go_wp2
      all_goals
        go_round
        case rel => exact ⟨k + 1, by omega, by go_num, by rw [HS.out, count_snoc]; simp [*]⟩
        case measure => simp [intOf]; omega
    · go_wp2
      go_ret
      exact ⟨ret_int (by rw [List.take_of_length_le (by have := HL.out; omega)]), rfl⟩

theorem nil_bytes (w : World) (a : Option Addr) (n c : Nat) : (binOp .eql 22 (.slice a n c) (.slice none 0 0)).run Try.prog w = .ok (.bool a.isNone) w :=
  Lib.run_eql_slice_nil w _ _ a n c 0 0 Try.underlying22
attribute [go_sem] nil_bytes

set_option maxHeartbeats 400000 in
theorem clone_any (A : Option Addr) (n cap : Nat) (l : List Int) (w : World) {e1 : Option TypeId} (hs : Sees w e1 1 A n (ib .u8 l)) (hn : n ≤ 1000000000000) :
    Calls Try.prog 39 #[.slice A n cap] w fun e w' => ∃ A' c', e = .returned (.slice A' n c') ∧ w'.ownsRow w.heap.size 5 1 (.slice A' n c') n (ib .u8 l) ∧ Below w.heap.size w w' := by
  rcases A with _ | ad
  · have h0 := hs.2.1 rfl
    subst h0
    go_enter Try.func39, Try.ntmps39
    go_wp2
    go_ret
    have := hs.empty
    rw [this]
    exact ⟨none, 0, rfl, World.ownsRow_nil _ _ _ _, Below.refl _ _⟩
  · go_enter Try.func39, Try.ntmps39
    go_wp2_with (at_builtin; refine Door.enter ?_)
    refine Door.leave (wl_append ty_bytes (base := w.heap.size) (World.ownsRow_lit w #[] 0 (Nat.le_refl _) (by simp [maxLen]) (by simp)) (hs.alloc _) (Nat.zero_add _) (List.nil_append _) (ib_one _ _) (by omega) (by simp) rfl rfl rfl rfl ?_)
    intro A1 c1 w1 hown hb hg _
    go_wp2
    go_ret
    exact ⟨_, _, rfl, hown, ((Below.refl _ _).alloc (Nat.le_refl _) _).trans hb⟩

/-- The bytes of x, the highest first, as far as j of them; D: the first one's shift. -/
def hiT (x : Int) (D j : Nat) : List Int := (List.range j).map fun i => x / 2 ^ (D - 8 * i) % 256
theorem hiT_succ (x : Int) (D j : Nat) : hiT x D (j + 1) = hiT x D j ++ [x / 2 ^ (D - 8 * j) % 256] := by simp [hiT, List.range_succ]
theorem hiT_length (x : Int) (D j : Nat) : (hiT x D j).length = j := by simp [hiT]
theorem ib_snoc (k : IntKind) (l m : List Int) (x : Int) : ib k (l ++ m) ++ #[Value.int k x].toList = ib k (l ++ (m ++ [x])) := by simp [ib]

set_option maxHeartbeats 400000 in
theorem put16_in (A : Option Addr) (n cap : Nat) (l : List Int) (x : Int) (w : World) {e1 : Option TypeId} (hs : Sees w e1 1 A n (ib .u8 l)) (hn : n ≤ 1000000000000) (hx0 : 0 ≤ x) (hx1 : x < 65536) :
    Calls Try.prog 40 #[.slice A n cap, .int .u16 x, .int .i64 2] w fun e w' => ∃ A' c', e = .returned (.slice A' (n + 2) c') ∧ w'.ownsRow w.heap.size 5 1 (.slice A' (n + 2) c') (n + 2) (ib .u8 (l ++ hiT x 8 2)) ∧ Below w.heap.size w w' := by
  have HL := Lib.hid hs.len
  go_enter Try.func40, Try.ntmps40
  go_wp2_with (at_make; refine Door.enter ?_)
  refine Door.leave (wl_make ty_bytes (base := w.heap.size) (n := n) (c := n + 2) rfl (by omega) (by omega) (by omega) (Nat.le_refl _) rfl rfl rfl rfl rfl ?_)
  intro A1 w1 hown1 hb1 _
  go_wp2_with (with_reducible refine wl_copy ty_bytes hown1 (hs.below hb1) (Nat.le_refl _) (ib_one _ _) rfl rfl rfl rfl ?_; intro w2 hown2 hb2 hg2)
  have hb : Below w.heap.size w w2 := hb1.trans hb2
  rw [List.drop_of_length_le (by simp), List.append_nil] at hown2
  clear hb1 hb2 hown1 hg2
  go_loopw [7, 8] (fun v i wr => ∃ (j : Nat) (A' : Option Addr) (c' : Nat), j ≤ 2 ∧ i = .int .i64 (8 - 8 * (j : Int)) ∧ v = .slice A' (n + j) c' ∧ wr.ownsRow w.heap.size 5 1 (.slice A' (n + j) c') (n + j) (ib .u8 (l ++ hiT x 8 j)) ∧ Below w.heap.size w wr) (fun _ i _ => (intOf i + 8).toNat)
  case atStart => exact ⟨0, A1, n + 2, by omega, rfl, rfl, by simpa [hiT] using hown2, hb⟩
  case round =>
    obtain ⟨j, A2, c2, hj, rfl, rfl, hown, hbr⟩ := hrel
    by_cases hlt : j < 2
    · go_wp2_with (at_builtin; refine Door.enter ?_)
      have hbs := hbr.size
      refine Door.leave (wl_append_lit ty_bytes hown (m := 1) (k := n + (j + 1)) rfl (by omega) (ib_snoc _ _ _ _) (by simp [Value.oneCell']) (by omega) hbs rfl rfl rfl rfl ?_)
      intro A3 c3 w3 hown3 hb3 _ _
      rw [← hiT_succ] at hown3
      have hb4 := hbr.trans hb3
      clear hown hbr hb3 hown2
      go_wp2
      go_roundw
      case rel => exact ⟨j + 1, A3, c3, by omega, by go_num, rfl, hown3, hb4⟩
      case measure => simp [intOf]; omega
    · go_wp2
      go_ret
      obtain rfl : j = 2 := by omega
      exact ⟨A2, c2, rfl, hown, hbr⟩

theorem put16_any (A : Option Addr) (n cap : Nat) (l : List Int) (x : Int) (w : World) {e1 : Option TypeId} (hs : Sees w e1 1 A n (ib .u8 l)) (hn : n ≤ 1000000000000) (hx0 : 0 ≤ x) (hx1 : x < 65536) :
    Calls Try.prog 14 #[.slice A n cap, .int .u16 x] w fun e w' => ∃ A' c', e = .returned (.slice A' (n + 2) c') ∧ w'.ownsRow w.heap.size 5 1 (.slice A' (n + 2) c') (n + 2) (ib .u8 (l ++ hiT x 8 2)) ∧ Below w.heap.size w w' := by
  go_enter Try.func14, Try.ntmps14
  go_wp2_with (go_at_call 40; refine (put16_in A n cap l x w hs hn hx0 hx1).mono ?_; rintro e w1 ⟨A1, c1, rfl, ho, hb⟩)
  go_ret
  exact ⟨A1, c1, rfl, ho, hb⟩

set_option maxHeartbeats 400000 in
theorem put32_in (A : Option Addr) (n cap : Nat) (l : List Int) (x : Int) (w : World) {e1 : Option TypeId} (hs : Sees w e1 1 A n (ib .u8 l)) (hn : n ≤ 1000000000000) (hx0 : 0 ≤ x) (hx1 : x < 4294967296) :
    Calls Try.prog 41 #[.slice A n cap, .int .u32 x, .int .i64 4] w fun e w' => ∃ A' c', e = .returned (.slice A' (n + 4) c') ∧ w'.ownsRow w.heap.size 5 1 (.slice A' (n + 4) c') (n + 4) (ib .u8 (l ++ hiT x 24 4)) ∧ Below w.heap.size w w' := by
  have HL := Lib.hid hs.len
  go_enter Try.func41, Try.ntmps41
  go_wp2_with (at_make; refine Door.enter ?_)
  refine Door.leave (wl_make ty_bytes (base := w.heap.size) (n := n) (c := n + 4) rfl (by omega) (by omega) (by omega) (Nat.le_refl _) rfl rfl rfl rfl rfl ?_)
  intro A1 w1 hown1 hb1 _
  go_wp2_with (with_reducible refine wl_copy ty_bytes hown1 (hs.below hb1) (Nat.le_refl _) (ib_one _ _) rfl rfl rfl rfl ?_; intro w2 hown2 hb2 hg2)
  have hb : Below w.heap.size w w2 := hb1.trans hb2
  rw [List.drop_of_length_le (by simp), List.append_nil] at hown2
  clear hb1 hb2 hown1 hg2
  go_loopw [7, 8] (fun v i wr => ∃ (j : Nat) (A' : Option Addr) (c' : Nat), j ≤ 4 ∧ i = .int .i64 (24 - 8 * (j : Int)) ∧ v = .slice A' (n + j) c' ∧ wr.ownsRow w.heap.size 5 1 (.slice A' (n + j) c') (n + j) (ib .u8 (l ++ hiT x 24 j)) ∧ Below w.heap.size w wr) (fun _ i _ => (intOf i + 8).toNat)
  case atStart => exact ⟨0, A1, n + 4, by omega, rfl, rfl, by simpa [hiT] using hown2, hb⟩
  case round =>
    obtain ⟨j, A2, c2, hj, rfl, rfl, hown, hbr⟩ := hrel
    by_cases hlt : j < 4
    · go_wp2_with (at_builtin; refine Door.enter ?_)
      have hbs := hbr.size
      refine Door.leave (wl_append_lit ty_bytes hown (m := 1) (k := n + (j + 1)) rfl (by omega) (ib_snoc _ _ _ _) (by simp [Value.oneCell']) (by omega) hbs rfl rfl rfl rfl ?_)
      intro A3 c3 w3 hown3 hb3 _ _
      rw [← hiT_succ] at hown3
      have hb4 := hbr.trans hb3
      clear hown hbr hb3 hown2
      go_wp2
      go_roundw
      case rel => exact ⟨j + 1, A3, c3, by omega, by go_num, rfl, hown3, hb4⟩
      case measure => simp [intOf]; omega
    · go_wp2
      go_ret
      obtain rfl : j = 4 := by omega
      exact ⟨A2, c2, rfl, hown, hbr⟩

theorem put32_any (A : Option Addr) (n cap : Nat) (l : List Int) (x : Int) (w : World) {e1 : Option TypeId} (hs : Sees w e1 1 A n (ib .u8 l)) (hn : n ≤ 1000000000000) (hx0 : 0 ≤ x) (hx1 : x < 4294967296) :
    Calls Try.prog 15 #[.slice A n cap, .int .u32 x] w fun e w' => ∃ A' c', e = .returned (.slice A' (n + 4) c') ∧ w'.ownsRow w.heap.size 5 1 (.slice A' (n + 4) c') (n + 4) (ib .u8 (l ++ hiT x 24 4)) ∧ Below w.heap.size w w' := by
  go_enter Try.func15, Try.ntmps15
  go_wp2_with (go_at_call 41; refine (put32_in A n cap l x w hs hn hx0 hx1).mono ?_; rintro e w1 ⟨A1, c1, rfl, ho, hb⟩)
  go_ret
  exact ⟨A1, c1, rfl, ho, hb⟩

set_option maxHeartbeats 400000 in
theorem put64_in (A : Option Addr) (n cap : Nat) (l : List Int) (x : Int) (w : World) {e1 : Option TypeId} (hs : Sees w e1 1 A n (ib .u8 l)) (hn : n ≤ 1000000000000) (hx0 : 0 ≤ x) (hx1 : x < 18446744073709551616) :
    Calls Try.prog 42 #[.slice A n cap, .int .u64 x, .int .i64 8] w fun e w' => ∃ A' c', e = .returned (.slice A' (n + 8) c') ∧ w'.ownsRow w.heap.size 5 1 (.slice A' (n + 8) c') (n + 8) (ib .u8 (l ++ hiT x 56 8)) ∧ Below w.heap.size w w' := by
  have HL := Lib.hid hs.len
  go_enter Try.func42, Try.ntmps42
  go_wp2_with (at_make; refine Door.enter ?_)
  refine Door.leave (wl_make ty_bytes (base := w.heap.size) (n := n) (c := n + 8) rfl (by omega) (by omega) (by omega) (Nat.le_refl _) rfl rfl rfl rfl rfl ?_)
  intro A1 w1 hown1 hb1 _
  go_wp2_with (with_reducible refine wl_copy ty_bytes hown1 (hs.below hb1) (Nat.le_refl _) (ib_one _ _) rfl rfl rfl rfl ?_; intro w2 hown2 hb2 hg2)
  have hb : Below w.heap.size w w2 := hb1.trans hb2
  rw [List.drop_of_length_le (by simp), List.append_nil] at hown2
  clear hb1 hb2 hown1 hg2
  go_loopw [7, 8] (fun v i wr => ∃ (j : Nat) (A' : Option Addr) (c' : Nat), j ≤ 8 ∧ i = .int .i64 (56 - 8 * (j : Int)) ∧ v = .slice A' (n + j) c' ∧ wr.ownsRow w.heap.size 5 1 (.slice A' (n + j) c') (n + j) (ib .u8 (l ++ hiT x 56 j)) ∧ Below w.heap.size w wr) (fun _ i _ => (intOf i + 8).toNat)
  case atStart => exact ⟨0, A1, n + 8, by omega, rfl, rfl, by simpa [hiT] using hown2, hb⟩
  case round =>
    obtain ⟨j, A2, c2, hj, rfl, rfl, hown, hbr⟩ := hrel
    by_cases hlt : j < 8
    · go_wp2_with (at_builtin; refine Door.enter ?_)
      have hbs := hbr.size
      refine Door.leave (wl_append_lit ty_bytes hown (m := 1) (k := n + (j + 1)) rfl (by omega) (ib_snoc _ _ _ _) (by simp [Value.oneCell']) (by omega) hbs rfl rfl rfl rfl ?_)
      intro A3 c3 w3 hown3 hb3 _ _
      rw [← hiT_succ] at hown3
      have hb4 := hbr.trans hb3
      clear hown hbr hb3 hown2
      go_wp2
      go_roundw
      case rel => exact ⟨j + 1, A3, c3, by omega, by go_num, rfl, hown3, hb4⟩
      case measure => simp [intOf]; omega
    · go_wp2
      go_ret
      obtain rfl : j = 8 := by omega
      exact ⟨A2, c2, rfl, hown, hbr⟩

theorem put64_any (A : Option Addr) (n cap : Nat) (l : List Int) (x : Int) (w : World) {e1 : Option TypeId} (hs : Sees w e1 1 A n (ib .u8 l)) (hn : n ≤ 1000000000000) (hx0 : 0 ≤ x) (hx1 : x < 18446744073709551616) :
    Calls Try.prog 16 #[.slice A n cap, .int .u64 x] w fun e w' => ∃ A' c', e = .returned (.slice A' (n + 8) c') ∧ w'.ownsRow w.heap.size 5 1 (.slice A' (n + 8) c') (n + 8) (ib .u8 (l ++ hiT x 56 8)) ∧ Below w.heap.size w w' := by
  go_enter Try.func16, Try.ntmps16
  go_wp2_with (go_at_call 42; refine (put64_in A n cap l x w hs hn hx0 hx1).mono ?_; rintro e w1 ⟨A1, c1, rfl, ho, hb⟩)
  go_ret
  exact ⟨A1, c1, rfl, ho, hb⟩

end Go.Proofs.Ytnlgdcoeooppnaa
