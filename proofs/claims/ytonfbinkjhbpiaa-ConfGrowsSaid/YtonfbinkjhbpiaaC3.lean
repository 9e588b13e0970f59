/- The walks of the conf layer's crews: the numbers one behind the other, as an iterator; collected. No condition. -/
import Derived.Test.YtonfbinkjhbpiaaC2
namespace Go.Proofs.Ytonfbinkjhbpiaa
open Go.RowKit Go.Shelf
set_option linter.unusedVariables false

attribute [local go_sem] Oper.semAt_some

/-- The numbers below k in it, rising. -/
def upS (X k : Nat) : List Int := ((List.range k).map Int.ofNat).filter (hasB X)
theorem upS_hit (X k : Nat) (h : hasB X (k : Int) = true) : upS X (k + 1) = upS X k ++ [(k : Int)] := by
  simp [upS, List.range_succ, h]
theorem upS_miss (X k : Nat) (h : hasB X (k : Int) = false) : upS X (k + 1) = upS X k := by
  simp [upS, List.range_succ, h]
theorem upS_six (X : Nat) : upS X 6 = memS X := by
  have h0 : hasB X 0 = false := by simp [hasB, oneN]
  show [Int.ofNat 0, Int.ofNat 1, Int.ofNat 2, Int.ofNat 3, Int.ofNat 4, Int.ofNat 5].filter (hasB X) = [1, 2, 3, 4, 5].filter (hasB X)
  rw [List.filter_cons_of_neg (by simp; exact h0)]
  rfl
theorem upS_pre (X k : Nat) (hk : k ≤ 6) : upS X k <+: memS X := by
  rw [← upS_six]
  have hr : (List.range 6) = List.range k ++ (List.range 6).drop k := by
    have := (List.take_append_drop k (List.range 6)).symm
    rwa [List.take_range, show min k 6 = k by omega] at this
  unfold upS
  rw [hr, List.map_append, List.filter_append]
  exact List.prefix_append _ _

set_option maxRecDepth 100000 in
set_option maxHeartbeats 1000000 in
theorem numbers1_in (n : Nat) (hn : 1 ≤ n) (l Bn X : Nat) (hX : X < 64) (J Jx : List Int → World → Prop) (Kp : World → World → Prop) (hK : ∀ A B, Kp A B → A.cell? ⟨Bn, 0, none⟩ = some (.int .u64 X) → B.cell? ⟨Bn, 0, none⟩ = some (.int .u64 X))
    (hY : ∀ pre x W, J pre W → pre.length < 5 → YieldAt Fence.wide (n - 1) Try.prog l #[.int .i64 x] W fun e W' =>
      (e = .returned (.bool true) ∧ J (pre ++ [x]) W' ∧ Kp W W') ∨ (e = .returned (.bool false) ∧ Jx (pre ++ [x]) W'))
    (W : World) (hBn : W.cell? ⟨Bn, 0, none⟩ = some (.int .u64 X)) (h0 : J [] W) :
    CallsIn Fence.wide n Try.prog 51 #[.func (.yield l) #[] #[], .pointer (some ⟨Bn, 0, none⟩)] W fun e W' => (∃ v, e = .returned v) ∧
      ((∃ ys, ys = memS X ∧ J ys W') ∨ (∃ pre, pre <+: memS X ∧ Jx pre W')) := by
  refine callsIn_of_wp Try.func51 rfl trivial ?_ rfl
  simp only [Try.ntmps51, List.size_toArray, List.length_cons, List.length_nil, Nat.reduceAdd, Nat.reduceSub, Array.replicate_succ, Array.replicate_zero, List.push_toArray, List.append_toArray, List.nil_append, List.cons_append]
  gi_wp2
  gi_loopw [4] (fun p wr => ∃ k : Nat, k ≤ 6 ∧ p = .int .i64 k ∧ wr.cell? ⟨Bn, 0, none⟩ = some (.int .u64 X) ∧ J (upS X k) wr)
    (fun p _ => 6 - (intOf p).toNat)
  case atStart =>
    exact ⟨0, by omega, rfl, hBn, h0⟩
  case round =>
    obtain ⟨k, hk, rfl, hc, hJs⟩ := hrel
    by_cases h6 : k < 6
    · cases hh : hasB X (k : Int) with
      | false =>
        have HH := Lib.hid hh
        clear hh
        have hF : Fence.wide.fn 41 := trivial
        have HK : CallsIn Fence.wide (n - 1) Try.prog 41 #[.int .u64 X, .int .i64 k] wr fun e w' => e = .returned (.bool false) ∧ wr = w' :=
          callsIn_wide.2 (by have := has_any X hX k wr; rw [HH.out] at this; exact this)
        gi_wp2_with (gi_at_call 41; refine HK.mono ?_; rintro e w' ⟨rfl, rfl⟩)
        refine ⟨fun _ h => (by cases h), ?_⟩
        gi_wp2
        go_roundw
        case rel => exact ⟨k + 1, by omega, by go_num, hc, by rw [upS_miss X k HH.out]; exact hJs⟩
        case measure => simp [intOf]; omega
      | true =>
        have HH := Lib.hid hh
        clear hh
        have hF : Fence.wide.fn 41 := trivial
        have HK : CallsIn Fence.wide (n - 1) Try.prog 41 #[.int .u64 X, .int .i64 k] wr fun e w' => e = .returned (.bool true) ∧ wr = w' :=
          callsIn_wide.2 (by have := has_any X hX k wr; rw [HH.out] at this; exact this)
        have hlen : (upS X k).length < 5 := by
          have h1 := (upS_pre X (k + 1) (by omega)).length_le
          rw [upS_hit X k HH.out, List.length_append] at h1
          have h2 := sizeN_le X
          unfold sizeN at h2
          simp at h1
          omega
        obtain ⟨fn, tmps, assign, body, hy, hR⟩ := hY (upS X k) k wr hJs hlen
        gi_wp2_with (gi_at_call 41; refine HK.mono ?_; rintro e w' ⟨rfl, rfl⟩)
        refine hR.mono ?_
        rintro e W' (⟨rfl, hJ', hk'⟩ | ⟨rfl, hJx'⟩)
        · have hc' : W'.cell? ⟨Bn, 0, none⟩ = some (.int .u64 X) := hK _ _ hk' hc
          gi_wp2
          go_roundw
          case rel => exact ⟨k + 1, by omega, by go_num, hc', by rw [upS_hit X k HH.out]; exact hJ'⟩
          case measure => simp [intOf]; omega
        · gi_wp2
          refine bodyPost_ret (results_none rfl _ _ _) rfl ?_
          exact ⟨⟨_, rfl⟩, .inr ⟨upS X k ++ [(k : Int)], by rw [← upS_hit X k HH.out]; exact upS_pre X (k + 1) (by omega), hJx'⟩⟩
    · gi_wp2
      go_end0
      exact ⟨⟨_, rfl⟩, .inl ⟨_, by rw [show k = 6 by omega]; exact upS_six X, hJs⟩⟩

/-- The numbers, as an iterator. -/
theorem numbers_stops (n : Nat) (hn : 1 ≤ n) (Bn n₀ X : Nat) (hX : X < 64) (w : World) (hBn : Bn < n₀) (hn₀ : n₀ ≤ w.heap.size) (hc : w.cell? ⟨Bn, 0, none⟩ = some (.int .u64 X)) :
    SeqStopsK Fence.wide n Try.prog 51 #[.pointer (some ⟨Bn, 0, none⟩)] (fun x : Int => #[Value.int .i64 x]) (Below n₀) (fun ys => ys = memS X) (fun pre => pre <+: memS X) 5 w := fun l J Jx W hW _ _ hY h0 =>
  numbers1_in n hn l Bn X hX J Jx (Below n₀) (fun _ _ h hc => (h.cell (p := ⟨Bn, 0, none⟩) hBn).trans hc) hY W ((hW.cell (p := ⟨Bn, 0, none⟩) (by simp; omega)).trans hc) h0
/-- A cell is kept. -/
def KeepC (p : Addr) (v : Value) (A B : World) : Prop := A.cell? p = some v → B.cell? p = some v
theorem keepC_t {p : Addr} {v : Value} {A B C : World} (h : KeepC p v A B) (k : KeepC p v B C) : KeepC p v A C := fun x => k (h x)
theorem keepC_b {p : Addr} {v : Value} {m : Nat} : ∀ (W : World) (l : Nat) (o o' : Obj), m ≤ l → W.heap[l]? = some o → o.isCells = false → o.isWalk = false → KeepC p v W (W.putObj l o') := by
  intro W l o o' _ ho hc _ hx
  have hne : p.block ≠ l := by
    rintro rfl
    unfold World.cell? at hx
    rw [ho] at hx
    cases o <;> simp_all [Obj.isCells]
  rw [World.cell?_of_block (w := W)]
  · exact hx
  · exact (grownBy_putObj' W l o').block _ (World.block_lt_of_cell? W _ hx) (fun e => hne (by injection e))

theorem numbers_stopsC (n : Nat) (hn : 1 ≤ n) (Bn X : Nat) (hX : X < 64) (w : World) (hBn : Bn < w.heap.size) (hc : w.cell? ⟨Bn, 0, none⟩ = some (.int .u64 X)) :
    SeqStopsK Fence.wide n Try.prog 51 #[.pointer (some ⟨Bn, 0, none⟩)] (fun x : Int => #[Value.int .i64 x]) (KeepC ⟨Bn, 0, none⟩ (.int .u64 X)) (fun ys => ys = memS X) (fun pre => pre <+: memS X) 5 w := fun l J Jx W hW _ _ hY h0 =>
  numbers1_in n hn l Bn X hX J Jx (KeepC ⟨Bn, 0, none⟩ (.int .u64 X)) (fun _ _ h hc => h hc) hY W ((hW.cell (p := ⟨Bn, 0, none⟩) hBn).trans hc) h0
end Go.Proofs.Ytonfbinkjhbpiaa
