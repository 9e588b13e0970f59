/- The numbers, as an iterator whose loop's body is told that each is a member's. No condition. -/
import Derived.Test.YtonfbinkjhbpiaaA1
namespace Go.Proofs.Ytonfbinkjhbpiaa
open Go.RowKit Go.Shelf
set_option linter.unusedVariables false

attribute [local go_sem] Oper.semAt_some

abbrev Mem5 := { x : Int // 1 ≤ x ∧ x ≤ 5 }
def vals (l : List Mem5) : List Int := l.map (·.1)

set_option maxRecDepth 100000 in
set_option maxHeartbeats 1000000 in
theorem numbers2_in (n : Nat) (hn : 1 ≤ n) (l Bn X : Nat) (hX : X < 64) (J Jx : List Mem5 → World → Prop) (Kp : World → World → Prop) (hK : ∀ A B, Kp A B → A.cell? ⟨Bn, 0, none⟩ = some (.int .u64 X) → B.cell? ⟨Bn, 0, none⟩ = some (.int .u64 X))
    (hY : ∀ pre (x : Mem5) W, J pre W → pre.length < 5 → YieldAt Fence.wide (n - 1) Try.prog l #[.int .i64 x.1] W fun e W' =>
      (e = .returned (.bool true) ∧ J (pre ++ [x]) W' ∧ Kp W W') ∨ (e = .returned (.bool false) ∧ Jx (pre ++ [x]) W'))
    (W : World) (hBn : W.cell? ⟨Bn, 0, none⟩ = some (.int .u64 X)) (h0 : J [] W) :
    CallsIn Fence.wide n Try.prog 51 #[.func (.yield l) #[] #[], .pointer (some ⟨Bn, 0, none⟩)] W fun e W' => (∃ v, e = .returned v) ∧
      ((∃ ys, vals ys = memS X ∧ J ys W') ∨ (∃ pre, vals pre <+: memS X ∧ Jx pre W')) := by
  refine callsIn_of_wp Try.func51 rfl trivial ?_ rfl
  simp only [Try.ntmps51, List.size_toArray, List.length_cons, List.length_nil, Nat.reduceAdd, Nat.reduceSub, Array.replicate_succ, Array.replicate_zero, List.push_toArray, List.append_toArray, List.nil_append, List.cons_append]
  gi_wp2
  gi_loopw [4] (fun p wr => ∃ (k : Nat) (pre : List Mem5), k ≤ 6 ∧ p = .int .i64 k ∧ wr.cell? ⟨Bn, 0, none⟩ = some (.int .u64 X) ∧ Hid (vals pre = upS X k) ∧ J pre wr)
    (fun p _ => 6 - (intOf p).toNat)
  case atStart =>
    exact ⟨0, [], by omega, rfl, hBn, rfl, h0⟩
  case round =>
    obtain ⟨k, pre, hk, rfl, hc, HP, hJs⟩ := hrel
    by_cases h6 : k < 6
    · cases hh : hasB X (k : Int) with
      | false =>
        have HH := Lib.hid hh
        clear hh
        have hF : Fence.wide.fn 41 := trivial
        have HK : CallsIn Fence.wide (n - 1) Try.prog 41 #[.int .u64 X, .int .i64 k] wr fun e w' => e = .returned (.bool false) ∧ wr = w' :=
          callsIn_wide.2 (by have := has_any X hX k wr; rw [HH.out] at this; exact this)
        gi_wp2_with (gi_at_call 41; refine HK.mono ?_; rintro e w' ⟨rfl, rfl⟩)
        refine ⟨fun _ h => (by cases h), ?_⟩
        gi_wp2
        go_roundw
        case rel => exact ⟨k + 1, pre, by omega, by go_num, hc, by unfold Hid; rw [upS_miss X k HH.out]; exact HP.out, hJs⟩
        case measure => simp [intOf]; omega
      | true =>
        have HH := Lib.hid hh
        have h15 := hasB_range hh
        clear hh
        have hF : Fence.wide.fn 41 := trivial
        have HK : CallsIn Fence.wide (n - 1) Try.prog 41 #[.int .u64 X, .int .i64 k] wr fun e w' => e = .returned (.bool true) ∧ wr = w' :=
          callsIn_wide.2 (by have := has_any X hX k wr; rw [HH.out] at this; exact this)
        have hlen : pre.length < 5 := by
          have h1 := (upS_pre X (k + 1) (by omega)).length_le
          rw [upS_hit X k HH.out, List.length_append] at h1
          have h2 := sizeN_le X
          unfold sizeN at h2
          have h3 := congrArg List.length HP.out
          simp [vals] at h1 h3
          omega
        have HP' : Hid (vals (pre ++ [⟨(k : Int), h15⟩]) = upS X (k + 1)) := by unfold Hid; rw [upS_hit X k HH.out, ← HP.out]; simp [vals]
        obtain ⟨fn, tmps, assign, body, hy, hR⟩ := hY pre ⟨(k : Int), h15⟩ wr hJs hlen
        gi_wp2_with (gi_at_call 41; refine HK.mono ?_; rintro e w' ⟨rfl, rfl⟩)
        refine hR.mono ?_
        rintro e W' (⟨rfl, hJ', hk'⟩ | ⟨rfl, hJx'⟩)
        · have hc' : W'.cell? ⟨Bn, 0, none⟩ = some (.int .u64 X) := hK _ _ hk' hc
          gi_wp2
          go_roundw
          case rel => exact ⟨k + 1, _, by omega, by go_num, hc', HP', hJ'⟩
          case measure => simp [intOf]; omega
        · gi_wp2
          refine bodyPost_ret (results_none rfl _ _ _) rfl ?_
          exact ⟨⟨_, rfl⟩, .inr ⟨_, by rw [HP'.out]; exact upS_pre X (k + 1) (by omega), hJx'⟩⟩
    · gi_wp2
      go_end0
      exact ⟨⟨_, rfl⟩, .inl ⟨pre, by rw [HP.out, show k = 6 by omega]; exact upS_six X, hJs⟩⟩

theorem numbers2_stops (n : Nat) (hn : 1 ≤ n) (Bn X : Nat) (hX : X < 64) (w : World) (hBn : Bn < w.heap.size) (hc : w.cell? ⟨Bn, 0, none⟩ = some (.int .u64 X)) :
    SeqStopsK Fence.wide n Try.prog 51 #[.pointer (some ⟨Bn, 0, none⟩)] (fun x : Mem5 => #[Value.int .i64 x.1]) (KeepC ⟨Bn, 0, none⟩ (.int .u64 X)) (fun ys => vals ys = memS X) (fun pre => vals pre <+: memS X) 5 w := fun l J Jx W hW _ _ hY h0 =>
  numbers2_in n hn l Bn X hX J Jx (KeepC ⟨Bn, 0, none⟩ (.int .u64 X)) (fun _ _ h hc => h hc) hY W ((hW.cell (p := ⟨Bn, 0, none⟩) hBn).trans hc) h0
end Go.Proofs.Ytonfbinkjhbpiaa
