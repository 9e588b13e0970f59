/- The walks of ConfGrows' helpers: who has come as far; a clone; a reversal. No condition. -/
import Derived.Test.YtonfbinkjhbpiaaG1
import Derived.Test.YtonfbinkjhbpiaaStep
import Derived.RegionTactic
import Derived.ChangeAlike
namespace Go.Proofs.Ytonfbinkjhbpiaa
open Go.RowKit Go.Shelf
set_option linter.unusedVariables false
set_option linter.unusedSimpArgs false

theorem ty_match : ElemTy Try.prog 51 60 (.agg #[.int .i64 0, .int .u64 0]) 2 16 := ⟨Try.underlying51, by kernel_rfl, rfl, by omega, by omega⟩
theorem pm_one (ps : List (Int × Int)) : ∀ u ∈ pm ps, u.oneCell' = true := by
  intro u hu
  unfold pm at hu
  rw [List.mem_flatMap] at hu
  obtain ⟨p, _, hp⟩ := hu
  simp at hp
  rcases hp with rfl | rfl <;> rfl

set_option maxHeartbeats 800000 in
theorem far_any {e2 : Option TypeId} (g4 : Nat) (A : Option Addr) (q c : Nat) (ps : List (Int × Int)) (v : Int) (w : World) (hb : w.cell? ⟨g4, 0, none⟩ = some (.slice A q c)) (hs : Sees w e2 2 A q (pm ps)) (hq : q ≤ 1000000000) :
    Calls Try.prog 36 #[.int .u64 v, .pointer (some ⟨g4, 0, none⟩)] w fun e w' => ∃ A' n' c', e = .returned (.slice A' n' c') ∧ n' ≤ q ∧ w'.ownsRow w.heap.size 3 1 (.slice A' n' c') n' (ib .i64 (farS ps v)) ∧ Below w.heap.size w w' := by
  have HPL := Lib.hid (pm_len ps)
  go_enter Try.func36, Try.ntmps36
  go_wp2
  go_loopw [3, 8] (fun s i wr => ∃ (k : Nat) (A' : Option Addr) (n' c' : Nat), k ≤ q ∧ i = .int .i64 k ∧ s = .slice A' n' c' ∧ n' ≤ k ∧ wr.ownsRow w.heap.size 3 1 (.slice A' n' c') n' (ib .i64 (farS (ps.take k) v)) ∧ Below w.heap.size w wr) (fun _ i _ => q - (intOf i).toNat)
  case atStart => exact ⟨0, none, 0, 0, by omega, rfl, rfl, by omega, World.ownsRow_nil _ _ _ _, Below.refl _ _⟩
  case round =>
    obtain ⟨k, A', n', c', hk, rfl, rfl, hn', hown, hB⟩ := hrel
    by_cases hlt : k < q
    · obtain ⟨ad, p, rfl, hpk, hc0, hc1⟩ := (hs.below hB).pair hlt
      have HS := Lib.hid (take_snoc hpk)
      have HF := Lib.hid (farS_snoc (ps.take k) p v)
      clear hpk
      have q9 := Blk.new wr 60 #[.int .i64 p.1, .int .u64 p.2]
      have hB' := hB.alloc hB.size (.cells #[.int .i64 p.1, .int .u64 p.2] 60)
      have hown' := hown.alloc (.cells #[.int .i64 p.1, .int .u64 p.2] 60)
      have c9 := q9.cell 0
      have c91 := q9.cell 1
      simp at c9 c91
      by_cases hge : v ≤ p.2
      · have HG := Lib.hid hge
        go_wp2_with (at_builtin; refine Door.enter ?_)
        obtain ⟨w5, hw5⟩ : ∃ w5, wr.alloc (.cells #[.int .i64 p.1, .int .u64 p.2] 60) = w5 := ⟨_, rfl⟩
        rw [hw5] at hown' hB'
        have hsz := hB'.size
        simp only [hw5]
        rw [show wr.heap.size + 1 = w5.heap.size from by rw [← hw5]; simp]
        clear hw5
        refine Door.leave (wl_append_lit ty_ints hown' (m := 1) (k := n' + 1) rfl rfl (ib_snoc _ _ _) (by simp [Value.oneCell']) (by omega) hB'.size rfl rfl rfl rfl ?_)
        intro A3 c3 w6 hown3 hb5 hg3 _
        go_wp2
        go_roundw
        case rel => exact ⟨k + 1, A3, n' + 1, c3, by omega, by go_num, rfl, by omega, by rw [HS.out, HF.out, if_pos HG.out]; exact hown3, hB'.trans hb5⟩
        case measure => simp [intOf]; omega
      · have HG : Hid (p.2 < v) := by unfold Hid; omega
        go_wp2
        go_roundw
        case rel => exact ⟨k + 1, A', n', c', by omega, by go_num, rfl, by omega, by rw [HS.out, HF.out, if_neg (by have := HG.out; omega)]; exact hown', hB'⟩
        case measure => simp [intOf]; omega
    · obtain rfl : k = q := by omega
      go_wp2
      go_ret
      exact ⟨A', n', c', rfl, hn', by rw [take_all (by have h1 := hs.1; have h2 := HPL.out; omega)] at hown; exact hown, hB⟩

set_option maxHeartbeats 800000 in
theorem clone_any {e2 : Option TypeId} (A : Option Addr) (q c : Nat) (ps : List (Int × Int)) (w : World) (hs : Sees w e2 2 A q (pm ps)) (hq : q ≤ 1000000000) :
    Calls Try.prog 37 #[.slice A q c] w fun e w' => ∃ A' c', e = .returned (.slice A' q c') ∧ w'.ownsRow w.heap.size 60 2 (.slice A' q c') q (pm ps) ∧ Below w.heap.size w w' := by
  rcases A with _ | ad
  · have hq0 := hs.2.1 rfl
    subst hq0
    have hp := hs.empty
    have HP := Lib.hid hp
    clear hp
    have hnil := fun (w : World) => Lib.run_eql_slice_nil (P := Try.prog) w 51 60 (none) 0 c 0 0 Try.underlying51
    go_enter Try.func37, Try.ntmps37
    go_wp2
    go_ret
    exact ⟨none, 0, rfl, by rw [HP.out]; exact World.ownsRow_nil _ _ _ _, Below.refl _ _⟩
  · have hnil := fun (w : World) => Lib.run_eql_slice_nil (P := Try.prog) w 51 60 (some ad) q c 0 0 Try.underlying51
    go_enter Try.func37, Try.ntmps37
    go_wp2_with (at_builtin; refine Door.enter ?_)
    refine Door.leave (wl_append ty_match (base := w.heap.size) (World.ownsRow_lit w #[] 0 (Nat.le_refl _) (by simp [maxLen]) (by simp)) (hs.alloc _) (Nat.zero_add _) (List.nil_append _) (pm_one _) (by omega) (by simp) rfl rfl rfl rfl ?_)
    intro A' c' w' h2 h3 h4 h5
    go_wp2
    go_ret
    exact ⟨A', c', rfl, h2, ((Below.refl _ w).alloc (Nat.le_refl _) _).trans h3⟩
end Go.Proofs.Ytonfbinkjhbpiaa
