/- The walk of slices.Reverse at matches. No condition. -/
import Derived.Test.YtonfbinkjhbpiaaG2
namespace Go.Proofs.Ytonfbinkjhbpiaa
open Go.RowKit Go.Shelf
set_option linter.unusedVariables false
set_option linter.unusedSimpArgs false

theorem pm_set : ∀ (ps : List (Int × Int)) (i : Nat) (p : Int × Int), pm (ps.set i p) = ((pm ps).set (i * 2) (.int .i64 p.1)).set (i * 2 + 1) (.int .u64 p.2)
  | [], i, p => by simp [pm]
  | q :: ps, 0, p => by simp [pm]
  | q :: ps, i + 1, p => by
    have := pm_set ps i p
    unfold pm at this ⊢
    rw [List.set_cons_succ, List.flatMap_cons, this, List.flatMap_cons, show (i + 1) * 2 = i * 2 + 2 by omega, show i * 2 + 2 + 1 = i * 2 + 1 + 2 by omega]
    rfl
theorem add_zero' (g n : Nat) : (⟨g, 0, none⟩ : Addr).add n = ⟨g, n, none⟩ := by unfold Addr.add; split <;> simp_all

/-- The first i and the last i have changed places. -/
def Turned (ps qs : List (Int × Int)) (n i : Nat) : Prop := qs.length = n ∧ ∀ k, k < n → qs[k]? = if k < i ∨ n - i ≤ k then ps[n - 1 - k]? else ps[k]?
theorem Turned.zero (ps : List (Int × Int)) : Turned ps ps ps.length 0 := ⟨rfl, fun k hk => by rw [if_neg (by omega)]⟩
theorem Turned.step {ps qs : List (Int × Int)} {n i : Nat} {p q : Int × Int} (h : Turned ps qs n i) (hij : 2 * i + 1 < n) (hp : qs[i]? = some p) (hq : qs[n - 1 - i]? = some q) : Turned ps ((qs.set i q).set (n - 1 - i) p) n (i + 1) := by
  refine ⟨by simp [h.1], fun k hk => ?_⟩
  have hi := h.2 i (by omega)
  have hj := h.2 (n - 1 - i) (by omega)
  rw [hp, if_neg (by omega)] at hi
  rw [hq, if_neg (by omega)] at hj
  have hl := h.1
  rw [List.getElem?_set]
  by_cases hkj : n - 1 - i = k
  · rw [if_pos hkj, if_pos (by simp; omega), if_pos (by omega), hi]
    congr 1
    omega
  · rw [if_neg hkj, List.getElem?_set]
    by_cases hki : i = k
    · rw [if_pos hki, if_pos (by omega), if_pos (by omega), hj]
      congr 1
      omega
    · rw [if_neg hki, h.2 k hk]
      by_cases hc : k < i ∨ n - i ≤ k
      · rw [if_pos hc, if_pos (by omega)]
      · rw [if_neg hc, if_neg (by omega)]
theorem Turned.all {ps qs : List (Int × Int)} {n i : Nat} (hn : ps.length = n) (h : Turned ps qs n i) (hij : n ≤ 2 * i + 1) : qs = ps.reverse := by
  apply List.ext_getElem?
  intro k
  by_cases hk : k < n
  · rw [h.2 k hk, List.getElem?_reverse (by omega), hn]
    split
    · rfl
    · congr 1; omega
  · rw [List.getElem?_eq_none (by have := h.1; omega), List.getElem?_eq_none (by simp; omega)]

set_option maxHeartbeats 1600000 in
theorem reverse_any (base : Nat) (A : Option Addr) (n c : Nat) (ps : List (Int × Int)) (w : World) (hown : w.ownsRow base 60 2 (.slice A n c) n (pm ps)) (hn : n ≤ 1000000000) :
    Calls Try.prog 38 #[.slice A n c] w fun e w' => e = .returned (.tuple #[]) ∧ w'.ownsRow base 60 2 (.slice A n c) n (pm ps.reverse) ∧ w.grownBy w' (Value.ownBlock (.slice A n c)) := by
  have hpl : ps.length = n := by have h1 := hown.1; rw [pm_len] at h1; omega
  have HL := Lib.hid hpl
  have hnc := (own_cap hown).1
  go_enter Try.func38, Try.ntmps38
  clear hpl
  go_wp2
  go_loopw [2, 3] (fun i j wr => ∃ (k : Nat) (qs : List (Int × Int)), i = .int .i64 k ∧ j = .int .i64 ((n : Int) - 1 - k) ∧ 2 * k ≤ n + 1 ∧ Hid (Turned ps qs n k) ∧ wr.ownsRow base 60 2 (.slice A n c) n (pm qs) ∧ w.grownBy wr (Value.ownBlock (.slice A n c))) (fun i _ _ => n - (intOf i).toNat)
  case atStart => exact ⟨0, ps, rfl, by go_num, by omega, by rw [← HL.out]; exact Turned.zero ps, hown, World.grownBy.refl _ _⟩
  case round =>
    obtain ⟨k, qs, rfl, rfl, h2k, HT, ho, hg⟩ := hrel
    by_cases hlt : 2 * k + 1 < n
    · obtain ⟨g, cap, hv, hbg, hlg⟩ := ho.form (by omega)
      obtain ⟨rfl, rfl⟩ : A = some ⟨g, 0, none⟩ ∧ c = cap := by injection hv with h1 h2 h3; exact ⟨h1, h3⟩
      have hq1 := HT.out.1
      obtain ⟨p, hp⟩ : ∃ p, qs[k]? = some p := ⟨qs[k]'(by omega), List.getElem?_eq_getElem (by omega)⟩
      obtain ⟨q, hq⟩ : ∃ q, qs[n - 1 - k]? = some q := ⟨qs[n - 1 - k]'(by omega), List.getElem?_eq_getElem (by omega)⟩
      have HT2 := Lib.hid (HT.out.step hlt hp hq)
      obtain ⟨p0, p1⟩ := pm_get qs k p hp
      obtain ⟨q0, q1⟩ := pm_get qs (n - 1 - k) q hq
      have d0 := (ho.cellAt (k * 2) (by omega)).trans p0
      have d1 := (ho.cellAt (k * 2 + 1) (by omega)).trans p1
      have d2 := (ho.cellAt ((n - 1 - k) * 2) (by omega)).trans q0
      have d3 := (ho.cellAt ((n - 1 - k) * 2 + 1) (by omega)).trans q1
      have f0 := ho.frozenAt (k * 2)
      have f1 := ho.frozenAt (k * 2 + 1)
      have f2 := ho.frozenAt ((n - 1 - k) * 2)
      have f3 := ho.frozenAt ((n - 1 - k) * 2 + 1)
      clear hp hq p0 p1 q0 q1 hq1 hv
      obtain ⟨J, hJ⟩ : ∃ J, J = n - 1 - k := ⟨_, rfl⟩
      have hJI : ((n : Int) - 1 - (k : Int)) = (J : Int) := by omega
      have HJI := Lib.hid hJI
      have HJ := Lib.hid hJ
      have hJn : J < n := by omega
      have hkJ : k < J := by omega
      have hkn : k < n := by omega
      rw [← hJ] at d2 d3 f2 f3 HT2
      rw [hJI]
      clear hJ hJI
      go_wp2
      go_region
      have o1 := (ho.stored (k * 2) (.int .i64 q.1))
      have o2 := (o1.1.stored (k * 2 + 1) (.int .u64 q.2))
      have o3 := (o2.1.stored (J * 2) (.int .i64 p.1))
      have o4 := (o3.1.stored (J * 2 + 1) (.int .u64 p.2))
      have HG := Lib.hid (grown_trans hg (grown_trans (grown_trans (grown_trans o1.2 o2.2) o3.2) o4.2))
      have HO := Lib.hid o4.1
      clear o1 o2 o3 o4 d0 d1 d2 d3 f0 f1 f2 f3 ho hg hown
      go_wp2
      go_roundw
      case rel =>
        refine ⟨k + 1, (qs.set k q).set J p, by go_num, congrArg (Value.int .i64) (by have := HJI.out; omega), by omega, HT2, ?_, ?_⟩
        · rw [pm_set, pm_set]
          exact HO.out
        · exact ⟨HG.out.os, HG.out.tape, HG.out.output, HG.out.size, HG.out.block⟩
      case measure => simp [intOf]; omega
    · go_wp2
      go_end0
      have := HT.out.all HL.out (by omega)
      subst this
      exact ⟨rfl, ho, hg⟩
end Go.Proofs.Ytonfbinkjhbpiaa
