/- The walks of the octet layer: the reader. Conditions: those of Rd. -/
import Derived.Test.YtnlgdcoeooppnaaW3
namespace Go.Proofs.Ytnlgdcoeooppnaa
open Go.RowKit
set_option linter.unusedVariables false

/-- How a reader stands in memory: block g; bytes l, n of them at A; its place; its error. -/
structure Rd (w : World) (g : Nat) (A : Option Addr) (n cap : Nat) (l : List Int) (at_ : Nat) (err : Int) : Prop where
  blk : Blk w g 76 #[.slice A n cap, .int .i64 at_, .int .i64 err]
  sees : Sees w (some 5) 1 A n (ib .u8 l)
  nc : n ≤ cap
  le : at_ ≤ n
  small : n ≤ 1000000000000

theorem Rd.below {w w' : World} {g : Nat} {A : Option Addr} {n cap at_ : Nat} {l : List Int} {err : Int} (h : Rd w g A n cap l at_ err) (hb : Below w.heap.size w w') : Rd w' g A n cap l at_ err :=
  ⟨h.blk.below hb, h.sees.below hb, h.nc, h.le, h.small⟩
theorem Rd.drewN {w : World} {g : Nat} {A : Option Addr} {n cap at_ : Nat} {l : List Int} {err : Int} (h : Rd w g A n cap l at_ err) (k : Nat) : Rd (w.drewN k) g A n cap l at_ err :=
  ⟨h.blk, h.sees, h.nc, h.le, h.small⟩
theorem Rd.far {w : World} {g : Nat} {A : Option Addr} {n cap at_ : Nat} {l : List Int} {err : Int} (h : Rd w g A n cap l at_ err) : ∀ ad, A = some ad → 0 < n → ad.block ≠ g :=
  h.blk.apart h.sees (by decide)

/-- What the next k bytes are: the place, the error, the bytes. -/
def nextS (l : List Int) (at_ : Nat) (err k : Int) : Nat × Int × List Int :=
  if err ≠ 0 then (at_, err, []) else if k < 0 then (at_, 2, []) else if k > (l.length : Int) - at_ then (at_, 7, []) else (at_ + k.toNat, 0, (l.drop at_).take k.toNat)
/-- Where a reader stands that went on, or back. -/
def goS (l : List Int) (at_ : Nat) (err k : Int) : Nat × Int :=
  if err ≠ 0 then (at_, err) else if k > (l.length : Int) - at_ ∨ k < -(at_ : Int) then (at_, 2) else ((at_ + k).toNat, 0)

section
variable {w : World} {g : Nat} {A : Option Addr} {n cap at_ : Nat} {l : List Int} {err : Int}

theorem at_any (h : Rd w g A n cap l at_ err) : Calls Try.prog 23 #[.pointer (some ⟨g, 0, none⟩)] w fun e w' => e = .returned (.int .i64 at_) ∧ w = w' := by
  have c1 := h.blk.cell 1
  simp at c1
  go_enter Try.func23, Try.ntmps23
  go_wp2
  go_ret
  exact ⟨rfl, rfl⟩

theorem err_any (h : Rd w g A n cap l at_ err) : Calls Try.prog 25 #[.pointer (some ⟨g, 0, none⟩)] w fun e w' => e = .returned (.int .i64 err) ∧ w = w' := by
  have c1 := h.blk.cell 2
  simp at c1
  go_enter Try.func25, Try.ntmps25
  go_wp2
  go_ret
  exact ⟨rfl, rfl⟩

theorem left_any (h : Rd w g A n cap l at_ err) : Calls Try.prog 24 #[.pointer (some ⟨g, 0, none⟩)] w fun e w' => e = .returned (.int .i64 ((n : Int) - at_)) ∧ ∃ nq, w' = w.drewN nq := by
  have c0 := h.blk.cell 0
  have c1 := h.blk.cell 1
  simp at c0 c1
  have h1 := h.le
  have h2 := h.small
  go_enter Try.func24, Try.ntmps24
  go_wp2
  go_quiet (fail)
  go_wp2
  go_ret
  exact ⟨rfl, _, rfl⟩

theorem fails_any (h : Rd w g A n cap l at_ 0) (k : Int) : Calls Try.prog 47 #[.pointer (some ⟨g, 0, none⟩), .int .i64 k] w fun e w' => e = .returned (.tuple #[]) ∧ w' = w.setCell ⟨g, 2, none⟩ (.int .i64 k) := by
  have c2 := h.blk.cell 2
  simp at c2
  have f2 := h.blk.frozen 2
  go_enter Try.func47, Try.ntmps47
  go_wp2
  go_end0
  exact ⟨rfl, rfl⟩

theorem Rd.err_ (h : Rd w g A n cap l at_ err) (k : Int) : Rd (w.setCell ⟨g, 2, none⟩ (.int .i64 k)) g A n cap l at_ k :=
  ⟨h.blk.put 2 _, h.sees.far h.far _, h.nc, h.le, h.small⟩
theorem Rd.at__ (h : Rd w g A n cap l at_ err) {k : Nat} (hk : k ≤ n) : Rd (w.setCell ⟨g, 1, none⟩ (.int .i64 k)) g A n cap l k err :=
  ⟨h.blk.put 1 _, h.sees.far h.far _, h.nc, hk, h.small⟩
theorem Rd.at_i (h : Rd w g A n cap l at_ err) {k : Nat} {v : Int} (hv : v = (k : Int)) (hk : k ≤ n) : Rd (w.setCell ⟨g, 1, none⟩ (.int .i64 v)) g A n cap l k err := by
  subst hv
  exact h.at__ hk
theorem ib_drop (k : IntKind) (l : List Int) (a : Nat) : (ib k l).drop a = ib k (l.drop a) := by simp [ib]
theorem ib_take (k : IntKind) (l : List Int) (a : Nat) : (ib k l).take a = ib k (l.take a) := by simp [ib]
theorem Sees.cut {w : World} {e : Option TypeId} {A : Option Addr} {n cap a m : Nat} {k : IntKind} {l : List Int} (h : Sees w e 1 A n (ib k l)) (hc : n ≤ cap) (ha : a ≤ n) (hm : m ≤ n - a) :
    Sees w e 1 (if cap = a then A else A.map (·.add a)) m (ib k ((l.drop a).take m)) := by
  have := (h.drop ha hc).take hm
  simpa only [Nat.mul_one, ib_drop, ib_take] using this
theorem ret_slice {A : Option Addr} {n m c : Nat} (h : n = m) : Ending.returned (.slice A n c) = .returned (.slice A m c) := by rw [h]

set_option maxHeartbeats 400000 in
theorem next_any (h : Rd w g A n cap l at_ err) (k : Int) : Calls Try.prog 48 #[.pointer (some ⟨g, 0, none⟩), .int .i64 k] w fun e w' => ∃ B m c, e = .returned (.slice B m c) ∧
    Rd w' g A n cap l (nextS l at_ err k).1 (nextS l at_ err k).2.1 ∧ Sees w' (some 5) 1 B m (ib .u8 (nextS l at_ err k).2.2) ∧ w.grownBy w' (some g) := by
  have HL := Lib.hid h.sees.len
  have c0 := h.blk.cell 0
  have c1 := h.blk.cell 1
  have c2 := h.blk.cell 2
  simp at c0 c1 c2
  have f1 := h.blk.frozen 1
  have h1 := h.le
  have h2 := h.small
  have h3 := h.nc
  by_cases he : err = 0
  · subst he
    by_cases hk0 : k < 0
    · have hs : nextS l at_ 0 k = (at_, 2, []) := by simp [nextS, hk0]
      have HS := Lib.hid hs
      clear hs
      go_enter Try.func48, Try.ntmps48
      go_wp2_with (go_at_call 47; refine (fails_any h 2).mono ?_; rintro e w1 ⟨rfl, rfl⟩)
      go_ret
      rw [HS.out]
      exact ⟨none, 0, 0, rfl, h.err_ 2, Sees.nil _ _ _, grown_set _ _ _ _⟩
    · by_cases hk1 : k > (n : Int) - at_
      · have hs : nextS l at_ 0 k = (at_, 7, []) := by simp [nextS, hk0, HL.out, hk1]
        have HS := Lib.hid hs
        clear hs
        go_enter Try.func48, Try.ntmps48
        go_wp2_with (first | (go_at_call 24; refine (left_any h).mono ?_; rintro e w1 ⟨rfl, nq, rfl⟩) | (go_at_call 47; refine (fails_any (h.drewN _) 7).mono ?_; rintro e w1 ⟨rfl, rfl⟩))
        go_ret
        rw [HS.out]
        exact ⟨none, 0, 0, rfl, (h.drewN _).err_ 7, Sees.nil _ _ _, grown_of_drewN (grown_set _ _ _ _)⟩
      · obtain ⟨m, rfl⟩ := Int.eq_ofNat_of_zero_le (show 0 ≤ k by omega)
        have hs : nextS l at_ 0 m = (at_ + m, 0, (l.drop at_).take m) := by
          have hn0 : ¬ (m : Int) > (l.length : Int) - at_ := by rw [HL.out]; exact hk1
          simp [nextS, hn0]
        have HS := Lib.hid hs
        clear hs
        have hcut := h.sees.cut h.nc h.le (m := m) (by omega)
        by_cases hca : cap = at_
        · rw [if_pos hca] at hcut
          have HC := Lib.hid hca
          clear hca
          go_enter Try.func48, Try.ntmps48
          go_wp2_with (go_at_call 24; refine (left_any h).mono ?_; rintro e w1 ⟨rfl, nq, rfl⟩)
          go_quiet (fail)
          rw [if_pos HC.out]
          go_wp2
          go_ret
          rw [HS.out]
          exact ⟨_, m, _, ret_slice (by omega), ((h.drewN _).at_i (by omega) (by omega)).drewN _, ((hcut.drewN _).far (h.blk.apart hcut (by decide)) _).drewN _, grown_drewN (grown_of_drewN (grown_set _ _ _ _)) _⟩
        · rw [if_neg hca] at hcut
          go_enter Try.func48, Try.ntmps48
          go_wp2_with (go_at_call 24; refine (left_any h).mono ?_; rintro e w1 ⟨rfl, nq, rfl⟩)
          go_quiet (fail)
          go_wp2
          go_ret
          rw [HS.out]
          exact ⟨_, m, _, ret_slice (by omega), ((h.drewN _).at_i (by omega) (by omega)).drewN _, ((hcut.drewN _).far (h.blk.apart hcut (by decide)) _).drewN _, grown_drewN (grown_of_drewN (grown_set _ _ _ _)) _⟩
  · have hb : (err != 0) = true := by simpa using he
    have hs : nextS l at_ err k = (at_, err, []) := by simp [nextS, he]
    have HS := Lib.hid hs
    clear hs
    go_enter Try.func48, Try.ntmps48
    go_wp2
    go_ret
    rw [HS.out]
    exact ⟨none, 0, 0, rfl, h, Sees.nil _ _ _, World.grownBy.refl _ _⟩
end
end Go.Proofs.Ytnlgdcoeooppnaa
