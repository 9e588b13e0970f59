/- The walks of the reference's reader (a struct by value). Conditions: those of Rd. -/
import Derived.Test.YtnlgdcoeooppnaaW9
namespace Go.Proofs.Ytnlgdcoeooppnaa
open Go.RowKit
set_option linter.unusedVariables false

section
variable {w : World} {A : Option Addr} {n cap at_ : Nat} {l : List Int} {err : Int}

def NextR (w : World) (A : Option Addr) (n cap : Nat) (l : List Int) (at_ : Nat) (err k : Int) (e : Ending) (w' : World) : Prop := ∃ B m c,
  e = .returned (.tuple #[.agg #[.slice A n cap, .int .i64 (nextS l at_ err k).1, .int .i64 (nextS l at_ err k).2.1], .slice B m c]) ∧
  Sees w' (some 5) 1 B m (ib .u8 (nextS l at_ err k).2.2) ∧ Below w.heap.size w w'

set_option maxHeartbeats 800000 in
theorem rnext_any (hs : Sees w (some 5) 1 A n (ib .u8 l)) (hnc : n ≤ cap) (hat : at_ ≤ n) (hn : n ≤ 1000000000000) (k : Int) :
    Calls Try.prog 43 #[.agg #[.slice A n cap, .int .i64 at_, .int .i64 err], .int .i64 k] w (NextR w A n cap l at_ err k) := by
  have HL := Lib.hid hs.len
  by_cases he : err = 0
  · subst he
    by_cases hk0 : k < 0
    · have HS : Hid (nextS l at_ 0 k = (at_, 2, [])) := by unfold Hid; simp [nextS, hk0]
      go_enter Try.func43, Try.ntmps43
      go_wp2
      refine bodyPost_ret (v := .tuple #[.agg #[.slice A n cap, .int .i64 at_, .int .i64 2], .slice none 0 0]) (by simp [results, Try.results43, go_sem]) rfl ?_
      unfold NextR
      rw [HS.out]
      exact ⟨none, 0, 0, rfl, Sees.nil _ _ _, by repeat (first | exact Below.refl _ _ | refine Below.alloc ?_ (by first | exact Nat.le_refl _ | (simp; done) | (simp; omega) | (simp [World.setCell]; done) | (simp [World.setCell]; omega)) _ | refine Below.setCell ?_ (by first | exact Nat.le_refl _ | (simp; done) | (simp; omega) | (simp [World.setCell]; done) | (simp [World.setCell]; omega)) _)⟩
    · by_cases hk1 : k > (n : Int) - at_
      · have HS : Hid (nextS l at_ 0 k = (at_, 7, [])) := by unfold Hid; simp [nextS, hk0, HL.out, hk1]
        go_enter Try.func43, Try.ntmps43
        go_wp2
        refine bodyPost_ret (v := .tuple #[.agg #[.slice A n cap, .int .i64 at_, .int .i64 7], .slice none 0 0]) (by simp [results, Try.results43, go_sem]) rfl ?_
        unfold NextR
        rw [HS.out]
        exact ⟨none, 0, 0, rfl, Sees.nil _ _ _, by repeat (first | exact Below.refl _ _ | refine Below.alloc ?_ (by first | exact Nat.le_refl _ | (simp; done) | (simp; omega) | (simp [World.setCell]; done) | (simp [World.setCell]; omega)) _ | refine Below.setCell ?_ (by first | exact Nat.le_refl _ | (simp; done) | (simp; omega) | (simp [World.setCell]; done) | (simp [World.setCell]; omega)) _)⟩
      · obtain ⟨m, rfl⟩ := Int.eq_ofNat_of_zero_le (show 0 ≤ k by omega)
        have HS : Hid (nextS l at_ 0 m = (at_ + m, 0, (l.drop at_).take m)) := by
          have hn0 : ¬ (m : Int) > (l.length : Int) - at_ := by rw [HL.out]; exact hk1
          unfold Hid
          simp [nextS, hn0]
        have hcut := hs.cut hnc hat (m := m) (by omega)
        by_cases hca : cap = at_
        · obtain rfl : at_ = n := by omega
          subst hca
          obtain rfl : m = 0 := by omega
          go_enter Try.func43, Try.ntmps43
          go_wp2
          have HS2 : nextS l cap 0 0 = (cap, 0, []) := by have := HS.out; simpa using this
          refine bodyPost_ret (v := .tuple #[.agg #[.slice A cap cap, .int .i64 cap, .int .i64 0], .slice A 0 0]) (by simp [results, Try.results43, go_sem]) rfl ?_
          unfold NextR
          rw [HS2]
          exact ⟨A, 0, 0, rfl, ⟨by simp [ib], fun _ => rfl, fun ad ha => ⟨fun h => absurd h (by omega), fun j u hu => by simp [ib] at hu⟩⟩, by repeat (first | exact Below.refl _ _ | refine Below.alloc ?_ (by first | exact Nat.le_refl _ | (simp; done) | (simp; omega) | (simp [World.setCell]; done) | (simp [World.setCell]; omega)) _ | refine Below.setCell ?_ (by first | exact Nat.le_refl _ | (simp; done) | (simp; omega) | (simp [World.setCell]; done) | (simp [World.setCell]; omega)) _)⟩
        · rw [if_neg hca] at hcut
          go_enter Try.func43, Try.ntmps43
          go_wp2
          refine bodyPost_ret (v := .tuple #[.agg #[.slice A n cap, .int .i64 ((at_ : Int) + m), .int .i64 0], .slice (A.map (·.add at_)) m (cap - at_)]) (by simp [results, Try.results43, go_sem]) rfl ?_
          unfold NextR
          rw [HS.out]
          refine ⟨_, m, _, rfl, hcut.below ?_, ?_⟩
          all_goals (repeat (first | exact Below.refl _ _ | refine Below.alloc ?_ (by first | exact Nat.le_refl _ | (simp; done) | (simp; omega) | (simp [World.setCell]; done) | (simp [World.setCell]; omega)) _ | refine Below.setCell ?_ (by first | exact Nat.le_refl _ | (simp; done) | (simp; omega) | (simp [World.setCell]; done) | (simp [World.setCell]; omega)) _))
  · have hb : (err != 0) = true := by simpa using he
    have HS : Hid (nextS l at_ err k = (at_, err, [])) := by unfold Hid; simp [nextS, he]
    go_enter Try.func43, Try.ntmps43
    go_wp2
    refine bodyPost_ret (v := .tuple #[.agg #[.slice A n cap, .int .i64 at_, .int .i64 err], .slice none 0 0]) (by simp [results, Try.results43, go_sem]) rfl ?_
    unfold NextR
    rw [HS.out]
    exact ⟨none, 0, 0, rfl, Sees.nil _ _ _, by repeat (first | exact Below.refl _ _ | refine Below.alloc ?_ (by first | exact Nat.le_refl _ | (simp; done) | (simp; omega) | (simp [World.setCell]; done) | (simp [World.setCell]; omega)) _ | refine Below.setCell ?_ (by first | exact Nat.le_refl _ | (simp; done) | (simp; omega) | (simp [World.setCell]; done) | (simp [World.setCell]; omega)) _)⟩

def GoR (w : World) (A : Option Addr) (n cap : Nat) (l : List Int) (at_ : Nat) (err k : Int) (e : Ending) (w' : World) : Prop :=
  e = .returned (.agg #[.slice A n cap, .int .i64 (goS l at_ err k).1, .int .i64 (goS l at_ err k).2]) ∧ Below w.heap.size w w'

set_option maxHeartbeats 800000 in
theorem rgo_any (hlen : l.length = n) (hat : at_ ≤ n) (hn : n ≤ 1000000000000) (k : Int) :
    Calls Try.prog 45 #[.agg #[.slice A n cap, .int .i64 at_, .int .i64 err], .int .i64 k] w (GoR w A n cap l at_ err k) := by
  have HL := Lib.hid hlen
  clear hlen
  by_cases he : err = 0
  · subst he
    by_cases hk0 : k < -(at_ : Int)
    · have HS : Hid (goS l at_ 0 k = (at_, 2)) := by
        unfold Hid goS
        rw [if_neg (by simp), if_pos (.inr hk0)]
      go_enter Try.func45, Try.ntmps45
      go_wp2
      refine bodyPost_ret (v := .agg #[.slice A n cap, .int .i64 at_, .int .i64 2]) (by simp [results, Try.results45, go_sem]) rfl ?_
      unfold GoR
      rw [HS.out]
      exact ⟨rfl, by repeat (first | exact Below.refl _ _ | refine Below.alloc ?_ (by first | exact Nat.le_refl _ | (simp; done) | (simp; omega) | (simp [World.setCell]; done) | (simp [World.setCell]; omega)) _ | refine Below.setCell ?_ (by first | exact Nat.le_refl _ | (simp; done) | (simp; omega) | (simp [World.setCell]; done) | (simp [World.setCell]; omega)) _)⟩
    · by_cases hk1 : (n : Int) - at_ < k
      · have HS : Hid (goS l at_ 0 k = (at_, 2)) := by
          unfold Hid goS
          rw [if_neg (by simp), if_pos (.inl (by rw [HL.out]; omega))]
        go_enter Try.func45, Try.ntmps45
        go_wp2
        refine bodyPost_ret (v := .agg #[.slice A n cap, .int .i64 at_, .int .i64 2]) (by simp [results, Try.results45, go_sem]) rfl ?_
        unfold GoR
        rw [HS.out]
        exact ⟨rfl, by repeat (first | exact Below.refl _ _ | refine Below.alloc ?_ (by first | exact Nat.le_refl _ | (simp; done) | (simp; omega) | (simp [World.setCell]; done) | (simp [World.setCell]; omega)) _ | refine Below.setCell ?_ (by first | exact Nat.le_refl _ | (simp; done) | (simp; omega) | (simp [World.setCell]; done) | (simp [World.setCell]; omega)) _)⟩
      · have HS : Hid (goS l at_ 0 k = ((at_ + k).toNat, 0)) := by
          unfold Hid goS
          rw [if_neg (by simp), if_neg (by rw [HL.out]; omega)]
        have HK : Hid ((((at_ : Int) + k).toNat : Int) = at_ + k) := by unfold Hid; omega
        go_enter Try.func45, Try.ntmps45
        go_wp2
        refine bodyPost_ret (v := .agg #[.slice A n cap, .int .i64 ((at_ : Int) + k), .int .i64 0]) (by simp [results, Try.results45, go_sem]) rfl ?_
        unfold GoR
        rw [HS.out]
        exact ⟨by simp only [HK.out], by repeat (first | exact Below.refl _ _ | refine Below.alloc ?_ (by first | exact Nat.le_refl _ | (simp; done) | (simp; omega) | (simp [World.setCell]; done) | (simp [World.setCell]; omega)) _ | refine Below.setCell ?_ (by first | exact Nat.le_refl _ | (simp; done) | (simp; omega) | (simp [World.setCell]; done) | (simp [World.setCell]; omega)) _)⟩
  · have hb : (err != 0) = true := by simpa using he
    have HS : Hid (goS l at_ err k = (at_, err)) := by unfold Hid; simp [goS, he]
    go_enter Try.func45, Try.ntmps45
    go_wp2
    refine bodyPost_ret (v := .agg #[.slice A n cap, .int .i64 at_, .int .i64 err]) (by simp [results, Try.results45, go_sem]) rfl ?_
    unfold GoR
    rw [HS.out]
    exact ⟨rfl, by repeat (first | exact Below.refl _ _ | refine Below.alloc ?_ (by first | exact Nat.le_refl _ | (simp; done) | (simp; omega) | (simp [World.setCell]; done) | (simp [World.setCell]; omega)) _ | refine Below.setCell ?_ (by first | exact Nat.le_refl _ | (simp; done) | (simp; omega) | (simp [World.setCell]; done) | (simp [World.setCell]; omega)) _)⟩
end
end Go.Proofs.Ytnlgdcoeooppnaa
