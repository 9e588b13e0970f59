/- The walks of the conf layer: who is asked; whether members may be; who is one; whether more than half are. No condition. -/
import Derived.Test.YtonfbinkjhbpiaaC5
namespace Go.Proofs.Ytonfbinkjhbpiaa
open Go.RowKit Go.Shelf
set_option linter.unusedVariables false

/-- May members be? -/
def rightB (l : List Int) : Bool := decide (l ≠ [] ∧ l = memS (ofS l))
/-- Members as bits; nothing, if they may not be. -/
def askX (l : List Int) : Nat := if rightB l = true then ofS l else 0
def askE (l : List Int) : Int := if rightB l = true then 0 else 180
theorem askX_lt (l : List Int) : askX l < 64 := by
  unfold askX
  split
  · exact ofS_lt l
  · omega
theorem oneN_even (m : Int) : oneN m % 2 = 0 := by
  unfold oneN
  repeat' split
  all_goals rfl
theorem or_even (X Y : Nat) (h : X % 2 = 0) (k : Y % 2 = 0) : (X ||| Y) % 2 = 0 := by
  have : (X ||| Y).testBit 0 = (X.testBit 0 || Y.testBit 0) := Nat.testBit_or ..
  simp only [Nat.testBit_zero] at this
  have hx : decide (X % 2 = 1) = false := by simp; omega
  have hy : decide (Y % 2 = 1) = false := by simp; omega
  rw [hx, hy, Bool.false_or] at this
  have := of_decide_eq_false this
  omega
theorem ofS_even (l : List Int) : ofS l % 2 = 0 := by
  suffices h : ∀ (l : List Int) (x : Nat), x % 2 = 0 → l.foldl (fun x m => x ||| oneN m) x % 2 = 0 from h l 0 rfl
  intro l
  induction l with
  | nil => intro x h; exact h
  | cons m l ih => intro x h; exact ih _ (or_even _ _ h (oneN_even m))
theorem askX_even (l : List Int) : askX l % 2 = 0 := by
  unfold askX
  split
  · exact ofS_even l
  · rfl
theorem memS_zero : memS 0 = [] := by decide +kernel
theorem rightB_zero {l : List Int} (h : ofS l = 0) : rightB l = false := by
  unfold rightB
  rw [decide_eq_false_iff_not]
  rintro ⟨h1, h2⟩
  rw [h, memS_zero] at h2
  exact h1 h2
theorem rightB_pos {l : List Int} (h : ofS l ≠ 0) : rightB l = eqB (memS (ofS l)) l := by
  unfold rightB eqB
  rw [decide_eq_decide]
  constructor
  · rintro ⟨_, h2⟩; exact h2.symm
  · intro h2
    refine ⟨?_, h2.symm⟩
    rintro rfl
    exact h rfl

set_option maxHeartbeats 800000 in
theorem asked_any {e1 : Option TypeId} (A : Option Addr) (n c : Nat) (l : List Int) (w : World) (hs : Sees w e1 1 A n (ib .i64 l)) (hn : n ≤ 1000000000000) :
    Calls Try.prog 40 #[cf A n c] w fun e w' => e = .returned (.tuple #[.int .u64 (askX l), .int .i64 (askE l)]) ∧ Below w.heap.size w w' := by
  have B1 : Below w.heap.size w (w.alloc (.cells #[.slice A n c] 27)) := (Below.refl _ w).alloc (Nat.le_refl _) _
  have K1 := Blk.new w 27 #[.slice A n c]
  have hs1 := hs.alloc (.cells #[.slice A n c] 27)
  have HB1 := Lib.hid B1
  have HK1 := Lib.hid K1
  clear B1 K1
  by_cases h0 : ofS l = 0
  · have H0 := Lib.hid h0
    clear h0
    go_enter Try.func40, Try.ntmps40
    go_wp2_with (go_at_call 43; refine (of_any A n c l _ hs1 hn).mono ?_; rw [H0.out]; rintro e w1 ⟨rfl, rfl⟩)
    go_quiet (fail)
    go_wp2
    have hr := rightB_zero H0.out
    refine bodyPost_ret (v := .tuple #[.int .u64 0, .int .i64 180]) (by simp [results, Try.results40, go_sem]) rfl ?_
    refine ⟨?_, below_drewN HB1.out _⟩
    unfold askX askE
    rw [hr]
    rfl
  · have H0 := Lib.hid h0
    have hX := ofS_lt l
    have hne : ((ofS l : Int) == 0) = false := by simp; omega
    clear h0
    go_enter Try.func40, Try.ntmps40
    go_wp2_with (go_at_call 43; refine (of_any A n c l _ hs1 hn).mono ?_; rintro e w1 ⟨rfl, rfl⟩)
    obtain ⟨w1, hw1⟩ : ∃ w1, w1 = w.alloc (.cells #[.slice A n c] 27) := ⟨_, rfl⟩
    rw [← hw1] at HB1 HK1 hs1 ⊢
    clear hw1
    have hc1 := HK1.out.cell 0
    simp at hc1
    have hS0 : w1.drew.cell? ⟨w.heap.size, 0, none⟩ = some (.slice A n c) ∧ Below w1.heap.size w1 w1.drew := ⟨hc1, (Below.refl _ _).drew⟩
    go_region_held3 (fun w' => w'.cell? ⟨w.heap.size, 0, none⟩ = some (.slice A n c) ∧ Below w1.heap.size w1 w') (assumption)
      (first
        | (go_at_call 47; refine (conf_any (ofS l) hX _).mono ?_; rintro e x2 ⟨A2, c2, rfl, ho2, hb2⟩; have hS2 := keep1 ‹_ ∧ _› hb2)
        | (go_at_call 17; refine (same_any A2 A (sizeN (ofS l)) c2 n c (memS (ofS l)) l _ (Sees.of_own ho2) (hs1.below hS2.2) (by have := sizeN_le (ofS l); omega)).mono ?_; rintro e x3 ⟨rfl, hb3⟩; have hS3 := keep1 ‹_ ∧ _› hb3))
    have HB := Lib.hid (HB1.out.trans (hS3.2.mono HB1.out.size))
    cases hq : eqB (memS (ofS l)) l with
    | false =>
      have HQ : Hid (rightB l = false) := (rightB_pos H0.out).trans hq
      clear hq
      go_wp2
      refine bodyPost_ret (v := .tuple #[.int .u64 0, .int .i64 180]) (by simp [results, Try.results40, go_sem]) rfl ?_
      refine ⟨?_, HB.out⟩
      unfold askX askE
      rw [HQ.out]
      rfl
    | true =>
      have HQ : Hid (rightB l = true) := (rightB_pos H0.out).trans hq
      clear hq
      go_wp2
      refine bodyPost_ret (v := .tuple #[.int .u64 (ofS l), .int .i64 0]) (by simp [results, Try.results40, go_sem]) rfl ?_
      refine ⟨?_, HB.out⟩
      unfold askX askE
      rw [HQ.out]
      rfl

theorem check_any {e1 : Option TypeId} (A : Option Addr) (n c : Nat) (l : List Int) (w : World) (hs : Sees w e1 1 A n (ib .i64 l)) (hn : n ≤ 1000000000000) :
    Calls Try.prog 14 #[cf A n c] w fun e w' => e = .returned (.int .i64 (askE l)) ∧ Below w.heap.size w w' := by
  go_enter Try.func14, Try.ntmps14
  go_wp2_with (go_at_call 40; refine (asked_any A n c l _ (hs.alloc _) hn).mono ?_; rintro e w1 ⟨rfl, hb⟩)
  go_ret
  exact ⟨rfl, ((Below.refl _ w).alloc (Nat.le_refl _) _).trans (hb.mono (by simp))⟩

theorem has'_any {e1 : Option TypeId} (A : Option Addr) (n c : Nat) (l : List Int) (m : Int) (w : World) (hs : Sees w e1 1 A n (ib .i64 l)) (hn : n ≤ 1000000000000) :
    Calls Try.prog 15 #[cf A n c, .int .i64 m] w fun e w' => e = .returned (.bool (hasB (askX l) m)) ∧ Below w.heap.size w w' := by
  go_enter Try.func15, Try.ntmps15
  go_wp2_with (first | (go_at_call 40; refine (asked_any A n c l _ (hs.alloc _) hn).mono ?_; rintro e w1 ⟨rfl, hb⟩) | (go_at_call 41; refine (has_any (askX l) (askX_lt l) m _).mono ?_; rintro e w2 ⟨rfl, rfl⟩))
  go_ret
  exact ⟨rfl, ((Below.refl _ w).alloc (Nat.le_refl _) _).trans (hb.mono (by simp))⟩

theorem majority_any {e1 e2 : Option TypeId} (A B : Option Addr) (n c m d : Nat) (l r : List Int) (w : World) (hs : Sees w e1 1 A n (ib .i64 l)) (hr : Sees w e2 1 B m (ib .i64 r)) (hn : n ≤ 1000000000000) (hm : m ≤ 1000000000000) :
    Calls Try.prog 19 #[cf A n c, .slice B m d] w fun e w' => e = .returned (.bool (moreB (askX l) (ofS r))) ∧ Below w.heap.size w w' := by
  go_enter Try.func19, Try.ntmps19
  go_wp2_with (first | (go_at_call 40; refine (asked_any A n c l _ (hs.alloc _) hn).mono ?_; rintro e w1 ⟨rfl, hb⟩; have hr1 := (hr.alloc (.cells #[.slice A n c] 27)).below hb) | (go_at_call 43; refine (of_any B m d r _ hr1 hm).mono ?_; rintro e w2 ⟨rfl, rfl⟩) | (go_at_call 42; refine (more_any (askX l) (ofS r) (askX_lt l) (askX_even l) (ofS_lt r) _).mono ?_; rintro e w3 ⟨rfl, rfl⟩))
  go_ret
  exact ⟨rfl, ((Below.refl _ w).alloc (Nat.le_refl _) _).trans (hb.mono (by simp))⟩
end Go.Proofs.Ytonfbinkjhbpiaa
