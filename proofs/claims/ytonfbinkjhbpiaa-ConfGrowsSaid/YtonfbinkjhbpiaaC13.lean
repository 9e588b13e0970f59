/- The walks of the conf layer: what a step is; slices.Contains; the plain law of shares. No condition. -/
import Derived.Test.YtonfbinkjhbpiaaC12
namespace Go.Proofs.Ytonfbinkjhbpiaa
open Go.RowKit Go.Shelf
set_option linter.unusedVariables false

def stepE (l r : List Int) : Int := if (rightB l && rightB r) = false then 180 else if 1 < sizeN (askX l ^^^ askX r) then 181 else 0

theorem xor_lt64 (X Y : Nat) (h : X < 64) (k : Y < 64) : X ^^^ Y < 64 := Nat.xor_lt_two_pow (n := 6) h k
theorem xor_even (X Y : Nat) (h : X % 2 = 0) (k : Y % 2 = 0) : (X ^^^ Y) % 2 = 0 := by
  have : (X ^^^ Y).testBit 0 = (X.testBit 0 ^^ Y.testBit 0) := Nat.testBit_xor ..
  simp only [Nat.testBit_zero] at this
  have hx : decide (X % 2 = 1) = false := by simp; omega
  have hy : decide (Y % 2 = 1) = false := by simp; omega
  rw [hx, hy] at this
  have := of_decide_eq_false this
  omega

set_option maxHeartbeats 800000 in
theorem step_any {e1 e2 : Option TypeId} (A B : Option Addr) (n c m d : Nat) (l r : List Int) (w : World) (hs : Sees w e1 1 A n (ib .i64 l)) (hr : Sees w e2 1 B m (ib .i64 r)) (hn : n ≤ 1000000000000) (hm : m ≤ 1000000000000) :
    Calls Try.prog 28 #[cf A n c, cf B m d] w fun e w' => e = .returned (.int .i64 (stepE l r)) ∧ Below w.heap.size w w' := by
  have hs1 := Lib.hid ((hs.alloc (.cells #[.slice A n c] 27)).alloc (.cells #[.slice B m d] 27))
  have hr1 := Lib.hid ((hr.alloc (.cells #[.slice A n c] 27)).alloc (.cells #[.slice B m d] 27))
  have HB := Lib.hid (((Below.refl _ w).alloc (Nat.le_refl _) (.cells #[.slice A n c] 27)).alloc (by simp) (.cells #[.slice B m d] 27))
  have k2 := Blk.new (w.alloc (.cells #[.slice A n c] 27)) 27 #[.slice B m d]
  simp only [World.size_alloc] at k2
  have HK := Lib.hid k2
  have hx := bits_xor (askX l) (askX r) (askX_lt l) (askX_lt r)
  have HX := Lib.hid (sizeN_le (askX l ^^^ askX r))
  clear k2
  go_enter Try.func28, Try.ntmps28
  go_wp2_with fail
  refine (asked_any A n c l _ hs1.out hn).mono ?_
  rintro e w1 ⟨rfl, hb1⟩
  have k3 := HK.out.below hb1
  have c3 := k3.cell 0
  have hr2 := Lib.hid (hr1.out.below hb1)
  have HB1 := Lib.hid (HB.out.trans (hb1.mono HB.out.size))
  clear hb1 HB HK hs1 hr1
  go_wp2_with fail
  refine (asked_any B m d r _ hr2.out hm).mono ?_
  rintro e w2 ⟨rfl, hb2⟩
  have HB2 := Lib.hid (HB1.out.trans (hb2.mono HB1.out.size))
  clear hb2 HB1 hr2 k3 c3
  have HL := Lib.hid (askX_lt l)
  have HR := Lib.hid (askX_lt r)
  cases hl : rightB l with
  | false =>
    rw [askE_wrong hl]
    have HE : Hid (stepE l r = 180) := by unfold Hid stepE; rw [hl]; rfl
    clear hl
    go_wp2
    go_ret
    exact ⟨ret_int HE.out.symm, HB2.out⟩
  | true =>
    rw [askE_right hl]
    cases hrr : rightB r with
    | false =>
      rw [askE_wrong hrr]
      have HE : Hid (stepE l r = 180) := by unfold Hid stepE; rw [hl, hrr]; rfl
      clear hl hrr
      go_wp2
      go_ret
      exact ⟨ret_int HE.out.symm, HB2.out⟩
    | true =>
      rw [askE_right hrr]
      have HE : Hid (stepE l r = if 1 < sizeN (askX l ^^^ askX r) then 181 else 0) := by unfold Hid stepE; rw [hl, hrr, if_neg (by simp)]
      clear hl hrr
      by_cases h1 : 1 < sizeN (askX l ^^^ askX r)
      · have HE2 := HE.out
        rw [if_pos h1] at HE2
        have HE3 := Lib.hid HE2
        clear HE2 HE
        have hI : (1 : Int) < (sizeN (askX l ^^^ askX r) : Nat) := by omega
        go_wp2_with (go_at_call 44; refine (size_any (askX l ^^^ askX r) (xor_lt64 _ _ HL.out HR.out) (xor_even _ _ (askX_even l) (askX_even r)) _).mono ?_; rintro e w3 ⟨rfl, rfl⟩)
        go_ret
        exact ⟨ret_int HE3.out.symm, HB2.out⟩
      · have HE2 := HE.out
        rw [if_neg h1] at HE2
        have HE3 := Lib.hid HE2
        clear HE2 HE
        have hI : ¬ (1 : Int) < (sizeN (askX l ^^^ askX r) : Nat) := by omega
        go_wp2_with (go_at_call 44; refine (size_any (askX l ^^^ askX r) (xor_lt64 _ _ HL.out HR.out) (xor_even _ _ (askX_even l) (askX_even r)) _).mono ?_; rintro e w3 ⟨rfl, rfl⟩)
        go_ret
        exact ⟨ret_int HE3.out.symm, HB2.out⟩

/-- Where a number lies. -/
def idxS (l : List Int) (m : Int) : Int := if m ∈ l then (l.idxOf m : Int) else -1
theorem idxS_at {l : List Int} {m : Int} {k : Nat} (hk : l[k]? = some m) (hno : m ∉ l.take k) : idxS l m = k := by
  have hm : m ∈ l := List.mem_of_getElem? hk
  unfold idxS
  rw [if_pos hm]
  have hlt := (List.getElem?_eq_some_iff.1 hk).1
  have e : l = l.take k ++ m :: l.drop (k + 1) := by
    have h := (List.take_append_drop k l).symm
    rw [List.drop_eq_getElem_cons hlt, (List.getElem?_eq_some_iff.1 hk).2] at h
    exact h
  have h2 : (l.take k ++ m :: l.drop (k + 1)).idxOf m = k := by
    rw [List.idxOf_append, if_neg hno, List.idxOf_cons_self, List.length_take]
    omega
  rw [← e] at h2
  omega

set_option maxHeartbeats 400000 in
theorem index_any {e1 : Option TypeId} (A : Option Addr) (n c : Nat) (l : List Int) (m : Int) (w : World) (hs : Sees w e1 1 A n (ib .i64 l)) (hn : n ≤ 1000000000000) :
    Calls Try.prog 49 #[.slice A n c, .int .i64 m] w fun e w' => e = .returned (.int .i64 (idxS l m)) ∧ w = w' := by
  have HL := Lib.hid hs.len
  go_enter Try.func49, Try.ntmps49
  go_wp2
  go_loop [8] (fun i => ∃ k : Nat, k ≤ n ∧ i = .int .i64 k ∧ Hid (m ∉ l.take k)) (fun i => n - (intOf i).toNat)
  case atStart => exact ⟨0, Nat.zero_le _, rfl, by simp [Hid]⟩
  case round =>
    obtain ⟨k, hk, rfl, HN⟩ := hrel
    by_cases hlt : k < n
    · have hkI : (k : Int) < n := by omega
      obtain ⟨ad, u, rfl, hu, hc⟩ := hs.at_ hlt
      obtain ⟨x, hx, rfl⟩ := ib_get hu
      have HX := Lib.hid hx
      clear hx hu
      by_cases hxm : m = x
      · subst hxm
        go_wp2
        go_ret
        exact ⟨ret_int (idxS_at HX.out HN.out).symm, rfl⟩
      · have hb : (m == x) = false := by simp [hxm]
        have HM := Lib.hid hxm
        clear hxm
        go_wp2
        go_round
        case rel => exact ⟨k + 1, by omega, by go_num, by unfold Hid; rw [take_snoc HX.out]; simp only [List.mem_append, List.mem_singleton, not_or]; exact ⟨HN.out, HM.out⟩⟩
        case measure => simp [intOf]; omega
    · go_wp2
      go_ret
      have h := HN.out
      rw [take_all (by have := HL.out; omega)] at h
      exact ⟨ret_int (by unfold idxS; rw [if_neg h]), rfl⟩

theorem contains_any {e1 : Option TypeId} (A : Option Addr) (n c : Nat) (l : List Int) (m : Int) (w : World) (hs : Sees w e1 1 A n (ib .i64 l)) (hn : n ≤ 1000000000000) :
    Calls Try.prog 35 #[.slice A n c, .int .i64 m] w fun e w' => e = .returned (.bool (decide (m ∈ l))) ∧ w = w' := by
  by_cases h : m ∈ l
  · have HI : Hid (decide (m ∈ l) = true) := by simp [Hid, h]
    have hI : (0 : Int) ≤ idxS l m := by unfold idxS; rw [if_pos h]; omega
    clear h
    go_enter Try.func35, Try.ntmps35
    go_wp2_with (go_at_call 49; refine (index_any A n c l m w hs hn).mono ?_; rintro e w1 ⟨rfl, rfl⟩)
    go_ret
    exact ⟨ret_bool (by first | (rw [HI.out]; done) | (rw [HI.out]; simp [hI])), rfl⟩
  · have HI : Hid (decide (m ∈ l) = false) := by simp [Hid, h]
    have hI : ¬ (0 : Int) ≤ idxS l m := by unfold idxS; rw [if_neg h]; omega
    clear h
    go_enter Try.func35, Try.ntmps35
    go_wp2_with (go_at_call 49; refine (index_any A n c l m w hs hn).mono ?_; rintro e w1 ⟨rfl, rfl⟩)
    go_ret
    exact ⟨ret_bool (by first | (rw [HI.out]; done) | (rw [HI.out]; simp [hI])), rfl⟩

theorem size_sum (X : Nat) : sizeN X = (hasB X 1).toNat + (hasB X 2).toNat + (hasB X 3).toNat + (hasB X 4).toNat + (hasB X 5).toNat := by
  unfold sizeN memS
  simp only [List.filter]
  cases hasB X 1 <;> cases hasB X 2 <;> cases hasB X 3 <;> cases hasB X 4 <;> cases hasB X 5 <;> rfl

theorem share_one (a b s t : Bool) (h : (s && t && (a || b)) = false) : 2 * (a && s).toNat + 2 * (b && t).toNat ≤ a.toNat + b.toNat + (a ^^ b).toNat := by
  revert h
  cases a <;> cases b <;> cases s <;> cases t <;> decide

/-- Two sets that have more than half of members a step apart share a member. -/
theorem share_law (la lb x y : List Int) (hs : stepE la lb = 0) (hx : moreB (askX la) (ofS x) = true) (hy : moreB (askX lb) (ofS y) = true) :
    ∃ m ∈ x, m ∈ y ∧ (hasB (askX la) m || hasB (askX lb) m) = true := by
  have hd : ¬ 1 < sizeN (askX la ^^^ askX lb) := by
    intro h
    unfold stepE at hs
    rw [if_pos h] at hs
    split at hs <;> simp at hs
  have hx' := of_decide_eq_true hx
  have hy' := of_decide_eq_true hy
  suffices h : ∃ m : Int, (1 ≤ m ∧ m ≤ 5) ∧ (hasB (ofS x) m && hasB (ofS y) m && (hasB (askX la) m || hasB (askX lb) m)) = true by
    obtain ⟨m, hm, h⟩ := h
    simp only [Bool.and_eq_true] at h
    obtain ⟨⟨h1, h2⟩, h3⟩ := h
    rw [hasB_ofS _ _ hm] at h1 h2
    exact ⟨m, of_decide_eq_true h1, of_decide_eq_true h2, h3⟩
  refine Classical.byContradiction fun hno => ?_
  have hno' : ∀ m : Int, 1 ≤ m ∧ m ≤ 5 → (hasB (ofS x) m && hasB (ofS y) m && (hasB (askX la) m || hasB (askX lb) m)) = false := fun m hm => by
    cases h : (hasB (ofS x) m && hasB (ofS y) m && (hasB (askX la) m || hasB (askX lb) m)) with
    | false => rfl
    | true => exact absurd ⟨m, hm, h⟩ hno
  rw [size_sum, size_sum (askX la &&& ofS x)] at hx'
  rw [size_sum, size_sum (askX lb &&& ofS y)] at hy'
  rw [size_sum] at hd
  simp only [hasB_and, hasB_xor] at hx' hy' hd
  have h1 := share_one _ _ _ _ (hno' 1 (by omega))
  have h2 := share_one _ _ _ _ (hno' 2 (by omega))
  have h3 := share_one _ _ _ _ (hno' 3 (by omega))
  have h4 := share_one _ _ _ _ (hno' 4 (by omega))
  have h5 := share_one _ _ _ _ (hno' 5 (by omega))
  omega
end Go.Proofs.Ytonfbinkjhbpiaa
