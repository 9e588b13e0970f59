/- The walks of the conf layer: members as bytes, told whole; the references; what the laws begin with. No condition. -/
import Derived.Test.YtonfbinkjhbpiaaC8
namespace Go.Proofs.Ytonfbinkjhbpiaa
open Go.RowKit Go.Shelf
set_option linter.unusedVariables false

set_option maxHeartbeats 400000 in
theorem encode_any {e1 : Option TypeId} (A : Option Addr) (n c : Nat) (l : List Int) (w : World) (hs : Sees w e1 1 A n (ib .i64 l)) (hn : n ≤ 1000000000000) :
    Calls Try.prog 22 #[cf A n c] w (MadeB w (encL l) (askE l)) := by
  cases hr : rightB l with
  | true =>
    have hE : askE l = 0 := by unfold askE; rw [hr]; rfl
    rw [hE]
    exact callsIn_wide.1 (encode_in 5 (by omega) A n c l w hs hn hr)
  | false =>
    have hE : Hid (askE l = 180) := by unfold Hid askE; rw [hr]; rfl
    have hL : Hid (encL l = []) := by unfold Hid encL; rw [hr]; rfl
    have hB := Lib.hid ((Below.refl _ w).alloc (Nat.le_refl _) (.cells #[.slice A n c] 27))
    clear hr
    go_enter Try.func22, Try.ntmps22
    go_wp2_with (go_at_call 40; refine (asked_any A n c l _ (hs.alloc _) hn).mono ?_; rw [hE.out]; rintro e w1 ⟨rfl, hb⟩)
    refine bodyPost_ret (v := .tuple #[.slice none 0 0, .int .i64 180]) (by simp [results, Try.results22, go_sem]) rfl ?_
    rw [hE.out, hL.out]
    exact ⟨none, 0, 0, rfl, World.ownsRow_nil _ _ _ _, hB.out.trans (hb.mono (by simp))⟩

theorem count_snoc (l : List Int) (x m : Int) : (l ++ [x]).count m = l.count m + if x = m then 1 else 0 := by
  rw [List.count_append, List.count_singleton]
  by_cases h : x = m <;> simp [h]

set_option maxHeartbeats 400000 in
theorem rhas_any {e1 : Option TypeId} (A : Option Addr) (n c : Nat) (l : List Int) (m : Int) (w : World) (hs : Sees w e1 1 A n (ib .i64 l)) (hn : n ≤ 1000000000000) :
    Calls Try.prog 16 #[cf A n c, .int .i64 m] w fun e w' => e = .returned (.bool (decide (m ∈ l))) ∧ Below w.heap.size w w' := by
  have HL := Lib.hid hs.len
  have hs1 := hs.alloc (.cells #[.slice A n c] 27)
  have hB := Lib.hid ((Below.refl _ w).alloc (Nat.le_refl _) (.cells #[.slice A n c] 27))
  go_enter Try.func16, Try.ntmps16
  go_wp2
  obtain ⟨w1, hw1⟩ : ∃ w1, w.alloc (.cells #[.slice A n c] 27) = w1 := ⟨_, rfl⟩
  rw [hw1] at hs1 hB ⊢
  clear hw1
  go_loop [5, 11] (fun s i => ∃ k q : Nat, k ≤ n ∧ i = .int .i64 k ∧ s = .int .i64 q ∧ q ≤ k ∧ Hid (q = (l.take k).count m)) (fun _ i => n - (intOf i).toNat)
  case atStart => exact ⟨0, 0, Nat.zero_le _, rfl, rfl, Nat.le_refl _, rfl⟩
  case round =>
    obtain ⟨k, q, hk, rfl, rfl, hq, HQ⟩ := hrel
    by_cases hlt : k < n
    · obtain ⟨ad, u, rfl, hu, hc⟩ := hs1.at_ hlt
      obtain ⟨x, hx, rfl⟩ := ib_get hu
      have HS := Lib.hid (take_snoc hx)
      clear hx hu
      by_cases hxm : x = m
      · have HM : Hid (x = m) := hxm
        have hb : (x == m) = true := by simp [hxm]
        clear hxm
        go_wp2
        go_round
        case rel => exact ⟨k + 1, q + 1, by omega, by go_num, by go_num, by omega, by unfold Hid; rw [HS.out, count_snoc, ← HQ.out, if_pos HM.out]⟩
        case measure => simp [intOf]; omega
      · have HM : Hid (¬ x = m) := hxm
        have hb : (x == m) = false := by simp [hxm]
        clear hxm
        go_wp2
        go_round
        case rel => exact ⟨k + 1, q, by omega, by go_num, rfl, by omega, by unfold Hid; rw [HS.out, count_snoc, ← HQ.out, if_neg HM.out]; rfl⟩
        case measure => simp [intOf]; omega
    · go_wp2
      go_ret
      refine ⟨ret_bool ?_, hB.out⟩
      have h := HQ.out
      rw [take_all (by have := HL.out; omega)] at h
      subst h
      rw [decide_eq_decide, ← List.count_pos_iff]
      first | done | omega

/-- The members' numbers that there may be, rising. -/
def ofM (l : List Int) : List Int := [1, 2, 3, 4, 5].filter fun m => decide (m ∈ l)

theorem part_any (A : Option Addr) (n cap : Nat) (l : List Int) (w : World) {e1 : Option TypeId} (hs : Sees w e1 1 A n (ib .i64 l)) (hnc : n ≤ cap) (hcap : cap ≤ maxLen) :
    Calls Try.prog 11 #[.slice A n cap] w fun e w' => ∃ A' m c', e = .returned (.slice A' m c') ∧ m ≤ 30 ∧ w'.ownsRow w.heap.size 3 1 (.slice A' m c') m (ib .i64 (l.take 30)) ∧ Below w.heap.size w w' := by
  have ty_ints : ElemTy Try.prog 23 3 (.int .i64 0) 1 8 := ⟨Try.underlying23, by kernel_rfl, rfl, by omega, by omega⟩
  have HL := Lib.hid hs.len
  unfold maxLen at hcap
  by_cases h : 30 < n
  · have ht := hs.head (m := 30) (by omega)
    go_enter Try.func11, Try.ntmps11
    go_wp2_with (at_builtin; refine Door.enter ?_)
    refine Door.leave (wl_append ty_ints (base := w.heap.size) (World.ownsRow_lit w #[] 0 (Nat.le_refl _) (by simp [maxLen]) (by simp)) (ht.alloc _) (Nat.zero_add _) (List.nil_append _) (ib_one _ _) (by omega) (by simp) rfl rfl rfl rfl ?_)
    intro A' c' w' h2 h3 h4 h5
    go_wp2
    go_ret
    exact ⟨A', 30, c', rfl, by omega, h2, ((Below.refl _ w).alloc (Nat.le_refl _) _).trans h3⟩
  · go_enter Try.func11, Try.ntmps11
    go_wp2_with (at_builtin; refine Door.enter ?_)
    refine Door.leave (wl_append ty_ints (base := w.heap.size) (World.ownsRow_lit w #[] 0 (Nat.le_refl _) (by simp [maxLen]) (by simp)) (hs.alloc _) (Nat.zero_add _) (List.nil_append _) (ib_one _ _) (by omega) (by simp) rfl rfl rfl rfl ?_)
    intro A' c' w' h2 h3 h4 h5
    go_wp2
    go_ret
    exact ⟨A', n, c', rfl, by omega, by rw [take_all (by have := HL.out; omega)]; exact h2, ((Below.refl _ w).alloc (Nat.le_refl _) _).trans h3⟩

theorem few_any (A : Option Addr) (n cap : Nat) (l : List Int) (w : World) {e1 : Option TypeId} (hs : Sees w e1 1 A n (ib .i64 l)) (hnc : n ≤ cap) (hcap : cap ≤ maxLen) :
    Calls Try.prog 12 #[cf A n cap] w fun e w' => ∃ A' m c', e = .returned (cf A' m c') ∧ m ≤ 30 ∧ w'.ownsRow w.heap.size 3 1 (.slice A' m c') m (ib .i64 (l.take 30)) ∧ Below w.heap.size w w' := by
  have hs1 := Lib.hid ((hs.alloc (.cells #[.slice A n cap] 27)).alloc (.cells #[.slice none 0 0] 27))
  have B1 := Lib.hid (((Below.refl _ w).alloc (Nat.le_refl _) (.cells #[.slice A n cap] 27)).alloc (by simp) (.cells #[.slice none 0 0] 27))
  have K1 := Blk.new (w.alloc (.cells #[.slice A n cap] 27)) 27 #[.slice none 0 0]
  simp only [World.size_alloc] at K1
  have HK1 := Lib.hid K1
  clear K1
  go_enter Try.func12, Try.ntmps12
  go_wp2_with (go_at_call 11; refine (part_any A n cap l _ hs1.out hnc hcap).mono ?_; rintro e w1 ⟨A1, m1, c1, rfl, hm1, ho1, hb1⟩; have k2 := HK1.out.below hb1; have hc2 := k2.cell 0; have hf2 := k2.frozen 0)
  have k4 := k2.put 0 (.slice A1 m1 c1)
  have r0 := k4.cell 0
  simp at r0
  refine bodyPost_ret (v := cf A1 m1 c1) (by simp [results, Try.results12, go_sem, r0]) rfl ?_
  refine ⟨A1, m1, c1, rfl, hm1, own_mono (own_set_low ho1 (by simp)) (by simp; omega), ?_⟩
  exact (B1.out.trans (hb1.mono (by simp; omega))).setCell (by simp) _
end Go.Proofs.Ytonfbinkjhbpiaa
