/- The walks of the conf layer: who is added and dropped. No condition. -/
import Derived.Test.YtonfbinkjhbpiaaC6
namespace Go.Proofs.Ytonfbinkjhbpiaa
open Go.RowKit Go.Shelf
set_option linter.unusedVariables false

/-- What adding says, and the members then. -/
def addE (l : List Int) (m : Int) : Int := if rightB l = false then 180 else if oneN m = 0 then 2 else if hasB (askX l) m = true then 5 else 0
def addL (l : List Int) (m : Int) : List Int := if addE l m = 0 then memS (askX l ||| oneN m) else []

/-- What a function that makes members and an error answers. -/
def MadeC (w : World) (L : List Int) (E : Int) (e : Ending) (w' : World) : Prop :=
  ∃ A n c, e = .returned (.tuple #[cf A n c, .int .i64 E]) ∧ w'.ownsRow w.heap.size 3 1 (.slice A n c) n (ib .i64 L) ∧ Below w.heap.size w w'

theorem madeC_none {w wf : World} {E : Int} (hB : Below w.heap.size w wf) : MadeC w [] E (.returned (.tuple #[cf none 0 0, .int .i64 E])) wf :=
  ⟨none, 0, 0, rfl, World.ownsRow_nil _ _ _ _, hB⟩

set_option maxHeartbeats 800000 in
theorem add_any {e1 : Option TypeId} (A : Option Addr) (n c : Nat) (l : List Int) (m : Int) (w : World) (hs : Sees w e1 1 A n (ib .i64 l)) (hn : n ≤ 1000000000000) :
    Calls Try.prog 29 #[cf A n c, .int .i64 m] w (MadeC w (addL l m) (addE l m)) := by
  have hs1 := Lib.hid ((hs.alloc (.cells #[.slice A n c] 27)).alloc (.cells #[.slice none 0 0] 27))
  have B1 := Lib.hid (((Below.refl _ w).alloc (Nat.le_refl _) (.cells #[.slice A n c] 27)).alloc (by simp) (.cells #[.slice none 0 0] 27))
  have K1 := Blk.new (w.alloc (.cells #[.slice A n c] 27)) 27 #[.slice none 0 0]
  simp only [World.size_alloc] at K1
  have HK1 := Lib.hid K1
  clear K1
  have HX := Lib.hid (askX_lt l)
  have HO := Lib.hid (oneN_lt m)
  cases hr : rightB l with
  | false =>
    have HE : Hid (askE l = 180) := by unfold Hid askE; rw [hr]; rfl
    have HA : Hid (addE l m = 180) := by unfold Hid addE; rw [hr]; rfl
    clear hr
    go_enter Try.func29, Try.ntmps29
    go_wp2_with (first
      | (go_at_call 40; refine (asked_any A n c l _ hs1.out hn).mono ?_; rw [HE.out]; rintro e w1 ⟨rfl, hb⟩; have k2 := HK1.out.below hb; have hc2 := k2.cell 0; have hf2 := k2.frozen 0; have hb1 := Lib.hid (B1.out.trans (hb.mono (by simp; omega))))
      | (go_at_call 46; refine (one_any m _).mono ?_; rintro e w2 ⟨rfl, rfl⟩))
    have k3 := k2.put 0 (.slice none 0 0)
    have r0 := k3.cell 0
    simp at r0
    refine bodyPost_ret (v := .tuple #[cf none 0 0, .int .i64 180]) (by simp [results, Try.results29, go_sem, r0]) rfl ?_
    have hL : addL l m = [] := by unfold addL; rw [HA.out]; rfl
    rw [hL, HA.out]
    exact madeC_none (hb1.out.setCell (by simp) _)
  | true =>
    have HE : Hid (askE l = 0) := by unfold Hid askE; rw [hr]; rfl
    by_cases hz : oneN m = 0
    · have HA : Hid (addE l m = 2) := by unfold Hid addE; rw [hr, if_neg (by simp), if_pos hz]
      have HZ := Lib.hid hz
      clear hr hz
      go_enter Try.func29, Try.ntmps29
      go_wp2_with (first
        | (go_at_call 40; refine (asked_any A n c l _ hs1.out hn).mono ?_; rw [HE.out]; rintro e w1 ⟨rfl, hb⟩; have k2 := HK1.out.below hb; have hc2 := k2.cell 0; have hf2 := k2.frozen 0; have hb1 := Lib.hid (B1.out.trans (hb.mono (by simp; omega))))
        | (go_at_call 46; refine (one_any m _).mono ?_; rw [HZ.out]; rintro e w2 ⟨rfl, rfl⟩))
      have k3 := k2.put 0 (.slice none 0 0)
      have r0 := k3.cell 0
      simp at r0
      refine bodyPost_ret (v := .tuple #[cf none 0 0, .int .i64 2]) (by simp [results, Try.results29, go_sem, r0]) rfl ?_
      have hL : addL l m = [] := by unfold addL; rw [HA.out]; rfl
      rw [hL, HA.out]
      exact madeC_none (hb1.out.setCell (by simp) _)
    · have hnz : ((oneN m : Int) == 0) = false := by simp; omega
      have hbits := bits_and (askX l) (oneN m) (askX_lt l) (oneN_lt m)
      have hbits2 := bits_or (askX l) (oneN m) (askX_lt l) (oneN_lt m)
      cases hq : hasB (askX l) m with
      | true =>
        have HA : Hid (addE l m = 5) := by unfold Hid addE; rw [hr, if_neg (by simp), if_neg hz, if_pos hq]
        have hne : (((askX l &&& oneN m : Nat) : Int) != 0) = true := by unfold hasB at hq; simp at hq ⊢; omega
        clear hr hz hq
        go_enter Try.func29, Try.ntmps29
        go_wp2_with (first
          | (go_at_call 40; refine (asked_any A n c l _ hs1.out hn).mono ?_; rw [HE.out]; rintro e w1 ⟨rfl, hb⟩; have k2 := HK1.out.below hb; have hc2 := k2.cell 0; have hf2 := k2.frozen 0; have hb1 := Lib.hid (B1.out.trans (hb.mono (by simp; omega))))
          | (go_at_call 46; refine (one_any m _).mono ?_; rintro e w2 ⟨rfl, rfl⟩))
        have k3 := k2.put 0 (.slice none 0 0)
        have r0 := k3.cell 0
        simp at r0
        refine bodyPost_ret (v := .tuple #[cf none 0 0, .int .i64 5]) (by simp [results, Try.results29, go_sem, r0]) rfl ?_
        have hL : addL l m = [] := by unfold addL; rw [HA.out]; rfl
        rw [hL, HA.out]
        exact madeC_none (hb1.out.setCell (by simp) _)
      | false =>
        have HA : Hid (addE l m = 0) := by unfold Hid addE; rw [hr, if_neg (by simp), if_neg hz, if_neg (by rw [hq]; simp)]
        have hne : (((askX l &&& oneN m : Nat) : Int) != 0) = false := by unfold hasB at hq; simp at hq ⊢; omega
        clear hr hz hq
        go_enter Try.func29, Try.ntmps29
        go_wp2_with (first
          | (go_at_call 40; refine (asked_any A n c l _ hs1.out hn).mono ?_; rw [HE.out]; rintro e w1 ⟨rfl, hb⟩; have k2 := HK1.out.below hb; have hb1 := Lib.hid (B1.out.trans (hb.mono (by simp; omega))))
          | (go_at_call 46; refine (one_any m _).mono ?_; rintro e w2 ⟨rfl, rfl⟩)
          | (go_at_call 47; refine (conf_any (askX l ||| oneN m) (or_lt64 _ _ HX.out HO.out) _).mono ?_; rintro e w4 ⟨A4, c4, rfl, ho4, hb4⟩; have k4 := k2.below hb4; have hc2 := k4.cell 0; have hf2 := k4.frozen 0))
        have k5 := k4.put 0 (.slice A4 (sizeN (askX l ||| oneN m)) c4)
        have r0 := k5.cell 0
        simp at r0
        refine bodyPost_ret (v := .tuple #[cf A4 (sizeN (askX l ||| oneN m)) c4, .int .i64 0]) (by simp [results, Try.results29, go_sem, r0]) rfl ?_
        have hL : addL l m = memS (askX l ||| oneN m) := by unfold addL; rw [HA.out]; rfl
        rw [hL, HA.out]
        exact ⟨A4, _, c4, rfl, own_mono (own_set_low ho4 k2.lt) hb1.out.size, (hb1.out.trans (hb4.mono hb1.out.size)).setCell (by simp) _⟩
end Go.Proofs.Ytonfbinkjhbpiaa
