/- The document's tokens: which may be, their text, which are the same. Condition: what the package-level variables hold. -/
import Derived.Test.YtekpmlfcmnlmiaaGreatDoorJS
import Derived.Test.YtekpmlfcmnlmiaaGreatDoorX10
namespace Go.Proofs.YtekpmlfcmnlmiaaGreatDoor
open Go.RowKit
set_option linter.unusedVariables false
set_option linter.unusedSimpArgs false
set_option maxRecDepth 20000
def noSg (s : ByteArray) (k : Nat) : Prop := ∀ x ∈ sgns.take k, bsEq s x = false
theorem noSg_0 (s : ByteArray) : noSg s 0 := fun x hx => by simp at hx
theorem noSg_s {s x : ByteArray} {k : Nat} (h : noSg s k) (hx : sgns[k]? = some x) (hp : bsEq s x = false) : noSg s (k + 1) := fun z hz => by
  rw [List.take_add_one, hx] at hz
  rcases List.mem_append.1 hz with hz | hz
  · exact h z hz
  · simp at hz; subst hz; exact hp
theorem sg_no {s : ByteArray} (h : noSg s 16) : sgnB s = false := List.any_eq_false.2 fun x hx => by simp [h x (by rw [List.take_of_length_le (by decide)]; exact hx)]
theorem sg_yes {s x : ByteArray} {k : Nat} (hx : sgns[k]? = some x) (h : bsEq s x = true) : sgnB s = true := List.any_eq_true.2 ⟨x, List.mem_of_getElem? hx, h⟩
theorem bsF {a b : ByteArray} (h : ¬ bs a = bs b) : bsEq a b = false := by rw [bsEq_f]; exact h
theorem bsT {a b : ByteArray} (h : bs a = bs b) : bsEq a b = true := by rw [bsEq_t]; exact h
set_option maxHeartbeats 4000000 in
set_option maxRecDepth 20000 in
theorem sign6_X (s : ByteArray) : XMeets Tryz.prog 48 [.v (.string s)] (.p (.v (.bool (sgnB s))) (nlv _)) := by
  refine XMeets.of_X tabX_ok (avs := [.p (.v (.string s)) (nlv _)]) [(0, .p (.v (.string s)) (nlv _))] (by kernel_rfl) Tryz.func48 rfl (by simp [PuL, Pu]) (rfl) rfl rfl ?_
  intro B w0
  conv => whnf
  refine XT.loop tabX_ok (Y := Nat) [2, 4, 6, 7, 8, 9, 10, 11, 12] (fun k => [(6, .p (.v (.int .i64 ((k : Int)))) (nlv _))]) (fun k => []) (fun k => k ≤ 16 ∧ noSg s k) (fun k => 16 - k) 0 ⟨by omega, noSg_0 s⟩ ?_ ?_
  · skip
    refine ⟨?_, ?_, ?_⟩
    · skip
      refine leEnv_app (by kernel_rfl) (by kernel_rfl) ?_
      repeat ((conv => whnf); first | exact True.intro | refine ⟨.rfl, ?_⟩ | refine ⟨.any, ?_⟩ | refine ⟨.nil, ?_⟩ | refine ⟨.int (by first | rfl | omega | (simp only [wrs]; omega)), ?_⟩)
    · skip
      repeat (first | exact LeVs.nil | ((conv => whnf); first | exact True.intro | exact .none | exact .row rfl | refine .cells ?_ | refine ⟨_, _, rfl, .rfl, ?_⟩ | refine ⟨_, _, rfl, .any, ?_⟩ | refine ⟨_, _, rfl, .nil, ?_⟩ | refine ⟨_, _, rfl, .int (by first | rfl | omega | (simp only [wrs]; omega)), ?_⟩ | refine ⟨?_, ?_⟩))
      done
    · skip
      exact LeFr.nil
  · skip
    rintro k ⟨hk, hn⟩
    rcases (by omega : k = 0 ∨ k = 1 ∨ k = 2 ∨ k = 3 ∨ k = 4 ∨ k = 5 ∨ k = 6 ∨ k = 7 ∨ k = 8 ∨ k = 9 ∨ k = 10 ∨ k = 11 ∨ k = 12 ∨ k = 13 ∨ k = 14 ∨ k = 15 ∨ k = 16) with rfl | rfl | rfl | rfl | rfl | rfl | rfl | rfl | rfl | rfl | rfl | rfl | rfl | rfl | rfl | rfl | rfl
    · skip
      conv => whnf
      refine ⟨_, rfl, ?_⟩
      conv => whnf
      refine ⟨by simp only [bls]; omega, ?_⟩
      conv => whnf
      refine bS (fun hc1 => ?_) (fun hc1 => ?_)
      · skip
        try simp only [bls] at hc1
        conv => whnf
        refine FinG.mk none ?_ (by rintro _ ⟨⟩)
        simp only [outs, List.length_map, List.length_append, List.length_take, List.length_drop, List.length_cons, List.length_nil]
        rw [sg_yes (k := 0) rfl (by first | assumption | exact bsT (by assumption))]
      · skip
        try simp only [bls] at hc1
        conv => whnf
        refine ⟨(1), ⟨by omega, noSg_s hn rfl (by first | assumption | exact bsF (by assumption))⟩, (by omega), ?_⟩
        refine ⟨?_, ?_, ?_⟩
        · skip
          refine leEnv_app (by kernel_rfl) (by kernel_rfl) ?_
          repeat ((conv => whnf); first | exact True.intro | refine ⟨.rfl, ?_⟩ | refine ⟨.any, ?_⟩ | refine ⟨.nil, ?_⟩ | refine ⟨.int (by first | rfl | omega | (simp only [wrs]; omega)), ?_⟩)
        · skip
          repeat (first | exact LeVs.nil | ((conv => whnf); first | exact True.intro | exact .none | exact .row rfl | refine .cells ?_ | refine ⟨_, _, rfl, .rfl, ?_⟩ | refine ⟨_, _, rfl, .any, ?_⟩ | refine ⟨_, _, rfl, .nil, ?_⟩ | refine ⟨_, _, rfl, .int (by first | rfl | omega | (simp only [wrs]; omega)), ?_⟩ | refine ⟨?_, ?_⟩))
          done
        · skip
          exact LeFr.nil
    · skip
      conv => whnf
      refine ⟨_, rfl, ?_⟩
      conv => whnf
      refine ⟨by simp only [bls]; omega, ?_⟩
      conv => whnf
      refine bS (fun hc2 => ?_) (fun hc2 => ?_)
      · skip
        try simp only [bls] at hc2
        conv => whnf
        refine FinG.mk none ?_ (by rintro _ ⟨⟩)
        simp only [outs, List.length_map, List.length_append, List.length_take, List.length_drop, List.length_cons, List.length_nil]
        rw [sg_yes (k := 1) rfl (by first | assumption | exact bsT (by assumption))]
      · skip
        try simp only [bls] at hc2
        conv => whnf
        refine ⟨(2), ⟨by omega, noSg_s hn rfl (by first | assumption | exact bsF (by assumption))⟩, (by omega), ?_⟩
        refine ⟨?_, ?_, ?_⟩
        · skip
          refine leEnv_app (by kernel_rfl) (by kernel_rfl) ?_
          repeat ((conv => whnf); first | exact True.intro | refine ⟨.rfl, ?_⟩ | refine ⟨.any, ?_⟩ | refine ⟨.nil, ?_⟩ | refine ⟨.int (by first | rfl | omega | (simp only [wrs]; omega)), ?_⟩)
        · skip
          repeat (first | exact LeVs.nil | ((conv => whnf); first | exact True.intro | exact .none | exact .row rfl | refine .cells ?_ | refine ⟨_, _, rfl, .rfl, ?_⟩ | refine ⟨_, _, rfl, .any, ?_⟩ | refine ⟨_, _, rfl, .nil, ?_⟩ | refine ⟨_, _, rfl, .int (by first | rfl | omega | (simp only [wrs]; omega)), ?_⟩ | refine ⟨?_, ?_⟩))
          done
        · skip
          exact LeFr.nil
    · skip
      conv => whnf
      refine ⟨_, rfl, ?_⟩
      conv => whnf
      refine ⟨by simp only [bls]; omega, ?_⟩
      conv => whnf
      refine bS (fun hc3 => ?_) (fun hc3 => ?_)
      · skip
        try simp only [bls] at hc3
        conv => whnf
        refine FinG.mk none ?_ (by rintro _ ⟨⟩)
        simp only [outs, List.length_map, List.length_append, List.length_take, List.length_drop, List.length_cons, List.length_nil]
        rw [sg_yes (k := 2) rfl (by first | assumption | exact bsT (by assumption))]
      · skip
        try simp only [bls] at hc3
        conv => whnf
        refine ⟨(3), ⟨by omega, noSg_s hn rfl (by first | assumption | exact bsF (by assumption))⟩, (by omega), ?_⟩
        refine ⟨?_, ?_, ?_⟩
        · skip
          refine leEnv_app (by kernel_rfl) (by kernel_rfl) ?_
          repeat ((conv => whnf); first | exact True.intro | refine ⟨.rfl, ?_⟩ | refine ⟨.any, ?_⟩ | refine ⟨.nil, ?_⟩ | refine ⟨.int (by first | rfl | omega | (simp only [wrs]; omega)), ?_⟩)
        · skip
          repeat (first | exact LeVs.nil | ((conv => whnf); first | exact True.intro | exact .none | exact .row rfl | refine .cells ?_ | refine ⟨_, _, rfl, .rfl, ?_⟩ | refine ⟨_, _, rfl, .any, ?_⟩ | refine ⟨_, _, rfl, .nil, ?_⟩ | refine ⟨_, _, rfl, .int (by first | rfl | omega | (simp only [wrs]; omega)), ?_⟩ | refine ⟨?_, ?_⟩))
          done
        · skip
          exact LeFr.nil
    · skip
      conv => whnf
      refine ⟨_, rfl, ?_⟩
      conv => whnf
      refine ⟨by simp only [bls]; omega, ?_⟩
      conv => whnf
      refine bS (fun hc4 => ?_) (fun hc4 => ?_)
      · skip
        try simp only [bls] at hc4
        conv => whnf
        refine FinG.mk none ?_ (by rintro _ ⟨⟩)
        simp only [outs, List.length_map, List.length_append, List.length_take, List.length_drop, List.length_cons, List.length_nil]
        rw [sg_yes (k := 3) rfl (by first | assumption | exact bsT (by assumption))]
      · skip
        try simp only [bls] at hc4
        conv => whnf
        refine ⟨(4), ⟨by omega, noSg_s hn rfl (by first | assumption | exact bsF (by assumption))⟩, (by omega), ?_⟩
        refine ⟨?_, ?_, ?_⟩
        · skip
          refine leEnv_app (by kernel_rfl) (by kernel_rfl) ?_
          repeat ((conv => whnf); first | exact True.intro | refine ⟨.rfl, ?_⟩ | refine ⟨.any, ?_⟩ | refine ⟨.nil, ?_⟩ | refine ⟨.int (by first | rfl | omega | (simp only [wrs]; omega)), ?_⟩)
        · skip
          repeat (first | exact LeVs.nil | ((conv => whnf); first | exact True.intro | exact .none | exact .row rfl | refine .cells ?_ | refine ⟨_, _, rfl, .rfl, ?_⟩ | refine ⟨_, _, rfl, .any, ?_⟩ | refine ⟨_, _, rfl, .nil, ?_⟩ | refine ⟨_, _, rfl, .int (by first | rfl | omega | (simp only [wrs]; omega)), ?_⟩ | refine ⟨?_, ?_⟩))
          done
        · skip
          exact LeFr.nil
    · skip
      conv => whnf
      refine ⟨_, rfl, ?_⟩
      conv => whnf
      refine ⟨by simp only [bls]; omega, ?_⟩
      conv => whnf
      refine bS (fun hc5 => ?_) (fun hc5 => ?_)
      · skip
        try simp only [bls] at hc5
        conv => whnf
        refine FinG.mk none ?_ (by rintro _ ⟨⟩)
        simp only [outs, List.length_map, List.length_append, List.length_take, List.length_drop, List.length_cons, List.length_nil]
        rw [sg_yes (k := 4) rfl (by first | assumption | exact bsT (by assumption))]
      · skip
        try simp only [bls] at hc5
        conv => whnf
        refine ⟨(5), ⟨by omega, noSg_s hn rfl (by first | assumption | exact bsF (by assumption))⟩, (by omega), ?_⟩
        refine ⟨?_, ?_, ?_⟩
        · skip
          refine leEnv_app (by kernel_rfl) (by kernel_rfl) ?_
          repeat ((conv => whnf); first | exact True.intro | refine ⟨.rfl, ?_⟩ | refine ⟨.any, ?_⟩ | refine ⟨.nil, ?_⟩ | refine ⟨.int (by first | rfl | omega | (simp only [wrs]; omega)), ?_⟩)
        · skip
          repeat (first | exact LeVs.nil | ((conv => whnf); first | exact True.intro | exact .none | exact .row rfl | refine .cells ?_ | refine ⟨_, _, rfl, .rfl, ?_⟩ | refine ⟨_, _, rfl, .any, ?_⟩ | refine ⟨_, _, rfl, .nil, ?_⟩ | refine ⟨_, _, rfl, .int (by first | rfl | omega | (simp only [wrs]; omega)), ?_⟩ | refine ⟨?_, ?_⟩))
          done
        · skip
          exact LeFr.nil
    · skip
      conv => whnf
      refine ⟨_, rfl, ?_⟩
      conv => whnf
      refine ⟨by simp only [bls]; omega, ?_⟩
      conv => whnf
      refine bS (fun hc6 => ?_) (fun hc6 => ?_)
      · skip
        try simp only [bls] at hc6
        conv => whnf
        refine FinG.mk none ?_ (by rintro _ ⟨⟩)
        simp only [outs, List.length_map, List.length_append, List.length_take, List.length_drop, List.length_cons, List.length_nil]
        rw [sg_yes (k := 5) rfl (by first | assumption | exact bsT (by assumption))]
      · skip
        try simp only [bls] at hc6
        conv => whnf
        refine ⟨(6), ⟨by omega, noSg_s hn rfl (by first | assumption | exact bsF (by assumption))⟩, (by omega), ?_⟩
        refine ⟨?_, ?_, ?_⟩
        · skip
          refine leEnv_app (by kernel_rfl) (by kernel_rfl) ?_
          repeat ((conv => whnf); first | exact True.intro | refine ⟨.rfl, ?_⟩ | refine ⟨.any, ?_⟩ | refine ⟨.nil, ?_⟩ | refine ⟨.int (by first | rfl | omega | (simp only [wrs]; omega)), ?_⟩)
        · skip
          repeat (first | exact LeVs.nil | ((conv => whnf); first | exact True.intro | exact .none | exact .row rfl | refine .cells ?_ | refine ⟨_, _, rfl, .rfl, ?_⟩ | refine ⟨_, _, rfl, .any, ?_⟩ | refine ⟨_, _, rfl, .nil, ?_⟩ | refine ⟨_, _, rfl, .int (by first | rfl | omega | (simp only [wrs]; omega)), ?_⟩ | refine ⟨?_, ?_⟩))
          done
        · skip
          exact LeFr.nil
    · skip
      conv => whnf
      refine ⟨_, rfl, ?_⟩
      conv => whnf
      refine ⟨by simp only [bls]; omega, ?_⟩
      conv => whnf
      refine bS (fun hc7 => ?_) (fun hc7 => ?_)
      · skip
        try simp only [bls] at hc7
        conv => whnf
        refine FinG.mk none ?_ (by rintro _ ⟨⟩)
        simp only [outs, List.length_map, List.length_append, List.length_take, List.length_drop, List.length_cons, List.length_nil]
        rw [sg_yes (k := 6) rfl (by first | assumption | exact bsT (by assumption))]
      · skip
        try simp only [bls] at hc7
        conv => whnf
        refine ⟨(7), ⟨by omega, noSg_s hn rfl (by first | assumption | exact bsF (by assumption))⟩, (by omega), ?_⟩
        refine ⟨?_, ?_, ?_⟩
        · skip
          refine leEnv_app (by kernel_rfl) (by kernel_rfl) ?_
          repeat ((conv => whnf); first | exact True.intro | refine ⟨.rfl, ?_⟩ | refine ⟨.any, ?_⟩ | refine ⟨.nil, ?_⟩ | refine ⟨.int (by first | rfl | omega | (simp only [wrs]; omega)), ?_⟩)
        · skip
          repeat (first | exact LeVs.nil | ((conv => whnf); first | exact True.intro | exact .none | exact .row rfl | refine .cells ?_ | refine ⟨_, _, rfl, .rfl, ?_⟩ | refine ⟨_, _, rfl, .any, ?_⟩ | refine ⟨_, _, rfl, .nil, ?_⟩ | refine ⟨_, _, rfl, .int (by first | rfl | omega | (simp only [wrs]; omega)), ?_⟩ | refine ⟨?_, ?_⟩))
          done
        · skip
          exact LeFr.nil
    · skip
      conv => whnf
      refine ⟨_, rfl, ?_⟩
      conv => whnf
      refine ⟨by simp only [bls]; omega, ?_⟩
      conv => whnf
      refine bS (fun hc8 => ?_) (fun hc8 => ?_)
      · skip
        try simp only [bls] at hc8
        conv => whnf
        refine FinG.mk none ?_ (by rintro _ ⟨⟩)
        simp only [outs, List.length_map, List.length_append, List.length_take, List.length_drop, List.length_cons, List.length_nil]
        rw [sg_yes (k := 7) rfl (by first | assumption | exact bsT (by assumption))]
      · skip
        try simp only [bls] at hc8
        conv => whnf
        refine ⟨(8), ⟨by omega, noSg_s hn rfl (by first | assumption | exact bsF (by assumption))⟩, (by omega), ?_⟩
        refine ⟨?_, ?_, ?_⟩
        · skip
          refine leEnv_app (by kernel_rfl) (by kernel_rfl) ?_
          repeat ((conv => whnf); first | exact True.intro | refine ⟨.rfl, ?_⟩ | refine ⟨.any, ?_⟩ | refine ⟨.nil, ?_⟩ | refine ⟨.int (by first | rfl | omega | (simp only [wrs]; omega)), ?_⟩)
        · skip
          repeat (first | exact LeVs.nil | ((conv => whnf); first | exact True.intro | exact .none | exact .row rfl | refine .cells ?_ | refine ⟨_, _, rfl, .rfl, ?_⟩ | refine ⟨_, _, rfl, .any, ?_⟩ | refine ⟨_, _, rfl, .nil, ?_⟩ | refine ⟨_, _, rfl, .int (by first | rfl | omega | (simp only [wrs]; omega)), ?_⟩ | refine ⟨?_, ?_⟩))
          done
        · skip
          exact LeFr.nil
    · skip
      conv => whnf
      refine ⟨_, rfl, ?_⟩
      conv => whnf
      refine ⟨by simp only [bls]; omega, ?_⟩
      conv => whnf
      refine bS (fun hc9 => ?_) (fun hc9 => ?_)
      · skip
        try simp only [bls] at hc9
        conv => whnf
        refine FinG.mk none ?_ (by rintro _ ⟨⟩)
        simp only [outs, List.length_map, List.length_append, List.length_take, List.length_drop, List.length_cons, List.length_nil]
        rw [sg_yes (k := 8) rfl (by first | assumption | exact bsT (by assumption))]
      · skip
        try simp only [bls] at hc9
        conv => whnf
        refine ⟨(9), ⟨by omega, noSg_s hn rfl (by first | assumption | exact bsF (by assumption))⟩, (by omega), ?_⟩
        refine ⟨?_, ?_, ?_⟩
        · skip
          refine leEnv_app (by kernel_rfl) (by kernel_rfl) ?_
          repeat ((conv => whnf); first | exact True.intro | refine ⟨.rfl, ?_⟩ | refine ⟨.any, ?_⟩ | refine ⟨.nil, ?_⟩ | refine ⟨.int (by first | rfl | omega | (simp only [wrs]; omega)), ?_⟩)
        · skip
          repeat (first | exact LeVs.nil | ((conv => whnf); first | exact True.intro | exact .none | exact .row rfl | refine .cells ?_ | refine ⟨_, _, rfl, .rfl, ?_⟩ | refine ⟨_, _, rfl, .any, ?_⟩ | refine ⟨_, _, rfl, .nil, ?_⟩ | refine ⟨_, _, rfl, .int (by first | rfl | omega | (simp only [wrs]; omega)), ?_⟩ | refine ⟨?_, ?_⟩))
          done
        · skip
          exact LeFr.nil
    · skip
      conv => whnf
      refine ⟨_, rfl, ?_⟩
      conv => whnf
      refine ⟨by simp only [bls]; omega, ?_⟩
      conv => whnf
      refine bS (fun hc10 => ?_) (fun hc10 => ?_)
      · skip
        try simp only [bls] at hc10
        conv => whnf
        refine FinG.mk none ?_ (by rintro _ ⟨⟩)
        simp only [outs, List.length_map, List.length_append, List.length_take, List.length_drop, List.length_cons, List.length_nil]
        rw [sg_yes (k := 9) rfl (by first | assumption | exact bsT (by assumption))]
      · skip
        try simp only [bls] at hc10
        conv => whnf
        refine ⟨(10), ⟨by omega, noSg_s hn rfl (by first | assumption | exact bsF (by assumption))⟩, (by omega), ?_⟩
        refine ⟨?_, ?_, ?_⟩
        · skip
          refine leEnv_app (by kernel_rfl) (by kernel_rfl) ?_
          repeat ((conv => whnf); first | exact True.intro | refine ⟨.rfl, ?_⟩ | refine ⟨.any, ?_⟩ | refine ⟨.nil, ?_⟩ | refine ⟨.int (by first | rfl | omega | (simp only [wrs]; omega)), ?_⟩)
        · skip
          repeat (first | exact LeVs.nil | ((conv => whnf); first | exact True.intro | exact .none | exact .row rfl | refine .cells ?_ | refine ⟨_, _, rfl, .rfl, ?_⟩ | refine ⟨_, _, rfl, .any, ?_⟩ | refine ⟨_, _, rfl, .nil, ?_⟩ | refine ⟨_, _, rfl, .int (by first | rfl | omega | (simp only [wrs]; omega)), ?_⟩ | refine ⟨?_, ?_⟩))
          done
        · skip
          exact LeFr.nil
    · skip
      conv => whnf
      refine ⟨_, rfl, ?_⟩
      conv => whnf
      refine ⟨by simp only [bls]; omega, ?_⟩
      conv => whnf
      refine bS (fun hc11 => ?_) (fun hc11 => ?_)
      · skip
        try simp only [bls] at hc11
        conv => whnf
        refine FinG.mk none ?_ (by rintro _ ⟨⟩)
        simp only [outs, List.length_map, List.length_append, List.length_take, List.length_drop, List.length_cons, List.length_nil]
        rw [sg_yes (k := 10) rfl (by first | assumption | exact bsT (by assumption))]
      · skip
        try simp only [bls] at hc11
        conv => whnf
        refine ⟨(11), ⟨by omega, noSg_s hn rfl (by first | assumption | exact bsF (by assumption))⟩, (by omega), ?_⟩
        refine ⟨?_, ?_, ?_⟩
        · skip
          refine leEnv_app (by kernel_rfl) (by kernel_rfl) ?_
          repeat ((conv => whnf); first | exact True.intro | refine ⟨.rfl, ?_⟩ | refine ⟨.any, ?_⟩ | refine ⟨.nil, ?_⟩ | refine ⟨.int (by first | rfl | omega | (simp only [wrs]; omega)), ?_⟩)
        · skip
          repeat (first | exact LeVs.nil | ((conv => whnf); first | exact True.intro | exact .none | exact .row rfl | refine .cells ?_ | refine ⟨_, _, rfl, .rfl, ?_⟩ | refine ⟨_, _, rfl, .any, ?_⟩ | refine ⟨_, _, rfl, .nil, ?_⟩ | refine ⟨_, _, rfl, .int (by first | rfl | omega | (simp only [wrs]; omega)), ?_⟩ | refine ⟨?_, ?_⟩))
          done
        · skip
          exact LeFr.nil
    · skip
      conv => whnf
      refine ⟨_, rfl, ?_⟩
      conv => whnf
      refine ⟨by simp only [bls]; omega, ?_⟩
      conv => whnf
      refine bS (fun hc12 => ?_) (fun hc12 => ?_)
      · skip
        try simp only [bls] at hc12
        conv => whnf
        refine FinG.mk none ?_ (by rintro _ ⟨⟩)
        simp only [outs, List.length_map, List.length_append, List.length_take, List.length_drop, List.length_cons, List.length_nil]
        rw [sg_yes (k := 11) rfl (by first | assumption | exact bsT (by assumption))]
      · skip
        try simp only [bls] at hc12
        conv => whnf
        refine ⟨(12), ⟨by omega, noSg_s hn rfl (by first | assumption | exact bsF (by assumption))⟩, (by omega), ?_⟩
        refine ⟨?_, ?_, ?_⟩
        · skip
          refine leEnv_app (by kernel_rfl) (by kernel_rfl) ?_
          repeat ((conv => whnf); first | exact True.intro | refine ⟨.rfl, ?_⟩ | refine ⟨.any, ?_⟩ | refine ⟨.nil, ?_⟩ | refine ⟨.int (by first | rfl | omega | (simp only [wrs]; omega)), ?_⟩)
        · skip
          repeat (first | exact LeVs.nil | ((conv => whnf); first | exact True.intro | exact .none | exact .row rfl | refine .cells ?_ | refine ⟨_, _, rfl, .rfl, ?_⟩ | refine ⟨_, _, rfl, .any, ?_⟩ | refine ⟨_, _, rfl, .nil, ?_⟩ | refine ⟨_, _, rfl, .int (by first | rfl | omega | (simp only [wrs]; omega)), ?_⟩ | refine ⟨?_, ?_⟩))
          done
        · skip
          exact LeFr.nil
    · skip
      conv => whnf
      refine ⟨_, rfl, ?_⟩
      conv => whnf
      refine ⟨by simp only [bls]; omega, ?_⟩
      conv => whnf
      refine bS (fun hc13 => ?_) (fun hc13 => ?_)
      · skip
        try simp only [bls] at hc13
        conv => whnf
        refine FinG.mk none ?_ (by rintro _ ⟨⟩)
        simp only [outs, List.length_map, List.length_append, List.length_take, List.length_drop, List.length_cons, List.length_nil]
        rw [sg_yes (k := 12) rfl (by first | assumption | exact bsT (by assumption))]
      · skip
        try simp only [bls] at hc13
        conv => whnf
        refine ⟨(13), ⟨by omega, noSg_s hn rfl (by first | assumption | exact bsF (by assumption))⟩, (by omega), ?_⟩
        refine ⟨?_, ?_, ?_⟩
        · skip
          refine leEnv_app (by kernel_rfl) (by kernel_rfl) ?_
          repeat ((conv => whnf); first | exact True.intro | refine ⟨.rfl, ?_⟩ | refine ⟨.any, ?_⟩ | refine ⟨.nil, ?_⟩ | refine ⟨.int (by first | rfl | omega | (simp only [wrs]; omega)), ?_⟩)
        · skip
          repeat (first | exact LeVs.nil | ((conv => whnf); first | exact True.intro | exact .none | exact .row rfl | refine .cells ?_ | refine ⟨_, _, rfl, .rfl, ?_⟩ | refine ⟨_, _, rfl, .any, ?_⟩ | refine ⟨_, _, rfl, .nil, ?_⟩ | refine ⟨_, _, rfl, .int (by first | rfl | omega | (simp only [wrs]; omega)), ?_⟩ | refine ⟨?_, ?_⟩))
          done
        · skip
          exact LeFr.nil
    · skip
      conv => whnf
      refine ⟨_, rfl, ?_⟩
      conv => whnf
      refine ⟨by simp only [bls]; omega, ?_⟩
      conv => whnf
      refine bS (fun hc14 => ?_) (fun hc14 => ?_)
      · skip
        try simp only [bls] at hc14
        conv => whnf
        refine FinG.mk none ?_ (by rintro _ ⟨⟩)
        simp only [outs, List.length_map, List.length_append, List.length_take, List.length_drop, List.length_cons, List.length_nil]
        rw [sg_yes (k := 13) rfl (by first | assumption | exact bsT (by assumption))]
      · skip
        try simp only [bls] at hc14
        conv => whnf
        refine ⟨(14), ⟨by omega, noSg_s hn rfl (by first | assumption | exact bsF (by assumption))⟩, (by omega), ?_⟩
        refine ⟨?_, ?_, ?_⟩
        · skip
          refine leEnv_app (by kernel_rfl) (by kernel_rfl) ?_
          repeat ((conv => whnf); first | exact True.intro | refine ⟨.rfl, ?_⟩ | refine ⟨.any, ?_⟩ | refine ⟨.nil, ?_⟩ | refine ⟨.int (by first | rfl | omega | (simp only [wrs]; omega)), ?_⟩)
        · skip
          repeat (first | exact LeVs.nil | ((conv => whnf); first | exact True.intro | exact .none | exact .row rfl | refine .cells ?_ | refine ⟨_, _, rfl, .rfl, ?_⟩ | refine ⟨_, _, rfl, .any, ?_⟩ | refine ⟨_, _, rfl, .nil, ?_⟩ | refine ⟨_, _, rfl, .int (by first | rfl | omega | (simp only [wrs]; omega)), ?_⟩ | refine ⟨?_, ?_⟩))
          done
        · skip
          exact LeFr.nil
    · skip
      conv => whnf
      refine ⟨_, rfl, ?_⟩
      conv => whnf
      refine ⟨by simp only [bls]; omega, ?_⟩
      conv => whnf
      refine bS (fun hc15 => ?_) (fun hc15 => ?_)
      · skip
        try simp only [bls] at hc15
        conv => whnf
        refine FinG.mk none ?_ (by rintro _ ⟨⟩)
        simp only [outs, List.length_map, List.length_append, List.length_take, List.length_drop, List.length_cons, List.length_nil]
        rw [sg_yes (k := 14) rfl (by first | assumption | exact bsT (by assumption))]
      · skip
        try simp only [bls] at hc15
        conv => whnf
        refine ⟨(15), ⟨by omega, noSg_s hn rfl (by first | assumption | exact bsF (by assumption))⟩, (by omega), ?_⟩
        refine ⟨?_, ?_, ?_⟩
        · skip
          refine leEnv_app (by kernel_rfl) (by kernel_rfl) ?_
          repeat ((conv => whnf); first | exact True.intro | refine ⟨.rfl, ?_⟩ | refine ⟨.any, ?_⟩ | refine ⟨.nil, ?_⟩ | refine ⟨.int (by first | rfl | omega | (simp only [wrs]; omega)), ?_⟩)
        · skip
          repeat (first | exact LeVs.nil | ((conv => whnf); first | exact True.intro | exact .none | exact .row rfl | refine .cells ?_ | refine ⟨_, _, rfl, .rfl, ?_⟩ | refine ⟨_, _, rfl, .any, ?_⟩ | refine ⟨_, _, rfl, .nil, ?_⟩ | refine ⟨_, _, rfl, .int (by first | rfl | omega | (simp only [wrs]; omega)), ?_⟩ | refine ⟨?_, ?_⟩))
          done
        · skip
          exact LeFr.nil
    · skip
      conv => whnf
      refine ⟨_, rfl, ?_⟩
      conv => whnf
      refine ⟨by simp only [bls]; omega, ?_⟩
      conv => whnf
      refine bS (fun hc16 => ?_) (fun hc16 => ?_)
      · skip
        try simp only [bls] at hc16
        conv => whnf
        refine FinG.mk none ?_ (by rintro _ ⟨⟩)
        simp only [outs, List.length_map, List.length_append, List.length_take, List.length_drop, List.length_cons, List.length_nil]
        rw [sg_yes (k := 15) rfl (by first | assumption | exact bsT (by assumption))]
      · skip
        try simp only [bls] at hc16
        conv => whnf
        refine ⟨(16), ⟨by omega, noSg_s hn rfl (by first | assumption | exact bsF (by assumption))⟩, (by omega), ?_⟩
        refine ⟨?_, ?_, ?_⟩
        · skip
          refine leEnv_app (by kernel_rfl) (by kernel_rfl) ?_
          repeat ((conv => whnf); first | exact True.intro | refine ⟨.rfl, ?_⟩ | refine ⟨.any, ?_⟩ | refine ⟨.nil, ?_⟩ | refine ⟨.int (by first | rfl | omega | (simp only [wrs]; omega)), ?_⟩)
        · skip
          repeat (first | exact LeVs.nil | ((conv => whnf); first | exact True.intro | exact .none | exact .row rfl | refine .cells ?_ | refine ⟨_, _, rfl, .rfl, ?_⟩ | refine ⟨_, _, rfl, .any, ?_⟩ | refine ⟨_, _, rfl, .nil, ?_⟩ | refine ⟨_, _, rfl, .int (by first | rfl | omega | (simp only [wrs]; omega)), ?_⟩ | refine ⟨?_, ?_⟩))
          done
        · skip
          exact LeFr.nil
    · skip
      conv => whnf
      refine FinG.mk none ?_ (by rintro _ ⟨⟩)
      simp only [outs, List.length_map, List.length_append, List.length_take, List.length_drop, List.length_cons, List.length_nil]
      rw [sg_no hn]
def alP (s : ByteArray) (k : Nat) : Prop := ∀ c ∈ (numS s).take k, 32 ≤ c ∧ c ≤ 126
theorem alP_0 (s : ByteArray) : alP s 0 := fun c hc => by simp at hc
theorem alP_s {s : ByteArray} {k : Nat} {c : Int} (h : alP s k) (hc : (numS s)[k]? = some c) (h1 : 32 ≤ c) (h2 : c ≤ 126) : alP s (k + 1) := fun z hz => by
  rw [List.take_add_one, hc] at hz
  rcases List.mem_append.1 hz with hz | hz
  · exact h z hz
  · simp at hz; subst hz; exact ⟨h1, h2⟩
theorem allP_num (s : ByteArray) : allP s = (numS s).all isP := by unfold allP numS; rw [List.all_map]; rfl
theorem al_yes {s : ByteArray} {k : Nat} (h : alP s k) (hk : (numS s).length ≤ k) : allP s = true := by
  rw [allP_num]
  refine List.all_eq_true.2 fun c hc => ?_
  have := h c (by rw [List.take_of_length_le hk]; exact hc)
  simp [isP, this]
theorem al_no {s : ByteArray} {k : Nat} {c : Int} (hc : (numS s)[k]? = some c) (h : c < 32 ∨ 126 < c) : allP s = false := by
  rw [allP_num]
  refine List.all_eq_false.2 ⟨c, List.mem_of_getElem? hc, ?_⟩
  simp [isP]; omega
theorem one_1 {y : Yl} (h : y.k = 1) : oneB y = ((keyN y.t).2 && bsEq (keyN y.t).1 y.t && decide (y.n = 0)) := by unfold oneB; rw [if_pos h]
theorem one_2 {y : Yl} (h : y.k = 2) : oneB y = (nameB y.t && decide (y.n = 0)) := by unfold oneB; rw [if_neg (by omega), if_pos h]
theorem one_3 {y : Yl} (h : y.k = 3) : oneB y = (bsEq y.t ⟨#[]⟩ && decide (0 ≤ y.n)) := by unfold oneB; rw [if_neg (by omega), if_neg (by omega), if_pos h]
theorem one_4 {y : Yl} (h : y.k = 4) : oneB y = (allP y.t && decide (y.t.size ≤ 64) && decide (y.n = 0)) := by unfold oneB; rw [if_neg (by omega), if_neg (by omega), if_neg (by omega), if_pos h]
theorem one_5 {y : Yl} (h : y.k = 5) : oneB y = (sgnB y.t && decide (y.n = 0)) := by unfold oneB; rw [if_neg (by omega), if_neg (by omega), if_neg (by omega), if_neg (by omega), if_pos h]
theorem one_0 {y : Yl} (h1 : ¬ y.k = 1) (h2 : ¬ y.k = 2) (h3 : ¬ y.k = 3) (h4 : ¬ y.k = 4) (h5 : ¬ y.k = 5) : oneB y = false := by unfold oneB; rw [if_neg h1, if_neg h2, if_neg h3, if_neg h4, if_neg h5]
attribute [local irreducible] keyN nameB sgnB
set_option maxRecDepth 20000 in
theorem one6_X (y : Yl) (hy : TokIn y) : XMeets Tryz.prog 26 [.agg (tokC y)] (.p (.v (.bool (oneB y))) (nlv _)) := by
  refine XMeets.of_X tabX_ok (avs := [.ag [.p (.v (.int .i64 (y.k))) (nlv _), .p (.v (.string (y.t))) (nlv _), .p (.v (.int .i64 (y.n))) (nlv _), .p (.v (.int .i64 (y.a))) (nlv _), .p (.v (.int .i64 (y.z))) (nlv _)]]) [(0, .ag [.p (.v (.int .i64 (y.k))) (nlv _), .p (.v (.string (y.t))) (nlv _), .p (.v (.int .i64 (y.n))) (nlv _), .p (.v (.int .i64 (y.a))) (nlv _), .p (.v (.int .i64 (y.z))) (nlv _)])] (by kernel_rfl) Tryz.func26 rfl (by simp [PuL, Pu, tokC]) (by simp [untagL, untag, tokC, XV.den, XV.denL]) rfl rfl ?_
  intro B w0
  have hy1 := hy.1
  have hy2 := hy.2
  have hnl := numS_len y.t
  conv => whnf
  refine bS (fun hc1 => ?_) (fun hc1 => ?_)
  · skip
    try simp only [bls] at hc1
    conv => whnf
    refine .ct ?_
    conv => whnf
    refine CallG.mk (key6_X y.t (by omega)) rfl ?_
    conv => whnf
    refine bS (fun hc2 => ?_) (fun hc2 => ?_)
    · skip
      try simp only [bls] at hc2
      conv => whnf
      refine bT (by assumption) ?_
      conv => whnf
      refine bT (by assumption) ?_
      conv => whnf
      refine bT (by assumption) ?_
      conv => whnf
      refine bT (by assumption) ?_
      conv => whnf
      refine bS (fun hc3 => ?_) (fun hc3 => ?_)
      · skip
        try simp only [bls] at hc3
        conv => whnf
        refine bT ((bsEq_t _ _).mpr (by assumption)) ?_
        conv => whnf
        refine bT ((bsEq_t _ _).mpr (by assumption)) ?_
        conv => whnf
        refine bT ((bsEq_t _ _).mpr (by assumption)) ?_
        conv => whnf
        refine FinG.mk none ?_ (by rintro _ ⟨⟩)
        simp only [outs, List.length_map, List.length_append, List.length_take, List.length_drop, List.length_cons, List.length_nil]
        rw [one_1 (by assumption), bsT (by assumption)]
        simp_all
      · skip
        try simp only [bls] at hc3
        conv => whnf
        refine bF ((bsEq_f _ _).mpr (by assumption)) ?_
        conv => whnf
        refine bF ((bsEq_f _ _).mpr (by assumption)) ?_
        conv => whnf
        refine bF ((bsEq_f _ _).mpr (by assumption)) ?_
        conv => whnf
        refine FinG.mk none ?_ (by rintro _ ⟨⟩)
        simp only [outs, List.length_map, List.length_append, List.length_take, List.length_drop, List.length_cons, List.length_nil]
        rw [one_1 (by assumption), bsF (by assumption)]
        simp_all
    · skip
      try simp only [bls] at hc2
      conv => whnf
      refine bF (by assumption) ?_
      conv => whnf
      refine bF (by assumption) ?_
      conv => whnf
      refine bF (by assumption) ?_
      conv => whnf
      refine bF (by assumption) ?_
      conv => whnf
      refine FinG.mk none ?_ (by rintro _ ⟨⟩)
      simp only [outs, List.length_map, List.length_append, List.length_take, List.length_drop, List.length_cons, List.length_nil]
      rw [one_1 (by assumption)]
      simp_all
  · skip
    try simp only [bls] at hc1
    conv => whnf
    refine bS (fun hc4 => ?_) (fun hc4 => ?_)
    · skip
      try simp only [bls] at hc4
      conv => whnf
      refine .ct ?_
      conv => whnf
      refine CallG.mk (name6_X y.t (by omega)) rfl ?_
      conv => whnf
      refine bS (fun hc5 => ?_) (fun hc5 => ?_)
      · skip
        try simp only [bls] at hc5
        conv => whnf
        refine bT (by assumption) ?_
        conv => whnf
        refine bT (by assumption) ?_
        conv => whnf
        refine bT (by assumption) ?_
        conv => whnf
        refine FinG.mk none ?_ (by rintro _ ⟨⟩)
        simp only [outs, List.length_map, List.length_append, List.length_take, List.length_drop, List.length_cons, List.length_nil]
        rw [one_2 (by assumption)]
        simp_all
      · skip
        try simp only [bls] at hc5
        conv => whnf
        refine bF (by assumption) ?_
        conv => whnf
        refine bF (by assumption) ?_
        conv => whnf
        refine bF (by assumption) ?_
        conv => whnf
        refine FinG.mk none ?_ (by rintro _ ⟨⟩)
        simp only [outs, List.length_map, List.length_append, List.length_take, List.length_drop, List.length_cons, List.length_nil]
        rw [one_2 (by assumption)]
        simp_all
    · skip
      try simp only [bls] at hc4
      conv => whnf
      refine bS (fun hc6 => ?_) (fun hc6 => ?_)
      · skip
        try simp only [bls] at hc6
        conv => whnf
        refine bS (fun hc7 => ?_) (fun hc7 => ?_)
        · skip
          try simp only [bls] at hc7
          conv => whnf
          refine bT ((bsEq_n _).trans (decide_eq_true (by assumption))) ?_
          conv => whnf
          refine bT ((bsEq_n _).trans (decide_eq_true (by assumption))) ?_
          conv => whnf
          refine bT ((bsEq_n _).trans (decide_eq_true (by assumption))) ?_
          conv => whnf
          refine FinG.mk none ?_ (by rintro _ ⟨⟩)
          simp only [outs, List.length_map, List.length_append, List.length_take, List.length_drop, List.length_cons, List.length_nil]
          rw [one_3 (by assumption), bsEq_n]
          simp_all
        · skip
          try simp only [bls] at hc7
          conv => whnf
          refine bF ((bsEq_n _).trans (decide_eq_false (by assumption))) ?_
          conv => whnf
          refine bF ((bsEq_n _).trans (decide_eq_false (by assumption))) ?_
          conv => whnf
          refine bF ((bsEq_n _).trans (decide_eq_false (by assumption))) ?_
          conv => whnf
          refine FinG.mk none ?_ (by rintro _ ⟨⟩)
          simp only [outs, List.length_map, List.length_append, List.length_take, List.length_drop, List.length_cons, List.length_nil]
          rw [one_3 (by assumption), bsEq_n]
          simp_all
      · skip
        try simp only [bls] at hc6
        conv => whnf
        refine bS (fun hc8 => ?_) (fun hc8 => ?_)
        · skip
          try simp only [bls] at hc8
          conv => whnf
          refine ⟨by omega, ?_⟩
          conv => whnf
          refine XT.loop tabX_ok (Y := Nat) [2, 6, 55, 56, 57, 58, 59, 60, 61, 62, 63, 64, 65] (fun k => [(55, .p (.v (.int .i64 ((k : Int)))) (nlv _))]) (fun k => []) (fun k => k ≤ (numS y.t).length ∧ alP y.t k) (fun k => (numS y.t).length - k) 0 ⟨Nat.zero_le _, alP_0 _⟩ ?_ ?_
          · skip
            refine ⟨?_, ?_, ?_⟩
            · skip
              refine leEnv_app (by kernel_rfl) (by kernel_rfl) ?_
              repeat ((conv => whnf); first | exact True.intro | refine ⟨.rfl, ?_⟩ | refine ⟨.any, ?_⟩ | refine ⟨.nil, ?_⟩ | refine ⟨.int (by first | rfl | omega | (simp only [wrs]; omega)), ?_⟩)
            · skip
              repeat (first | exact LeVs.nil | ((conv => whnf); first | exact True.intro | exact .none | exact .row rfl | refine .cells ?_ | refine ⟨_, _, rfl, .rfl, ?_⟩ | refine ⟨_, _, rfl, .any, ?_⟩ | refine ⟨_, _, rfl, .nil, ?_⟩ | refine ⟨_, _, rfl, .int (by first | rfl | omega | (simp only [wrs]; omega)), ?_⟩ | refine ⟨?_, ?_⟩))
              done
            · skip
              exact LeFr.nil
          · skip
            rintro k ⟨hk, ha⟩
            conv => whnf
            refine bS (fun hc9 => ?_) (fun hc9 => ?_)
            · skip
              try simp only [bls] at hc9
              conv => whnf
              refine IdxG.map (f := by1) (l := numS y.t) k rfl (by first | omega | (simp only [List.length_map, List.length_take, List.length_nil] at *; omega)) ?_; intro c hc hkc; obtain ⟨hc0, hc256⟩ := numS_at hc
              conv => whnf
              refine ⟨rfl, ?_⟩
              conv => whnf
              refine bS (fun hc10 => ?_) (fun hc10 => ?_)
              · skip
                try simp only [bls] at hc10
                conv => whnf
                refine bT (decide_eq_true (by omega)) ?_
                conv => whnf
                refine bT (decide_eq_true (by omega)) ?_
                conv => whnf
                refine FinG.mk none ?_ (by rintro _ ⟨⟩)
                simp only [outs, List.length_map, List.length_append, List.length_take, List.length_drop, List.length_cons, List.length_nil]
                rw [one_4 (by assumption), al_no hc (by omega)]
                simp
              · skip
                try simp only [bls] at hc10
                conv => whnf
                refine bF (decide_eq_false (by omega)) ?_
                conv => whnf
                refine bF (decide_eq_false (by omega)) ?_
                conv => whnf
                refine bS (fun hc11 => ?_) (fun hc11 => ?_)
                · skip
                  try simp only [bls] at hc11
                  conv => whnf
                  refine FinG.mk none ?_ (by rintro _ ⟨⟩)
                  simp only [outs, List.length_map, List.length_append, List.length_take, List.length_drop, List.length_cons, List.length_nil]
                  rw [one_4 (by assumption), al_no hc (by omega)]
                  simp
                · skip
                  try simp only [bls] at hc11
                  conv => whnf
                  refine ⟨(k + 1), ⟨by first | omega | (simp only [List.length_map] at *; omega), alP_s ha hc (by omega) (by omega)⟩, (by first | omega | (simp only [List.length_map, List.length_take, List.length_nil] at *; omega)), ?_⟩
                  refine ⟨?_, ?_, ?_⟩
                  · skip
                    refine leEnv_app (by kernel_rfl) (by kernel_rfl) ?_
                    repeat ((conv => whnf); first | exact True.intro | refine ⟨.rfl, ?_⟩ | refine ⟨.any, ?_⟩ | refine ⟨.nil, ?_⟩ | refine ⟨.int (by first | rfl | omega | (simp only [wrs]; omega)), ?_⟩)
                  · skip
                    repeat (first | exact LeVs.nil | ((conv => whnf); first | exact True.intro | exact .none | exact .row rfl | refine .cells ?_ | refine ⟨_, _, rfl, .rfl, ?_⟩ | refine ⟨_, _, rfl, .any, ?_⟩ | refine ⟨_, _, rfl, .nil, ?_⟩ | refine ⟨_, _, rfl, .int (by first | rfl | omega | (simp only [wrs]; omega)), ?_⟩ | refine ⟨?_, ?_⟩))
                    done
                  · skip
                    exact LeFr.nil
            · skip
              try simp only [bls] at hc9
              conv => whnf
              refine bS (fun hc12 => ?_) (fun hc12 => ?_)
              · skip
                try simp only [bls] at hc12
                conv => whnf
                refine bT (decide_eq_true (by omega)) ?_
                conv => whnf
                refine bT (decide_eq_true (by omega)) ?_
                conv => whnf
                refine bT (decide_eq_true (by omega)) ?_
                conv => whnf
                refine FinG.mk none ?_ (by rintro _ ⟨⟩)
                simp only [outs, List.length_map, List.length_append, List.length_take, List.length_drop, List.length_cons, List.length_nil]
                rw [one_4 (by assumption), al_yes ha (by first | omega | (simp only [List.length_map, List.length_take, List.length_nil] at *; omega)), decide_eq_true (by omega : y.t.size ≤ 64)]
                simp
              · skip
                try simp only [bls] at hc12
                conv => whnf
                refine bF (decide_eq_false (by omega)) ?_
                conv => whnf
                refine bF (decide_eq_false (by omega)) ?_
                conv => whnf
                refine bF (decide_eq_false (by omega)) ?_
                conv => whnf
                refine FinG.mk none ?_ (by rintro _ ⟨⟩)
                simp only [outs, List.length_map, List.length_append, List.length_take, List.length_drop, List.length_cons, List.length_nil]
                rw [one_4 (by assumption), al_yes ha (by first | omega | (simp only [List.length_map, List.length_take, List.length_nil] at *; omega)), decide_eq_false (by omega : ¬ y.t.size ≤ 64)]
                simp
        · skip
          try simp only [bls] at hc8
          conv => whnf
          refine bS (fun hc13 => ?_) (fun hc13 => ?_)
          · skip
            try simp only [bls] at hc13
            conv => whnf
            refine .ct ?_
            conv => whnf
            refine CallG.mk (sign6_X _) rfl ?_
            conv => whnf
            refine bS (fun hc14 => ?_) (fun hc14 => ?_)
            · skip
              try simp only [bls] at hc14
              conv => whnf
              refine bT (by assumption) ?_
              conv => whnf
              refine bT (by assumption) ?_
              conv => whnf
              refine bT (by assumption) ?_
              conv => whnf
              refine FinG.mk none ?_ (by rintro _ ⟨⟩)
              simp only [outs, List.length_map, List.length_append, List.length_take, List.length_drop, List.length_cons, List.length_nil]
              rw [one_5 (by assumption)]
              simp_all
            · skip
              try simp only [bls] at hc14
              conv => whnf
              refine bF (by assumption) ?_
              conv => whnf
              refine bF (by assumption) ?_
              conv => whnf
              refine bF (by assumption) ?_
              conv => whnf
              refine FinG.mk none ?_ (by rintro _ ⟨⟩)
              simp only [outs, List.length_map, List.length_append, List.length_take, List.length_drop, List.length_cons, List.length_nil]
              rw [one_5 (by assumption)]
              simp_all
          · skip
            try simp only [bls] at hc13
            conv => whnf
            refine FinG.mk none ?_ (by rintro _ ⟨⟩)
            simp only [outs, List.length_map, List.length_append, List.length_take, List.length_drop, List.length_cons, List.length_nil]
            rw [one_0 (by assumption) (by assumption) (by assumption) (by assumption) (by assumption)]
def alO (l : List Yl) (k : Nat) : Prop := ∀ y ∈ l.take k, oneB y = true
theorem alO_0 (l : List Yl) : alO l 0 := fun y hy => by simp at hy
theorem alO_s {l : List Yl} {k : Nat} {y : Yl} (h : alO l k) (hy : l[k]? = some y) (hr : oneB y = true) : alO l (k + 1) := fun z hz => by
  rw [List.take_add_one, hy] at hz
  rcases List.mem_append.1 hz with hz | hz
  · exact h z hz
  · simp at hz; subst hz; exact hr
theorem rgt_no {l : List Yl} {k : Nat} {y : Yl} (hy : l[k]? = some y) (hr : oneB y = false) : rgtB l = false := by
  unfold rgtB
  rw [List.all_eq_false.2 ⟨y, List.mem_of_getElem? hy, by simp [hr]⟩]; rfl
theorem rgt_end {l : List Yl} {k : Nat} (h : alO l k) (hk : l.length ≤ k) : rgtB l = decide (l.length ≤ 300) := by
  unfold rgtB
  rw [List.all_eq_true.2 fun y hy => h y (by rw [List.take_of_length_le hk]; exact hy), Bool.true_and]
/-- The same tokens, with their places? -/
def eqlB (x y : Yl) : Bool := smeB x y && decide (x.a = y.a) && decide (x.z = y.z)
attribute [local irreducible] oneB
set_option maxRecDepth 20000 in
theorem right6_X (b : Bool) (l : List Yl) (hl : l.length ≤ 1000000000) (hin : TokInL l) : XMeets Tryz.prog 12 [.sl b (l.map tokC)] (.p (.v (.bool (rgtB l))) (nlv _)) := by
  refine XMeets.of_X tabX_ok (avs := [.p (.sl false (l.map tokC)) (nl_tok _).sl]) [(0, .p (.sl false (l.map tokC)) (nl_tok _).sl)] (by kernel_rfl) Tryz.func12 rfl (by simp [PuL, Pu, pu_tok]) (by simp [untagL, untag, untag_tok, XV.den, XV.denL]) rfl rfl ?_
  intro B w0
  conv => whnf
  refine XT.loop tabX_ok (Y := Nat) [2, 4, 7, 8, 9, 10, 11, 12, 13, 14] (fun k => [(7, .p (.v (.int .i64 ((k : Int)))) (nlv _))]) (fun k => []) (fun k => k ≤ l.length ∧ alO l k) (fun k => l.length - k) 0 ⟨Nat.zero_le _, alO_0 _⟩ ?_ ?_
  · skip
    refine ⟨?_, ?_, ?_⟩
    · skip
      refine leEnv_app (by kernel_rfl) (by kernel_rfl) ?_
      repeat ((conv => whnf); first | exact True.intro | refine ⟨.rfl, ?_⟩ | refine ⟨.any, ?_⟩ | refine ⟨.nil, ?_⟩ | refine ⟨.int (by first | rfl | omega | (simp only [wrs]; omega)), ?_⟩)
    · skip
      repeat (first | exact LeVs.nil | ((conv => whnf); first | exact True.intro | exact .none | exact .row rfl | refine .cells ?_ | refine ⟨_, _, rfl, .rfl, ?_⟩ | refine ⟨_, _, rfl, .any, ?_⟩ | refine ⟨_, _, rfl, .nil, ?_⟩ | refine ⟨_, _, rfl, .int (by first | rfl | omega | (simp only [wrs]; omega)), ?_⟩ | refine ⟨?_, ?_⟩))
      done
    · skip
      exact LeFr.nil
  · skip
    rintro k ⟨hk, ha⟩
    conv => whnf
    refine bS (fun hc1 => ?_) (fun hc1 => ?_)
    · skip
      try simp only [bls] at hc1
      conv => whnf
      refine IdxG.map (f := tokC) (l := l) k rfl (by first | omega | (simp only [List.length_map, List.length_take, List.length_nil] at *; omega)) ?_; intro y hy hky; have hyi := hin y (List.mem_of_getElem? hy)
      conv => whnf
      refine ⟨rfl, ?_⟩
      conv => whnf
      refine .ct ?_
      conv => whnf
      refine CallG.mk (one6_X y hyi) rfl ?_
      conv => whnf
      refine bS (fun hc2 => ?_) (fun hc2 => ?_)
      · skip
        try simp only [bls] at hc2
        conv => whnf
        refine FinG.mk none ?_ (by rintro _ ⟨⟩)
        simp only [outs, List.length_map, List.length_append, List.length_take, List.length_drop, List.length_cons, List.length_nil]
        rw [rgt_no hy (by assumption)]
      · skip
        try simp only [bls] at hc2
        conv => whnf
        refine ⟨(k + 1), ⟨(by first | omega | (simp only [List.length_map, List.length_take, List.length_nil] at *; omega)), alO_s ha hy (by assumption)⟩, (by first | omega | (simp only [List.length_map, List.length_take, List.length_nil] at *; omega)), ?_⟩
        refine ⟨?_, ?_, ?_⟩
        · skip
          refine leEnv_app (by kernel_rfl) (by kernel_rfl) ?_
          repeat ((conv => whnf); first | exact True.intro | refine ⟨.rfl, ?_⟩ | refine ⟨.any, ?_⟩ | refine ⟨.nil, ?_⟩ | refine ⟨.int (by first | rfl | omega | (simp only [wrs]; omega)), ?_⟩)
        · skip
          repeat (first | exact LeVs.nil | ((conv => whnf); first | exact True.intro | exact .none | exact .row rfl | refine .cells ?_ | refine ⟨_, _, rfl, .rfl, ?_⟩ | refine ⟨_, _, rfl, .any, ?_⟩ | refine ⟨_, _, rfl, .nil, ?_⟩ | refine ⟨_, _, rfl, .int (by first | rfl | omega | (simp only [wrs]; omega)), ?_⟩ | refine ⟨?_, ?_⟩))
          done
        · skip
          exact LeFr.nil
    · skip
      try simp only [bls] at hc1
      conv => whnf
      refine FinG.mk none ?_ (by rintro _ ⟨⟩)
      simp only [outs, List.length_map, List.length_append, List.length_take, List.length_drop, List.length_cons, List.length_nil]
      rw [rgt_end ha (by first | omega | (simp only [List.length_map, List.length_take, List.length_nil] at *; omega))]
      exact congrArg Value.bool (decide_eq_decide.2 (by omega))
theorem neTk_run (x y : Operand) (a1 : Int) (a2 : ByteArray) (a3 a4 a5 c1 : Int) (c2 : ByteArray) (c3 c4 c5 : Int) (w : World) : (do eqGuard .neq 43 x y (.agg #[.int .i64 a1, .string a2, .int .i64 a3, .int .i64 a4, .int .i64 a5]) (.agg #[.int .i64 c1, .string c2, .int .i64 c3, .int .i64 c4, .int .i64 c5]); binOp .neq 43 (.agg #[.int .i64 a1, .string a2, .int .i64 a3, .int .i64 a4, .int .i64 a5]) (.agg #[.int .i64 c1, .string c2, .int .i64 c3, .int .i64 c4, .int .i64 c5]) : Sem Value).run Tryz.prog w = .ok (.bool (!(eqlB ⟨a1, a2, a3, a4, a5, 0⟩ ⟨c1, c2, c3, c4, c5, 0⟩))) w := by
  go_simp
  by_cases h1 : a1 = c1 <;> by_cases h2 : bs a2 = bs c2 <;> by_cases h3 : a3 = c3 <;> by_cases h4 : a4 = c4 <;> by_cases h5 : a5 = c5 <;> simp [h1, h2, h3, h4, h5, eqlB, smeB, bsEq, bs_eq]
def eqlL : List Yl → List Yl → Bool
  | [], [] => true
  | x :: l, y :: m => eqlB x y && eqlL l m
  | _, _ => false
theorem eqlB_self (y : Yl) : eqlB y y = true := by simp [eqlB, smeB, bsEq]
theorem eqlL_self : ∀ l : List Yl, eqlL l l = true
  | [] => rfl
  | y :: l => by simp [eqlL, eqlB_self, eqlL_self l]
theorem eqlL_len : ∀ {l m : List Yl}, eqlL l m = true → l.length = m.length
  | [], [], _ => rfl
  | x :: l, y :: m, h => by simp only [eqlL, Bool.and_eq_true] at h; simp [eqlL_len h.2]
  | [], y :: m, h => by simp [eqlL] at h
  | x :: l, [], h => by simp [eqlL] at h
/-- The same so far. -/
def smP (q : Yl → Yl → Bool) (l m : List Yl) (k : Nat) : Prop := ∀ j x y, j < k → l[j]? = some x → m[j]? = some y → q x y = true
theorem smP_0 (q : Yl → Yl → Bool) (l m : List Yl) : smP q l m 0 := fun j x y hj => by omega
theorem smP_s {q : Yl → Yl → Bool} {l m : List Yl} {k : Nat} {x y : Yl} (h : smP q l m k) (hx : l[k]? = some x) (hy : m[k]? = some y) (hq : q x y = true) : smP q l m (k + 1) := fun j a b hj ha hb => by
  rcases Nat.lt_or_ge j k with h1 | h1
  · exact h j a b h1 ha hb
  · obtain rfl : j = k := by omega
    rw [hx] at ha; rw [hy] at hb; cases ha; cases hb; exact hq
theorem smP_t {q : Yl → Yl → Bool} {a b : Yl} {l m : List Yl} {k : Nat} (h : smP q (a :: l) (b :: m) k) (hk : 1 ≤ k) : q a b = true ∧ smP q l m (k - 1) := ⟨h 0 a b (by omega) rfl rfl, fun j x y hj hx hy => h (j + 1) x y (by omega) hx hy⟩
theorem sme_yes : ∀ {l m : List Yl} {k : Nat}, smP smeB l m k → l.length = m.length → l.length ≤ k → smeL l m = true
  | [], [], k, _, _, _ => rfl
  | a :: l, b :: m, k, h, hl, hk => by
    simp only [List.length_cons] at hl hk
    obtain ⟨h1, h2⟩ := smP_t h (by omega)
    simp [smeL, h1, sme_yes h2 (by omega) (by omega)]
  | [], b :: m, k, _, hl, _ => by simp at hl
  | a :: l, [], k, _, hl, _ => by simp at hl
theorem sme_no : ∀ {l m : List Yl} {k : Nat} {x y : Yl}, l[k]? = some x → m[k]? = some y → smeB x y = false → smeL l m = false
  | [], _, k, x, y, hx, _, _ => by simp at hx
  | _ :: _, [], k, x, y, _, hy, _ => by simp at hy
  | a :: l, b :: m, 0, x, y, hx, hy, h => by
    simp at hx hy; subst hx; subst hy; simp [smeL, h]
  | a :: l, b :: m, k + 1, x, y, hx, hy, h => by
    simp [smeL, sme_no (l := l) (m := m) (k := k) (by simpa using hx) (by simpa using hy) h]
theorem sme_len {l m : List Yl} (h : ¬ l.length = m.length) : smeL l m = false := by
  cases hh : smeL l m with
  | false => rfl
  | true => exact absurd (smeL_len hh) h
theorem eql_yes : ∀ {l m : List Yl} {k : Nat}, smP eqlB l m k → l.length = m.length → l.length ≤ k → eqlL l m = true
  | [], [], k, _, _, _ => rfl
  | a :: l, b :: m, k, h, hl, hk => by
    simp only [List.length_cons] at hl hk
    obtain ⟨h1, h2⟩ := smP_t h (by omega)
    simp [eqlL, h1, eql_yes h2 (by omega) (by omega)]
  | [], b :: m, k, _, hl, _ => by simp at hl
  | a :: l, [], k, _, hl, _ => by simp at hl
theorem eql_no : ∀ {l m : List Yl} {k : Nat} {x y : Yl}, l[k]? = some x → m[k]? = some y → eqlB x y = false → eqlL l m = false
  | [], _, k, x, y, hx, _, _ => by simp at hx
  | _ :: _, [], k, x, y, _, hy, _ => by simp at hy
  | a :: l, b :: m, 0, x, y, hx, hy, h => by
    simp at hx hy; subst hx; subst hy; simp [eqlL, h]
  | a :: l, b :: m, k + 1, x, y, hx, hy, h => by
    simp [eqlL, eql_no (l := l) (m := m) (k := k) (by simpa using hx) (by simpa using hy) h]
theorem eql_len {l m : List Yl} (h : ¬ l.length = m.length) : eqlL l m = false := by
  cases hh : eqlL l m with
  | false => rfl
  | true => exact absurd (eqlL_len hh) h
theorem smeF {x y : Yl} (h : ¬ x.k = y.k ∨ ¬ bs x.t = bs y.t ∨ ¬ x.n = y.n) : smeB x y = false := by
  unfold smeB
  rcases h with h | h | h
  · simp [h]
  · rw [bsF h]; simp
  · simp [h]
theorem smeT {x y : Yl} (h1 : x.k = y.k) (h2 : bs x.t = bs y.t) (h3 : x.n = y.n) : smeB x y = true := by
  unfold smeB
  rw [bsT h2]; simp [h1, h3]
set_option maxRecDepth 20000 in
theorem same6_X (b1 b2 : Bool) (l m : List Yl) (hl : l.length ≤ 1000000000) : XMeets Tryz.prog 10 [.sl b1 (l.map tokC), .sl b2 (m.map tokC)] (.p (.v (.bool (smeL l m))) (nlv _)) := by
  refine XMeets.of_X tabX_ok (avs := [.p (.sl false (l.map tokC)) (nl_tok _).sl, .p (.sl false (m.map tokC)) (nl_tok _).sl]) [(0, .p (.sl false (l.map tokC)) (nl_tok _).sl), (1, .p (.sl false (m.map tokC)) (nl_tok _).sl)] (by kernel_rfl) Tryz.func10 rfl (by simp [PuL, Pu, pu_tok, pu_tok]) (by simp [untagL, untag, untag_tok, XV.den, XV.denL]) rfl rfl ?_
  intro B w0
  conv => whnf
  refine bS (fun hc1 => ?_) (fun hc1 => ?_)
  · skip
    try simp only [bls] at hc1
    conv => whnf
    refine FinG.mk none ?_ (by rintro _ ⟨⟩)
    simp only [outs, List.length_map, List.length_append, List.length_take, List.length_drop, List.length_cons, List.length_nil]
    rw [sme_len (by first | omega | (simp only [List.length_map, List.length_take, List.length_nil] at *; omega))]
  · skip
    try simp only [bls] at hc1
    conv => whnf
    refine XT.loop tabX_ok (Y := Nat) [4, 5, 13, 14, 15, 16, 17, 18, 19, 20, 21, 22, 23, 24, 25, 26, 27, 28, 29, 30, 31, 32, 33, 34, 35, 36, 37, 38, 39, 40, 41, 42, 43, 44, 45, 46, 47, 48, 49, 50, 51, 52, 53] (fun k => [(13, .p (.v (.int .i64 ((k : Int)))) (nlv _))]) (fun k => []) (fun k => k ≤ l.length ∧ smP smeB l m k) (fun k => l.length - k) 0 ⟨Nat.zero_le _, smP_0 _ _ _⟩ ?_ ?_
    · skip
      refine ⟨?_, ?_, ?_⟩
      · skip
        refine leEnv_app (by kernel_rfl) (by kernel_rfl) ?_
        repeat ((conv => whnf); first | exact True.intro | refine ⟨.rfl, ?_⟩ | refine ⟨.any, ?_⟩ | refine ⟨.nil, ?_⟩ | refine ⟨.int (by first | rfl | omega | (simp only [wrs]; omega)), ?_⟩)
      · skip
        repeat (first | exact LeVs.nil | ((conv => whnf); first | exact True.intro | exact .none | exact .row rfl | refine .cells ?_ | refine ⟨_, _, rfl, .rfl, ?_⟩ | refine ⟨_, _, rfl, .any, ?_⟩ | refine ⟨_, _, rfl, .nil, ?_⟩ | refine ⟨_, _, rfl, .int (by first | rfl | omega | (simp only [wrs]; omega)), ?_⟩ | refine ⟨?_, ?_⟩))
        done
      · skip
        exact LeFr.nil
    · skip
      rintro k ⟨hk, ha⟩
      conv => whnf
      refine bS (fun hc2 => ?_) (fun hc2 => ?_)
      · skip
        try simp only [bls] at hc2
        conv => whnf
        refine RegG.par 37 (by kernel_rfl) ?_
        conv => whnf
        refine IdxG.map (f := tokC) (l := l) k rfl (by first | omega | (simp only [List.length_map, List.length_take, List.length_nil] at *; omega)) ?_; intro x hx hkx
        conv => whnf
        refine ⟨rfl, ?_⟩
        conv => whnf
        refine IdxG.map (f := tokC) (l := m) k rfl (by first | omega | (simp only [List.length_map, List.length_take, List.length_nil] at *; omega)) ?_; intro y hy hky
        conv => whnf
        refine ⟨rfl, ?_⟩
        conv => whnf
        refine bS (fun hc3 => ?_) (fun hc3 => ?_)
        · skip
          try simp only [bls] at hc3
          conv => whnf
          refine bT (by simp only [Bool.not_eq_true', decide_eq_false_iff_not]; assumption) ?_
          conv => whnf
          refine bT (by simp only [Bool.not_eq_true', decide_eq_false_iff_not]; assumption) ?_
          conv => whnf
          refine bT (by simp only [Bool.not_eq_true', decide_eq_false_iff_not]; assumption) ?_
          conv => whnf
          refine bT (by simp only [Bool.not_eq_true', decide_eq_false_iff_not]; assumption) ?_
          conv => whnf
          refine bT (by simp only [Bool.not_eq_true', decide_eq_false_iff_not]; assumption) ?_
          conv => whnf
          refine bT (by simp only [Bool.not_eq_true', decide_eq_false_iff_not]; assumption) ?_
          conv => whnf
          refine bT (by simp only [Bool.not_eq_true', decide_eq_false_iff_not]; assumption) ?_
          conv => whnf
          refine bT (by simp only [Bool.not_eq_true', decide_eq_false_iff_not]; assumption) ?_
          conv => whnf
          refine bT (by simp only [Bool.not_eq_true', decide_eq_false_iff_not]; assumption) ?_
          conv => whnf
          refine bT (by simp only [Bool.not_eq_true', decide_eq_false_iff_not]; assumption) ?_
          conv => whnf
          refine bT (by simp only [Bool.not_eq_true', decide_eq_false_iff_not]; assumption) ?_
          conv => whnf
          refine FinG.mk none ?_ (by rintro _ ⟨⟩)
          simp only [outs, List.length_map, List.length_append, List.length_take, List.length_drop, List.length_cons, List.length_nil]
          rw [sme_no hx hy (smeF (.inl (by assumption)))]
        · skip
          try simp only [bls] at hc3
          conv => whnf
          refine bF (by simp only [Bool.not_eq_false', decide_eq_true_eq]; assumption) ?_
          conv => whnf
          refine bF (by simp only [Bool.not_eq_false', decide_eq_true_eq]; assumption) ?_
          conv => whnf
          refine IdxG.map (f := tokC) (l := l) k rfl (by first | omega | (simp only [List.length_map, List.length_take, List.length_nil] at *; omega)) ?_; intro x2 hx2 hkx2; obtain rfl : x = x2 := Option.some.inj (hx.symm.trans hx2); clear hx2
          conv => whnf
          refine ⟨rfl, ?_⟩
          conv => whnf
          refine bF (by simp only [Bool.not_eq_false', decide_eq_true_eq]; assumption) ?_
          conv => whnf
          refine bF (by simp only [Bool.not_eq_false', decide_eq_true_eq]; assumption) ?_
          conv => whnf
          refine bF (by simp only [Bool.not_eq_false', decide_eq_true_eq]; assumption) ?_
          conv => whnf
          refine bF (by simp only [Bool.not_eq_false', decide_eq_true_eq]; assumption) ?_
          conv => whnf
          refine bF (by simp only [Bool.not_eq_false', decide_eq_true_eq]; assumption) ?_
          conv => whnf
          refine IdxG.map (f := tokC) (l := m) k rfl (by first | omega | (simp only [List.length_map, List.length_take, List.length_nil] at *; omega)) ?_; intro y2 hy2 hky2; obtain rfl : y = y2 := Option.some.inj (hy.symm.trans hy2); clear hy2
          conv => whnf
          refine ⟨rfl, ?_⟩
          conv => whnf
          refine bF (by simp only [Bool.not_eq_false', decide_eq_true_eq]; assumption) ?_
          conv => whnf
          refine bF (by simp only [Bool.not_eq_false', decide_eq_true_eq]; assumption) ?_
          conv => whnf
          refine bF (by simp only [Bool.not_eq_false', decide_eq_true_eq]; assumption) ?_
          conv => whnf
          refine bF (by simp only [Bool.not_eq_false', decide_eq_true_eq]; assumption) ?_
          conv => whnf
          refine bS (fun hc4 => ?_) (fun hc4 => ?_)
          · skip
            try simp only [bls] at hc4
            conv => whnf
            refine bT (by rw [bsF (by assumption)]; rfl) ?_
            conv => whnf
            refine bT (by rw [bsF (by assumption)]; rfl) ?_
            conv => whnf
            refine bT (by rw [bsF (by assumption)]; rfl) ?_
            conv => whnf
            refine bT (by rw [bsF (by assumption)]; rfl) ?_
            conv => whnf
            refine bT (by rw [bsF (by assumption)]; rfl) ?_
            conv => whnf
            refine bT (by rw [bsF (by assumption)]; rfl) ?_
            conv => whnf
            refine bT (by rw [bsF (by assumption)]; rfl) ?_
            conv => whnf
            refine bT (by rw [bsF (by assumption)]; rfl) ?_
            conv => whnf
            refine bT (by rw [bsF (by assumption)]; rfl) ?_
            conv => whnf
            refine bT (by rw [bsF (by assumption)]; rfl) ?_
            conv => whnf
            refine bT (by rw [bsF (by assumption)]; rfl) ?_
            conv => whnf
            refine FinG.mk none ?_ (by rintro _ ⟨⟩)
            simp only [outs, List.length_map, List.length_append, List.length_take, List.length_drop, List.length_cons, List.length_nil]
            rw [sme_no hx hy (smeF (.inr (.inl (by assumption))))]
          · skip
            try simp only [bls] at hc4
            conv => whnf
            refine bF (by rw [bsT (by assumption)]; rfl) ?_
            conv => whnf
            refine bF (by rw [bsT (by assumption)]; rfl) ?_
            conv => whnf
            refine IdxG.map (f := tokC) (l := l) k rfl (by first | omega | (simp only [List.length_map, List.length_take, List.length_nil] at *; omega)) ?_; intro x2 hx2 hkx2; obtain rfl : x = x2 := Option.some.inj (hx.symm.trans hx2); clear hx2
            conv => whnf
            refine ⟨rfl, ?_⟩
            conv => whnf
            refine bF (by rw [bsT (by assumption)]; rfl) ?_
            conv => whnf
            refine bF (by rw [bsT (by assumption)]; rfl) ?_
            conv => whnf
            refine bF (by rw [bsT (by assumption)]; rfl) ?_
            conv => whnf
            refine bF (by rw [bsT (by assumption)]; rfl) ?_
            conv => whnf
            refine bF (by rw [bsT (by assumption)]; rfl) ?_
            conv => whnf
            refine IdxG.map (f := tokC) (l := m) k rfl (by first | omega | (simp only [List.length_map, List.length_take, List.length_nil] at *; omega)) ?_; intro y2 hy2 hky2; obtain rfl : y = y2 := Option.some.inj (hy.symm.trans hy2); clear hy2
            conv => whnf
            refine ⟨rfl, ?_⟩
            conv => whnf
            refine bF (by rw [bsT (by assumption)]; rfl) ?_
            conv => whnf
            refine bF (by rw [bsT (by assumption)]; rfl) ?_
            conv => whnf
            refine bF (by rw [bsT (by assumption)]; rfl) ?_
            conv => whnf
            refine bF (by rw [bsT (by assumption)]; rfl) ?_
            conv => whnf
            refine bS (fun hc5 => ?_) (fun hc5 => ?_)
            · skip
              try simp only [bls] at hc5
              conv => whnf
              refine FinG.mk none ?_ (by rintro _ ⟨⟩)
              simp only [outs, List.length_map, List.length_append, List.length_take, List.length_drop, List.length_cons, List.length_nil]
              rw [sme_no hx hy (smeF (.inr (.inr (by assumption))))]
            · skip
              try simp only [bls] at hc5
              conv => whnf
              refine ⟨(k + 1), ⟨(by first | omega | (simp only [List.length_map, List.length_take, List.length_nil] at *; omega)), smP_s ha hx hy (smeT (by assumption) (by assumption) (by assumption))⟩, (by first | omega | (simp only [List.length_map, List.length_take, List.length_nil] at *; omega)), ?_⟩
              refine ⟨?_, ?_, ?_⟩
              · skip
                refine leEnv_app (by kernel_rfl) (by kernel_rfl) ?_
                repeat ((conv => whnf); first | exact True.intro | refine ⟨.rfl, ?_⟩ | refine ⟨.any, ?_⟩ | refine ⟨.nil, ?_⟩ | refine ⟨.int (by first | rfl | omega | (simp only [wrs]; omega)), ?_⟩)
              · skip
                repeat (first | exact LeVs.nil | ((conv => whnf); first | exact True.intro | exact .none | exact .row rfl | refine .cells ?_ | refine ⟨_, _, rfl, .rfl, ?_⟩ | refine ⟨_, _, rfl, .any, ?_⟩ | refine ⟨_, _, rfl, .nil, ?_⟩ | refine ⟨_, _, rfl, .int (by first | rfl | omega | (simp only [wrs]; omega)), ?_⟩ | refine ⟨?_, ?_⟩))
                done
              · skip
                exact LeFr.nil
      · skip
        try simp only [bls] at hc2
        conv => whnf
        refine FinG.mk none ?_ (by rintro _ ⟨⟩)
        simp only [outs, List.length_map, List.length_append, List.length_take, List.length_drop, List.length_cons, List.length_nil]
        rw [sme_yes ha (by first | omega | (simp only [List.length_map, List.length_take, List.length_nil] at *; omega)) (by first | omega | (simp only [List.length_map, List.length_take, List.length_nil] at *; omega))]
set_option maxRecDepth 20000 in
theorem equal6_X (b1 b2 : Bool) (l m : List Yl) (hl : l.length ≤ 1000000000) : XMeets Tryz.prog 11 [.sl b1 (l.map tokC), .sl b2 (m.map tokC)] (.p (.v (.bool (eqlL l m))) (nlv _)) := by
  refine XMeets.of_X tabX_ok (avs := [.p (.sl false (l.map tokC)) (nl_tok _).sl, .p (.sl false (m.map tokC)) (nl_tok _).sl]) [(0, .p (.sl false (l.map tokC)) (nl_tok _).sl), (1, .p (.sl false (m.map tokC)) (nl_tok _).sl)] (by kernel_rfl) Tryz.func11 rfl (by simp [PuL, Pu, pu_tok, pu_tok]) (by simp [untagL, untag, untag_tok, XV.den, XV.denL]) rfl rfl ?_
  intro B w0
  conv => whnf
  refine bS (fun hc1 => ?_) (fun hc1 => ?_)
  · skip
    try simp only [bls] at hc1
    conv => whnf
    refine FinG.mk none ?_ (by rintro _ ⟨⟩)
    simp only [outs, List.length_map, List.length_append, List.length_take, List.length_drop, List.length_cons, List.length_nil]
    rw [eql_len (by first | omega | (simp only [List.length_map, List.length_take, List.length_nil] at *; omega))]
  · skip
    try simp only [bls] at hc1
    conv => whnf
    refine XT.loop tabX_ok (Y := Nat) [4, 5, 13, 14, 15, 16, 17, 18, 19, 20, 21, 22, 23, 24, 25] (fun k => [(13, .p (.v (.int .i64 ((k : Int)))) (nlv _))]) (fun k => []) (fun k => k ≤ l.length ∧ smP eqlB l m k) (fun k => l.length - k) 0 ⟨Nat.zero_le _, smP_0 _ _ _⟩ ?_ ?_
    · skip
      refine ⟨?_, ?_, ?_⟩
      · skip
        refine leEnv_app (by kernel_rfl) (by kernel_rfl) ?_
        repeat ((conv => whnf); first | exact True.intro | refine ⟨.rfl, ?_⟩ | refine ⟨.any, ?_⟩ | refine ⟨.nil, ?_⟩ | refine ⟨.int (by first | rfl | omega | (simp only [wrs]; omega)), ?_⟩)
      · skip
        repeat (first | exact LeVs.nil | ((conv => whnf); first | exact True.intro | exact .none | exact .row rfl | refine .cells ?_ | refine ⟨_, _, rfl, .rfl, ?_⟩ | refine ⟨_, _, rfl, .any, ?_⟩ | refine ⟨_, _, rfl, .nil, ?_⟩ | refine ⟨_, _, rfl, .int (by first | rfl | omega | (simp only [wrs]; omega)), ?_⟩ | refine ⟨?_, ?_⟩))
        done
      · skip
        exact LeFr.nil
    · skip
      rintro k ⟨hk, ha⟩
      conv => whnf
      refine bS (fun hc2 => ?_) (fun hc2 => ?_)
      · skip
        try simp only [bls] at hc2
        conv => whnf
        refine RegG.par 9 (by kernel_rfl) ?_
        conv => whnf
        refine IdxG.map (f := tokC) (l := l) k rfl (by first | omega | (simp only [List.length_map, List.length_take, List.length_nil] at *; omega)) ?_; intro x hx hkx
        conv => whnf
        refine ⟨rfl, ?_⟩
        conv => whnf
        refine IdxG.map (f := tokC) (l := m) k rfl (by first | omega | (simp only [List.length_map, List.length_take, List.length_nil] at *; omega)) ?_; intro y hy hky
        conv => whnf
        refine ⟨rfl, ?_⟩
        conv => whnf
        refine BinG.mk rfl rfl (neTk_run _ _ _ _ _ _ _ _ _ _ _ _) ?_
        conv => whnf
        refine bS (fun hc3 => ?_) (fun hc3 => ?_)
        · skip
          try simp only [bls] at hc3
          conv => whnf
          refine FinG.mk none ?_ (by rintro _ ⟨⟩)
          simp only [outs, List.length_map, List.length_append, List.length_take, List.length_drop, List.length_cons, List.length_nil]
          rw [eql_no hx hy (by assumption)]
        · skip
          try simp only [bls] at hc3
          conv => whnf
          refine ⟨(k + 1), ⟨(by first | omega | (simp only [List.length_map, List.length_take, List.length_nil] at *; omega)), smP_s ha hx hy (by assumption)⟩, (by first | omega | (simp only [List.length_map, List.length_take, List.length_nil] at *; omega)), ?_⟩
          refine ⟨?_, ?_, ?_⟩
          · skip
            refine leEnv_app (by kernel_rfl) (by kernel_rfl) ?_
            repeat ((conv => whnf); first | exact True.intro | refine ⟨.rfl, ?_⟩ | refine ⟨.any, ?_⟩ | refine ⟨.nil, ?_⟩ | refine ⟨.int (by first | rfl | omega | (simp only [wrs]; omega)), ?_⟩)
          · skip
            repeat (first | exact LeVs.nil | ((conv => whnf); first | exact True.intro | exact .none | exact .row rfl | refine .cells ?_ | refine ⟨_, _, rfl, .rfl, ?_⟩ | refine ⟨_, _, rfl, .any, ?_⟩ | refine ⟨_, _, rfl, .nil, ?_⟩ | refine ⟨_, _, rfl, .int (by first | rfl | omega | (simp only [wrs]; omega)), ?_⟩ | refine ⟨?_, ?_⟩))
            done
          · skip
            exact LeFr.nil
      · skip
        try simp only [bls] at hc2
        conv => whnf
        refine FinG.mk none ?_ (by rintro _ ⟨⟩)
        simp only [outs, List.length_map, List.length_append, List.length_take, List.length_drop, List.length_cons, List.length_nil]
        rw [eql_yes ha (by first | omega | (simp only [List.length_map, List.length_take, List.length_nil] at *; omega)) (by first | omega | (simp only [List.length_map, List.length_take, List.length_nil] at *; omega))]
theorem enc_m {m : Int} (h0 : 0 ≤ m) (h1 : m ≤ 9223372036854775807) : Utf8.encode (IntKind.i32.wrap (IntKind.i64.wrap (48 + m.tmod 10))) = ⟨#[UInt8.ofNat (48 + m % 10).toNat]⟩ := by
  have e : IntKind.i32.wrap (IntKind.i64.wrap (48 + m.tmod 10)) = 48 + m % 10 := by
    rw [Int.tmod_eq_emod_of_nonneg h0]
    simp only [wrs]
    omega
  rw [e, enc_dig (by omega) (by omega)]
theorem digR_sz {n m : Int} {s : ByteArray} (hn : 0 ≤ n) (hn2 : n ≤ 9223372036854775807) (h : digR n m s) : s.size ≤ 30 := by
  have h1 := congrArg List.length h.2.2
  rw [List.length_append, bs_len] at h1
  have h2 := dig_len n.toNat (by omega) 20 (by omega) (by omega)
  omega
set_option maxRecDepth 20000 in
theorem digits_X (n : Int) (hn : 0 ≤ n) (hn2 : n ≤ 9223372036854775807) : XMeets Tryz.prog 27 [.v (.int .i64 n)] (.p (.v (.string (itoS n))) (nlv _)) := by
  refine XMeets.of_X tabX_ok (avs := [.p (.v (.int .i64 n)) (nlv _)]) [(0, .p (.v (.int .i64 n)) (nlv _))] (by kernel_rfl) Tryz.func27 rfl (by simp [PuL, Pu]) (rfl) rfl rfl ?_
  intro B w0
  conv => whnf
  refine XT.loop tabX_ok (Y := (Int × ByteArray)) [0, 2, 3, 4, 5, 6, 7, 8, 9, 10, 11, 12, 13, 14, 15] (fun ⟨m, s⟩ => [(0, .p (.v (.int .i64 (m))) (nlv _)), (3, .p (.v (.string (s))) (nlv _))]) (fun ⟨m, s⟩ => []) (fun ⟨m, s⟩ => digR n m s) (fun ⟨m, s⟩ => m.toNat) (n, ⟨#[]⟩) (digR_0 hn) ?_ ?_
  · skip
    refine ⟨?_, ?_, ?_⟩
    · skip
      refine leEnv_app (by kernel_rfl) (by kernel_rfl) ?_
      repeat ((conv => whnf); first | exact True.intro | refine ⟨.rfl, ?_⟩ | refine ⟨.any, ?_⟩ | refine ⟨.nil, ?_⟩ | refine ⟨.int (by first | rfl | omega | (simp only [wrs]; omega)), ?_⟩ | refine ⟨.tv (by rw [hen]), ?_⟩ | refine ⟨.int (by rw [htd]; simp only [wrs]; omega), ?_⟩)
    · skip
      repeat (first | exact LeVs.nil | ((conv => whnf); first | exact True.intro | exact .none | exact .row rfl | refine .cells ?_ | refine ⟨_, _, rfl, .rfl, ?_⟩ | refine ⟨_, _, rfl, .any, ?_⟩ | refine ⟨_, _, rfl, .nil, ?_⟩ | refine ⟨_, _, rfl, .int (by first | rfl | omega | (simp only [wrs]; omega)), ?_⟩ | refine ⟨_, _, rfl, .tv (by rw [hen]), ?_⟩ | refine ⟨_, _, rfl, .int (by rw [htd]; simp only [wrs]; omega), ?_⟩ | refine ⟨?_, ?_⟩))
      done
    · skip
      exact LeFr.nil
  · skip
    rintro ⟨m, s⟩ hd
    have hd0 := hd.1
    have hd1 := hd.2.1
    have hen := enc_m hd0 (Int.le_trans hd1 hn2)
    have hsz := digR_sz hn hn2 hd
    have htd := Int.tdiv_eq_ediv_of_nonneg (b := 10) hd0
    conv => whnf
    simp (disch := omega) only [wz, Int.reduceAdd, Int.reduceSub, Int.reduceMul, Int.reduceNeg, Int.zero_add, Int.add_zero, Int.sub_zero, Int.sub_self]
    conv => whnf
    refine ⟨by rw [hen]; show 1 + _ ≤ _; omega, ?_⟩
    conv => whnf
    refine bS (fun hc1 => ?_) (fun hc1 => ?_)
    · skip
      try simp only [bls] at hc1
      try simp (disch := omega) only [wz, Int.reduceAdd, Int.reduceSub, Int.reduceMul, Int.reduceNeg, Int.zero_add, Int.add_zero, Int.sub_zero, Int.sub_self] at hc1
      conv => whnf
      refine FinG.mk none ?_ (by rintro _ ⟨⟩)
      simp only [outs, List.length_map, List.length_append, List.length_take, List.length_drop, List.length_cons, List.length_nil]
      rw [hen, digR_e hn hd (by omega)]
    · skip
      try simp only [bls] at hc1
      try simp (disch := omega) only [wz, Int.reduceAdd, Int.reduceSub, Int.reduceMul, Int.reduceNeg, Int.zero_add, Int.add_zero, Int.sub_zero, Int.sub_self] at hc1
      conv => whnf
      refine ⟨(m / 10, ⟨#[UInt8.ofNat (48 + m % 10).toNat]⟩ ++ s), digR_s hd (by omega), (by show (m / 10).toNat < m.toNat; omega), ?_⟩
      refine ⟨?_, ?_, ?_⟩
      · skip
        refine leEnv_app (by kernel_rfl) (by kernel_rfl) ?_
        repeat ((conv => whnf); first | exact True.intro | refine ⟨.rfl, ?_⟩ | refine ⟨.any, ?_⟩ | refine ⟨.nil, ?_⟩ | refine ⟨.int (by first | rfl | omega | (simp only [wrs]; omega)), ?_⟩ | refine ⟨.tv (by rw [hen]), ?_⟩ | refine ⟨.int (by rw [htd]; simp only [wrs]; omega), ?_⟩)
      · skip
        repeat (first | exact LeVs.nil | ((conv => whnf); first | exact True.intro | exact .none | exact .row rfl | refine .cells ?_ | refine ⟨_, _, rfl, .rfl, ?_⟩ | refine ⟨_, _, rfl, .any, ?_⟩ | refine ⟨_, _, rfl, .nil, ?_⟩ | refine ⟨_, _, rfl, .int (by first | rfl | omega | (simp only [wrs]; omega)), ?_⟩ | refine ⟨_, _, rfl, .tv (by rw [hen]), ?_⟩ | refine ⟨_, _, rfl, .int (by rw [htd]; simp only [wrs]; omega), ?_⟩ | refine ⟨?_, ?_⟩))
        done
      · skip
        exact LeFr.nil
end Go.Proofs.YtekpmlfcmnlmiaaGreatDoor
