/- What is quoted. No condition. -/
import Derived.Test.YtekpmlfcmnlmiaaGreatDoorX1
namespace Go.Proofs.YtekpmlfcmnlmiaaGreatDoor
open Go.RowKit
set_option linter.unusedVariables false
set_option linter.unusedSimpArgs false
set_option maxRecDepth 20000
/-- A byte as it stands in a quoted text. -/
def quoI (c : Int) : List Int := if c = 39 then [39, 39] else [c]
def quoN (l : List Int) : List Int := 39 :: l.flatMap quoI
def quoS (s : ByteArray) : ByteArray := strOfNums (quoN (numS s) ++ [39])
theorem quo_row (l : List Int) {k : Nat} {y : Int} (h : l[k]? = some y) : quoN (l.take (k + 1)) = quoN (l.take k) ++ quoI y := by
  obtain ⟨hk, rfl⟩ := List.getElem?_eq_some_iff.1 h
  unfold quoN
  rw [List.take_succ_eq_append_getElem hk, List.flatMap_append]
  simp only [List.flatMap_cons, List.flatMap_nil, List.append_nil, List.cons_append]
theorem quo_end (s : ByteArray) {k : Nat} (hk : (numS s).length ≤ k) : strOfNums (quoN ((numS s).take k) ++ [39]) = quoS s := by
  rw [List.take_of_length_le hk]; rfl
theorem quo_len (l : List Int) (k : Nat) : (quoN (l.take k)).length ≤ 2 * l.length + 1 := by
  have : ∀ m : List Int, (m.flatMap quoI).length ≤ 2 * m.length := by
    intro m
    induction m with
    | nil => simp
    | cons a m ih =>
      rw [List.flatMap_cons, List.length_append, List.length_cons]
      have : (quoI a).length ≤ 2 := by unfold quoI; split <;> simp
      omega
  have h1 := this (l.take k)
  have h2 := List.length_take_le' k l
  simp only [quoN, List.length_cons]
  omega
set_option maxRecDepth 20000 in
theorem quote6_X (s : ByteArray) (hs : s.size ≤ 1000000) : XMeets Tryz.prog 28 [.v (.string s)] (.p (.v (.string (quoS s))) (nlv _)) := by
  refine XMeets.of_X tabX_ok (avs := [.p (.v (.string s)) (nlv _)]) [(0, .p (.v (.string s)) (nlv _))] (by kernel_rfl) Tryz.func28 rfl (by simp [PuL, Pu]) (rfl) rfl rfl ?_
  intro B w0
  have hnl := numS_len s
  conv => whnf
  refine ⟨by omega, ?_⟩
  conv => whnf
  refine XT.loop tabX_ok (Y := Nat) [3, 5, 6, 10, 11, 12, 13, 14, 15, 16, 17, 18, 19, 20, 21, 22, 23, 24] (fun k => [(10, .p (.v (.int .i64 ((k : Int)))) (nlv _)), (3, .row 0)]) (fun k => [(0, .row 5 1 ((quoN ((numS s).take k)).map by1) (nl_by1 _))]) (fun k => k ≤ (numS s).length) (fun k => (numS s).length - k) 0 (Nat.zero_le _) ?_ ?_
  · skip
    refine ⟨?_, ?_, ?_⟩
    · skip
      refine leEnv_app (by kernel_rfl) (by kernel_rfl) ?_
      repeat ((conv => whnf); first | exact True.intro | refine ⟨.rfl, ?_⟩ | refine ⟨.any, ?_⟩ | refine ⟨.nil, ?_⟩ | refine ⟨.int (by first | rfl | omega | (simp only [wrs]; omega)), ?_⟩)
    · skip
      repeat (first | exact LeVs.nil | ((conv => whnf); first | exact True.intro | exact .none | exact .row rfl | refine .cells ?_ | refine ⟨_, _, rfl, .rfl, ?_⟩ | refine ⟨_, _, rfl, .any, ?_⟩ | refine ⟨_, _, rfl, .nil, ?_⟩ | refine ⟨_, _, rfl, .int (by first | rfl | omega | (simp only [wrs]; omega)), ?_⟩ | refine ⟨?_, ?_⟩))
      done
    · skip
      exact LeFr.nil
  · skip
    rintro k hk
    conv => whnf
    refine bS (fun hc1 => ?_) (fun hc1 => ?_)
    · skip
      try simp only [bls] at hc1
      conv => whnf
      refine IdxG.map _ rfl (by first | omega | (simp only [List.length_map] at *; omega)) ?_; intro y hy hny; have hy0 := numS_at hy
      conv => whnf
      refine ⟨rfl, ?_⟩
      conv => whnf
      refine bS (fun hc2 => ?_) (fun hc2 => ?_)
      · skip
        try simp only [bls] at hc2
        conv => whnf
        refine ⟨ApOk.lit rfl, ?_⟩
        conv => whnf
        refine ⟨by have h8 := quo_len (numS s) k; simp only [List.length_map, List.length_append, List.length_cons, List.length_nil, Nat.mul_one]; omega, ?_⟩
        conv => whnf
        refine ⟨ApOk.lit rfl, ?_⟩
        conv => whnf
        refine ⟨by have h8 := quo_len (numS s) k; simp only [List.length_map, List.length_append, List.length_cons, List.length_nil, Nat.mul_one]; omega, ?_⟩
        conv => whnf
        refine ⟨(k + 1), (by omega), (by omega), ?_⟩
        refine ⟨?_, ?_, ?_⟩
        · skip
          refine leEnv_app (by kernel_rfl) (by kernel_rfl) ?_
          repeat ((conv => whnf); first | exact True.intro | refine ⟨.rfl, ?_⟩ | refine ⟨.any, ?_⟩ | refine ⟨.nil, ?_⟩ | refine ⟨.int (by first | rfl | omega | (simp only [wrs]; omega)), ?_⟩)
        · skip
          repeat (first | exact LeVs.nil | ((conv => whnf); first | exact True.intro | exact .none | exact .row rfl | exact .row ((by rw [quo_row _ hy, List.map_append]; simp [quoI, by1, *]; done)) | refine .cells ?_ | refine ⟨_, _, rfl, .rfl, ?_⟩ | refine ⟨_, _, rfl, .any, ?_⟩ | refine ⟨_, _, rfl, .nil, ?_⟩ | refine ⟨_, _, rfl, .int (by first | rfl | omega | (simp only [wrs]; omega)), ?_⟩ | refine ⟨?_, ?_⟩))
          done
        · skip
          exact LeFr.nil
      · skip
        try simp only [bls] at hc2
        conv => whnf
        refine ⟨ApOk.lit rfl, ?_⟩
        conv => whnf
        refine ⟨by have h8 := quo_len (numS s) k; simp only [List.length_map, List.length_append, List.length_cons, List.length_nil, Nat.mul_one]; omega, ?_⟩
        conv => whnf
        refine ⟨(k + 1), (by omega), (by omega), ?_⟩
        refine ⟨?_, ?_, ?_⟩
        · skip
          refine leEnv_app (by kernel_rfl) (by kernel_rfl) ?_
          repeat ((conv => whnf); first | exact True.intro | refine ⟨.rfl, ?_⟩ | refine ⟨.any, ?_⟩ | refine ⟨.nil, ?_⟩ | refine ⟨.int (by first | rfl | omega | (simp only [wrs]; omega)), ?_⟩)
        · skip
          repeat (first | exact LeVs.nil | ((conv => whnf); first | exact True.intro | exact .none | exact .row rfl | exact .row ((by rw [quo_row _ hy, List.map_append]; simp [quoI, by1, *]; done)) | refine .cells ?_ | refine ⟨_, _, rfl, .rfl, ?_⟩ | refine ⟨_, _, rfl, .any, ?_⟩ | refine ⟨_, _, rfl, .nil, ?_⟩ | refine ⟨_, _, rfl, .int (by first | rfl | omega | (simp only [wrs]; omega)), ?_⟩ | refine ⟨?_, ?_⟩))
          done
        · skip
          exact LeFr.nil
    · skip
      try simp only [bls] at hc1
      conv => whnf
      refine ⟨ApOk.lit rfl, ?_⟩
      conv => whnf
      refine ⟨by have h8 := quo_len (numS s) k; simp only [List.length_map, List.length_append, List.length_cons, List.length_nil, Nat.mul_one]; omega, ?_⟩
      conv => whnf
      refine ⟨quoN ((numS s).take k) ++ [39], (by simp [by1]; done), ?_⟩
      conv => whnf
      refine FinG.mk none ?_ (by rintro _ ⟨⟩)
      simp only [outs, List.length_map, List.length_append, List.length_take, List.length_drop, List.length_cons, List.length_nil]
      rw [quo_end s (by omega)]
end Go.Proofs.YtekpmlfcmnlmiaaGreatDoor
