/- Same, what the law asks with, and whether the layer does anything; the walk of LexWords. Condition: what the package-level variables hold. -/
import Derived.Test.YtekpmlfcmnlmiaaDoorX7
namespace Go.Proofs.YtekpmlfcmnlmiaaDoor
open Go.RowKit
set_option linter.unusedVariables false
set_option linter.unusedSimpArgs false
set_option maxRecDepth 20000
theorem bsEq_self (s : ByteArray) : bsEq s s = true := by simp [bsEq]
/-- Are they the same tokens, but for their places? -/
def smeB (x y : Yl) : Bool := decide (x.k = y.k) && bsEq x.t y.t && decide (x.n = y.n)
def smeL : List Yl → List Yl → Bool
  | [], [] => true
  | x :: l, y :: m => smeB x y && smeL l m
  | _, _ => false
def smeK (l m : List Yl) (k : Nat) : Prop := ∀ j x y, j < k → l[j]? = some x → m[j]? = some y → smeB x y = true
def wkS : ByteArray := ⟨#[115, 101, 108, 101, 99, 116, 32, 39, 105, 116, 39, 39, 115, 39, 32, 45, 45, 32, 120, 10, 60, 61, 32, 55]⟩
def wkL : List Yl := [⟨1, ⟨#[83, 69, 76, 69, 67, 84]⟩, 0, 0, 6, 0⟩, ⟨4, ⟨#[105, 116, 39, 115]⟩, 0, 7, 14, 0⟩, ⟨5, ⟨#[60, 61]⟩, 0, 20, 22, 0⟩, ⟨3, ⟨#[]⟩, 7, 23, 24, 0⟩]
def wkP : ByteArray := ⟨#[83, 69, 76, 69, 67, 84, 32, 39, 105, 116, 39, 39, 115, 39, 32, 60, 61, 32, 55]⟩
theorem wk1 : lexT wkS = (wkL, (0, 0)) := by kernel_rfl
theorem wk2 : prT wkL = (wkP, 0) := by kernel_rfl
theorem wk3 : nameB ⟨#[120]⟩ = true := by kernel_rfl
theorem wk4 : nameB ⟨#[66, 121]⟩ = false := by kernel_rfl
theorem wk_in : TokInL wkL := by intro y hy; simp only [wkL, List.mem_cons, List.not_mem_nil, or_false] at hy; rcases hy with rfl | rfl | rfl | rfl <;> exact ⟨by decide, by decide⟩
theorem wkLex : XMeets Tryd.prog 17 [.v (.string wkS)] (.tu [.ow 43 5 (wkL.map tokC) (nl_tok _), .ag [.p (.v (.int .i64 0)) (nlv _), .p (.v (.int .i64 0)) (nlv _)]]) := (lex_X wkS (by decide)).eq (by rw [wk1])
theorem wkPrint (b : Bool) : XMeets Tryd.prog 16 [.sl b (wkL.map tokC)] (.tu [.p (.v (.string wkP)) (nlv _), .p (.v (.int .i64 0)) (nlv _)]) := (print_X b wkL (by decide) wk_in).eq (by rw [wk2])
theorem wkName1 : XMeets Tryd.prog 11 [.v (.string ⟨#[120]⟩)] (.p (.v (.bool true)) (nlv _)) := (name_X _ (by decide)).eq (by rw [wk3])
theorem wkName2 : XMeets Tryd.prog 11 [.v (.string ⟨#[66, 121]⟩)] (.p (.v (.bool false)) (nlv _)) := (name_X _ (by decide)).eq (by rw [wk4])
theorem eqSp_run (x y : Operand) (a b c d : Int) (w : World) : (do eqGuard .eql 36 x y (.agg #[.int .i64 a, .int .i64 b]) (.agg #[.int .i64 c, .int .i64 d]); binOp .eql 36 (.agg #[.int .i64 a, .int .i64 b]) (.agg #[.int .i64 c, .int .i64 d]) : Sem Value).run Tryd.prog w = .ok (.bool (decide (a = c) && decide (b = d))) w := by
  go_simp
  by_cases h1 : a = c <;> by_cases h2 : b = d <;> simp [h1, h2]

set_option maxRecDepth 20000 in
theorem wakes_X  : XMeets Tryd.prog 6 [] (.p (.v (.bool (true))) (nlv _)) := by
  refine XMeets.of_X tabX_ok (avs := []) [] (by kernel_rfl) Tryd.func6 rfl (by simp [PuL, Pu]) (rfl) rfl rfl ?_
  intro B w0
  conv => whnf
  refine .ct ?_
  conv => whnf
  refine CallG.mk (wkLex) rfl ?_
  conv => whnf
  refine .ct ?_
  conv => whnf
  refine CallG.mk (wkPrint _) rfl ?_
  conv => whnf
  refine BinG.mk rfl rfl (eqSp_run _ _ _ _ _ _) ?_
  conv => whnf
  refine ⟨_, rfl, ?_⟩
  conv => whnf
  refine ⟨by simp [wkL]; done, ?_⟩
  conv => whnf
  refine IdxG.mk (c := [_, _, _, _, _]) rfl rfl ?_
  conv => whnf
  refine ⟨_, rfl, ?_⟩
  conv => whnf
  refine ⟨by simp [wkL]; done, ?_⟩
  conv => whnf
  refine IdxG.mk (c := [_, _, _, _, _]) rfl rfl ?_
  conv => whnf
  refine ⟨_, rfl, ?_⟩
  conv => whnf
  refine ⟨by simp [wkL]; done, ?_⟩
  conv => whnf
  refine IdxG.mk (c := [_, _, _, _, _]) rfl rfl ?_
  conv => whnf
  refine ⟨_, rfl, ?_⟩
  conv => whnf
  refine ⟨by simp [wkL]; done, ?_⟩
  conv => whnf
  refine IdxG.mk (c := [_, _, _, _, _]) rfl rfl ?_
  conv => whnf
  refine .ct ?_
  conv => whnf
  refine CallG.mk (wkName1) rfl ?_
  conv => whnf
  refine .ct ?_
  conv => whnf
  refine CallG.mk (wkName2) rfl ?_
  conv => whnf
  refine FinG.mk none ?_ (by rintro _ ⟨⟩)
  simp only [outs, List.length_map, List.length_append, List.length_take, List.length_drop, List.length_cons, List.length_nil]
  simp; done
def qS : ByteArray := ⟨#[63]⟩
/-- The kept words, so many of them spoiled. -/
def spK (k : Nat) : List ByteArray := List.replicate k qS ++ keysL.drop k
theorem spK_len {k : Nat} (h : k ≤ 35) : (spK k).length = 35 := by simp [spK, keys_len]; omega
theorem spK_at {k : Nat} {x y : ByteArray} (hx : (spK k)[k]? = some x) (hy : keysL[k]? = some y) : x = y := by
  unfold spK at hx
  rw [List.getElem?_append_right (by simp)] at hx
  simp at hx
  rw [hx] at hy; exact Option.some.inj hy
theorem spK_set {k : Nat} (h : k < 35) : (spK k).set k qS = spK (k + 1) := by
  unfold spK
  have hd := List.drop_eq_getElem_cons (show k < keysL.length by rw [keys_len]; exact h)
  rw [List.set_append_right _ _ (by simp), List.length_replicate, Nat.sub_self, hd, List.set_cons_zero, List.replicate_succ']
  simp
theorem spK_mset {k : Nat} (h : k < 35) : ((spK k).map st1).set k [.v (.string qS)] = (spK (k + 1)).map st1 := by
  rw [← spK_set h, List.map_set]; rfl
/-- A text's beginning. -/
abbrev begS (n : Int) (x : ByteArray) : ByteArray := x.extract 0 (min (x.size : Int) n).toNat
theorem begS_size (n : Int) (hn : 0 ≤ n) (x : ByteArray) : ((begS n x).size : Int) ≤ n := by simp [begS]; omega
attribute [local irreducible] keyN nameB quoS
set_option maxRecDepth 20000 in
theorem lWords_X (b : Bool) (l : List ByteArray) : XMeets Tryd.prog 3 [.sl b (l.map st1)] (.p (.v (.bool (true))) (nlv _)) := by
  refine XMeets.of_X tabX_ok (avs := [.p (.sl false (l.map st1)) (nl_st _).sl]) [(0, .p (.sl false (l.map st1)) (nl_st _).sl)] (by kernel_rfl) Tryd.func3 rfl (by simp [PuL, Pu, pu_st]) (by simp [untagL, untag, untag_st, XV.den, XV.denL]) rfl rfl ?_
  intro B w0
  have hkl := keys_len
  conv => whnf
  refine .ct ?_
  conv => whnf
  refine CallG.mk (wakes_X) rfl ?_
  conv => whnf
  refine .ct ?_
  conv => whnf
  refine CallG.mk (keys_X) rfl ?_
  conv => whnf
  refine .ct ?_
  conv => whnf
  refine CallG.mk (keys6_X) rfl ?_
  conv => whnf
  refine XT.loop tabX_ok (Y := Nat) [2, 3, 5, 15, 17, 22, 24, 25, 26, 27, 28, 29, 30, 31, 32, 33, 34, 35, 36, 37, 38, 39] (fun k => [(24, .p (.v (.int .i64 ((k : Int)))) (nlv _)), (3, .row 0)]) (fun k => [(0, .row 9 1 ((spK k).map st1) (nl_st _))]) (fun k => k ≤ 35) (fun k => 35 - k) 0 (Nat.zero_le _) ?_ ?_
  · skip
    refine ⟨?_, ?_, ?_⟩
    · skip
      refine leEnv_app (by kernel_rfl) (by kernel_rfl) ?_
      repeat ((conv => whnf); first | exact True.intro | refine ⟨.rfl, ?_⟩ | refine ⟨.any, ?_⟩ | refine ⟨.nil, ?_⟩ | refine ⟨.int (by first | rfl | omega | (simp only [wrs]; omega)), ?_⟩)
    · skip
      repeat (first | exact LeVs.nil | ((conv => whnf); first | exact True.intro | exact .none | exact .row rfl | refine .cells ?_ | refine ⟨_, _, rfl, .rfl, ?_⟩ | refine ⟨_, _, rfl, .any, ?_⟩ | refine ⟨_, _, rfl, .nil, ?_⟩ | refine ⟨_, _, rfl, .int (by first | rfl | omega | (simp only [wrs]; omega)), ?_⟩ | refine ⟨?_, ?_⟩))
      done
    · skip
      exact LeFr.nil
  · skip
    rintro k hk
    have hsl := spK_len hk
    conv => whnf
    refine bS (fun hc1 => ?_) (fun hc1 => ?_)
    · skip
      try simp only [bls] at hc1
      conv => whnf
      refine RegG.par 9 (by kernel_rfl) ?_
      conv => whnf
      refine ⟨_, rfl, ?_⟩
      conv => whnf
      refine ⟨by simp only [bls]; omega, ?_⟩
      conv => whnf
      refine IdxG.map (f := st1) (l := spK k) k rfl (by rw [spK_len (by omega)]; omega) ?_; intro x hx hkx
      conv => whnf
      refine ⟨_, rfl, ?_⟩
      conv => whnf
      refine ⟨by simp only [bls]; omega, ?_⟩
      conv => whnf
      refine IdxG.map (f := st1) (l := keysL) k rfl (by rw [keys_len]; omega) ?_; intro y hy hky
      conv => whnf
      refine bF (by rw [spK_at hx hy, bsEq_self]; rfl) ?_
      conv => whnf
      refine ⟨_, rfl, ?_⟩
      conv => whnf
      refine ⟨by simp only [bls]; omega, ?_⟩
      conv => whnf
      refine IdxG.map (f := st1) (l := spK k) k rfl (by rw [spK_len (by omega)]; omega) ?_; intro x hx hkx
      conv => whnf
      refine ⟨rfl, ?_⟩
      conv => whnf
      refine ⟨(k + 1), (by first | omega | (simp only [List.length_map] at *; omega) : k + 1 ≤ 35), (by first | omega | (simp only [List.length_map] at *; omega)), ?_⟩
      refine ⟨?_, ?_, ?_⟩
      · skip
        refine leEnv_app (by kernel_rfl) (by kernel_rfl) ?_
        repeat ((conv => whnf); first | exact True.intro | refine ⟨.rfl, ?_⟩ | refine ⟨.any, ?_⟩ | refine ⟨.nil, ?_⟩ | refine ⟨.int (by first | rfl | omega | (simp only [wrs]; omega)), ?_⟩)
      · skip
        repeat (first | exact LeVs.nil | ((conv => whnf); first | exact True.intro | exact .none | exact .row rfl | exact .row ((spK_mset (by first | omega | (simp only [List.length_map] at *; omega)))) | refine .cells ?_ | refine ⟨_, _, rfl, .rfl, ?_⟩ | refine ⟨_, _, rfl, .any, ?_⟩ | refine ⟨_, _, rfl, .nil, ?_⟩ | refine ⟨_, _, rfl, .int (by first | rfl | omega | (simp only [wrs]; omega)), ?_⟩ | refine ⟨?_, ?_⟩))
        done
      · skip
        exact LeFr.nil
    · skip
      try simp only [bls] at hc1
      conv => whnf
      refine XT.loop tabX_ok (Y := Nat) [2, 6, 7, 8, 9, 10, 11, 12, 42, 43, 44, 45, 46, 47, 48, 49, 50, 51, 52, 53, 54, 55, 56, 57, 58, 59, 60, 61, 62, 63, 64, 65, 66, 67, 68, 69, 70, 71, 72, 73, 74, 75, 76, 77, 78, 79, 80, 81, 82, 83, 84, 85, 86] (fun k => [(42, .p (.v (.int .i64 ((k : Int)))) (nlv _))]) (fun k => []) (fun k => k ≤ l.length ∧ k ≤ 30) (fun k => l.length - k) 0 ⟨Nat.zero_le _, by omega⟩ ?_ ?_
      · skip
        refine ⟨?_, ?_, ?_⟩
        · skip
          refine leEnv_app (by kernel_rfl) (by kernel_rfl) ?_
          repeat ((conv => whnf); first | exact True.intro | refine ⟨.rfl, ?_⟩ | refine ⟨.any, ?_⟩ | refine ⟨.nil, ?_⟩ | refine ⟨.int (by first | rfl | omega | (simp only [wrs]; omega)), ?_⟩)
        · skip
          repeat (first | exact LeVs.nil | ((conv => whnf); first | exact True.intro | exact .none | exact .row rfl | refine .cells ?_ | refine ⟨_, _, rfl, .rfl, ?_⟩ | refine ⟨_, _, rfl, .any, ?_⟩ | refine ⟨_, _, rfl, .nil, ?_⟩ | refine ⟨_, _, rfl, .int (by first | rfl | omega | (simp only [wrs]; omega)), ?_⟩ | refine ⟨?_, ?_⟩))
          done
        · skip
          exact LeFr.nil
      · skip
        rintro k ⟨hk, hk3⟩
        conv => whnf
        refine bS (fun hc2 => ?_) (fun hc2 => ?_)
        · skip
          try simp only [bls] at hc2
          conv => whnf
          refine IdxG.map (f := st1) (l := l) k rfl (by first | omega | (simp only [List.length_map] at *; omega)) ?_; intro x hx hkx
          conv => whnf
          refine ⟨rfl, ?_⟩
          conv => whnf
          refine bS (fun hc3 => ?_) (fun hc3 => ?_)
          · skip
            try simp only [bls] at hc3
            conv => whnf
            refine RegG.par 15 (by kernel_rfl) ?_
            conv => whnf
            refine CallG.mk (keys_X) rfl ?_
            conv => whnf
            refine CallG.mk (keys_X) rfl ?_
            conv => whnf
            refine ⟨_, rfl, ?_⟩
            conv => whnf
            refine ⟨by simp only [bls]; omega, ?_⟩
            conv => whnf
            refine IdxG.mk (j := 0) (c := st1 ⟨#[67, 82, 69, 65, 84, 69]⟩) rfl rfl ?_
            conv => whnf
            refine ⟨_, rfl, ?_⟩
            conv => whnf
            refine ⟨by simp only [bls]; omega, ?_⟩
            conv => whnf
            refine IdxG.mk (j := 0) (c := st1 ⟨#[67, 82, 69, 65, 84, 69]⟩) rfl rfl ?_
            conv => whnf
            refine FinG.mk none ?_ (by rintro _ ⟨⟩)
            simp only [outs, List.length_map, List.length_append, List.length_take, List.length_drop, List.length_cons, List.length_nil]
            rfl
          · skip
            try simp only [bls] at hc3
            conv => whnf
            refine ⟨_, (Int.toNat_of_nonneg (by omega)).symm, ?_⟩
            conv => whnf
            refine ⟨by omega, ?_⟩
            conv => whnf
            refine ⟨by omega, ?_⟩
            conv => whnf
            refine .ct ?_
            conv => whnf
            refine CallG.mk (key_X (begS 200 x) (by have := begS_size 200 (by omega) x; omega)) rfl ?_
            conv => whnf
            refine .ct ?_
            conv => whnf
            refine CallG.mk (key6_X (begS 200 x) (by have := begS_size 200 (by omega) x; omega)) rfl ?_
            conv => whnf
            refine bF (notF (bsEq_self _)) ?_
            conv => whnf
            refine bF (notF (bsEq_self _)) ?_
            conv => whnf
            refine bF (notF (bsEq_self _)) ?_
            conv => whnf
            refine bF (notF (bsEq_self _)) ?_
            conv => whnf
            refine bF (notF (BEq.rfl : ((_ : Bool) == _) = true)) ?_
            conv => whnf
            refine bF (notF (BEq.rfl : ((_ : Bool) == _) = true)) ?_
            conv => whnf
            refine .ct ?_
            conv => whnf
            refine CallG.mk (name_X (begS 200 x) (by have := begS_size 200 (by omega) x; omega)) rfl ?_
            conv => whnf
            refine bF (notF (BEq.rfl : ((_ : Bool) == _) = true)) ?_
            conv => whnf
            refine bF (notF (BEq.rfl : ((_ : Bool) == _) = true)) ?_
            conv => whnf
            refine .ct ?_
            conv => whnf
            refine CallG.mk (name6_X (begS 200 x) (by have := begS_size 200 (by omega) x; omega)) rfl ?_
            conv => whnf
            refine bF (notF (BEq.rfl : ((_ : Bool) == _) = true)) ?_
            conv => whnf
            refine bF (notF (BEq.rfl : ((_ : Bool) == _) = true)) ?_
            conv => whnf
            refine bF (notF (BEq.rfl : ((_ : Bool) == _) = true)) ?_
            conv => whnf
            refine bF (notF (BEq.rfl : ((_ : Bool) == _) = true)) ?_
            conv => whnf
            refine .ct ?_
            conv => whnf
            refine CallG.mk (quote_X (begS 200 x) (by have := begS_size 200 (by omega) x; omega)) rfl ?_
            conv => whnf
            refine bF (notF (BEq.rfl : ((_ : Bool) == _) = true)) ?_
            conv => whnf
            refine bF (notF (BEq.rfl : ((_ : Bool) == _) = true)) ?_
            conv => whnf
            refine .ct ?_
            conv => whnf
            refine CallG.mk (quote6_X (begS 200 x) (by have := begS_size 200 (by omega) x; omega)) rfl ?_
            conv => whnf
            refine bF (notF (BEq.rfl : ((_ : Bool) == _) = true)) ?_
            conv => whnf
            refine bF (notF (BEq.rfl : ((_ : Bool) == _) = true)) ?_
            conv => whnf
            refine bF (notF (bsEq_self _)) ?_
            conv => whnf
            refine ⟨(k + 1), ⟨by first | omega | (simp only [List.length_map] at *; omega), by omega⟩, (by first | omega | (simp only [List.length_map] at *; omega)), ?_⟩
            refine ⟨?_, ?_, ?_⟩
            · skip
              refine leEnv_app (by kernel_rfl) (by kernel_rfl) ?_
              repeat ((conv => whnf); first | exact True.intro | refine ⟨.rfl, ?_⟩ | refine ⟨.any, ?_⟩ | refine ⟨.nil, ?_⟩ | refine ⟨.int (by first | rfl | omega | (simp only [wrs]; omega)), ?_⟩)
            · skip
              repeat (first | exact LeVs.nil | ((conv => whnf); first | exact True.intro | exact .none | exact .row rfl | refine .cells ?_ | refine ⟨_, _, rfl, .rfl, ?_⟩ | refine ⟨_, _, rfl, .any, ?_⟩ | refine ⟨_, _, rfl, .nil, ?_⟩ | refine ⟨_, _, rfl, .int (by first | rfl | omega | (simp only [wrs]; omega)), ?_⟩ | refine ⟨?_, ?_⟩))
              done
            · skip
              exact LeFr.nil
        · skip
          try simp only [bls] at hc2
          conv => whnf
          refine RegG.par 15 (by kernel_rfl) ?_
          conv => whnf
          refine CallG.mk (keys_X) rfl ?_
          conv => whnf
          refine CallG.mk (keys_X) rfl ?_
          conv => whnf
          refine ⟨_, rfl, ?_⟩
          conv => whnf
          refine ⟨by simp only [bls]; omega, ?_⟩
          conv => whnf
          refine IdxG.mk (j := 0) (c := st1 ⟨#[67, 82, 69, 65, 84, 69]⟩) rfl rfl ?_
          conv => whnf
          refine ⟨_, rfl, ?_⟩
          conv => whnf
          refine ⟨by simp only [bls]; omega, ?_⟩
          conv => whnf
          refine IdxG.mk (j := 0) (c := st1 ⟨#[67, 82, 69, 65, 84, 69]⟩) rfl rfl ?_
          conv => whnf
          refine FinG.mk none ?_ (by rintro _ ⟨⟩)
          simp only [outs, List.length_map, List.length_append, List.length_take, List.length_drop, List.length_cons, List.length_nil]
          rfl
end Go.Proofs.YtekpmlfcmnlmiaaDoor
