/- Tokens and their texts: the walk of LexBack. Condition: what the package-level variables hold. -/
import Derived.Test.YtekpmlfcmnlmiaaGreatDoorX9
namespace Go.Proofs.YtekpmlfcmnlmiaaGreatDoor
open Go.RowKit
set_option linter.unusedVariables false
set_option linter.unusedSimpArgs false
set_option maxRecDepth 20000
/-- A token with its text's beginning alone. -/
def cutY (y : Yl) : Yl := { y with t := begS 100 y.t }
/-- A law's tokens; the first so many cut. -/
def cutK (l : List Yl) (k : Nat) : List Yl := ((l.take 301).take k).map cutY ++ (l.take 301).drop k
def tkS (l : List Yl) : List Yl := (l.take 301).map cutY
theorem cutK_len {l : List Yl} {k : Nat} (h : k ≤ (l.take 301).length) : (cutK l k).length = (l.take 301).length := by
  simp only [cutK, List.length_append, List.length_map, List.length_take, List.length_drop] at *; omega
theorem cutK_0 (l : List Yl) : cutK l 0 = l.take 301 := by simp [cutK]
theorem cutK_end {l : List Yl} {k : Nat} (h : (l.take 301).length ≤ k) : cutK l k = tkS l := by
  unfold cutK tkS
  rw [List.take_of_length_le h, List.drop_of_length_le h, List.append_nil]
theorem cutK_s {l : List Yl} {k : Nat} {y : Yl} (h : k < (l.take 301).length) (hy : (cutK l k)[k]? = some y) : (cutK l k).set k (cutY y) = cutK l (k + 1) := by
  unfold cutK at hy ⊢
  have e : (((l.take 301).take k).map cutY).length = k := by simp only [List.length_map, List.length_take] at *; omega
  rw [List.getElem?_append_right (by omega), e, Nat.sub_self, List.drop_eq_getElem_cons h] at hy
  injection hy with hy
  subst hy
  rw [List.set_append_right _ _ (by omega), e, Nat.sub_self, List.drop_eq_getElem_cons h, List.set_cons_zero, List.take_succ_eq_append_getElem h]
  simp
theorem cutK_ms {l : List Yl} {k : Nat} {y : Yl} (h : k < (l.take 301).length) (hy : (cutK l k)[k]? = some y) : ((cutK l k).map tokC).set k (tokC (cutY y)) = (cutK l (k + 1)).map tokC := by
  rw [← cutK_s h hy, List.map_set]
theorem tok5 (l : List Yl) : ∀ c ∈ l.map tokC, c.length = 5 := fun c hc => by obtain ⟨y, _, rfl⟩ := List.mem_map.1 hc; rfl
theorem ap_tok (l : List Yl) (n : Nat) : ApOk 5 ((l.map tokC).take n) := fun c hc => by
  obtain ⟨y, _, rfl⟩ := List.mem_map.1 (List.mem_of_mem_take hc); exact ⟨rfl, rfl⟩
theorem cut_mt (l : List Yl) : (l.map tokC).take (min (((l.map tokC).length : Nat) : Int) 301).toNat = (cutK l 0).map tokC := by
  rw [cutK_0, List.map_take]
  by_cases h : l.length ≤ 301
  · rw [List.take_of_length_le (by simp; omega), List.take_of_length_le (by simp; omega)]
  · congr 1
    simp only [List.length_map]; omega
theorem tk_len (l : List Yl) : (tkS l).length ≤ 301 := by simp [tkS]; omega
/-- Tokens that come in. -/
def TokN (l : List Yl) : Prop := ∀ y ∈ l, -9223372036854775808 ≤ y.n ∧ y.n ≤ 9223372036854775807
theorem tk_in {l : List Yl} (h : TokN l) : TokInL (tkS l) := fun y hy => by
  obtain ⟨x, hx, rfl⟩ := List.mem_map.1 hy
  have := h x (List.mem_of_mem_take hx)
  have h2 := begS_size 100 (by omega) x.t
  exact ⟨this, by show (begS 100 x.t).size ≤ _; omega⟩
set_option maxRecDepth 20000 in
theorem toks_X (b : Bool) (l : List Yl) : XMeets Tryz.prog 6 [.sl b (l.map tokC)] (.ow 43 5 ((tkS l).map tokC) (nl_tok _)) := by
  refine XMeets.of_X tabX_ok (avs := [.p (.sl false (l.map tokC)) (nl_tok _).sl]) [(0, .p (.sl false (l.map tokC)) (nl_tok _).sl)] (by kernel_rfl) Tryz.func6 rfl (by simp [PuL, Pu, pu_tok]) (by simp [untagL, untag, untag_tok, XV.den, XV.denL]) rfl rfl ?_
  intro B w0
  conv => whnf
  refine ⟨_, (Int.toNat_of_nonneg (by omega)).symm, ?_⟩
  conv => whnf
  refine ⟨by omega, ?_⟩
  conv => whnf
  refine ⟨by omega, ?_⟩
  conv => whnf
  refine ⟨tok5 _, ?_⟩
  conv => whnf
  refine ⟨ap_tok _ _, ?_⟩
  conv => whnf
  refine ⟨by (simp only [List.length_map, List.length_take, List.length_nil] at *; omega), ?_⟩
  conv => whnf
  refine XT.loop tabX_ok (Y := Nat) [3, 4, 11, 12, 14, 15, 16, 17, 18, 19, 20, 21, 22, 23, 24, 25, 26, 27, 28, 29, 30, 31, 32, 33, 34] (fun k => [(14, .p (.v (.int .i64 ((k : Int)))) (nlv _)), (3, .row 0)]) (fun k => [(0, .row 43 5 ((cutK l k).map tokC) (nl_tok _))]) (fun k => k ≤ (l.take 301).length) (fun k => (l.take 301).length - k) 0 (Nat.zero_le _) ?_ ?_
  · skip
    refine ⟨?_, ?_, ?_⟩
    · skip
      refine leEnv_app (by kernel_rfl) (by kernel_rfl) ?_
      repeat ((conv => whnf); first | exact True.intro | refine ⟨.rfl, ?_⟩ | refine ⟨.any, ?_⟩ | refine ⟨.nil, ?_⟩ | refine ⟨.int (by first | rfl | omega | (simp only [wrs]; omega)), ?_⟩)
    · skip
      repeat (first | exact LeVs.nil | ((conv => whnf); first | exact True.intro | exact .none | exact .row rfl | exact .row ((cut_mt l)) | refine .cells ?_ | refine ⟨_, _, rfl, .rfl, ?_⟩ | refine ⟨_, _, rfl, .any, ?_⟩ | refine ⟨_, _, rfl, .nil, ?_⟩ | refine ⟨_, _, rfl, .int (by first | rfl | omega | (simp only [wrs]; omega)), ?_⟩ | refine ⟨?_, ?_⟩))
      done
    · skip
      exact LeFr.nil
  · skip
    rintro k hk
    have hcl := cutK_len hk
    have h301 := List.length_take_le 301 l
    conv => whnf
    refine bS (fun hc1 => ?_) (fun hc1 => ?_)
    · skip
      try simp only [bls] at hc1
      conv => whnf
      refine RegG.par 17 (by kernel_rfl) ?_
      conv => whnf
      refine ⟨_, rfl, ?_⟩
      conv => whnf
      refine ⟨by (simp only [List.length_map, List.length_take, List.length_nil] at *; omega), ?_⟩
      conv => whnf
      refine IdxG.map (f := tokC) (l := cutK l k) k rfl (by first | omega | (simp only [List.length_map, List.length_take, List.length_nil] at *; omega)) ?_; intro y hy hky
      conv => whnf
      refine ⟨_, rfl, ?_⟩
      conv => whnf
      refine ⟨by (simp only [List.length_map, List.length_take, List.length_nil] at *; omega), ?_⟩
      conv => whnf
      refine IdxG.map (f := tokC) (l := cutK l k) k rfl (by first | omega | (simp only [List.length_map, List.length_take, List.length_nil] at *; omega)) ?_; intro y2 hy2 hky2; obtain rfl : y = y2 := Option.some.inj (hy.symm.trans hy2); clear hy2
      conv => whnf
      refine ⟨_, (Int.toNat_of_nonneg (by omega)).symm, ?_⟩
      conv => whnf
      refine ⟨by omega, ?_⟩
      conv => whnf
      refine ⟨by omega, ?_⟩
      conv => whnf
      refine ⟨_, rfl, ?_⟩
      conv => whnf
      refine ⟨by (simp only [List.length_map, List.length_take, List.length_nil] at *; omega), ?_⟩
      conv => whnf
      refine IdxG.map (f := tokC) (l := cutK l k) k rfl (by first | omega | (simp only [List.length_map, List.length_take, List.length_nil] at *; omega)) ?_; intro y2 hy2 hky2; obtain rfl : y = y2 := Option.some.inj (hy.symm.trans hy2); clear hy2
      conv => whnf
      refine ⟨rfl, ?_⟩
      conv => whnf
      refine ⟨(k + 1), (by first | omega | (simp only [List.length_map, List.length_take, List.length_nil] at *; omega) : k + 1 ≤ (l.take 301).length), (by first | omega | (simp only [List.length_map, List.length_take, List.length_nil] at *; omega)), ?_⟩
      refine ⟨?_, ?_, ?_⟩
      · skip
        refine leEnv_app (by kernel_rfl) (by kernel_rfl) ?_
        repeat ((conv => whnf); first | exact True.intro | refine ⟨.rfl, ?_⟩ | refine ⟨.any, ?_⟩ | refine ⟨.nil, ?_⟩ | refine ⟨.int (by first | rfl | omega | (simp only [wrs]; omega)), ?_⟩)
      · skip
        repeat (first | exact LeVs.nil | ((conv => whnf); first | exact True.intro | exact .none | exact .row rfl | exact .row ((cutK_ms (by first | omega | (simp only [List.length_map, List.length_take, List.length_nil] at *; omega)) hy)) | refine .cells ?_ | refine ⟨_, _, rfl, .rfl, ?_⟩ | refine ⟨_, _, rfl, .any, ?_⟩ | refine ⟨_, _, rfl, .nil, ?_⟩ | refine ⟨_, _, rfl, .int (by first | rfl | omega | (simp only [wrs]; omega)), ?_⟩ | refine ⟨?_, ?_⟩))
        done
      · skip
        exact LeFr.nil
    · skip
      try simp only [bls] at hc1
      conv => whnf
      refine FinG.mk (some 0) ?_ (by rintro _ ⟨⟩; trivial)
      simp only [outs, List.length_map, List.length_append, List.length_take, List.length_drop, List.length_cons, List.length_nil]
      rw [cutK_end (by first | omega | (simp only [List.length_map, List.length_take, List.length_nil] at *; omega))]
      simp [fr_tok]
attribute [local irreducible] lexT plcs smeL chkN prT tkS
end Go.Proofs.YtekpmlfcmnlmiaaGreatDoor
