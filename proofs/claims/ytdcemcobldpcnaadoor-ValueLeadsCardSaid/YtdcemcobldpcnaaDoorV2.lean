/- Values: ValueChecks, ValueLeads. No condition. -/
import Derived.Test.YtdcemcobldpcnaaDoorV1
namespace Go.Proofs.YtdcemcobldpcnaaDoor
open Go.RowKit
set_option linter.unusedVariables false
set_option linter.unusedSimpArgs false
set_option maxRecDepth 20000
set_option maxRecDepth 20000 in
theorem lChecks_X (a b : Val) : XMeets Tryd.prog 7 [valT a, valT b] (.p (.v (.bool true)) (nlv _)) := by
  refine XMeets.of_X tabX_ok (avs := [valX a, valX b]) [(0, valX a), (1, valX b)] (by kernel_rfl) Tryd.func7 rfl (by simp [PuL, Pu, valT]) (rfl) rfl rfl ?_
  intro B w0
  cases hr : rightB a
  · skip
    have hk : checkN a = 150 := by simp [checkN, hr]
    conv => whnf
    refine .ct ?_
    conv => whnf
    refine CallG.mk (wakes_X) rfl ?_
    conv => whnf
    refine .ct ?_
    conv => whnf
    refine CallG.mk (long_X _ [a, b] (Nat.le_of_ble_eq_true rfl)) rfl ?_
    conv => whnf
    cases hc1 : (longB [a, b])
    · skip
      try simp only [bls] at hc1
      conv => whnf
      refine .ct ?_
      conv => whnf
      refine CallG.mk (right_X _) rfl ?_
      conv => whnf
      refine .ct ?_
      conv => whnf
      refine CallG.mk (check_X _) rfl ?_
      conv => whnf
      refine bF (by simp [List.length_map, List.length_append, List.length_take, List.length_drop, List.length_cons, List.length_nil, fr_by1, hr, hk, bsEq, eqV_self]; done) ?_
      conv => whnf
      refine bF (by simp [List.length_map, List.length_append, List.length_take, List.length_drop, List.length_cons, List.length_nil, fr_by1, hr, hk, bsEq, eqV_self]; done) ?_
      conv => whnf
      refine bF (by simp [List.length_map, List.length_append, List.length_take, List.length_drop, List.length_cons, List.length_nil, fr_by1, hr, hk, bsEq, eqV_self]; done) ?_
      conv => whnf
      refine bT (by simp [List.length_map, List.length_append, List.length_take, List.length_drop, List.length_cons, List.length_nil, fr_by1, hr, hk, bsEq, eqV_self]; done) ?_
      conv => whnf
      refine bT (by simp [List.length_map, List.length_append, List.length_take, List.length_drop, List.length_cons, List.length_nil, fr_by1, hr, hk, bsEq, eqV_self]; done) ?_
      conv => whnf
      refine .ct ?_
      conv => whnf
      refine CallG.mk (check_X _) rfl ?_
      conv => whnf
      refine bT (by simp [List.length_map, List.length_append, List.length_take, List.length_drop, List.length_cons, List.length_nil, fr_by1, hr, hk, bsEq, eqV_self]; done) ?_
      conv => whnf
      refine bF (by simp [List.length_map, List.length_append, List.length_take, List.length_drop, List.length_cons, List.length_nil, fr_by1, hr, hk, bsEq, eqV_self]; done) ?_
      conv => whnf
      refine bT (by simp [List.length_map, List.length_append, List.length_take, List.length_drop, List.length_cons, List.length_nil, fr_by1, hr, hk, bsEq, eqV_self]; done) ?_
      conv => whnf
      refine bF (by simp [List.length_map, List.length_append, List.length_take, List.length_drop, List.length_cons, List.length_nil, fr_by1, hr, hk, bsEq, eqV_self]; done) ?_
      conv => whnf
      rw [show (!decide (checkN a = 150)) = false from by simp [List.length_map, List.length_append, List.length_take, List.length_drop, List.length_cons, List.length_nil, fr_by1, hr, hk, bsEq, eqV_self]; done]
      conv => whnf
      refine RegG.par 31 (by kernel_rfl) ?_
      conv => whnf
      refine CallG.mk (null_X) rfl ?_
      conv => whnf
      refine BinG.mk rfl rfl (neVal_run _ _ _ _ _ _ _ _) ?_
      conv => whnf
      refine CallG.mk (int_X _) rfl ?_
      conv => whnf
      refine BinG.mk rfl rfl (neVal_run _ _ _ _ _ _ _ _) ?_
      conv => whnf
      refine bF (by simp [List.length_map, List.length_append, List.length_take, List.length_drop, List.length_cons, List.length_nil, fr_by1, hr, hk, bsEq, eqV_self]; done) ?_
      conv => whnf
      refine bF (by simp [List.length_map, List.length_append, List.length_take, List.length_drop, List.length_cons, List.length_nil, fr_by1, hr, hk, bsEq, eqV_self]; done) ?_
      conv => whnf
      refine bF (by simp [List.length_map, List.length_append, List.length_take, List.length_drop, List.length_cons, List.length_nil, fr_by1, hr, hk, bsEq, eqV_self]; done) ?_
      conv => whnf
      refine CallG.mk (text_X _) rfl ?_
      conv => whnf
      refine bF (by simp [List.length_map, List.length_append, List.length_take, List.length_drop, List.length_cons, List.length_nil, fr_by1, hr, hk, bsEq, eqV_self]; done) ?_
      conv => whnf
      refine bF (by simp [List.length_map, List.length_append, List.length_take, List.length_drop, List.length_cons, List.length_nil, fr_by1, hr, hk, bsEq, eqV_self]; done) ?_
      conv => whnf
      refine bF (by simp [List.length_map, List.length_append, List.length_take, List.length_drop, List.length_cons, List.length_nil, fr_by1, hr, hk, bsEq, eqV_self]; done) ?_
      conv => whnf
      refine bF (by simp [List.length_map, List.length_append, List.length_take, List.length_drop, List.length_cons, List.length_nil, fr_by1, hr, hk, bsEq, eqV_self]; done) ?_
      conv => whnf
      refine BinG.mk rfl rfl (neVal_run _ _ _ _ _ _ _ _) ?_
      conv => whnf
      refine bF (by simp [List.length_map, List.length_append, List.length_take, List.length_drop, List.length_cons, List.length_nil, fr_by1, hr, hk, bsEq, eqV_self]; done) ?_
      conv => whnf
      refine bF (by simp [List.length_map, List.length_append, List.length_take, List.length_drop, List.length_cons, List.length_nil, fr_by1, hr, hk, bsEq, eqV_self]; done) ?_
      conv => whnf
      refine CallG.mk (bool_X _) rfl ?_
      conv => whnf
      refine bF (by simp [List.length_map, List.length_append, List.length_take, List.length_drop, List.length_cons, List.length_nil, fr_by1, hr, hk, bsEq, eqV_self]; done) ?_
      conv => whnf
      refine bF (by simp [List.length_map, List.length_append, List.length_take, List.length_drop, List.length_cons, List.length_nil, fr_by1, hr, hk, bsEq, eqV_self]; done) ?_
      conv => whnf
      refine BinG.mk rfl rfl (neVal_run _ _ _ _ _ _ _ _) ?_
      conv => whnf
      refine bF (by simp [List.length_map, List.length_append, List.length_take, List.length_drop, List.length_cons, List.length_nil, fr_by1, hr, hk, bsEq, eqV_self]; done) ?_
      conv => whnf
      refine CallG.mk (bool_X _) rfl ?_
      conv => whnf
      refine BinG.mk rfl rfl (neVal_run _ _ _ _ _ _ _ _) ?_
      conv => whnf
      refine RegG.par 8 (by kernel_rfl) ?_
      conv => whnf
      refine CallG.mk (compare_X _ _) rfl ?_
      conv => whnf
      refine CallG.mk (compare5_X _ _) rfl ?_
      conv => whnf
      refine FinG.mk none ?_ (by rintro _ ⟨⟩)
      simp only [outs, List.length_map, List.length_append, List.length_take, List.length_drop, List.length_cons, List.length_nil, fr_by1, hr, hk, bsEq, eqV_self]
      simp; done
    · skip
      try simp only [bls] at hc1
      conv => whnf
      refine FinG.mk none ?_ (by rintro _ ⟨⟩)
      simp only [outs, List.length_map, List.length_append, List.length_take, List.length_drop, List.length_cons, List.length_nil, fr_by1, hr, hk, bsEq, eqV_self]
  · skip
    have hk : checkN a = 0 := by simp [checkN, hr]
    conv => whnf
    refine .ct ?_
    conv => whnf
    refine CallG.mk (wakes_X) rfl ?_
    conv => whnf
    refine .ct ?_
    conv => whnf
    refine CallG.mk (long_X _ [a, b] (Nat.le_of_ble_eq_true rfl)) rfl ?_
    conv => whnf
    cases hc2 : (longB [a, b])
    · skip
      try simp only [bls] at hc2
      conv => whnf
      refine .ct ?_
      conv => whnf
      refine CallG.mk (right_X _) rfl ?_
      conv => whnf
      refine .ct ?_
      conv => whnf
      refine CallG.mk (check_X _) rfl ?_
      conv => whnf
      refine bF (by simp [List.length_map, List.length_append, List.length_take, List.length_drop, List.length_cons, List.length_nil, fr_by1, hr, hk, bsEq, eqV_self]; done) ?_
      conv => whnf
      refine bF (by simp [List.length_map, List.length_append, List.length_take, List.length_drop, List.length_cons, List.length_nil, fr_by1, hr, hk, bsEq, eqV_self]; done) ?_
      conv => whnf
      refine bF (by simp [List.length_map, List.length_append, List.length_take, List.length_drop, List.length_cons, List.length_nil, fr_by1, hr, hk, bsEq, eqV_self]; done) ?_
      conv => whnf
      refine bF (by simp [List.length_map, List.length_append, List.length_take, List.length_drop, List.length_cons, List.length_nil, fr_by1, hr, hk, bsEq, eqV_self]; done) ?_
      conv => whnf
      refine bF (by simp [List.length_map, List.length_append, List.length_take, List.length_drop, List.length_cons, List.length_nil, fr_by1, hr, hk, bsEq, eqV_self]; done) ?_
      conv => whnf
      refine bF (by simp [List.length_map, List.length_append, List.length_take, List.length_drop, List.length_cons, List.length_nil, fr_by1, hr, hk, bsEq, eqV_self]; done) ?_
      conv => whnf
      refine bF (by simp [List.length_map, List.length_append, List.length_take, List.length_drop, List.length_cons, List.length_nil, fr_by1, hr, hk, bsEq, eqV_self]; done) ?_
      conv => whnf
      refine bF (by simp [List.length_map, List.length_append, List.length_take, List.length_drop, List.length_cons, List.length_nil, fr_by1, hr, hk, bsEq, eqV_self]; done) ?_
      conv => whnf
      refine bF (by simp [List.length_map, List.length_append, List.length_take, List.length_drop, List.length_cons, List.length_nil, fr_by1, hr, hk, bsEq, eqV_self]; done) ?_
      conv => whnf
      refine RegG.par 31 (by kernel_rfl) ?_
      conv => whnf
      refine CallG.mk (null_X) rfl ?_
      conv => whnf
      refine BinG.mk rfl rfl (neVal_run _ _ _ _ _ _ _ _) ?_
      conv => whnf
      refine CallG.mk (int_X _) rfl ?_
      conv => whnf
      refine BinG.mk rfl rfl (neVal_run _ _ _ _ _ _ _ _) ?_
      conv => whnf
      refine bF (by simp [List.length_map, List.length_append, List.length_take, List.length_drop, List.length_cons, List.length_nil, fr_by1, hr, hk, bsEq, eqV_self]; done) ?_
      conv => whnf
      refine bF (by simp [List.length_map, List.length_append, List.length_take, List.length_drop, List.length_cons, List.length_nil, fr_by1, hr, hk, bsEq, eqV_self]; done) ?_
      conv => whnf
      refine bF (by simp [List.length_map, List.length_append, List.length_take, List.length_drop, List.length_cons, List.length_nil, fr_by1, hr, hk, bsEq, eqV_self]; done) ?_
      conv => whnf
      refine CallG.mk (text_X _) rfl ?_
      conv => whnf
      refine bF (by simp [List.length_map, List.length_append, List.length_take, List.length_drop, List.length_cons, List.length_nil, fr_by1, hr, hk, bsEq, eqV_self]; done) ?_
      conv => whnf
      refine bF (by simp [List.length_map, List.length_append, List.length_take, List.length_drop, List.length_cons, List.length_nil, fr_by1, hr, hk, bsEq, eqV_self]; done) ?_
      conv => whnf
      refine bF (by simp [List.length_map, List.length_append, List.length_take, List.length_drop, List.length_cons, List.length_nil, fr_by1, hr, hk, bsEq, eqV_self]; done) ?_
      conv => whnf
      refine bF (by simp [List.length_map, List.length_append, List.length_take, List.length_drop, List.length_cons, List.length_nil, fr_by1, hr, hk, bsEq, eqV_self]; done) ?_
      conv => whnf
      refine BinG.mk rfl rfl (neVal_run _ _ _ _ _ _ _ _) ?_
      conv => whnf
      refine bF (by simp [List.length_map, List.length_append, List.length_take, List.length_drop, List.length_cons, List.length_nil, fr_by1, hr, hk, bsEq, eqV_self]; done) ?_
      conv => whnf
      refine bF (by simp [List.length_map, List.length_append, List.length_take, List.length_drop, List.length_cons, List.length_nil, fr_by1, hr, hk, bsEq, eqV_self]; done) ?_
      conv => whnf
      refine CallG.mk (bool_X _) rfl ?_
      conv => whnf
      refine bF (by simp [List.length_map, List.length_append, List.length_take, List.length_drop, List.length_cons, List.length_nil, fr_by1, hr, hk, bsEq, eqV_self]; done) ?_
      conv => whnf
      refine bF (by simp [List.length_map, List.length_append, List.length_take, List.length_drop, List.length_cons, List.length_nil, fr_by1, hr, hk, bsEq, eqV_self]; done) ?_
      conv => whnf
      refine BinG.mk rfl rfl (neVal_run _ _ _ _ _ _ _ _) ?_
      conv => whnf
      refine bF (by simp [List.length_map, List.length_append, List.length_take, List.length_drop, List.length_cons, List.length_nil, fr_by1, hr, hk, bsEq, eqV_self]; done) ?_
      conv => whnf
      refine CallG.mk (bool_X _) rfl ?_
      conv => whnf
      refine BinG.mk rfl rfl (neVal_run _ _ _ _ _ _ _ _) ?_
      conv => whnf
      refine RegG.par 8 (by kernel_rfl) ?_
      conv => whnf
      refine CallG.mk (compare_X _ _) rfl ?_
      conv => whnf
      refine CallG.mk (compare5_X _ _) rfl ?_
      conv => whnf
      refine FinG.mk none ?_ (by rintro _ ⟨⟩)
      simp only [outs, List.length_map, List.length_append, List.length_take, List.length_drop, List.length_cons, List.length_nil, fr_by1, hr, hk, bsEq, eqV_self]
      simp; done
    · skip
      try simp only [bls] at hc2
      conv => whnf
      refine FinG.mk none ?_ (by rintro _ ⟨⟩)
      simp only [outs, List.length_map, List.length_append, List.length_take, List.length_drop, List.length_cons, List.length_nil, fr_by1, hr, hk, bsEq, eqV_self]
abbrev vi (n : Int) : Val := ⟨3, n, ⟨#[]⟩⟩
theorem right_vi (n : Int) : rightB (vi n) = true := by simp [rightB, bsEq]
theorem rec_vi {op x y : Int} (h1 : 1 ≤ op) (h2 : op ≤ 5) : recN op (vi x) (vi y) = if (rkN op x y).2 ≠ 0 then (⟨0, 0, ⟨#[]⟩⟩, (rkN op x y).2) else (vi (rkN op x y).1, 0) := by
  have hb : bothN op 5 (vi x) (vi y) = 0 := by unfold bothN; rw [if_neg (by omega), if_pos ⟨right_vi _, right_vi _⟩]
  have hn : ∀ z, numB (vi z) = true := fun z => by simp [numB]
  simp [recN, hb, hn]
theorem rec_2 {op x y : Int} (h1 : 1 ≤ op) (h2 : op ≤ 5) : (recN op (vi x) (vi y)).2 = (rkN op x y).2 := by
  rw [rec_vi h1 h2]; split <;> simp_all
theorem rec_1 {op x y : Int} (h1 : 1 ≤ op) (h2 : op ≤ 5) (h : (rkN op x y).2 = 0) : recN op (vi x) (vi y) = (vi (rkN op x y).1, 0) := by
  rw [rec_vi h1 h2]; simp [h]
theorem fit_0 {n : Int} (h : (fit n).2 = 0) : fit n = (n, 0) ∧ I64 n := by
  by_cases h1 : I64 n
  · exact ⟨fit_in h1, h1⟩
  · rw [fit_out h1] at h; simp at h
theorem tmod_np {a : Int} (b : Int) (h : a ≤ 0) : a.tmod b ≤ 0 := by
  have := Int.tmod_nonneg b (show 0 ≤ -a by omega)
  rw [Int.neg_tmod] at this; omega
theorem rk_in {op x y : Int} (hx : I64 x) (hy : I64 y) : I64 (rkN op x y).1 := by
  have hf : ∀ n, I64 (fit n).1 := fun n => by
    by_cases h1 : I64 n
    · rw [fit_in h1]; exact h1
    · rw [fit_out h1]; unfold I64; decide
  unfold rkN
  split
  · exact hf _
  split
  · exact hf _
  split
  · exact hf _
  split
  · unfold I64; decide
  split
  · exact hf _
  · have := Int.natAbs_tmod x y
    have h2 : x.natAbs % y.natAbs ≤ x.natAbs := Nat.mod_le _ _
    rcases Int.lt_or_le x 0 with h3 | h3
    · have := tmod_np y (Int.le_of_lt h3)
      unfold I64 at *; simp only; omega
    · have := Int.tmod_nonneg y h3
      unfold I64 at *; simp only; omega
theorem rec_in {op : Int} {x y : Val} (hx : I64 x.n) (hy : I64 y.n) : I64 (recN op x y).1.n := by
  have h0 : I64 0 := by unfold I64; decide
  unfold recN
  split
  · exact h0
  split
  · exact h0
  split
  · exact h0
  split
  · exact h0
  · exact rk_in hx hy
theorem add_sub {a b : Int} (ha : I64 a) (hb : I64 b) (h : (recN 1 (vi a) (vi b)).2 = 0) : recN 2 (recN 1 (vi a) (vi b)).1 (vi b) = (vi a, 0) := by
  rw [rec_2 (by decide) (by decide)] at h
  have h1 := fit_0 (n := a + b) h
  have e1 : rkN 1 a b = (a + b, 0) := h1.1
  rw [rec_1 (by decide) (by decide) h, e1]
  have e2 : rkN 2 (a + b) b = (a, 0) := by
    show fit (a + b - b) = _
    rw [show a + b - b = a by omega]; exact fit_in ha
  rw [rec_1 (by decide) (by decide) (by rw [e2]), e2]
theorem div_0 {a b : Int} (ha : I64 a) (hb : I64 b) (h : (recN 4 (vi a) (vi b)).2 = 0) : recN 4 (vi a) (vi b) = (vi (a.tdiv b), 0) ∧ recN 5 (vi a) (vi b) = (vi (a.tmod b), 0) ∧ I64 (a.tdiv b) ∧ b ≠ 0 := by
  rw [rec_2 (by decide) (by decide)] at h
  by_cases hb0 : b = 0
  · subst hb0; simp [rkN] at h
  have e : rkN 4 a b = fit (a.tdiv b) := by simp [rkN, hb0]
  rw [e] at h
  have h1 := fit_0 h
  have e5 : rkN 5 a b = (a.tmod b, 0) := by simp [rkN, hb0]
  refine ⟨?_, ?_, h1.2, hb0⟩
  · rw [rec_1 (by decide) (by decide) (by rw [e]; exact h), e, h1.1]
  · rw [rec_1 (by decide) (by decide) (by rw [e5]), e5]
theorem div_in {a b : Int} (ha : I64 a) : I64 (a.tdiv b * b) := by
  have h5 := Int.mul_tdiv_add_tmod a b
  have h6 : b * a.tdiv b = a.tdiv b * b := Int.mul_comm _ _
  have h8 := Int.natAbs_tmod a b
  have h9 : a.natAbs % b.natAbs ≤ a.natAbs := Nat.mod_le _ _
  rcases Int.lt_or_le a 0 with h7 | h7
  · have := tmod_np b (Int.le_of_lt h7)
    unfold I64 at *; omega
  · have := Int.tmod_nonneg b h7
    unfold I64 at *; omega
theorem div_mul {a b : Int} (ha : I64 a) (hb : I64 b) (h : (recN 4 (vi a) (vi b)).2 = 0) : recN 3 (recN 4 (vi a) (vi b)).1 (vi b) = (vi (a.tdiv b * b), 0) := by
  obtain ⟨h1, h2, h3, h4⟩ := div_0 ha hb h
  rw [h1]
  have e3 : rkN 3 (a.tdiv b) b = (a.tdiv b * b, 0) := fit_in (div_in ha)
  rw [rec_1 (by decide) (by decide) (by rw [e3]), e3]
theorem div_add {a b : Int} (ha : I64 a) (hb : I64 b) (h : (recN 4 (vi a) (vi b)).2 = 0) : recN 1 (vi (a.tdiv b * b)) (recN 5 (vi a) (vi b)).1 = (vi a, 0) := by
  obtain ⟨h1, h2, h3, h4⟩ := div_0 ha hb h
  rw [h2]
  have e1 : rkN 1 (a.tdiv b * b) (a.tmod b) = (a, 0) := by
    show fit (a.tdiv b * b + a.tmod b) = _
    rw [show a.tdiv b * b + a.tmod b = a by have := Int.mul_tdiv_add_tmod a b; rw [Int.mul_comm] at this; omega]; exact fit_in ha
  rw [rec_1 (by decide) (by decide) (by rw [e1]), e1]
theorem div_r {a b : Int} (ha : I64 a) (hb : I64 b) (h : (recN 4 (vi a) (vi b)).2 = 0) : (recN 5 (vi a) (vi b)).2 = 0 ∧ ((recN 5 (vi a) (vi b)).1.n < 0 → a < 0) ∧ (0 < (recN 5 (vi a) (vi b)).1.n → 0 < a) := by
  obtain ⟨h1, h2, h3, h4⟩ := div_0 ha hb h
  rw [h2]
  refine ⟨rfl, fun h5 => ?_, fun h5 => ?_⟩
  · rcases Int.lt_or_le a 0 with h7 | h7
    · exact h7
    · have := Int.tmod_nonneg b h7
      have h5 : a.tmod b < 0 := h5
      omega
  · rcases Int.lt_or_le 0 a with h7 | h7
    · exact h7
    · have := tmod_np b h7
      have h5 : 0 < a.tmod b := h5
      omega
theorem div_e {a b : Int} (ha : I64 a) (hb : I64 b) (h : ¬ (recN 4 (vi a) (vi b)).2 = 0) : ((recN 4 (vi a) (vi b)).2 = 152 ∧ b = 0) ∨ ((recN 4 (vi a) (vi b)).2 = 151 ∧ b = -1) := by
  rw [rec_2 (by decide) (by decide)] at h ⊢
  by_cases hb0 : b = 0
  · subst hb0; exact .inl ⟨by simp [rkN], rfl⟩
  · right
    have e : rkN 4 a b = fit (a.tdiv b) := by simp [rkN, hb0]
    rw [e] at h ⊢
    by_cases h1 : b = -1
    · refine ⟨?_, h1⟩
      by_cases h2 : I64 (a.tdiv b)
      · rw [fit_in h2] at h; exact absurd rfl h
      · rw [fit_out h2]
    · rw [fit_in (tdiv_in ha hb hb0 h1).2] at h; exact absurd rfl h
theorem dm_1 (t u : Int) : notN (andN t u) = orT (notN t) (notN u) := by
  rcases not_of t with ⟨h, g⟩ | ⟨h, g⟩ | ⟨h, g⟩ <;> rcases not_of u with ⟨h', g'⟩ | ⟨h', g'⟩ | ⟨h', g'⟩ <;> simp [andN, orT, h, h', g, g', notN, fair_0, fair_1, fair_2]
theorem dm_2 (t u : Int) : notN (orT t u) = andN (notN t) (notN u) := by
  rcases not_of t with ⟨h, g⟩ | ⟨h, g⟩ | ⟨h, g⟩ <;> rcases not_of u with ⟨h', g'⟩ | ⟨h', g'⟩ | ⟨h', g'⟩ <;> simp [andN, orT, h, h', g, g', notN, fair_0, fair_1, fair_2]
theorem reckE_X {op : Int} {u v w : Val} {e : Int} (h : recN op u v = (w, e)) (hu : I64 u.n) (hv : I64 v.n) : XMeets Tryd.prog 15 [.v (.int .i64 op), valT u, valT v] (.tu [valX w, .p (.v (.int .i64 e)) (nlv _)]) := by
  have := reckon_X op u v hu hv
  rw [h] at this
  exact this
set_option maxRecDepth 20000 in
theorem lLeads_X (a b t u : Int) (ha : I64 a) (hb : I64 b) : XMeets Tryd.prog 10 [.v (.int .i64 a), .v (.int .i64 b), .agg [.v (.int .i64 t), .v (.int .i64 u)]] (.p (.v (.bool true)) (nlv _)) := by
  refine XMeets.of_X tabX_ok (avs := [.p (.v (.int .i64 a)) (nlv _), .p (.v (.int .i64 b)) (nlv _), .ag [.p (.v (.int .i64 t)) (nlv _), .p (.v (.int .i64 u)) (nlv _)]]) [(0, .p (.v (.int .i64 a)) (nlv _)), (1, .p (.v (.int .i64 b)) (nlv _)), (2, .ag [.p (.v (.int .i64 t)) (nlv _), .p (.v (.int .i64 u)) (nlv _)])] (by kernel_rfl) Tryd.func10 rfl (by simp [PuL, Pu]) (rfl) rfl rfl ?_
  intro B w0
  have HR := div_r ha hb
  have HE := div_e ha hb
  conv => whnf
  refine .ct ?_
  conv => whnf
  refine CallG.mk (wakes_X) rfl ?_
  conv => whnf
  refine RegG.par 6 (by kernel_rfl) ?_
  conv => whnf
  refine .ct ?_
  conv => whnf
  refine CallG.mk (int_X _) rfl ?_
  conv => whnf
  refine .ct ?_
  conv => whnf
  refine CallG.mk (int_X _) rfl ?_
  conv => whnf
  refine .ct ?_
  conv => whnf
  refine CallG.mk (reckon_X _ (vi a) (vi b) ha hb) rfl ?_
  conv => whnf
  cases hc1 : (decide ((recN 1 (vi a) (vi b)).snd = 0))
  · skip
    try simp only [bls] at hc1
    conv => whnf
    refine .ct ?_
    conv => whnf
    refine CallG.mk (reckon_X _ (vi a) (vi b) ha hb) rfl ?_
    conv => whnf
    refine .ct ?_
    conv => whnf
    refine CallG.mk (reckon_X _ (vi a) (vi b) ha hb) rfl ?_
    conv => whnf
    cases hc2 : (decide ((recN 4 (vi a) (vi b)).snd = 0))
    · skip
      try simp only [bls] at hc2
      conv => whnf
      cases hc3 : (decide ((recN 4 (vi a) (vi b)).snd = 152))
      · skip
        try simp only [bls] at hc3
        conv => whnf
        cases hc4 : (decide ((recN 4 (vi a) (vi b)).snd = 151))
        · skip
          try simp only [bls] at hc4
          conv => whnf
          refine FinG.mk none ?_ (by rintro _ ⟨⟩)
          simp only [outs, List.length_map, List.length_append, List.length_take, List.length_drop, List.length_cons, List.length_nil, fr_by1, dm_1, dm_2, eqV_self]
          and_intros <;> first | rfl | (simp; done) | omega | (simp_all; done) | (simp_all; omega)
        · skip
          try simp only [bls] at hc4
          conv => whnf
          cases hc5 : (decide (b = -1))
          · skip
            try simp only [bls] at hc5
            conv => whnf
            refine FinG.mk none ?_ (by rintro _ ⟨⟩)
            simp only [outs, List.length_map, List.length_append, List.length_take, List.length_drop, List.length_cons, List.length_nil, fr_by1, dm_1, dm_2, eqV_self]
            and_intros <;> first | rfl | (simp; done) | omega | (simp_all; done) | (simp_all; omega)
          · skip
            try simp only [bls] at hc5
            conv => whnf
            refine .ct ?_
            conv => whnf
            refine CallG.mk (and_X _ _) rfl ?_
            conv => whnf
            refine .ct ?_
            conv => whnf
            refine CallG.mk (not_X _) rfl ?_
            conv => whnf
            refine .ct ?_
            conv => whnf
            refine CallG.mk (not_X _) rfl ?_
            conv => whnf
            refine .ct ?_
            conv => whnf
            refine CallG.mk (not_X _) rfl ?_
            conv => whnf
            refine .ct ?_
            conv => whnf
            refine CallG.mk (or3_X _ _) rfl ?_
            conv => whnf
            rw [show (decide (notN (andN t u) = orT (notN t) (notN u))) = true from by simp [List.length_map, List.length_append, List.length_take, List.length_drop, List.length_cons, List.length_nil, fr_by1, dm_1, dm_2, eqV_self]; done]
            conv => whnf
            refine .ct ?_
            conv => whnf
            refine CallG.mk (or3_X _ _) rfl ?_
            conv => whnf
            refine .ct ?_
            conv => whnf
            refine CallG.mk (not_X _) rfl ?_
            conv => whnf
            refine .ct ?_
            conv => whnf
            refine CallG.mk (not_X _) rfl ?_
            conv => whnf
            refine .ct ?_
            conv => whnf
            refine CallG.mk (not_X _) rfl ?_
            conv => whnf
            refine .ct ?_
            conv => whnf
            refine CallG.mk (and_X _ _) rfl ?_
            conv => whnf
            refine FinG.mk none ?_ (by rintro _ ⟨⟩)
            simp only [outs, List.length_map, List.length_append, List.length_take, List.length_drop, List.length_cons, List.length_nil, fr_by1, dm_1, dm_2, eqV_self]
            simp; done
      · skip
        try simp only [bls] at hc3
        conv => whnf
        cases hc6 : (decide (b = 0))
        · skip
          try simp only [bls] at hc6
          conv => whnf
          cases hc7 : (decide ((recN 4 (vi a) (vi b)).snd = 151))
          · skip
            try simp only [bls] at hc7
            conv => whnf
            refine FinG.mk none ?_ (by rintro _ ⟨⟩)
            simp only [outs, List.length_map, List.length_append, List.length_take, List.length_drop, List.length_cons, List.length_nil, fr_by1, dm_1, dm_2, eqV_self]
            and_intros <;> first | rfl | (simp; done) | omega | (simp_all; done) | (simp_all; omega)
          · skip
            try simp only [bls] at hc7
            conv => whnf
            cases hc8 : (decide (b = -1))
            · skip
              try simp only [bls] at hc8
              conv => whnf
              refine FinG.mk none ?_ (by rintro _ ⟨⟩)
              simp only [outs, List.length_map, List.length_append, List.length_take, List.length_drop, List.length_cons, List.length_nil, fr_by1, dm_1, dm_2, eqV_self]
              and_intros <;> first | rfl | (simp; done) | omega | (simp_all; done) | (simp_all; omega)
            · skip
              try simp only [bls] at hc8
              conv => whnf
              refine .ct ?_
              conv => whnf
              refine CallG.mk (and_X _ _) rfl ?_
              conv => whnf
              refine .ct ?_
              conv => whnf
              refine CallG.mk (not_X _) rfl ?_
              conv => whnf
              refine .ct ?_
              conv => whnf
              refine CallG.mk (not_X _) rfl ?_
              conv => whnf
              refine .ct ?_
              conv => whnf
              refine CallG.mk (not_X _) rfl ?_
              conv => whnf
              refine .ct ?_
              conv => whnf
              refine CallG.mk (or3_X _ _) rfl ?_
              conv => whnf
              rw [show (decide (notN (andN t u) = orT (notN t) (notN u))) = true from decide_eq_true (by omega)]
              conv => whnf
              refine .ct ?_
              conv => whnf
              refine CallG.mk (or3_X _ _) rfl ?_
              conv => whnf
              refine .ct ?_
              conv => whnf
              refine CallG.mk (not_X _) rfl ?_
              conv => whnf
              refine .ct ?_
              conv => whnf
              refine CallG.mk (not_X _) rfl ?_
              conv => whnf
              refine .ct ?_
              conv => whnf
              refine CallG.mk (not_X _) rfl ?_
              conv => whnf
              refine .ct ?_
              conv => whnf
              refine CallG.mk (and_X _ _) rfl ?_
              conv => whnf
              refine FinG.mk none ?_ (by rintro _ ⟨⟩)
              simp only [outs, List.length_map, List.length_append, List.length_take, List.length_drop, List.length_cons, List.length_nil, fr_by1, dm_1, dm_2, eqV_self]
              simp; done
        · skip
          try simp only [bls] at hc6
          conv => whnf
          refine .ct ?_
          conv => whnf
          refine CallG.mk (and_X _ _) rfl ?_
          conv => whnf
          refine .ct ?_
          conv => whnf
          refine CallG.mk (not_X _) rfl ?_
          conv => whnf
          refine .ct ?_
          conv => whnf
          refine CallG.mk (not_X _) rfl ?_
          conv => whnf
          refine .ct ?_
          conv => whnf
          refine CallG.mk (not_X _) rfl ?_
          conv => whnf
          refine .ct ?_
          conv => whnf
          refine CallG.mk (or3_X _ _) rfl ?_
          conv => whnf
          rw [show (decide (notN (andN t u) = orT (notN t) (notN u))) = true from by simp [List.length_map, List.length_append, List.length_take, List.length_drop, List.length_cons, List.length_nil, fr_by1, dm_1, dm_2, eqV_self]; done]
          conv => whnf
          refine .ct ?_
          conv => whnf
          refine CallG.mk (or3_X _ _) rfl ?_
          conv => whnf
          refine .ct ?_
          conv => whnf
          refine CallG.mk (not_X _) rfl ?_
          conv => whnf
          refine .ct ?_
          conv => whnf
          refine CallG.mk (not_X _) rfl ?_
          conv => whnf
          refine .ct ?_
          conv => whnf
          refine CallG.mk (not_X _) rfl ?_
          conv => whnf
          refine .ct ?_
          conv => whnf
          refine CallG.mk (and_X _ _) rfl ?_
          conv => whnf
          refine FinG.mk none ?_ (by rintro _ ⟨⟩)
          simp only [outs, List.length_map, List.length_append, List.length_take, List.length_drop, List.length_cons, List.length_nil, fr_by1, dm_1, dm_2, eqV_self]
          simp; done
    · skip
      try simp only [bls] at hc2
      conv => whnf
      refine .ct ?_
      conv => whnf
      refine CallG.mk (reckE_X (div_mul ha hb (by assumption)) (rec_in ha hb) hb) rfl ?_
      conv => whnf
      refine .ct ?_
      conv => whnf
      refine CallG.mk (reckE_X (div_add ha hb (by assumption)) (div_in ha) (rec_in ha hb)) rfl ?_
      conv => whnf
      cases hc9 : (decide ((recN 5 (vi a) (vi b)).snd = 0))
      · skip
        try simp only [bls] at hc9
        conv => whnf
        refine FinG.mk none ?_ (by rintro _ ⟨⟩)
        simp only [outs, List.length_map, List.length_append, List.length_take, List.length_drop, List.length_cons, List.length_nil, fr_by1, dm_1, dm_2, eqV_self]
        and_intros <;> first | rfl | (simp; done) | omega | (simp_all; done) | (simp_all; omega)
      · skip
        try simp only [bls] at hc9
        conv => whnf
        refine BinG.mk rfl rfl (neVal_run _ _ _ _ _ _ _ _) ?_
        conv => whnf
        refine bF (by simp [List.length_map, List.length_append, List.length_take, List.length_drop, List.length_cons, List.length_nil, fr_by1, dm_1, dm_2, eqV_self]; done) ?_
        conv => whnf
        refine bF (by simp [List.length_map, List.length_append, List.length_take, List.length_drop, List.length_cons, List.length_nil, fr_by1, dm_1, dm_2, eqV_self]; done) ?_
        conv => whnf
        refine bF (by simp [List.length_map, List.length_append, List.length_take, List.length_drop, List.length_cons, List.length_nil, fr_by1, dm_1, dm_2, eqV_self]; done) ?_
        conv => whnf
        refine bF (by simp [List.length_map, List.length_append, List.length_take, List.length_drop, List.length_cons, List.length_nil, fr_by1, dm_1, dm_2, eqV_self]; done) ?_
        conv => whnf
        cases hc10 : (decide ((recN 5 (vi a) (vi b)).fst.n < 0))
        · skip
          try simp only [bls] at hc10
          conv => whnf
          refine bF (by simp [List.length_map, List.length_append, List.length_take, List.length_drop, List.length_cons, List.length_nil, fr_by1, dm_1, dm_2, eqV_self]; done) ?_
          conv => whnf
          refine bF (by simp [List.length_map, List.length_append, List.length_take, List.length_drop, List.length_cons, List.length_nil, fr_by1, dm_1, dm_2, eqV_self]; done) ?_
          conv => whnf
          cases hc11 : (decide (0 < (recN 5 (vi a) (vi b)).fst.n))
          · skip
            try simp only [bls] at hc11
            conv => whnf
            refine .ct ?_
            conv => whnf
            refine CallG.mk (and_X _ _) rfl ?_
            conv => whnf
            refine .ct ?_
            conv => whnf
            refine CallG.mk (not_X _) rfl ?_
            conv => whnf
            refine .ct ?_
            conv => whnf
            refine CallG.mk (not_X _) rfl ?_
            conv => whnf
            refine .ct ?_
            conv => whnf
            refine CallG.mk (not_X _) rfl ?_
            conv => whnf
            refine .ct ?_
            conv => whnf
            refine CallG.mk (or3_X _ _) rfl ?_
            conv => whnf
            rw [show (decide (notN (andN t u) = orT (notN t) (notN u))) = true from by simp [List.length_map, List.length_append, List.length_take, List.length_drop, List.length_cons, List.length_nil, fr_by1, dm_1, dm_2, eqV_self]; done]
            conv => whnf
            refine .ct ?_
            conv => whnf
            refine CallG.mk (or3_X _ _) rfl ?_
            conv => whnf
            refine .ct ?_
            conv => whnf
            refine CallG.mk (not_X _) rfl ?_
            conv => whnf
            refine .ct ?_
            conv => whnf
            refine CallG.mk (not_X _) rfl ?_
            conv => whnf
            refine .ct ?_
            conv => whnf
            refine CallG.mk (not_X _) rfl ?_
            conv => whnf
            refine .ct ?_
            conv => whnf
            refine CallG.mk (and_X _ _) rfl ?_
            conv => whnf
            refine FinG.mk none ?_ (by rintro _ ⟨⟩)
            simp only [outs, List.length_map, List.length_append, List.length_take, List.length_drop, List.length_cons, List.length_nil, fr_by1, dm_1, dm_2, eqV_self]
            simp; done
          · skip
            try simp only [bls] at hc11
            conv => whnf
            rw [show (decide (a ≤ 0)) = false from decide_eq_false (by omega)]
            conv => whnf
            refine .ct ?_
            conv => whnf
            refine CallG.mk (and_X _ _) rfl ?_
            conv => whnf
            refine .ct ?_
            conv => whnf
            refine CallG.mk (not_X _) rfl ?_
            conv => whnf
            refine .ct ?_
            conv => whnf
            refine CallG.mk (not_X _) rfl ?_
            conv => whnf
            refine .ct ?_
            conv => whnf
            refine CallG.mk (not_X _) rfl ?_
            conv => whnf
            refine .ct ?_
            conv => whnf
            refine CallG.mk (or3_X _ _) rfl ?_
            conv => whnf
            rw [show (decide (notN (andN t u) = orT (notN t) (notN u))) = true from by simp [List.length_map, List.length_append, List.length_take, List.length_drop, List.length_cons, List.length_nil, fr_by1, dm_1, dm_2, eqV_self]; done]
            conv => whnf
            refine .ct ?_
            conv => whnf
            refine CallG.mk (or3_X _ _) rfl ?_
            conv => whnf
            refine .ct ?_
            conv => whnf
            refine CallG.mk (not_X _) rfl ?_
            conv => whnf
            refine .ct ?_
            conv => whnf
            refine CallG.mk (not_X _) rfl ?_
            conv => whnf
            refine .ct ?_
            conv => whnf
            refine CallG.mk (not_X _) rfl ?_
            conv => whnf
            refine .ct ?_
            conv => whnf
            refine CallG.mk (and_X _ _) rfl ?_
            conv => whnf
            refine FinG.mk none ?_ (by rintro _ ⟨⟩)
            simp only [outs, List.length_map, List.length_append, List.length_take, List.length_drop, List.length_cons, List.length_nil, fr_by1, dm_1, dm_2, eqV_self]
            simp; done
        · skip
          try simp only [bls] at hc10
          conv => whnf
          refine bF (by simp [List.length_map, List.length_append, List.length_take, List.length_drop, List.length_cons, List.length_nil, fr_by1, dm_1, dm_2, eqV_self]; done) ?_
          conv => whnf
          refine bF (by simp [List.length_map, List.length_append, List.length_take, List.length_drop, List.length_cons, List.length_nil, fr_by1, dm_1, dm_2, eqV_self]; done) ?_
          conv => whnf
          rw [show (decide (0 ≤ a)) = false from decide_eq_false (by omega)]
          conv => whnf
          rw [show (decide (0 < (recN 5 (vi a) (vi b)).fst.n)) = false from decide_eq_false (by omega)]
          conv => whnf
          refine .ct ?_
          conv => whnf
          refine CallG.mk (and_X _ _) rfl ?_
          conv => whnf
          refine .ct ?_
          conv => whnf
          refine CallG.mk (not_X _) rfl ?_
          conv => whnf
          refine .ct ?_
          conv => whnf
          refine CallG.mk (not_X _) rfl ?_
          conv => whnf
          refine .ct ?_
          conv => whnf
          refine CallG.mk (not_X _) rfl ?_
          conv => whnf
          refine .ct ?_
          conv => whnf
          refine CallG.mk (or3_X _ _) rfl ?_
          conv => whnf
          rw [show (decide (notN (andN t u) = orT (notN t) (notN u))) = true from by simp [List.length_map, List.length_append, List.length_take, List.length_drop, List.length_cons, List.length_nil, fr_by1, dm_1, dm_2, eqV_self]; done]
          conv => whnf
          refine .ct ?_
          conv => whnf
          refine CallG.mk (or3_X _ _) rfl ?_
          conv => whnf
          refine .ct ?_
          conv => whnf
          refine CallG.mk (not_X _) rfl ?_
          conv => whnf
          refine .ct ?_
          conv => whnf
          refine CallG.mk (not_X _) rfl ?_
          conv => whnf
          refine .ct ?_
          conv => whnf
          refine CallG.mk (not_X _) rfl ?_
          conv => whnf
          refine .ct ?_
          conv => whnf
          refine CallG.mk (and_X _ _) rfl ?_
          conv => whnf
          refine FinG.mk none ?_ (by rintro _ ⟨⟩)
          simp only [outs, List.length_map, List.length_append, List.length_take, List.length_drop, List.length_cons, List.length_nil, fr_by1, dm_1, dm_2, eqV_self]
          simp; done
  · skip
    try simp only [bls] at hc1
    conv => whnf
    refine .ct ?_
    conv => whnf
    refine CallG.mk (reckE_X (add_sub ha hb (by assumption)) (rec_in ha hb) hb) rfl ?_
    conv => whnf
    refine BinG.mk rfl rfl (neVal_run _ _ _ _ _ _ _ _) ?_
    conv => whnf
    refine bF (by simp [List.length_map, List.length_append, List.length_take, List.length_drop, List.length_cons, List.length_nil, fr_by1, dm_1, dm_2, eqV_self]; done) ?_
    conv => whnf
    refine .ct ?_
    conv => whnf
    refine CallG.mk (reckon_X _ (vi a) (vi b) ha hb) rfl ?_
    conv => whnf
    refine .ct ?_
    conv => whnf
    refine CallG.mk (reckon_X _ (vi a) (vi b) ha hb) rfl ?_
    conv => whnf
    cases hc12 : (decide ((recN 4 (vi a) (vi b)).snd = 0))
    · skip
      try simp only [bls] at hc12
      conv => whnf
      cases hc13 : (decide ((recN 4 (vi a) (vi b)).snd = 152))
      · skip
        try simp only [bls] at hc13
        conv => whnf
        cases hc14 : (decide ((recN 4 (vi a) (vi b)).snd = 151))
        · skip
          try simp only [bls] at hc14
          conv => whnf
          refine FinG.mk none ?_ (by rintro _ ⟨⟩)
          simp only [outs, List.length_map, List.length_append, List.length_take, List.length_drop, List.length_cons, List.length_nil, fr_by1, dm_1, dm_2, eqV_self]
          and_intros <;> first | rfl | (simp; done) | omega | (simp_all; done) | (simp_all; omega)
        · skip
          try simp only [bls] at hc14
          conv => whnf
          cases hc15 : (decide (b = -1))
          · skip
            try simp only [bls] at hc15
            conv => whnf
            refine FinG.mk none ?_ (by rintro _ ⟨⟩)
            simp only [outs, List.length_map, List.length_append, List.length_take, List.length_drop, List.length_cons, List.length_nil, fr_by1, dm_1, dm_2, eqV_self]
            and_intros <;> first | rfl | (simp; done) | omega | (simp_all; done) | (simp_all; omega)
          · skip
            try simp only [bls] at hc15
            conv => whnf
            refine .ct ?_
            conv => whnf
            refine CallG.mk (and_X _ _) rfl ?_
            conv => whnf
            refine .ct ?_
            conv => whnf
            refine CallG.mk (not_X _) rfl ?_
            conv => whnf
            refine .ct ?_
            conv => whnf
            refine CallG.mk (not_X _) rfl ?_
            conv => whnf
            refine .ct ?_
            conv => whnf
            refine CallG.mk (not_X _) rfl ?_
            conv => whnf
            refine .ct ?_
            conv => whnf
            refine CallG.mk (or3_X _ _) rfl ?_
            conv => whnf
            rw [show (decide (notN (andN t u) = orT (notN t) (notN u))) = true from by simp [List.length_map, List.length_append, List.length_take, List.length_drop, List.length_cons, List.length_nil, fr_by1, dm_1, dm_2, eqV_self]; done]
            conv => whnf
            refine .ct ?_
            conv => whnf
            refine CallG.mk (or3_X _ _) rfl ?_
            conv => whnf
            refine .ct ?_
            conv => whnf
            refine CallG.mk (not_X _) rfl ?_
            conv => whnf
            refine .ct ?_
            conv => whnf
            refine CallG.mk (not_X _) rfl ?_
            conv => whnf
            refine .ct ?_
            conv => whnf
            refine CallG.mk (not_X _) rfl ?_
            conv => whnf
            refine .ct ?_
            conv => whnf
            refine CallG.mk (and_X _ _) rfl ?_
            conv => whnf
            refine FinG.mk none ?_ (by rintro _ ⟨⟩)
            simp only [outs, List.length_map, List.length_append, List.length_take, List.length_drop, List.length_cons, List.length_nil, fr_by1, dm_1, dm_2, eqV_self]
            simp; done
      · skip
        try simp only [bls] at hc13
        conv => whnf
        cases hc16 : (decide (b = 0))
        · skip
          try simp only [bls] at hc16
          conv => whnf
          cases hc17 : (decide ((recN 4 (vi a) (vi b)).snd = 151))
          · skip
            try simp only [bls] at hc17
            conv => whnf
            refine FinG.mk none ?_ (by rintro _ ⟨⟩)
            simp only [outs, List.length_map, List.length_append, List.length_take, List.length_drop, List.length_cons, List.length_nil, fr_by1, dm_1, dm_2, eqV_self]
            and_intros <;> first | rfl | (simp; done) | omega | (simp_all; done) | (simp_all; omega)
          · skip
            try simp only [bls] at hc17
            conv => whnf
            cases hc18 : (decide (b = -1))
            · skip
              try simp only [bls] at hc18
              conv => whnf
              refine FinG.mk none ?_ (by rintro _ ⟨⟩)
              simp only [outs, List.length_map, List.length_append, List.length_take, List.length_drop, List.length_cons, List.length_nil, fr_by1, dm_1, dm_2, eqV_self]
              and_intros <;> first | rfl | (simp; done) | omega | (simp_all; done) | (simp_all; omega)
            · skip
              try simp only [bls] at hc18
              conv => whnf
              refine .ct ?_
              conv => whnf
              refine CallG.mk (and_X _ _) rfl ?_
              conv => whnf
              refine .ct ?_
              conv => whnf
              refine CallG.mk (not_X _) rfl ?_
              conv => whnf
              refine .ct ?_
              conv => whnf
              refine CallG.mk (not_X _) rfl ?_
              conv => whnf
              refine .ct ?_
              conv => whnf
              refine CallG.mk (not_X _) rfl ?_
              conv => whnf
              refine .ct ?_
              conv => whnf
              refine CallG.mk (or3_X _ _) rfl ?_
              conv => whnf
              rw [show (decide (notN (andN t u) = orT (notN t) (notN u))) = true from decide_eq_true (by omega)]
              conv => whnf
              refine .ct ?_
              conv => whnf
              refine CallG.mk (or3_X _ _) rfl ?_
              conv => whnf
              refine .ct ?_
              conv => whnf
              refine CallG.mk (not_X _) rfl ?_
              conv => whnf
              refine .ct ?_
              conv => whnf
              refine CallG.mk (not_X _) rfl ?_
              conv => whnf
              refine .ct ?_
              conv => whnf
              refine CallG.mk (not_X _) rfl ?_
              conv => whnf
              refine .ct ?_
              conv => whnf
              refine CallG.mk (and_X _ _) rfl ?_
              conv => whnf
              refine FinG.mk none ?_ (by rintro _ ⟨⟩)
              simp only [outs, List.length_map, List.length_append, List.length_take, List.length_drop, List.length_cons, List.length_nil, fr_by1, dm_1, dm_2, eqV_self]
              simp; done
        · skip
          try simp only [bls] at hc16
          conv => whnf
          refine .ct ?_
          conv => whnf
          refine CallG.mk (and_X _ _) rfl ?_
          conv => whnf
          refine .ct ?_
          conv => whnf
          refine CallG.mk (not_X _) rfl ?_
          conv => whnf
          refine .ct ?_
          conv => whnf
          refine CallG.mk (not_X _) rfl ?_
          conv => whnf
          refine .ct ?_
          conv => whnf
          refine CallG.mk (not_X _) rfl ?_
          conv => whnf
          refine .ct ?_
          conv => whnf
          refine CallG.mk (or3_X _ _) rfl ?_
          conv => whnf
          rw [show (decide (notN (andN t u) = orT (notN t) (notN u))) = true from by simp [List.length_map, List.length_append, List.length_take, List.length_drop, List.length_cons, List.length_nil, fr_by1, dm_1, dm_2, eqV_self]; done]
          conv => whnf
          refine .ct ?_
          conv => whnf
          refine CallG.mk (or3_X _ _) rfl ?_
          conv => whnf
          refine .ct ?_
          conv => whnf
          refine CallG.mk (not_X _) rfl ?_
          conv => whnf
          refine .ct ?_
          conv => whnf
          refine CallG.mk (not_X _) rfl ?_
          conv => whnf
          refine .ct ?_
          conv => whnf
          refine CallG.mk (not_X _) rfl ?_
          conv => whnf
          refine .ct ?_
          conv => whnf
          refine CallG.mk (and_X _ _) rfl ?_
          conv => whnf
          refine FinG.mk none ?_ (by rintro _ ⟨⟩)
          simp only [outs, List.length_map, List.length_append, List.length_take, List.length_drop, List.length_cons, List.length_nil, fr_by1, dm_1, dm_2, eqV_self]
          simp; done
    · skip
      try simp only [bls] at hc12
      conv => whnf
      refine .ct ?_
      conv => whnf
      refine CallG.mk (reckE_X (div_mul ha hb (by assumption)) (rec_in ha hb) hb) rfl ?_
      conv => whnf
      refine .ct ?_
      conv => whnf
      refine CallG.mk (reckE_X (div_add ha hb (by assumption)) (div_in ha) (rec_in ha hb)) rfl ?_
      conv => whnf
      cases hc19 : (decide ((recN 5 (vi a) (vi b)).snd = 0))
      · skip
        try simp only [bls] at hc19
        conv => whnf
        refine FinG.mk none ?_ (by rintro _ ⟨⟩)
        simp only [outs, List.length_map, List.length_append, List.length_take, List.length_drop, List.length_cons, List.length_nil, fr_by1, dm_1, dm_2, eqV_self]
        and_intros <;> first | rfl | (simp; done) | omega | (simp_all; done) | (simp_all; omega)
      · skip
        try simp only [bls] at hc19
        conv => whnf
        refine BinG.mk rfl rfl (neVal_run _ _ _ _ _ _ _ _) ?_
        conv => whnf
        refine bF (by simp [List.length_map, List.length_append, List.length_take, List.length_drop, List.length_cons, List.length_nil, fr_by1, dm_1, dm_2, eqV_self]; done) ?_
        conv => whnf
        refine bF (by simp [List.length_map, List.length_append, List.length_take, List.length_drop, List.length_cons, List.length_nil, fr_by1, dm_1, dm_2, eqV_self]; done) ?_
        conv => whnf
        refine bF (by simp [List.length_map, List.length_append, List.length_take, List.length_drop, List.length_cons, List.length_nil, fr_by1, dm_1, dm_2, eqV_self]; done) ?_
        conv => whnf
        refine bF (by simp [List.length_map, List.length_append, List.length_take, List.length_drop, List.length_cons, List.length_nil, fr_by1, dm_1, dm_2, eqV_self]; done) ?_
        conv => whnf
        cases hc20 : (decide ((recN 5 (vi a) (vi b)).fst.n < 0))
        · skip
          try simp only [bls] at hc20
          conv => whnf
          refine bF (by simp [List.length_map, List.length_append, List.length_take, List.length_drop, List.length_cons, List.length_nil, fr_by1, dm_1, dm_2, eqV_self]; done) ?_
          conv => whnf
          refine bF (by simp [List.length_map, List.length_append, List.length_take, List.length_drop, List.length_cons, List.length_nil, fr_by1, dm_1, dm_2, eqV_self]; done) ?_
          conv => whnf
          cases hc21 : (decide (0 < (recN 5 (vi a) (vi b)).fst.n))
          · skip
            try simp only [bls] at hc21
            conv => whnf
            refine .ct ?_
            conv => whnf
            refine CallG.mk (and_X _ _) rfl ?_
            conv => whnf
            refine .ct ?_
            conv => whnf
            refine CallG.mk (not_X _) rfl ?_
            conv => whnf
            refine .ct ?_
            conv => whnf
            refine CallG.mk (not_X _) rfl ?_
            conv => whnf
            refine .ct ?_
            conv => whnf
            refine CallG.mk (not_X _) rfl ?_
            conv => whnf
            refine .ct ?_
            conv => whnf
            refine CallG.mk (or3_X _ _) rfl ?_
            conv => whnf
            rw [show (decide (notN (andN t u) = orT (notN t) (notN u))) = true from by simp [List.length_map, List.length_append, List.length_take, List.length_drop, List.length_cons, List.length_nil, fr_by1, dm_1, dm_2, eqV_self]; done]
            conv => whnf
            refine .ct ?_
            conv => whnf
            refine CallG.mk (or3_X _ _) rfl ?_
            conv => whnf
            refine .ct ?_
            conv => whnf
            refine CallG.mk (not_X _) rfl ?_
            conv => whnf
            refine .ct ?_
            conv => whnf
            refine CallG.mk (not_X _) rfl ?_
            conv => whnf
            refine .ct ?_
            conv => whnf
            refine CallG.mk (not_X _) rfl ?_
            conv => whnf
            refine .ct ?_
            conv => whnf
            refine CallG.mk (and_X _ _) rfl ?_
            conv => whnf
            refine FinG.mk none ?_ (by rintro _ ⟨⟩)
            simp only [outs, List.length_map, List.length_append, List.length_take, List.length_drop, List.length_cons, List.length_nil, fr_by1, dm_1, dm_2, eqV_self]
            simp; done
          · skip
            try simp only [bls] at hc21
            conv => whnf
            rw [show (decide (a ≤ 0)) = false from decide_eq_false (by omega)]
            conv => whnf
            refine .ct ?_
            conv => whnf
            refine CallG.mk (and_X _ _) rfl ?_
            conv => whnf
            refine .ct ?_
            conv => whnf
            refine CallG.mk (not_X _) rfl ?_
            conv => whnf
            refine .ct ?_
            conv => whnf
            refine CallG.mk (not_X _) rfl ?_
            conv => whnf
            refine .ct ?_
            conv => whnf
            refine CallG.mk (not_X _) rfl ?_
            conv => whnf
            refine .ct ?_
            conv => whnf
            refine CallG.mk (or3_X _ _) rfl ?_
            conv => whnf
            rw [show (decide (notN (andN t u) = orT (notN t) (notN u))) = true from by simp [List.length_map, List.length_append, List.length_take, List.length_drop, List.length_cons, List.length_nil, fr_by1, dm_1, dm_2, eqV_self]; done]
            conv => whnf
            refine .ct ?_
            conv => whnf
            refine CallG.mk (or3_X _ _) rfl ?_
            conv => whnf
            refine .ct ?_
            conv => whnf
            refine CallG.mk (not_X _) rfl ?_
            conv => whnf
            refine .ct ?_
            conv => whnf
            refine CallG.mk (not_X _) rfl ?_
            conv => whnf
            refine .ct ?_
            conv => whnf
            refine CallG.mk (not_X _) rfl ?_
            conv => whnf
            refine .ct ?_
            conv => whnf
            refine CallG.mk (and_X _ _) rfl ?_
            conv => whnf
            refine FinG.mk none ?_ (by rintro _ ⟨⟩)
            simp only [outs, List.length_map, List.length_append, List.length_take, List.length_drop, List.length_cons, List.length_nil, fr_by1, dm_1, dm_2, eqV_self]
            simp; done
        · skip
          try simp only [bls] at hc20
          conv => whnf
          refine bF (by simp [List.length_map, List.length_append, List.length_take, List.length_drop, List.length_cons, List.length_nil, fr_by1, dm_1, dm_2, eqV_self]; done) ?_
          conv => whnf
          refine bF (by simp [List.length_map, List.length_append, List.length_take, List.length_drop, List.length_cons, List.length_nil, fr_by1, dm_1, dm_2, eqV_self]; done) ?_
          conv => whnf
          rw [show (decide (0 ≤ a)) = false from decide_eq_false (by omega)]
          conv => whnf
          rw [show (decide (0 < (recN 5 (vi a) (vi b)).fst.n)) = false from decide_eq_false (by omega)]
          conv => whnf
          refine .ct ?_
          conv => whnf
          refine CallG.mk (and_X _ _) rfl ?_
          conv => whnf
          refine .ct ?_
          conv => whnf
          refine CallG.mk (not_X _) rfl ?_
          conv => whnf
          refine .ct ?_
          conv => whnf
          refine CallG.mk (not_X _) rfl ?_
          conv => whnf
          refine .ct ?_
          conv => whnf
          refine CallG.mk (not_X _) rfl ?_
          conv => whnf
          refine .ct ?_
          conv => whnf
          refine CallG.mk (or3_X _ _) rfl ?_
          conv => whnf
          rw [show (decide (notN (andN t u) = orT (notN t) (notN u))) = true from by simp [List.length_map, List.length_append, List.length_take, List.length_drop, List.length_cons, List.length_nil, fr_by1, dm_1, dm_2, eqV_self]; done]
          conv => whnf
          refine .ct ?_
          conv => whnf
          refine CallG.mk (or3_X _ _) rfl ?_
          conv => whnf
          refine .ct ?_
          conv => whnf
          refine CallG.mk (not_X _) rfl ?_
          conv => whnf
          refine .ct ?_
          conv => whnf
          refine CallG.mk (not_X _) rfl ?_
          conv => whnf
          refine .ct ?_
          conv => whnf
          refine CallG.mk (not_X _) rfl ?_
          conv => whnf
          refine .ct ?_
          conv => whnf
          refine CallG.mk (and_X _ _) rfl ?_
          conv => whnf
          refine FinG.mk none ?_ (by rintro _ ⟨⟩)
          simp only [outs, List.length_map, List.length_append, List.length_take, List.length_drop, List.length_cons, List.length_nil, fr_by1, dm_1, dm_2, eqV_self]
          simp; done
end Go.Proofs.YtdcemcobldpcnaaDoor
