/- Values: the document's reckoning; ValueReckons. No condition. -/
import Derived.Test.YtdcemcobldpcnaaDoorV1
namespace Go.Proofs.YtdcemcobldpcnaaDoor
open Go.RowKit
set_option linter.unusedVariables false
set_option linter.unusedSimpArgs false
set_option maxRecDepth 20000
def sgnO (p : Int) (minus : Bool) : Bool := if minus then decide (p ≤ 9223372036854775808) else decide (p < 9223372036854775808)
def sgnV (p : Int) (minus : Bool) : Int := if sgnO p minus then (if minus then -p else p) else 0
def hiN (a b : Int) (k : Nat) : Int := a * (b / 2 ^ k) / 18446744073709551616
def loN (a b : Int) (k : Nat) : Int := a * (b / 2 ^ k) % 18446744073709551616
theorem b_64 {b : Int} (hb : 0 ≤ b ∧ b ≤ 9223372036854775808) : b / 2 ^ 64 = 0 := by
  have : (2 : Int) ^ 64 = 18446744073709551616 := by decide
  rw [this]; omega
abbrev bitT (b i : Int) : Int := IntKind.u64.wrap ((BitVec.ofInt IntKind.u64.bits (b.fdiv (2 ^ min i.toNat IntKind.u64.bits)) &&& BitVec.ofInt IntKind.u64.bits 1).toNat : Int)
theorem bit_of {b i : Int} {m : Nat} (hb : 0 ≤ b ∧ b ≤ 9223372036854775808) (hi : i = m) (hm : m < 64) : bitT b i = b / 2 ^ m % 2 := by
  have h1 : min i.toNat IntKind.u64.bits = m := by rw [show IntKind.u64.bits = 64 from rfl]; omega
  have h2 : b.fdiv (2 ^ m) = b / 2 ^ m := Int.fdiv_eq_ediv_of_nonneg _ (Int.le_of_lt (Int.pow_pos (by decide)))
  have h3 : 0 ≤ b / 2 ^ m := Int.ediv_nonneg hb.1 (Int.le_of_lt (Int.pow_pos (by decide)))
  have h4 : b / 2 ^ m ≤ b := Int.ediv_le_self _ hb.1
  unfold bitT
  rw [h1, h2]
  generalize b / 2 ^ m = x at *
  show IntKind.u64.wrap ((BitVec.ofInt 64 x &&& BitVec.ofInt 64 1).toNat : Int) = _
  rw [BitVec.toNat_and, BitVec.toNat_ofInt, BitVec.toNat_ofInt, wr_u64]
  have e1 : (x % ((2 ^ 64 : Nat) : Int)).toNat = x.toNat := by omega
  have e2 : ((1 : Int) % ((2 ^ 64 : Nat) : Int)).toNat = 1 := by decide
  rw [e1, e2, Nat.and_one_is_mod]
  omega
theorem orH {h l : Int} (h0 : 0 ≤ h ∧ h < 9223372036854775808) (l0 : 0 ≤ l ∧ l < 18446744073709551616) : IntKind.u64.wrap ((BitVec.ofInt IntKind.u64.bits (IntKind.u64.wrap (h * 2 ^ min (Int.toNat 1) IntKind.u64.bits)) ||| BitVec.ofInt IntKind.u64.bits (l.fdiv (2 ^ min (Int.toNat 63) IntKind.u64.bits))).toNat : Int) = 2 * h + l / 9223372036854775808 := by
  have h2 : l.fdiv 9223372036854775808 = l / 9223372036854775808 := Int.fdiv_eq_ediv_of_nonneg _ (by decide)
  show IntKind.u64.wrap ((BitVec.ofInt 64 (IntKind.u64.wrap (h * 2)) ||| BitVec.ofInt 64 (l.fdiv 9223372036854775808)).toNat : Int) = _
  rw [h2]
  simp only [wr_u64]
  rw [BitVec.toNat_or, BitVec.toNat_ofInt, BitVec.toNat_ofInt]
  have e1 : (h * 2 % 18446744073709551616 % ((2 ^ 64 : Nat) : Int)).toNat = 2 ^ 1 * h.toNat := by omega
  have e2 : (l / 9223372036854775808 % ((2 ^ 64 : Nat) : Int)).toNat = (l / 9223372036854775808).toNat := by omega
  rw [e1, e2, ← Nat.two_pow_add_eq_or_of_lt (show (l / 9223372036854775808).toNat < 2 ^ 1 by omega)]
  omega
/-- One bit more. -/
theorem bit_step {a b : Int} (m : Nat) (ha : 0 ≤ a ∧ a ≤ 9223372036854775808) (hb : 0 ≤ b ∧ b ≤ 9223372036854775808) : ∃ P : Int, 0 ≤ P ∧ P < 85070591730234615865843651857942052864 ∧ hiN a b (m + 1) = P / 18446744073709551616 ∧ loN a b (m + 1) = P % 18446744073709551616 ∧
    (b / 2 ^ m % 2 = 0 → hiN a b m = 2 * P / 18446744073709551616 ∧ loN a b m = 2 * P % 18446744073709551616) ∧ (b / 2 ^ m % 2 = 1 → hiN a b m = (2 * P + a) / 18446744073709551616 ∧ loN a b m = (2 * P + a) % 18446744073709551616) := by
  have h3 : 0 ≤ b / 2 ^ m := Int.ediv_nonneg hb.1 (Int.le_of_lt (Int.pow_pos (by decide)))
  have h4 : b / 2 ^ m ≤ b := Int.ediv_le_self _ hb.1
  have h5 : b / 2 ^ (m + 1) = b / 2 ^ m / 2 := by rw [Int.pow_succ, Int.ediv_ediv_of_nonneg (Int.le_of_lt (Int.pow_pos (by decide)))]
  unfold hiN loN
  rw [h5]
  generalize b / 2 ^ m = x at *
  have h6 : a * x = 2 * (a * (x / 2)) + a * (x % 2) := by
    conv => lhs; rw [show x = 2 * (x / 2) + x % 2 by omega]
    rw [Int.mul_add, Int.mul_left_comm]
  have h7 : a * (x / 2) ≤ 9223372036854775808 * 4611686018427387904 := Int.mul_le_mul ha.2 (by omega) (by omega) (by decide)
  refine ⟨a * (x / 2), Int.mul_nonneg ha.1 (by omega), by omega, rfl, rfl, fun h => ?_, fun h => ?_⟩
  · rw [h6, h, Int.mul_zero, Int.add_zero]; exact ⟨rfl, rfl⟩
  · rw [h6, h, Int.mul_one]; exact ⟨rfl, rfl⟩
theorem w_hi0 {a b i : Int} {m : Nat} (ha : 0 ≤ a ∧ a ≤ 9223372036854775808) (hb : 0 ≤ b ∧ b ≤ 9223372036854775808) (hi : i = m) (hm : m < 64) (h : ¬ bitT b i = 1) : IntKind.u64.wrap ((BitVec.ofInt IntKind.u64.bits (IntKind.u64.wrap (hiN a b (m + 1) * 2 ^ min (Int.toNat 1) IntKind.u64.bits)) ||| BitVec.ofInt IntKind.u64.bits ((loN a b (m + 1)).fdiv (2 ^ min (Int.toNat 63) IntKind.u64.bits))).toNat : Int) = hiN a b m := by
  obtain ⟨P, p1, p2, p3, p4, p5, p6⟩ := bit_step m ha hb
  rw [bit_of hb hi hm] at h
  rw [orH (by rw [p3]; omega) (by rw [p4]; omega), (p5 (by omega)).1, p3, p4]
  omega
theorem w_lo0 {a b i : Int} {m : Nat} (ha : 0 ≤ a ∧ a ≤ 9223372036854775808) (hb : 0 ≤ b ∧ b ≤ 9223372036854775808) (hi : i = m) (hm : m < 64) (h : ¬ bitT b i = 1) : IntKind.u64.wrap (loN a b (m + 1) * 2 ^ min (Int.toNat 1) IntKind.u64.bits) = loN a b m := by
  obtain ⟨P, p1, p2, p3, p4, p5, p6⟩ := bit_step m ha hb
  rw [bit_of hb hi hm] at h
  show IntKind.u64.wrap (loN a b (m + 1) * 2) = _
  rw [wr_u64, (p5 (by omega)).2, p4]
  omega
theorem w_lo1 {a b i : Int} {m : Nat} (ha : 0 ≤ a ∧ a ≤ 9223372036854775808) (hb : 0 ≤ b ∧ b ≤ 9223372036854775808) (hi : i = m) (hm : m < 64) (h : bitT b i = 1) : IntKind.u64.wrap (IntKind.u64.wrap (loN a b (m + 1) * 2 ^ min (Int.toNat 1) IntKind.u64.bits) + a) = loN a b m := by
  obtain ⟨P, p1, p2, p3, p4, p5, p6⟩ := bit_step m ha hb
  rw [bit_of hb hi hm] at h
  show IntKind.u64.wrap (IntKind.u64.wrap (loN a b (m + 1) * 2) + a) = _
  rw [wr_u64, wr_u64, (p6 h).2, p4]
  omega
theorem w_hi1 {a b i : Int} {m : Nat} (ha : 0 ≤ a ∧ a ≤ 9223372036854775808) (hb : 0 ≤ b ∧ b ≤ 9223372036854775808) (hi : i = m) (hm : m < 64) (h : bitT b i = 1) (hc : IntKind.u64.wrap (IntKind.u64.wrap (loN a b (m + 1) * 2 ^ min (Int.toNat 1) IntKind.u64.bits) + a) < IntKind.u64.wrap (loN a b (m + 1) * 2 ^ min (Int.toNat 1) IntKind.u64.bits)) :
    IntKind.u64.wrap (IntKind.u64.wrap ((BitVec.ofInt IntKind.u64.bits (IntKind.u64.wrap (hiN a b (m + 1) * 2 ^ min (Int.toNat 1) IntKind.u64.bits)) ||| BitVec.ofInt IntKind.u64.bits ((loN a b (m + 1)).fdiv (2 ^ min (Int.toNat 63) IntKind.u64.bits))).toNat : Int) + 1) = hiN a b m := by
  obtain ⟨P, p1, p2, p3, p4, p5, p6⟩ := bit_step m ha hb
  rw [bit_of hb hi hm] at h
  rw [orH (by rw [p3]; omega) (by rw [p4]; omega), (p6 h).1, p3, p4, wr_u64]
  have hc : IntKind.u64.wrap (IntKind.u64.wrap (loN a b (m + 1) * 2) + a) < IntKind.u64.wrap (loN a b (m + 1) * 2) := hc
  rw [wr_u64, wr_u64, p4] at hc
  omega
theorem w_hi2 {a b i : Int} {m : Nat} (ha : 0 ≤ a ∧ a ≤ 9223372036854775808) (hb : 0 ≤ b ∧ b ≤ 9223372036854775808) (hi : i = m) (hm : m < 64) (h : bitT b i = 1) (hc : IntKind.u64.wrap (loN a b (m + 1) * 2 ^ min (Int.toNat 1) IntKind.u64.bits) ≤ IntKind.u64.wrap (IntKind.u64.wrap (loN a b (m + 1) * 2 ^ min (Int.toNat 1) IntKind.u64.bits) + a)) :
    IntKind.u64.wrap ((BitVec.ofInt IntKind.u64.bits (IntKind.u64.wrap (hiN a b (m + 1) * 2 ^ min (Int.toNat 1) IntKind.u64.bits)) ||| BitVec.ofInt IntKind.u64.bits ((loN a b (m + 1)).fdiv (2 ^ min (Int.toNat 63) IntKind.u64.bits))).toNat : Int) = hiN a b m := by
  obtain ⟨P, p1, p2, p3, p4, p5, p6⟩ := bit_step m ha hb
  rw [bit_of hb hi hm] at h
  rw [orH (by rw [p3]; omega) (by rw [p4]; omega), (p6 h).1, p3, p4]
  have hc : IntKind.u64.wrap (loN a b (m + 1) * 2) ≤ IntKind.u64.wrap (IntKind.u64.wrap (loN a b (m + 1) * 2) + a) := hc
  rw [wr_u64, wr_u64, p4] at hc
  omega
theorem hi_64 {a b : Int} (hb : 0 ≤ b ∧ b ≤ 9223372036854775808) : hiN a b 64 = 0 := by rw [hiN, b_64 hb]; simp
theorem lo_64 {a b : Int} (hb : 0 ≤ b ∧ b ≤ 9223372036854775808) : loN a b 64 = 0 := by rw [loN, b_64 hb]; simp
set_option maxRecDepth 20000 in
theorem signed_X (h l : Int) (m : Bool) (hh : 0 ≤ h) (hl : 0 ≤ l ∧ l < 18446744073709551616) : XMeets Tryd.prog 43 [.v (.int .u64 h), .v (.int .u64 l), .v (.bool m)] (.tu [.p (.v (.int .i64 (sgnV (h * 18446744073709551616 + l) m))) (nlv _), .p (.v (.bool (sgnO (h * 18446744073709551616 + l) m))) (nlv _)]) := by
  refine XMeets.of_X tabX_ok (avs := [.p (.v (.int .u64 h)) (nlv _), .p (.v (.int .u64 l)) (nlv _), .p (.v (.bool m)) (nlv _)]) [(0, .p (.v (.int .u64 h)) (nlv _)), (1, .p (.v (.int .u64 l)) (nlv _)), (2, .p (.v (.bool m)) (nlv _))] (by kernel_rfl) Tryd.func43 rfl (by simp [PuL, Pu]) (rfl) rfl rfl ?_
  intro B w0
  conv => whnf
  cases hc1 : (decide (0 < h))
  · skip
    try simp only [bls] at hc1
    conv => whnf
    cases hc2 : (m)
    · skip
      try simp only [bls] at hc2
      conv => whnf
      cases hc3 : (decide (9223372036854775808 ≤ l))
      · skip
        try simp only [bls] at hc3
        conv => whnf
        refine FinG.mk none ?_ (by rintro _ ⟨⟩)
        simp only [outs, List.length_map, List.length_append, List.length_take, List.length_drop, List.length_cons, List.length_nil, fr_by1]
        simp only [wrs] at *
        cases m <;> simp_all [sgnV, sgnO, wrs] <;> omega
      · skip
        try simp only [bls] at hc3
        conv => whnf
        refine FinG.mk none ?_ (by rintro _ ⟨⟩)
        simp only [outs, List.length_map, List.length_append, List.length_take, List.length_drop, List.length_cons, List.length_nil, fr_by1]
        cases m <;> simp_all [sgnV, sgnO] <;> omega
    · skip
      try simp only [bls] at hc2
      conv => whnf
      cases hc4 : (decide (9223372036854775808 < l))
      · skip
        try simp only [bls] at hc4
        conv => whnf
        refine FinG.mk none ?_ (by rintro _ ⟨⟩)
        simp only [outs, List.length_map, List.length_append, List.length_take, List.length_drop, List.length_cons, List.length_nil, fr_by1]
        simp only [wrs] at *
        cases m <;> simp_all [sgnV, sgnO, wrs] <;> omega
      · skip
        try simp only [bls] at hc4
        conv => whnf
        refine FinG.mk none ?_ (by rintro _ ⟨⟩)
        simp only [outs, List.length_map, List.length_append, List.length_take, List.length_drop, List.length_cons, List.length_nil, fr_by1]
        cases m <;> simp_all [sgnV, sgnO] <;> omega
  · skip
    try simp only [bls] at hc1
    conv => whnf
    refine FinG.mk none ?_ (by rintro _ ⟨⟩)
    simp only [outs, List.length_map, List.length_append, List.length_take, List.length_drop, List.length_cons, List.length_nil, fr_by1]
    cases m <;> simp_all [sgnV, sgnO] <;> omega
set_option maxRecDepth 20000 in
theorem wide_X (a b : Int) (ha : 0 ≤ a ∧ a ≤ 9223372036854775808) (hb : 0 ≤ b ∧ b ≤ 9223372036854775808) : XMeets Tryd.prog 44 [.v (.int .u64 a), .v (.int .u64 b)] (.tu [.p (.v (.int .u64 (hiN a b 0))) (nlv _), .p (.v (.int .u64 (loN a b 0))) (nlv _)]) := by
  refine XMeets.of_X tabX_ok (avs := [.p (.v (.int .u64 a)) (nlv _), .p (.v (.int .u64 b)) (nlv _)]) [(0, .p (.v (.int .u64 a)) (nlv _)), (1, .p (.v (.int .u64 b)) (nlv _))] (by kernel_rfl) Tryd.func44 rfl (by simp [PuL, Pu]) (rfl) rfl rfl ?_
  intro B w0
  conv => whnf
  refine XT.loop tabX_ok (Y := Nat) [6, 7, 8, 9, 10, 11, 12, 13, 14, 15, 16, 17, 18, 19, 20, 21, 22, 23, 24, 25, 26, 27, 28, 29, 30, 31, 32, 33, 34, 35] (fun k => [(8, .p (.v (.int .i64 ((k : Int) - 1))) (nlv _)), (6, .p (.v (.int .u64 (hiN a b k))) (nlv _)), (7, .p (.v (.int .u64 (loN a b k))) (nlv _))]) (fun k => []) (fun k => k ≤ 64) (fun k => k) 64 (Nat.le_refl _) ?_ ?_
  · skip
    refine ⟨?_, ?_, ?_⟩
    · skip
      repeat ((conv => whnf); first | exact True.intro | refine ⟨.rfl, ?_⟩ | refine ⟨.any, ?_⟩ | refine ⟨.nil, ?_⟩ | refine ⟨.int (by first | rfl | omega | (simp only [wrs]; omega)), ?_⟩ | refine ⟨.int (by first | with_reducible exact (hi_64 hb).symm | with_reducible exact (lo_64 hb).symm | with_reducible exact w_hi0 ha hb (by omega) (by omega) hc1 | with_reducible exact w_lo0 ha hb (by omega) (by omega) hc1 | with_reducible exact w_lo1 ha hb (by omega) (by omega) hc1 | with_reducible exact w_hi1 ha hb (by omega) (by omega) hc1 (by assumption) | with_reducible exact w_hi2 ha hb (by omega) (by omega) hc1 (by assumption)), ?_⟩)
    · skip
      repeat (first | exact LeVs.nil | ((conv => whnf); first | exact True.intro | exact .none | exact .row rfl | refine .cells ?_ | refine ⟨_, _, rfl, .rfl, ?_⟩ | refine ⟨_, _, rfl, .any, ?_⟩ | refine ⟨_, _, rfl, .nil, ?_⟩ | refine ⟨_, _, rfl, .int (by first | rfl | omega | (simp only [wrs]; omega)), ?_⟩ | refine ⟨_, _, rfl, .int (by first | with_reducible exact (hi_64 hb).symm | with_reducible exact (lo_64 hb).symm | with_reducible exact w_hi0 ha hb (by omega) (by omega) hc1 | with_reducible exact w_lo0 ha hb (by omega) (by omega) hc1 | with_reducible exact w_lo1 ha hb (by omega) (by omega) hc1 | with_reducible exact w_hi1 ha hb (by omega) (by omega) hc1 (by assumption) | with_reducible exact w_hi2 ha hb (by omega) (by omega) hc1 (by assumption)), ?_⟩ | refine ⟨?_, ?_⟩))
    · skip
      repeat (first | exact LeFr.nil | ((conv => whnf); first | exact True.intro | refine ⟨.rfl, ?_⟩ | refine ⟨_, _, rfl, rfl, ?_, ?_⟩))
  · skip
    rintro k hk
    rcases k with _ | m
    · skip
      conv => whnf
      refine FinG.mk none ?_ (by rintro _ ⟨⟩)
      simp only [outs, List.length_map, List.length_append, List.length_take, List.length_drop, List.length_cons, List.length_nil, fr_by1]
    · skip
      conv => whnf
      rw [show (decide (0 ≤ (↑(m + 1) : Int) - 1)) = true from decide_eq_true (by omega)]
      conv => whnf
      rw [show (decide (0 ≤ IntKind.u64.wrap ((↑(m + 1) : Int) - 1))) = true from by simp only [wrs, decide_eq_true_eq, List.length_map, List.length_append, List.length_take, List.length_drop, List.length_cons, List.length_nil, fr_by1]; omega]
      conv => whnf
      cases hc1 : (decide (IntKind.u64.wrap (↑(BitVec.ofInt IntKind.u64.bits (b.fdiv (2 ^ min (IntKind.u64.wrap ((↑(m + 1) : Int) - 1)).toNat IntKind.u64.bits)) &&& BitVec.ofInt IntKind.u64.bits 1).toNat : Int) = 1))
      · skip
        try simp only [bls] at hc1
        try simp (disch := omega) only [wz, Int.reduceAdd, Int.reduceSub, Int.reduceMul, Int.reduceNeg, Int.zero_add, Int.add_zero, Int.sub_zero, Int.sub_self] at hc1
        conv => whnf
        refine ⟨m, by omega, by omega, ?_⟩
        refine ⟨?_, ?_, ?_⟩
        · skip
          repeat ((conv => whnf); first | exact True.intro | refine ⟨.rfl, ?_⟩ | refine ⟨.any, ?_⟩ | refine ⟨.nil, ?_⟩ | refine ⟨.int (by first | rfl | omega | (simp only [wrs]; omega)), ?_⟩ | refine ⟨.int (by first | with_reducible exact (hi_64 hb).symm | with_reducible exact (lo_64 hb).symm | with_reducible exact w_hi0 ha hb (by omega) (by omega) hc1 | with_reducible exact w_lo0 ha hb (by omega) (by omega) hc1 | with_reducible exact w_lo1 ha hb (by omega) (by omega) hc1 | with_reducible exact w_hi1 ha hb (by omega) (by omega) hc1 (by assumption) | with_reducible exact w_hi2 ha hb (by omega) (by omega) hc1 (by assumption)), ?_⟩)
        · skip
          repeat (first | exact LeVs.nil | ((conv => whnf); first | exact True.intro | exact .none | exact .row rfl | refine .cells ?_ | refine ⟨_, _, rfl, .rfl, ?_⟩ | refine ⟨_, _, rfl, .any, ?_⟩ | refine ⟨_, _, rfl, .nil, ?_⟩ | refine ⟨_, _, rfl, .int (by first | rfl | omega | (simp only [wrs]; omega)), ?_⟩ | refine ⟨_, _, rfl, .int (by first | with_reducible exact (hi_64 hb).symm | with_reducible exact (lo_64 hb).symm | with_reducible exact w_hi0 ha hb (by omega) (by omega) hc1 | with_reducible exact w_lo0 ha hb (by omega) (by omega) hc1 | with_reducible exact w_lo1 ha hb (by omega) (by omega) hc1 | with_reducible exact w_hi1 ha hb (by omega) (by omega) hc1 (by assumption) | with_reducible exact w_hi2 ha hb (by omega) (by omega) hc1 (by assumption)), ?_⟩ | refine ⟨?_, ?_⟩))
        · skip
          repeat (first | exact LeFr.nil | ((conv => whnf); first | exact True.intro | refine ⟨.rfl, ?_⟩ | refine ⟨_, _, rfl, rfl, ?_, ?_⟩))
      · skip
        try simp only [bls] at hc1
        try simp (disch := omega) only [wz, Int.reduceAdd, Int.reduceSub, Int.reduceMul, Int.reduceNeg, Int.zero_add, Int.add_zero, Int.sub_zero, Int.sub_self] at hc1
        conv => whnf
        cases hc2 : (decide (IntKind.u64.wrap (IntKind.u64.wrap (loN a b (m + 1) * 2 ^ min (Int.toNat 1) IntKind.u64.bits) + a) < IntKind.u64.wrap (loN a b (m + 1) * 2 ^ min (Int.toNat 1) IntKind.u64.bits)))
        · skip
          try simp only [bls] at hc2
          try simp (disch := omega) only [wz, Int.reduceAdd, Int.reduceSub, Int.reduceMul, Int.reduceNeg, Int.zero_add, Int.add_zero, Int.sub_zero, Int.sub_self] at hc2
          conv => whnf
          refine ⟨m, by omega, by omega, ?_⟩
          refine ⟨?_, ?_, ?_⟩
          · skip
            repeat ((conv => whnf); first | exact True.intro | refine ⟨.rfl, ?_⟩ | refine ⟨.any, ?_⟩ | refine ⟨.nil, ?_⟩ | refine ⟨.int (by first | rfl | omega | (simp only [wrs]; omega)), ?_⟩ | refine ⟨.int (by first | with_reducible exact (hi_64 hb).symm | with_reducible exact (lo_64 hb).symm | with_reducible exact w_hi0 ha hb (by omega) (by omega) hc1 | with_reducible exact w_lo0 ha hb (by omega) (by omega) hc1 | with_reducible exact w_lo1 ha hb (by omega) (by omega) hc1 | with_reducible exact w_hi1 ha hb (by omega) (by omega) hc1 (by assumption) | with_reducible exact w_hi2 ha hb (by omega) (by omega) hc1 (by assumption)), ?_⟩)
          · skip
            repeat (first | exact LeVs.nil | ((conv => whnf); first | exact True.intro | exact .none | exact .row rfl | refine .cells ?_ | refine ⟨_, _, rfl, .rfl, ?_⟩ | refine ⟨_, _, rfl, .any, ?_⟩ | refine ⟨_, _, rfl, .nil, ?_⟩ | refine ⟨_, _, rfl, .int (by first | rfl | omega | (simp only [wrs]; omega)), ?_⟩ | refine ⟨_, _, rfl, .int (by first | with_reducible exact (hi_64 hb).symm | with_reducible exact (lo_64 hb).symm | with_reducible exact w_hi0 ha hb (by omega) (by omega) hc1 | with_reducible exact w_lo0 ha hb (by omega) (by omega) hc1 | with_reducible exact w_lo1 ha hb (by omega) (by omega) hc1 | with_reducible exact w_hi1 ha hb (by omega) (by omega) hc1 (by assumption) | with_reducible exact w_hi2 ha hb (by omega) (by omega) hc1 (by assumption)), ?_⟩ | refine ⟨?_, ?_⟩))
          · skip
            repeat (first | exact LeFr.nil | ((conv => whnf); first | exact True.intro | refine ⟨.rfl, ?_⟩ | refine ⟨_, _, rfl, rfl, ?_, ?_⟩))
        · skip
          try simp only [bls] at hc2
          try simp (disch := omega) only [wz, Int.reduceAdd, Int.reduceSub, Int.reduceMul, Int.reduceNeg, Int.zero_add, Int.add_zero, Int.sub_zero, Int.sub_self] at hc2
          conv => whnf
          refine ⟨m, by omega, by omega, ?_⟩
          refine ⟨?_, ?_, ?_⟩
          · skip
            repeat ((conv => whnf); first | exact True.intro | refine ⟨.rfl, ?_⟩ | refine ⟨.any, ?_⟩ | refine ⟨.nil, ?_⟩ | refine ⟨.int (by first | rfl | omega | (simp only [wrs]; omega)), ?_⟩ | refine ⟨.int (by first | with_reducible exact (hi_64 hb).symm | with_reducible exact (lo_64 hb).symm | with_reducible exact w_hi0 ha hb (by omega) (by omega) hc1 | with_reducible exact w_lo0 ha hb (by omega) (by omega) hc1 | with_reducible exact w_lo1 ha hb (by omega) (by omega) hc1 | with_reducible exact w_hi1 ha hb (by omega) (by omega) hc1 (by assumption) | with_reducible exact w_hi2 ha hb (by omega) (by omega) hc1 (by assumption)), ?_⟩)
          · skip
            repeat (first | exact LeVs.nil | ((conv => whnf); first | exact True.intro | exact .none | exact .row rfl | refine .cells ?_ | refine ⟨_, _, rfl, .rfl, ?_⟩ | refine ⟨_, _, rfl, .any, ?_⟩ | refine ⟨_, _, rfl, .nil, ?_⟩ | refine ⟨_, _, rfl, .int (by first | rfl | omega | (simp only [wrs]; omega)), ?_⟩ | refine ⟨_, _, rfl, .int (by first | with_reducible exact (hi_64 hb).symm | with_reducible exact (lo_64 hb).symm | with_reducible exact w_hi0 ha hb (by omega) (by omega) hc1 | with_reducible exact w_lo0 ha hb (by omega) (by omega) hc1 | with_reducible exact w_lo1 ha hb (by omega) (by omega) hc1 | with_reducible exact w_hi1 ha hb (by omega) (by omega) hc1 (by assumption) | with_reducible exact w_hi2 ha hb (by omega) (by omega) hc1 (by assumption)), ?_⟩ | refine ⟨?_, ?_⟩))
          · skip
            repeat (first | exact LeFr.nil | ((conv => whnf); first | exact True.intro | refine ⟨.rfl, ?_⟩ | refine ⟨_, _, rfl, rfl, ?_, ?_⟩))
def sg (p : Int) (m : Bool) : Int := if m then -p else p
theorem fit_sg {p : Int} (m : Bool) (h : 0 ≤ p) : fit (sg p m) = (sgnV p m, if sgnO p m then 0 else 151) := by
  cases m <;> simp only [sg, sgnV, sgnO, fit] <;> by_cases h1 : p < 9223372036854775808 <;> by_cases h2 : p ≤ 9223372036854775808 <;> simp [h1, h2] <;> omega
theorem signedE {h l r : Int} {m : Bool} (hh : 0 ≤ h) (hl : 0 ≤ l ∧ l < 18446744073709551616) (e : sg (h * 18446744073709551616 + l) m = r) : XMeets Tryd.prog 43 [.v (.int .u64 h), .v (.int .u64 l), .v (.bool m)] (.tu [.p (.v (.int .i64 (fit r).1)) (nlv _), .p (.v (.bool (decide ((fit r).2 = 0)))) (nlv _)]) := by
  have := signed_X h l m hh hl
  have h2 := fit_sg m (show 0 ≤ h * 18446744073709551616 + l by omega)
  rw [e] at h2
  have h3 : decide ((fit r).2 = 0) = sgnO (h * 18446744073709551616 + l) m := by rw [h2]; cases sgnO (h * 18446744073709551616 + l) m <;> rfl
  rw [h3, h2]
  exact this
theorem hilo (a b : Int) : hiN a b 0 * 18446744073709551616 + loN a b 0 = a * b := by
  unfold hiN loN
  rw [show b / 2 ^ 0 = b by simp]
  omega
def szN (n : Int) : Int := if n < 0 then -n else n
theorem szN_in {n : Int} (h : I64 n) : 0 ≤ szN n ∧ szN n ≤ 9223372036854775808 := by unfold szN; unfold I64 at h; split <;> omega
theorem sg_mul (x y : Int) : sg (szN x * szN y) (decide (x < 0) != decide (y < 0)) = x * y := by
  unfold sg szN
  by_cases h1 : x < 0 <;> by_cases h2 : y < 0 <;> simp [h1, h2, Int.neg_mul, Int.mul_neg]
theorem sg_div (x y : Int) : sg (szN x / szN y) (decide (x < 0) != decide (y < 0)) = x.tdiv y := by
  have h : ∀ u v : Int, 0 ≤ u → u / v = u.tdiv v := fun u v hu => (Int.tdiv_eq_ediv_of_nonneg hu).symm
  unfold sg szN
  by_cases h1 : x < 0 <;> by_cases h2 : y < 0 <;> simp only [h1, h2, if_true, if_false, decide_true, decide_false, bne_self_eq_false, Bool.false_eq_true] <;> rw [h _ _ (by omega)] <;> simp [Int.neg_tdiv, Int.tdiv_neg]
theorem sg_mod (x y : Int) : sg (szN x % szN y) (decide (x < 0)) = x.tmod y := by
  have h : ∀ u v : Int, 0 ≤ u → u % v = u.tmod v := fun u v hu => (Int.tmod_eq_emod_of_nonneg hu).symm
  unfold sg szN
  by_cases h1 : x < 0 <;> by_cases h2 : y < 0 <;> simp only [h1, h2, if_true, if_false, decide_true, decide_false, Bool.false_eq_true] <;> rw [h _ _ (by omega)] <;> simp [Int.neg_tmod, Int.tmod_neg]
theorem hi_nn {a b : Int} (ha : 0 ≤ a) (hb : 0 ≤ b) : 0 ≤ hiN a b 0 := by
  unfold hiN
  rw [show b / 2 ^ 0 = b by simp]
  exact Int.ediv_nonneg (Int.mul_nonneg ha hb) (by decide)
theorem lo_rg (a b : Int) : 0 ≤ loN a b 0 ∧ loN a b 0 < 18446744073709551616 := by unfold loN; omega
theorem szN_0 (n : Int) : szN n = 0 ↔ n = 0 := by unfold szN; split <;> omega
theorem qz_rg {x y : Int} (hx : I64 x) (hy : I64 y) : 0 ≤ szN x / szN y ∧ szN x / szN y < 18446744073709551616 := by
  have h1 := szN_in hx
  have h2 := szN_in hy
  exact ⟨Int.ediv_nonneg h1.1 h2.1, by have := Int.ediv_le_self (szN y) h1.1; omega⟩
theorem qz {x y : Int} (hx : I64 x) (hy : I64 y) : IntKind.u64.wrap ((szN x).tdiv (szN y)) = szN x / szN y := by
  have h3 := qz_rg hx hy
  rw [Int.tdiv_eq_ediv_of_nonneg (szN_in hx).1, wr_u64]; omega
theorem mz {x y : Int} (hx : I64 x) : (szN x).tmod (szN y) = szN x % szN y := Int.tmod_eq_emod_of_nonneg (szN_in hx).1
theorem mz_rg {x y : Int} (hx : I64 x) (h0 : ¬ y = 0) : 0 ≤ szN x % szN y ∧ szN x % szN y < 18446744073709551616 := by
  have h1 := szN_in hx
  have h2 : szN y ≠ 0 := fun h => h0 ((szN_0 y).1 h)
  have h4 : 0 ≤ szN x % szN y := Int.emod_nonneg _ h2
  have h5 : szN x % szN y ≤ szN x := by
    have h6 := Int.mul_ediv_add_emod (szN x) (szN y)
    have h7 : 0 ≤ szN y * (szN x / szN y) := Int.mul_nonneg (by unfold szN at *; split <;> omega) (Int.ediv_nonneg h1.1 (by unfold szN at *; split <;> omega))
    omega
  omega
theorem fit_no {r : Int} (h : ¬ (fit r).2 = 0) : fit r = (0, 151) := by
  by_cases h1 : I64 r
  · rw [fit_in h1] at h; exact absurd rfl h
  · exact fit_out h1
theorem rec_k {op : Int} {a b : Val} (h1 : 1 ≤ op) (h2 : op ≤ 5) (ra : rightB a = true) (rb : rightB b = true) (ka : a.k = 3) (kb : b.k = 3) : recN op a b = if (rkN op a.n b.n).2 ≠ 0 then (⟨0, 0, ⟨#[]⟩⟩, (rkN op a.n b.n).2) else (⟨3, (rkN op a.n b.n).1, ⟨#[]⟩⟩, 0) := by
  have hb : bothN op 5 a b = 0 := by unfold bothN; rw [if_neg (by omega), if_pos ⟨ra, rb⟩]
  simp [recN, hb, numB, ka, kb]
theorem rec_fit {op r : Int} {a b : Val} (hr : rkN op a.n b.n = fit r) (h1 : 1 ≤ op) (h2 : op ≤ 5) (ra : rightB a = true) (rb : rightB b = true) (ka : a.k = 3) (kb : b.k = 3) (h0 : (fit r).2 = 0) : recN op a b = (⟨3, (fit r).1, ⟨#[]⟩⟩, 0) := by
  rw [rec_k h1 h2 ra rb ka kb, hr, if_neg (by simpa using h0)]
theorem rec_fit' {op r : Int} {a b : Val} (hr : rkN op a.n b.n = fit r) (h1 : 1 ≤ op) (h2 : op ≤ 5) (ra : rightB a = true) (rb : rightB b = true) (ka : a.k = 3) (kb : b.k = 3) (h0 : ¬ (fit r).2 = 0) : recN op a b = (⟨0, 0, ⟨#[]⟩⟩, 151) := by
  rw [rec_k h1 h2 ra rb ka kb, hr, if_pos h0, fit_no h0]
theorem rec_z {op : Int} {a b : Val} (h1 : op = 4 ∨ op = 5) (ra : rightB a = true) (rb : rightB b = true) (ka : a.k = 3) (kb : b.k = 3) (h0 : b.n = 0) : recN op a b = (⟨0, 0, ⟨#[]⟩⟩, 152) := by
  have hr : rkN op a.n b.n = (0, 152) := by rcases h1 with rfl | rfl <;> simp [rkN, h0]
  rw [rec_k (by omega) (by omega) ra rb ka kb, hr]; simp
theorem rk_1 {x y : Int} : rkN 1 x y = fit (x + y) := rfl
theorem rk_2 {x y : Int} : rkN 2 x y = fit (x - y) := rfl
theorem rk_3 {x y : Int} : rkN 3 x y = fit (x * y) := rfl
theorem rk_4 {x y : Int} (h : ¬ y = 0) : rkN 4 x y = fit (x.tdiv y) := by simp [rkN, h]
theorem rk_5 {x y : Int} (hx : I64 x) (h : ¬ y = 0) : rkN 5 x y = fit (x.tmod y) := by
  have h2 : I64 (x.tmod y) := by
    have h3 := Int.natAbs_tmod x y
    have h4 : x.natAbs % y.natAbs ≤ x.natAbs := Nat.mod_le _ _
    rcases Int.lt_or_le x 0 with h5 | h5
    · have := Int.tmod_nonneg y (show 0 ≤ -x by omega)
      rw [Int.neg_tmod] at this
      unfold I64 at *; omega
    · have := Int.tmod_nonneg y h5
      unfold I64 at *; omega
  rw [fit_in h2]; simp [rkN, h]
set_option maxRecDepth 20000 in
theorem reckon5_X (op : Int) (a b : Val) (ha : I64 a.n) (hb : I64 b.n) : XMeets Tryd.prog 16 [.v (.int .i64 op), valT a, valT b] (.tu [valX (recN op a b).1, .p (.v (.int .i64 (recN op a b).2)) (nlv _)]) := by
  refine XMeets.of_X tabX_ok (avs := [.p (.v (.int .i64 op)) (nlv _), valX a, valX b]) [(0, .p (.v (.int .i64 op)) (nlv _)), (1, valX a), (2, valX b)] (by kernel_rfl) Tryd.func16 rfl (by simp [PuL, Pu, valT]) (rfl) rfl rfl ?_
  intro B w0
  have hz := szN_0 b.n
  rcases (show (op < 1 ∨ 5 < op) ∨ op = 1 ∨ op = 2 ∨ op = 3 ∨ op = 4 ∨ op = 5 by omega) with ho | rfl | rfl | rfl | rfl | rfl
  · skip
    conv => whnf
    cases hc1 : (decide (op < 1))
    · skip
      try simp only [bls] at hc1
      conv => whnf
      rw [show (decide (5 < op)) = true from decide_eq_true (by omega)]
      conv => whnf
      refine FinG.mk none ?_ (by rintro _ ⟨⟩)
      simp only [outs, List.length_map, List.length_append, List.length_take, List.length_drop, List.length_cons, List.length_nil, fr_by1, valX]
      simp [recN, valX, outs, bothN, *]; done
    · skip
      try simp only [bls] at hc1
      conv => whnf
      refine FinG.mk none ?_ (by rintro _ ⟨⟩)
      simp only [outs, List.length_map, List.length_append, List.length_take, List.length_drop, List.length_cons, List.length_nil, fr_by1, valX]
      simp [recN, valX, outs, bothN, *]; done
  · skip
    conv => whnf
    refine .ct ?_
    conv => whnf
    refine CallG.mk (right_X _) rfl ?_
    conv => whnf
    cases hc2 : (rightB a)
    · skip
      try simp only [bls] at hc2
      conv => whnf
      refine FinG.mk none ?_ (by rintro _ ⟨⟩)
      simp only [outs, List.length_map, List.length_append, List.length_take, List.length_drop, List.length_cons, List.length_nil, fr_by1, valX]
      simp [recN, valX, outs, bothN, *]; done
    · skip
      try simp only [bls] at hc2
      conv => whnf
      refine .ct ?_
      conv => whnf
      refine CallG.mk (right_X _) rfl ?_
      conv => whnf
      cases hc3 : (rightB b)
      · skip
        try simp only [bls] at hc3
        conv => whnf
        refine FinG.mk none ?_ (by rintro _ ⟨⟩)
        simp only [outs, List.length_map, List.length_append, List.length_take, List.length_drop, List.length_cons, List.length_nil, fr_by1, valX]
        simp [recN, valX, outs, bothN, *]; done
      · skip
        try simp only [bls] at hc3
        conv => whnf
        cases hc4 : (decide (a.k = 1))
        · skip
          try simp only [bls] at hc4
          conv => whnf
          cases hc5 : (decide (a.k = 3))
          · skip
            try simp only [bls] at hc5
            conv => whnf
            refine FinG.mk none ?_ (by rintro _ ⟨⟩)
            simp only [outs, List.length_map, List.length_append, List.length_take, List.length_drop, List.length_cons, List.length_nil, fr_by1, valX]
            simp_all [recN, valX, outs, bothN, numB]; done
          · skip
            try simp only [bls] at hc5
            conv => whnf
            cases hc6 : (decide (b.k = 1))
            · skip
              try simp only [bls] at hc6
              conv => whnf
              cases hc7 : (decide (b.k = 3))
              · skip
                try simp only [bls] at hc7
                conv => whnf
                refine FinG.mk none ?_ (by rintro _ ⟨⟩)
                simp only [outs, List.length_map, List.length_append, List.length_take, List.length_drop, List.length_cons, List.length_nil, fr_by1, valX]
                simp_all [recN, valX, outs, bothN, numB]; done
              · skip
                try simp only [bls] at hc7
                conv => whnf
                rw [show (decide (a.k = 1)) = false from decide_eq_false (by omega)]
                conv => whnf
                rw [show (decide (b.k = 1)) = false from decide_eq_false (by omega)]
                conv => whnf
                refine RegG.par 6 (by kernel_rfl) ?_
                conv => whnf
                refine bS (fun hc8 => ?_) (fun hc8 => ?_)
                · skip
                  try simp only [bls] at hc8
                  conv => whnf
                  refine .ct ?_
                  conv => whnf
                  refine CallG.mk ((show XMeets _ _ [.v (.int .i64 _)] (.p (.v (.int .u64 (szN _))) (nlv _)) from size_X _ (by assumption))) rfl ?_
                  conv => whnf
                  refine .ct ?_
                  conv => whnf
                  refine CallG.mk ((show XMeets _ _ [.v (.int .i64 _)] (.p (.v (.int .u64 (szN _))) (nlv _)) from size_X _ (by assumption))) rfl ?_
                  conv => whnf
                  refine .ct ?_
                  conv => whnf
                  refine CallG.mk ((show XMeets _ _ [.v (.int .i64 _)] (.p (.v (.int .u64 (szN _))) (nlv _)) from size_X _ (by assumption))) rfl ?_
                  conv => whnf
                  cases hc9 : (decide (IntKind.u64.wrap (szN a.n + szN b.n) < szN a.n))
                  · skip
                    try simp only [bls] at hc9
                    try simp (disch := omega) only [wz, Int.reduceAdd, Int.reduceSub, Int.reduceMul, Int.reduceNeg, Int.zero_add, Int.add_zero, Int.sub_zero, Int.sub_self] at hc9
                    conv => whnf
                    refine .ct ?_
                    conv => whnf
                    refine CallG.mk (signedE (r := a.n + b.n) (by omega) (by have := szN_in ha; have := szN_in hb; simp only [wr_u64] at *; omega) (by by_cases h1 : a.n < 0 <;> by_cases h2 : b.n < 0 <;> simp_all [sg, szN, wr_u64, I64] <;> omega)) rfl ?_
                    conv => whnf
                    cases hc10 : (decide ((fit (a.n + b.n)).snd = 0))
                    · skip
                      try simp only [bls] at hc10
                      conv => whnf
                      refine FinG.mk none ?_ (by rintro _ ⟨⟩)
                      simp only [outs, List.length_map, List.length_append, List.length_take, List.length_drop, List.length_cons, List.length_nil, fr_by1, valX]
                      rw [rec_fit' rk_1 (by decide) (by decide) (by assumption) (by assumption) (by assumption) (by assumption) (by assumption)]; exact ⟨⟨rfl, rfl, rfl⟩, rfl⟩
                    · skip
                      try simp only [bls] at hc10
                      conv => whnf
                      refine FinG.mk none ?_ (by rintro _ ⟨⟩)
                      simp only [outs, List.length_map, List.length_append, List.length_take, List.length_drop, List.length_cons, List.length_nil, fr_by1, valX]
                      rw [rec_fit rk_1 (by decide) (by decide) (by assumption) (by assumption) (by assumption) (by assumption) (by assumption)]; exact ⟨⟨rfl, rfl, rfl⟩, rfl⟩
                  · skip
                    try simp only [bls] at hc9
                    try simp (disch := omega) only [wz, Int.reduceAdd, Int.reduceSub, Int.reduceMul, Int.reduceNeg, Int.zero_add, Int.add_zero, Int.sub_zero, Int.sub_self] at hc9
                    conv => whnf
                    refine .ct ?_
                    conv => whnf
                    refine CallG.mk (signedE (r := a.n + b.n) (by omega) (by have := szN_in ha; have := szN_in hb; simp only [wr_u64] at *; omega) (by by_cases h1 : a.n < 0 <;> by_cases h2 : b.n < 0 <;> simp_all [sg, szN, wr_u64, I64] <;> omega)) rfl ?_
                    conv => whnf
                    cases hc11 : (decide ((fit (a.n + b.n)).snd = 0))
                    · skip
                      try simp only [bls] at hc11
                      conv => whnf
                      refine FinG.mk none ?_ (by rintro _ ⟨⟩)
                      simp only [outs, List.length_map, List.length_append, List.length_take, List.length_drop, List.length_cons, List.length_nil, fr_by1, valX]
                      rw [rec_fit' rk_1 (by decide) (by decide) (by assumption) (by assumption) (by assumption) (by assumption) (by assumption)]; exact ⟨⟨rfl, rfl, rfl⟩, rfl⟩
                    · skip
                      try simp only [bls] at hc11
                      conv => whnf
                      refine FinG.mk none ?_ (by rintro _ ⟨⟩)
                      simp only [outs, List.length_map, List.length_append, List.length_take, List.length_drop, List.length_cons, List.length_nil, fr_by1, valX]
                      rw [rec_fit rk_1 (by decide) (by decide) (by assumption) (by assumption) (by assumption) (by assumption) (by assumption)]; exact ⟨⟨rfl, rfl, rfl⟩, rfl⟩
                · skip
                  try simp only [bls] at hc8
                  conv => whnf
                  refine .ct ?_
                  conv => whnf
                  refine CallG.mk ((show XMeets _ _ [.v (.int .i64 _)] (.p (.v (.int .u64 (szN _))) (nlv _)) from size_X _ (by assumption))) rfl ?_
                  conv => whnf
                  refine .ct ?_
                  conv => whnf
                  refine CallG.mk ((show XMeets _ _ [.v (.int .i64 _)] (.p (.v (.int .u64 (szN _))) (nlv _)) from size_X _ (by assumption))) rfl ?_
                  conv => whnf
                  cases hc12 : (decide (szN b.n ≤ szN a.n))
                  · skip
                    try simp only [bls] at hc12
                    conv => whnf
                    refine .ct ?_
                    conv => whnf
                    refine CallG.mk ((show XMeets _ _ [.v (.int .i64 _)] (.p (.v (.int .u64 (szN _))) (nlv _)) from size_X _ (by assumption))) rfl ?_
                    conv => whnf
                    refine .ct ?_
                    conv => whnf
                    refine CallG.mk ((show XMeets _ _ [.v (.int .i64 _)] (.p (.v (.int .u64 (szN _))) (nlv _)) from size_X _ (by assumption))) rfl ?_
                    conv => whnf
                    refine .ct ?_
                    conv => whnf
                    refine CallG.mk (signedE (r := a.n + b.n) (by omega) (by have := szN_in ha; have := szN_in hb; simp only [wr_u64] at *; omega) (by by_cases h1 : a.n < 0 <;> by_cases h2 : b.n < 0 <;> simp_all [sg, szN, wr_u64, I64] <;> omega)) rfl ?_
                    conv => whnf
                    cases hc13 : (decide ((fit (a.n + b.n)).snd = 0))
                    · skip
                      try simp only [bls] at hc13
                      conv => whnf
                      refine FinG.mk none ?_ (by rintro _ ⟨⟩)
                      simp only [outs, List.length_map, List.length_append, List.length_take, List.length_drop, List.length_cons, List.length_nil, fr_by1, valX]
                      rw [rec_fit' rk_1 (by decide) (by decide) (by assumption) (by assumption) (by assumption) (by assumption) (by assumption)]; exact ⟨⟨rfl, rfl, rfl⟩, rfl⟩
                    · skip
                      try simp only [bls] at hc13
                      conv => whnf
                      refine FinG.mk none ?_ (by rintro _ ⟨⟩)
                      simp only [outs, List.length_map, List.length_append, List.length_take, List.length_drop, List.length_cons, List.length_nil, fr_by1, valX]
                      rw [rec_fit rk_1 (by decide) (by decide) (by assumption) (by assumption) (by assumption) (by assumption) (by assumption)]; exact ⟨⟨rfl, rfl, rfl⟩, rfl⟩
                  · skip
                    try simp only [bls] at hc12
                    conv => whnf
                    refine .ct ?_
                    conv => whnf
                    refine CallG.mk ((show XMeets _ _ [.v (.int .i64 _)] (.p (.v (.int .u64 (szN _))) (nlv _)) from size_X _ (by assumption))) rfl ?_
                    conv => whnf
                    refine .ct ?_
                    conv => whnf
                    refine CallG.mk ((show XMeets _ _ [.v (.int .i64 _)] (.p (.v (.int .u64 (szN _))) (nlv _)) from size_X _ (by assumption))) rfl ?_
                    conv => whnf
                    refine .ct ?_
                    conv => whnf
                    refine CallG.mk (signedE (r := a.n + b.n) (by omega) (by have := szN_in ha; have := szN_in hb; simp only [wr_u64] at *; omega) (by by_cases h1 : a.n < 0 <;> by_cases h2 : b.n < 0 <;> simp_all [sg, szN, wr_u64, I64] <;> omega)) rfl ?_
                    conv => whnf
                    cases hc14 : (decide ((fit (a.n + b.n)).snd = 0))
                    · skip
                      try simp only [bls] at hc14
                      conv => whnf
                      refine FinG.mk none ?_ (by rintro _ ⟨⟩)
                      simp only [outs, List.length_map, List.length_append, List.length_take, List.length_drop, List.length_cons, List.length_nil, fr_by1, valX]
                      rw [rec_fit' rk_1 (by decide) (by decide) (by assumption) (by assumption) (by assumption) (by assumption) (by assumption)]; exact ⟨⟨rfl, rfl, rfl⟩, rfl⟩
                    · skip
                      try simp only [bls] at hc14
                      conv => whnf
                      refine FinG.mk none ?_ (by rintro _ ⟨⟩)
                      simp only [outs, List.length_map, List.length_append, List.length_take, List.length_drop, List.length_cons, List.length_nil, fr_by1, valX]
                      rw [rec_fit rk_1 (by decide) (by decide) (by assumption) (by assumption) (by assumption) (by assumption) (by assumption)]; exact ⟨⟨rfl, rfl, rfl⟩, rfl⟩
            · skip
              try simp only [bls] at hc6
              conv => whnf
              rw [show (decide (a.k = 1)) = false from decide_eq_false (by omega)]
              conv => whnf
              rw [show (decide (b.k = 1)) = true from decide_eq_true (by omega)]
              conv => whnf
              refine FinG.mk none ?_ (by rintro _ ⟨⟩)
              simp only [outs, List.length_map, List.length_append, List.length_take, List.length_drop, List.length_cons, List.length_nil, fr_by1, valX]
              simp_all [recN, valX, outs, bothN, numB]; done
        · skip
          try simp only [bls] at hc4
          conv => whnf
          cases hc15 : (decide (b.k = 1))
          · skip
            try simp only [bls] at hc15
            conv => whnf
            cases hc16 : (decide (b.k = 3))
            · skip
              try simp only [bls] at hc16
              conv => whnf
              refine FinG.mk none ?_ (by rintro _ ⟨⟩)
              simp only [outs, List.length_map, List.length_append, List.length_take, List.length_drop, List.length_cons, List.length_nil, fr_by1, valX]
              simp_all [recN, valX, outs, bothN, numB]; done
            · skip
              try simp only [bls] at hc16
              conv => whnf
              rw [show (decide (a.k = 1)) = true from decide_eq_true (by omega)]
              conv => whnf
              refine FinG.mk none ?_ (by rintro _ ⟨⟩)
              simp only [outs, List.length_map, List.length_append, List.length_take, List.length_drop, List.length_cons, List.length_nil, fr_by1, valX]
              simp_all [recN, valX, outs, bothN, numB]; done
          · skip
            try simp only [bls] at hc15
            conv => whnf
            rw [show (decide (a.k = 1)) = true from decide_eq_true (by omega)]
            conv => whnf
            refine FinG.mk none ?_ (by rintro _ ⟨⟩)
            simp only [outs, List.length_map, List.length_append, List.length_take, List.length_drop, List.length_cons, List.length_nil, fr_by1, valX]
            simp_all [recN, valX, outs, bothN, numB]; done
  · skip
    conv => whnf
    refine .ct ?_
    conv => whnf
    refine CallG.mk (right_X _) rfl ?_
    conv => whnf
    cases hc17 : (rightB a)
    · skip
      try simp only [bls] at hc17
      conv => whnf
      refine FinG.mk none ?_ (by rintro _ ⟨⟩)
      simp only [outs, List.length_map, List.length_append, List.length_take, List.length_drop, List.length_cons, List.length_nil, fr_by1, valX]
      simp [recN, valX, outs, bothN, *]; done
    · skip
      try simp only [bls] at hc17
      conv => whnf
      refine .ct ?_
      conv => whnf
      refine CallG.mk (right_X _) rfl ?_
      conv => whnf
      cases hc18 : (rightB b)
      · skip
        try simp only [bls] at hc18
        conv => whnf
        refine FinG.mk none ?_ (by rintro _ ⟨⟩)
        simp only [outs, List.length_map, List.length_append, List.length_take, List.length_drop, List.length_cons, List.length_nil, fr_by1, valX]
        simp [recN, valX, outs, bothN, *]; done
      · skip
        try simp only [bls] at hc18
        conv => whnf
        cases hc19 : (decide (a.k = 1))
        · skip
          try simp only [bls] at hc19
          conv => whnf
          cases hc20 : (decide (a.k = 3))
          · skip
            try simp only [bls] at hc20
            conv => whnf
            refine FinG.mk none ?_ (by rintro _ ⟨⟩)
            simp only [outs, List.length_map, List.length_append, List.length_take, List.length_drop, List.length_cons, List.length_nil, fr_by1, valX]
            simp_all [recN, valX, outs, bothN, numB]; done
          · skip
            try simp only [bls] at hc20
            conv => whnf
            cases hc21 : (decide (b.k = 1))
            · skip
              try simp only [bls] at hc21
              conv => whnf
              cases hc22 : (decide (b.k = 3))
              · skip
                try simp only [bls] at hc22
                conv => whnf
                refine FinG.mk none ?_ (by rintro _ ⟨⟩)
                simp only [outs, List.length_map, List.length_append, List.length_take, List.length_drop, List.length_cons, List.length_nil, fr_by1, valX]
                simp_all [recN, valX, outs, bothN, numB]; done
              · skip
                try simp only [bls] at hc22
                conv => whnf
                rw [show (decide (a.k = 1)) = false from decide_eq_false (by omega)]
                conv => whnf
                rw [show (decide (b.k = 1)) = false from decide_eq_false (by omega)]
                conv => whnf
                refine RegG.par 6 (by kernel_rfl) ?_
                conv => whnf
                refine bS (fun hc23 => ?_) (fun hc23 => ?_)
                · skip
                  try simp only [bls] at hc23
                  conv => whnf
                  refine .ct ?_
                  conv => whnf
                  refine CallG.mk ((show XMeets _ _ [.v (.int .i64 _)] (.p (.v (.int .u64 (szN _))) (nlv _)) from size_X _ (by assumption))) rfl ?_
                  conv => whnf
                  refine .ct ?_
                  conv => whnf
                  refine CallG.mk ((show XMeets _ _ [.v (.int .i64 _)] (.p (.v (.int .u64 (szN _))) (nlv _)) from size_X _ (by assumption))) rfl ?_
                  conv => whnf
                  refine .ct ?_
                  conv => whnf
                  refine CallG.mk ((show XMeets _ _ [.v (.int .i64 _)] (.p (.v (.int .u64 (szN _))) (nlv _)) from size_X _ (by assumption))) rfl ?_
                  conv => whnf
                  cases hc24 : (decide (IntKind.u64.wrap (szN a.n + szN b.n) < szN a.n))
                  · skip
                    try simp only [bls] at hc24
                    try simp (disch := omega) only [wz, Int.reduceAdd, Int.reduceSub, Int.reduceMul, Int.reduceNeg, Int.zero_add, Int.add_zero, Int.sub_zero, Int.sub_self] at hc24
                    conv => whnf
                    refine .ct ?_
                    conv => whnf
                    refine CallG.mk (signedE (r := a.n - b.n) (by omega) (by have := szN_in ha; have := szN_in hb; simp only [wr_u64] at *; omega) (by by_cases h1 : a.n < 0 <;> by_cases h2 : b.n < 0 <;> simp_all [sg, szN, wr_u64, I64] <;> omega)) rfl ?_
                    conv => whnf
                    cases hc25 : (decide ((fit (a.n - b.n)).snd = 0))
                    · skip
                      try simp only [bls] at hc25
                      conv => whnf
                      refine FinG.mk none ?_ (by rintro _ ⟨⟩)
                      simp only [outs, List.length_map, List.length_append, List.length_take, List.length_drop, List.length_cons, List.length_nil, fr_by1, valX]
                      rw [rec_fit' rk_2 (by decide) (by decide) (by assumption) (by assumption) (by assumption) (by assumption) (by assumption)]; exact ⟨⟨rfl, rfl, rfl⟩, rfl⟩
                    · skip
                      try simp only [bls] at hc25
                      conv => whnf
                      refine FinG.mk none ?_ (by rintro _ ⟨⟩)
                      simp only [outs, List.length_map, List.length_append, List.length_take, List.length_drop, List.length_cons, List.length_nil, fr_by1, valX]
                      rw [rec_fit rk_2 (by decide) (by decide) (by assumption) (by assumption) (by assumption) (by assumption) (by assumption)]; exact ⟨⟨rfl, rfl, rfl⟩, rfl⟩
                  · skip
                    try simp only [bls] at hc24
                    try simp (disch := omega) only [wz, Int.reduceAdd, Int.reduceSub, Int.reduceMul, Int.reduceNeg, Int.zero_add, Int.add_zero, Int.sub_zero, Int.sub_self] at hc24
                    conv => whnf
                    refine .ct ?_
                    conv => whnf
                    refine CallG.mk (signedE (r := a.n - b.n) (by omega) (by have := szN_in ha; have := szN_in hb; simp only [wr_u64] at *; omega) (by by_cases h1 : a.n < 0 <;> by_cases h2 : b.n < 0 <;> simp_all [sg, szN, wr_u64, I64] <;> omega)) rfl ?_
                    conv => whnf
                    cases hc26 : (decide ((fit (a.n - b.n)).snd = 0))
                    · skip
                      try simp only [bls] at hc26
                      conv => whnf
                      refine FinG.mk none ?_ (by rintro _ ⟨⟩)
                      simp only [outs, List.length_map, List.length_append, List.length_take, List.length_drop, List.length_cons, List.length_nil, fr_by1, valX]
                      rw [rec_fit' rk_2 (by decide) (by decide) (by assumption) (by assumption) (by assumption) (by assumption) (by assumption)]; exact ⟨⟨rfl, rfl, rfl⟩, rfl⟩
                    · skip
                      try simp only [bls] at hc26
                      conv => whnf
                      refine FinG.mk none ?_ (by rintro _ ⟨⟩)
                      simp only [outs, List.length_map, List.length_append, List.length_take, List.length_drop, List.length_cons, List.length_nil, fr_by1, valX]
                      rw [rec_fit rk_2 (by decide) (by decide) (by assumption) (by assumption) (by assumption) (by assumption) (by assumption)]; exact ⟨⟨rfl, rfl, rfl⟩, rfl⟩
                · skip
                  try simp only [bls] at hc23
                  conv => whnf
                  refine .ct ?_
                  conv => whnf
                  refine CallG.mk ((show XMeets _ _ [.v (.int .i64 _)] (.p (.v (.int .u64 (szN _))) (nlv _)) from size_X _ (by assumption))) rfl ?_
                  conv => whnf
                  refine .ct ?_
                  conv => whnf
                  refine CallG.mk ((show XMeets _ _ [.v (.int .i64 _)] (.p (.v (.int .u64 (szN _))) (nlv _)) from size_X _ (by assumption))) rfl ?_
                  conv => whnf
                  cases hc27 : (decide (szN b.n ≤ szN a.n))
                  · skip
                    try simp only [bls] at hc27
                    conv => whnf
                    refine .ct ?_
                    conv => whnf
                    refine CallG.mk ((show XMeets _ _ [.v (.int .i64 _)] (.p (.v (.int .u64 (szN _))) (nlv _)) from size_X _ (by assumption))) rfl ?_
                    conv => whnf
                    refine .ct ?_
                    conv => whnf
                    refine CallG.mk ((show XMeets _ _ [.v (.int .i64 _)] (.p (.v (.int .u64 (szN _))) (nlv _)) from size_X _ (by assumption))) rfl ?_
                    conv => whnf
                    refine .ct ?_
                    conv => whnf
                    refine CallG.mk (signedE (r := a.n - b.n) (by omega) (by have := szN_in ha; have := szN_in hb; simp only [wr_u64] at *; omega) (by by_cases h1 : a.n < 0 <;> by_cases h2 : b.n < 0 <;> simp_all [sg, szN, wr_u64, I64] <;> omega)) rfl ?_
                    conv => whnf
                    cases hc28 : (decide ((fit (a.n - b.n)).snd = 0))
                    · skip
                      try simp only [bls] at hc28
                      conv => whnf
                      refine FinG.mk none ?_ (by rintro _ ⟨⟩)
                      simp only [outs, List.length_map, List.length_append, List.length_take, List.length_drop, List.length_cons, List.length_nil, fr_by1, valX]
                      rw [rec_fit' rk_2 (by decide) (by decide) (by assumption) (by assumption) (by assumption) (by assumption) (by assumption)]; exact ⟨⟨rfl, rfl, rfl⟩, rfl⟩
                    · skip
                      try simp only [bls] at hc28
                      conv => whnf
                      refine FinG.mk none ?_ (by rintro _ ⟨⟩)
                      simp only [outs, List.length_map, List.length_append, List.length_take, List.length_drop, List.length_cons, List.length_nil, fr_by1, valX]
                      rw [rec_fit rk_2 (by decide) (by decide) (by assumption) (by assumption) (by assumption) (by assumption) (by assumption)]; exact ⟨⟨rfl, rfl, rfl⟩, rfl⟩
                  · skip
                    try simp only [bls] at hc27
                    conv => whnf
                    refine .ct ?_
                    conv => whnf
                    refine CallG.mk ((show XMeets _ _ [.v (.int .i64 _)] (.p (.v (.int .u64 (szN _))) (nlv _)) from size_X _ (by assumption))) rfl ?_
                    conv => whnf
                    refine .ct ?_
                    conv => whnf
                    refine CallG.mk ((show XMeets _ _ [.v (.int .i64 _)] (.p (.v (.int .u64 (szN _))) (nlv _)) from size_X _ (by assumption))) rfl ?_
                    conv => whnf
                    refine .ct ?_
                    conv => whnf
                    refine CallG.mk (signedE (r := a.n - b.n) (by omega) (by have := szN_in ha; have := szN_in hb; simp only [wr_u64] at *; omega) (by by_cases h1 : a.n < 0 <;> by_cases h2 : b.n < 0 <;> simp_all [sg, szN, wr_u64, I64] <;> omega)) rfl ?_
                    conv => whnf
                    cases hc29 : (decide ((fit (a.n - b.n)).snd = 0))
                    · skip
                      try simp only [bls] at hc29
                      conv => whnf
                      refine FinG.mk none ?_ (by rintro _ ⟨⟩)
                      simp only [outs, List.length_map, List.length_append, List.length_take, List.length_drop, List.length_cons, List.length_nil, fr_by1, valX]
                      rw [rec_fit' rk_2 (by decide) (by decide) (by assumption) (by assumption) (by assumption) (by assumption) (by assumption)]; exact ⟨⟨rfl, rfl, rfl⟩, rfl⟩
                    · skip
                      try simp only [bls] at hc29
                      conv => whnf
                      refine FinG.mk none ?_ (by rintro _ ⟨⟩)
                      simp only [outs, List.length_map, List.length_append, List.length_take, List.length_drop, List.length_cons, List.length_nil, fr_by1, valX]
                      rw [rec_fit rk_2 (by decide) (by decide) (by assumption) (by assumption) (by assumption) (by assumption) (by assumption)]; exact ⟨⟨rfl, rfl, rfl⟩, rfl⟩
            · skip
              try simp only [bls] at hc21
              conv => whnf
              rw [show (decide (a.k = 1)) = false from decide_eq_false (by omega)]
              conv => whnf
              rw [show (decide (b.k = 1)) = true from decide_eq_true (by omega)]
              conv => whnf
              refine FinG.mk none ?_ (by rintro _ ⟨⟩)
              simp only [outs, List.length_map, List.length_append, List.length_take, List.length_drop, List.length_cons, List.length_nil, fr_by1, valX]
              simp_all [recN, valX, outs, bothN, numB]; done
        · skip
          try simp only [bls] at hc19
          conv => whnf
          cases hc30 : (decide (b.k = 1))
          · skip
            try simp only [bls] at hc30
            conv => whnf
            cases hc31 : (decide (b.k = 3))
            · skip
              try simp only [bls] at hc31
              conv => whnf
              refine FinG.mk none ?_ (by rintro _ ⟨⟩)
              simp only [outs, List.length_map, List.length_append, List.length_take, List.length_drop, List.length_cons, List.length_nil, fr_by1, valX]
              simp_all [recN, valX, outs, bothN, numB]; done
            · skip
              try simp only [bls] at hc31
              conv => whnf
              rw [show (decide (a.k = 1)) = true from decide_eq_true (by omega)]
              conv => whnf
              refine FinG.mk none ?_ (by rintro _ ⟨⟩)
              simp only [outs, List.length_map, List.length_append, List.length_take, List.length_drop, List.length_cons, List.length_nil, fr_by1, valX]
              simp_all [recN, valX, outs, bothN, numB]; done
          · skip
            try simp only [bls] at hc30
            conv => whnf
            rw [show (decide (a.k = 1)) = true from decide_eq_true (by omega)]
            conv => whnf
            refine FinG.mk none ?_ (by rintro _ ⟨⟩)
            simp only [outs, List.length_map, List.length_append, List.length_take, List.length_drop, List.length_cons, List.length_nil, fr_by1, valX]
            simp_all [recN, valX, outs, bothN, numB]; done
  · skip
    conv => whnf
    refine .ct ?_
    conv => whnf
    refine CallG.mk (right_X _) rfl ?_
    conv => whnf
    cases hc32 : (rightB a)
    · skip
      try simp only [bls] at hc32
      conv => whnf
      refine FinG.mk none ?_ (by rintro _ ⟨⟩)
      simp only [outs, List.length_map, List.length_append, List.length_take, List.length_drop, List.length_cons, List.length_nil, fr_by1, valX]
      simp [recN, valX, outs, bothN, *]; done
    · skip
      try simp only [bls] at hc32
      conv => whnf
      refine .ct ?_
      conv => whnf
      refine CallG.mk (right_X _) rfl ?_
      conv => whnf
      cases hc33 : (rightB b)
      · skip
        try simp only [bls] at hc33
        conv => whnf
        refine FinG.mk none ?_ (by rintro _ ⟨⟩)
        simp only [outs, List.length_map, List.length_append, List.length_take, List.length_drop, List.length_cons, List.length_nil, fr_by1, valX]
        simp [recN, valX, outs, bothN, *]; done
      · skip
        try simp only [bls] at hc33
        conv => whnf
        cases hc34 : (decide (a.k = 1))
        · skip
          try simp only [bls] at hc34
          conv => whnf
          cases hc35 : (decide (a.k = 3))
          · skip
            try simp only [bls] at hc35
            conv => whnf
            refine FinG.mk none ?_ (by rintro _ ⟨⟩)
            simp only [outs, List.length_map, List.length_append, List.length_take, List.length_drop, List.length_cons, List.length_nil, fr_by1, valX]
            simp_all [recN, valX, outs, bothN, numB]; done
          · skip
            try simp only [bls] at hc35
            conv => whnf
            cases hc36 : (decide (b.k = 1))
            · skip
              try simp only [bls] at hc36
              conv => whnf
              cases hc37 : (decide (b.k = 3))
              · skip
                try simp only [bls] at hc37
                conv => whnf
                refine FinG.mk none ?_ (by rintro _ ⟨⟩)
                simp only [outs, List.length_map, List.length_append, List.length_take, List.length_drop, List.length_cons, List.length_nil, fr_by1, valX]
                simp_all [recN, valX, outs, bothN, numB]; done
              · skip
                try simp only [bls] at hc37
                conv => whnf
                rw [show (decide (a.k = 1)) = false from decide_eq_false (by omega)]
                conv => whnf
                rw [show (decide (b.k = 1)) = false from decide_eq_false (by omega)]
                conv => whnf
                refine RegG.par 6 (by kernel_rfl) ?_
                conv => whnf
                refine .ct ?_
                conv => whnf
                refine CallG.mk ((show XMeets _ _ [.v (.int .i64 _)] (.p (.v (.int .u64 (szN _))) (nlv _)) from size_X _ (by assumption))) rfl ?_
                conv => whnf
                refine .ct ?_
                conv => whnf
                refine CallG.mk ((show XMeets _ _ [.v (.int .i64 _)] (.p (.v (.int .u64 (szN _))) (nlv _)) from size_X _ (by assumption))) rfl ?_
                conv => whnf
                refine .ct ?_
                conv => whnf
                refine CallG.mk (wide_X _ _ (szN_in (by assumption)) (szN_in (by assumption))) rfl ?_
                conv => whnf
                refine .ct ?_
                conv => whnf
                refine CallG.mk (signedE (r := a.n * b.n) (hi_nn (szN_in ha).1 (szN_in hb).1) (lo_rg _ _) (by rw [hilo]; exact sg_mul _ _)) rfl ?_
                conv => whnf
                cases hc38 : (decide ((fit (a.n * b.n)).snd = 0))
                · skip
                  try simp only [bls] at hc38
                  conv => whnf
                  refine FinG.mk none ?_ (by rintro _ ⟨⟩)
                  simp only [outs, List.length_map, List.length_append, List.length_take, List.length_drop, List.length_cons, List.length_nil, fr_by1, valX]
                  rw [rec_fit' rk_3 (by decide) (by decide) (by assumption) (by assumption) (by assumption) (by assumption) (by assumption)]; exact ⟨⟨rfl, rfl, rfl⟩, rfl⟩
                · skip
                  try simp only [bls] at hc38
                  conv => whnf
                  refine FinG.mk none ?_ (by rintro _ ⟨⟩)
                  simp only [outs, List.length_map, List.length_append, List.length_take, List.length_drop, List.length_cons, List.length_nil, fr_by1, valX]
                  rw [rec_fit rk_3 (by decide) (by decide) (by assumption) (by assumption) (by assumption) (by assumption) (by assumption)]; exact ⟨⟨rfl, rfl, rfl⟩, rfl⟩
            · skip
              try simp only [bls] at hc36
              conv => whnf
              rw [show (decide (a.k = 1)) = false from decide_eq_false (by omega)]
              conv => whnf
              rw [show (decide (b.k = 1)) = true from decide_eq_true (by omega)]
              conv => whnf
              refine FinG.mk none ?_ (by rintro _ ⟨⟩)
              simp only [outs, List.length_map, List.length_append, List.length_take, List.length_drop, List.length_cons, List.length_nil, fr_by1, valX]
              simp_all [recN, valX, outs, bothN, numB]; done
        · skip
          try simp only [bls] at hc34
          conv => whnf
          cases hc39 : (decide (b.k = 1))
          · skip
            try simp only [bls] at hc39
            conv => whnf
            cases hc40 : (decide (b.k = 3))
            · skip
              try simp only [bls] at hc40
              conv => whnf
              refine FinG.mk none ?_ (by rintro _ ⟨⟩)
              simp only [outs, List.length_map, List.length_append, List.length_take, List.length_drop, List.length_cons, List.length_nil, fr_by1, valX]
              simp_all [recN, valX, outs, bothN, numB]; done
            · skip
              try simp only [bls] at hc40
              conv => whnf
              rw [show (decide (a.k = 1)) = true from decide_eq_true (by omega)]
              conv => whnf
              refine FinG.mk none ?_ (by rintro _ ⟨⟩)
              simp only [outs, List.length_map, List.length_append, List.length_take, List.length_drop, List.length_cons, List.length_nil, fr_by1, valX]
              simp_all [recN, valX, outs, bothN, numB]; done
          · skip
            try simp only [bls] at hc39
            conv => whnf
            rw [show (decide (a.k = 1)) = true from decide_eq_true (by omega)]
            conv => whnf
            refine FinG.mk none ?_ (by rintro _ ⟨⟩)
            simp only [outs, List.length_map, List.length_append, List.length_take, List.length_drop, List.length_cons, List.length_nil, fr_by1, valX]
            simp_all [recN, valX, outs, bothN, numB]; done
  · skip
    conv => whnf
    refine .ct ?_
    conv => whnf
    refine CallG.mk (right_X _) rfl ?_
    conv => whnf
    cases hc41 : (rightB a)
    · skip
      try simp only [bls] at hc41
      conv => whnf
      refine FinG.mk none ?_ (by rintro _ ⟨⟩)
      simp only [outs, List.length_map, List.length_append, List.length_take, List.length_drop, List.length_cons, List.length_nil, fr_by1, valX]
      simp [recN, valX, outs, bothN, *]; done
    · skip
      try simp only [bls] at hc41
      conv => whnf
      refine .ct ?_
      conv => whnf
      refine CallG.mk (right_X _) rfl ?_
      conv => whnf
      cases hc42 : (rightB b)
      · skip
        try simp only [bls] at hc42
        conv => whnf
        refine FinG.mk none ?_ (by rintro _ ⟨⟩)
        simp only [outs, List.length_map, List.length_append, List.length_take, List.length_drop, List.length_cons, List.length_nil, fr_by1, valX]
        simp [recN, valX, outs, bothN, *]; done
      · skip
        try simp only [bls] at hc42
        conv => whnf
        cases hc43 : (decide (a.k = 1))
        · skip
          try simp only [bls] at hc43
          conv => whnf
          cases hc44 : (decide (a.k = 3))
          · skip
            try simp only [bls] at hc44
            conv => whnf
            refine FinG.mk none ?_ (by rintro _ ⟨⟩)
            simp only [outs, List.length_map, List.length_append, List.length_take, List.length_drop, List.length_cons, List.length_nil, fr_by1, valX]
            simp_all [recN, valX, outs, bothN, numB]; done
          · skip
            try simp only [bls] at hc44
            conv => whnf
            cases hc45 : (decide (b.k = 1))
            · skip
              try simp only [bls] at hc45
              conv => whnf
              cases hc46 : (decide (b.k = 3))
              · skip
                try simp only [bls] at hc46
                conv => whnf
                refine FinG.mk none ?_ (by rintro _ ⟨⟩)
                simp only [outs, List.length_map, List.length_append, List.length_take, List.length_drop, List.length_cons, List.length_nil, fr_by1, valX]
                simp_all [recN, valX, outs, bothN, numB]; done
              · skip
                try simp only [bls] at hc46
                conv => whnf
                rw [show (decide (a.k = 1)) = false from decide_eq_false (by omega)]
                conv => whnf
                rw [show (decide (b.k = 1)) = false from decide_eq_false (by omega)]
                conv => whnf
                refine RegG.par 6 (by kernel_rfl) ?_
                conv => whnf
                cases hc47 : (decide (b.n = 0))
                · skip
                  try simp only [bls] at hc47
                  conv => whnf
                  refine .ct ?_
                  conv => whnf
                  refine CallG.mk ((show XMeets _ _ [.v (.int .i64 _)] (.p (.v (.int .u64 (szN _))) (nlv _)) from size_X _ (by assumption))) rfl ?_
                  conv => whnf
                  refine .ct ?_
                  conv => whnf
                  refine CallG.mk ((show XMeets _ _ [.v (.int .i64 _)] (.p (.v (.int .u64 (szN _))) (nlv _)) from size_X _ (by assumption))) rfl ?_
                  conv => whnf
                  rw [show (decide (szN b.n = 0)) = false from decide_eq_false (by omega)]
                  conv => whnf
                  refine .ct ?_
                  conv => whnf
                  refine CallG.mk (signedE (r := a.n.tdiv b.n) (by omega) (by rw [qz ha hb]; exact qz_rg ha hb) (by rw [qz ha hb, Int.zero_mul, Int.zero_add]; exact sg_div _ _)) rfl ?_
                  conv => whnf
                  cases hc48 : (decide ((fit (a.n.tdiv b.n)).snd = 0))
                  · skip
                    try simp only [bls] at hc48
                    conv => whnf
                    refine FinG.mk none ?_ (by rintro _ ⟨⟩)
                    simp only [outs, List.length_map, List.length_append, List.length_take, List.length_drop, List.length_cons, List.length_nil, fr_by1, valX]
                    rw [rec_fit' (rk_4 (by assumption)) (by decide) (by decide) (by assumption) (by assumption) (by assumption) (by assumption) (by assumption)]; exact ⟨⟨rfl, rfl, rfl⟩, rfl⟩
                  · skip
                    try simp only [bls] at hc48
                    conv => whnf
                    refine FinG.mk none ?_ (by rintro _ ⟨⟩)
                    simp only [outs, List.length_map, List.length_append, List.length_take, List.length_drop, List.length_cons, List.length_nil, fr_by1, valX]
                    rw [rec_fit (rk_4 (by assumption)) (by decide) (by decide) (by assumption) (by assumption) (by assumption) (by assumption) (by assumption)]; exact ⟨⟨rfl, rfl, rfl⟩, rfl⟩
                · skip
                  try simp only [bls] at hc47
                  conv => whnf
                  refine FinG.mk none ?_ (by rintro _ ⟨⟩)
                  simp only [outs, List.length_map, List.length_append, List.length_take, List.length_drop, List.length_cons, List.length_nil, fr_by1, valX]
                  rw [rec_z (by decide) (by assumption) (by assumption) (by assumption) (by assumption) (by assumption)]; exact ⟨⟨rfl, rfl, rfl⟩, rfl⟩
            · skip
              try simp only [bls] at hc45
              conv => whnf
              rw [show (decide (a.k = 1)) = false from decide_eq_false (by omega)]
              conv => whnf
              rw [show (decide (b.k = 1)) = true from decide_eq_true (by omega)]
              conv => whnf
              refine FinG.mk none ?_ (by rintro _ ⟨⟩)
              simp only [outs, List.length_map, List.length_append, List.length_take, List.length_drop, List.length_cons, List.length_nil, fr_by1, valX]
              simp_all [recN, valX, outs, bothN, numB]; done
        · skip
          try simp only [bls] at hc43
          conv => whnf
          cases hc49 : (decide (b.k = 1))
          · skip
            try simp only [bls] at hc49
            conv => whnf
            cases hc50 : (decide (b.k = 3))
            · skip
              try simp only [bls] at hc50
              conv => whnf
              refine FinG.mk none ?_ (by rintro _ ⟨⟩)
              simp only [outs, List.length_map, List.length_append, List.length_take, List.length_drop, List.length_cons, List.length_nil, fr_by1, valX]
              simp_all [recN, valX, outs, bothN, numB]; done
            · skip
              try simp only [bls] at hc50
              conv => whnf
              rw [show (decide (a.k = 1)) = true from decide_eq_true (by omega)]
              conv => whnf
              refine FinG.mk none ?_ (by rintro _ ⟨⟩)
              simp only [outs, List.length_map, List.length_append, List.length_take, List.length_drop, List.length_cons, List.length_nil, fr_by1, valX]
              simp_all [recN, valX, outs, bothN, numB]; done
          · skip
            try simp only [bls] at hc49
            conv => whnf
            rw [show (decide (a.k = 1)) = true from decide_eq_true (by omega)]
            conv => whnf
            refine FinG.mk none ?_ (by rintro _ ⟨⟩)
            simp only [outs, List.length_map, List.length_append, List.length_take, List.length_drop, List.length_cons, List.length_nil, fr_by1, valX]
            simp_all [recN, valX, outs, bothN, numB]; done
  · skip
    conv => whnf
    refine .ct ?_
    conv => whnf
    refine CallG.mk (right_X _) rfl ?_
    conv => whnf
    cases hc51 : (rightB a)
    · skip
      try simp only [bls] at hc51
      conv => whnf
      refine FinG.mk none ?_ (by rintro _ ⟨⟩)
      simp only [outs, List.length_map, List.length_append, List.length_take, List.length_drop, List.length_cons, List.length_nil, fr_by1, valX]
      simp [recN, valX, outs, bothN, *]; done
    · skip
      try simp only [bls] at hc51
      conv => whnf
      refine .ct ?_
      conv => whnf
      refine CallG.mk (right_X _) rfl ?_
      conv => whnf
      cases hc52 : (rightB b)
      · skip
        try simp only [bls] at hc52
        conv => whnf
        refine FinG.mk none ?_ (by rintro _ ⟨⟩)
        simp only [outs, List.length_map, List.length_append, List.length_take, List.length_drop, List.length_cons, List.length_nil, fr_by1, valX]
        simp [recN, valX, outs, bothN, *]; done
      · skip
        try simp only [bls] at hc52
        conv => whnf
        cases hc53 : (decide (a.k = 1))
        · skip
          try simp only [bls] at hc53
          conv => whnf
          cases hc54 : (decide (a.k = 3))
          · skip
            try simp only [bls] at hc54
            conv => whnf
            refine FinG.mk none ?_ (by rintro _ ⟨⟩)
            simp only [outs, List.length_map, List.length_append, List.length_take, List.length_drop, List.length_cons, List.length_nil, fr_by1, valX]
            simp_all [recN, valX, outs, bothN, numB]; done
          · skip
            try simp only [bls] at hc54
            conv => whnf
            cases hc55 : (decide (b.k = 1))
            · skip
              try simp only [bls] at hc55
              conv => whnf
              cases hc56 : (decide (b.k = 3))
              · skip
                try simp only [bls] at hc56
                conv => whnf
                refine FinG.mk none ?_ (by rintro _ ⟨⟩)
                simp only [outs, List.length_map, List.length_append, List.length_take, List.length_drop, List.length_cons, List.length_nil, fr_by1, valX]
                simp_all [recN, valX, outs, bothN, numB]; done
              · skip
                try simp only [bls] at hc56
                conv => whnf
                rw [show (decide (a.k = 1)) = false from decide_eq_false (by omega)]
                conv => whnf
                rw [show (decide (b.k = 1)) = false from decide_eq_false (by omega)]
                conv => whnf
                refine RegG.par 6 (by kernel_rfl) ?_
                conv => whnf
                cases hc57 : (decide (b.n = 0))
                · skip
                  try simp only [bls] at hc57
                  conv => whnf
                  refine .ct ?_
                  conv => whnf
                  refine CallG.mk ((show XMeets _ _ [.v (.int .i64 _)] (.p (.v (.int .u64 (szN _))) (nlv _)) from size_X _ (by assumption))) rfl ?_
                  conv => whnf
                  refine .ct ?_
                  conv => whnf
                  refine CallG.mk ((show XMeets _ _ [.v (.int .i64 _)] (.p (.v (.int .u64 (szN _))) (nlv _)) from size_X _ (by assumption))) rfl ?_
                  conv => whnf
                  rw [show (decide (szN b.n = 0)) = false from decide_eq_false (by omega)]
                  conv => whnf
                  refine .ct ?_
                  conv => whnf
                  refine CallG.mk (signedE (r := a.n.tmod b.n) (by omega) (by rw [mz ha]; exact mz_rg ha (by assumption)) (by rw [mz ha, Int.zero_mul, Int.zero_add]; exact sg_mod _ _)) rfl ?_
                  conv => whnf
                  cases hc58 : (decide ((fit (a.n.tmod b.n)).snd = 0))
                  · skip
                    try simp only [bls] at hc58
                    conv => whnf
                    refine FinG.mk none ?_ (by rintro _ ⟨⟩)
                    simp only [outs, List.length_map, List.length_append, List.length_take, List.length_drop, List.length_cons, List.length_nil, fr_by1, valX]
                    rw [rec_fit' (rk_5 ha (by assumption)) (by decide) (by decide) (by assumption) (by assumption) (by assumption) (by assumption) (by assumption)]; exact ⟨⟨rfl, rfl, rfl⟩, rfl⟩
                  · skip
                    try simp only [bls] at hc58
                    conv => whnf
                    refine FinG.mk none ?_ (by rintro _ ⟨⟩)
                    simp only [outs, List.length_map, List.length_append, List.length_take, List.length_drop, List.length_cons, List.length_nil, fr_by1, valX]
                    rw [rec_fit (rk_5 ha (by assumption)) (by decide) (by decide) (by assumption) (by assumption) (by assumption) (by assumption) (by assumption)]; exact ⟨⟨rfl, rfl, rfl⟩, rfl⟩
                · skip
                  try simp only [bls] at hc57
                  conv => whnf
                  refine FinG.mk none ?_ (by rintro _ ⟨⟩)
                  simp only [outs, List.length_map, List.length_append, List.length_take, List.length_drop, List.length_cons, List.length_nil, fr_by1, valX]
                  rw [rec_z (by decide) (by assumption) (by assumption) (by assumption) (by assumption) (by assumption)]; exact ⟨⟨rfl, rfl, rfl⟩, rfl⟩
            · skip
              try simp only [bls] at hc55
              conv => whnf
              rw [show (decide (a.k = 1)) = false from decide_eq_false (by omega)]
              conv => whnf
              rw [show (decide (b.k = 1)) = true from decide_eq_true (by omega)]
              conv => whnf
              refine FinG.mk none ?_ (by rintro _ ⟨⟩)
              simp only [outs, List.length_map, List.length_append, List.length_take, List.length_drop, List.length_cons, List.length_nil, fr_by1, valX]
              simp_all [recN, valX, outs, bothN, numB]; done
        · skip
          try simp only [bls] at hc53
          conv => whnf
          cases hc59 : (decide (b.k = 1))
          · skip
            try simp only [bls] at hc59
            conv => whnf
            cases hc60 : (decide (b.k = 3))
            · skip
              try simp only [bls] at hc60
              conv => whnf
              refine FinG.mk none ?_ (by rintro _ ⟨⟩)
              simp only [outs, List.length_map, List.length_append, List.length_take, List.length_drop, List.length_cons, List.length_nil, fr_by1, valX]
              simp_all [recN, valX, outs, bothN, numB]; done
            · skip
              try simp only [bls] at hc60
              conv => whnf
              rw [show (decide (a.k = 1)) = true from decide_eq_true (by omega)]
              conv => whnf
              refine FinG.mk none ?_ (by rintro _ ⟨⟩)
              simp only [outs, List.length_map, List.length_append, List.length_take, List.length_drop, List.length_cons, List.length_nil, fr_by1, valX]
              simp_all [recN, valX, outs, bothN, numB]; done
          · skip
            try simp only [bls] at hc59
            conv => whnf
            rw [show (decide (a.k = 1)) = true from decide_eq_true (by omega)]
            conv => whnf
            refine FinG.mk none ?_ (by rintro _ ⟨⟩)
            simp only [outs, List.length_map, List.length_append, List.length_take, List.length_drop, List.length_cons, List.length_nil, fr_by1, valX]
            simp_all [recN, valX, outs, bothN, numB]; done
set_option maxRecDepth 20000 in
theorem lReckons_X (op : Int) (a b : Val) (ha : I64 a.n) (hb : I64 b.n) : XMeets Tryd.prog 4 [.v (.int .i64 op), valT a, valT b] (.p (.v (.bool true)) (nlv _)) := by
  refine XMeets.of_X tabX_ok (avs := [.p (.v (.int .i64 op)) (nlv _), valX a, valX b]) [(0, .p (.v (.int .i64 op)) (nlv _)), (1, valX a), (2, valX b)] (by kernel_rfl) Tryd.func4 rfl (by simp [PuL, Pu, valT]) (rfl) rfl rfl ?_
  intro B w0
  conv => whnf
  refine .ct ?_
  conv => whnf
  refine CallG.mk (wakes_X) rfl ?_
  conv => whnf
  refine .ct ?_
  conv => whnf
  refine CallG.mk (long_X _ [a, b] (Nat.le_of_ble_eq_true rfl)) rfl ?_
  conv => whnf
  cases hc1 : (longB [a, b])
  · skip
    try simp only [bls] at hc1
    conv => whnf
    refine .ct ?_
    conv => whnf
    refine CallG.mk (reckon_X _ _ _ (by assumption) (by assumption)) rfl ?_
    conv => whnf
    refine .ct ?_
    conv => whnf
    refine CallG.mk (reckon5_X _ _ _ (by assumption) (by assumption)) rfl ?_
    conv => whnf
    refine BinG.mk rfl rfl (eqVal_run _ _ _ _ _ _ _ _) ?_
    conv => whnf
    rw [show (eqV { k := (recN op a b).fst.k, n := (recN op a b).fst.n, t := (recN op a b).fst.t } { k := (recN op a b).fst.k, n := (recN op a b).fst.n, t := (recN op a b).fst.t }) = true from by simp [List.length_map, List.length_append, List.length_take, List.length_drop, List.length_cons, List.length_nil, fr_by1, eqV_self]; done]
    conv => whnf
    refine FinG.mk none ?_ (by rintro _ ⟨⟩)
    simp only [outs, List.length_map, List.length_append, List.length_take, List.length_drop, List.length_cons, List.length_nil, fr_by1, eqV_self]
    simp; done
  · skip
    try simp only [bls] at hc1
    conv => whnf
    refine FinG.mk none ?_ (by rintro _ ⟨⟩)
    simp only [outs, List.length_map, List.length_append, List.length_take, List.length_drop, List.length_cons, List.length_nil, fr_by1, eqV_self]
end Go.Proofs.YtdcemcobldpcnaaDoor
