/- Values: their bytes, there and back. No condition. -/
import Derived.Test.YtdcemcobldpcnaaDoorV5
import Derived.Test.YtdcemcobldpcnaaDoorVB
namespace Go.Proofs.YtdcemcobldpcnaaDoor
open Go.RowKit
set_option linter.unusedVariables false
set_option linter.unusedSimpArgs false
set_option maxRecDepth 20000
def eqL (a b : List Int) : Bool := decide (a = b)
theorem take_step {a b : List Int} {k : Nat} {x : Int} (h : a.take k = b.take k) (ha : a[k]? = some x) (hb : b[k]? = some x) : a.take (k + 1) = b.take (k + 1) := by
  rw [List.take_add_one, List.take_add_one, h, ha, hb]
theorem eqL_f {a b : List Int} {k : Nat} {x y : Int} (ha : a[k]? = some x) (hb : b[k]? = some y) (h : ¬ x = y) : eqL a b = false := by
  unfold eqL
  refine decide_eq_false fun e => h ?_
  subst e; rw [ha] at hb; exact Option.some.inj hb
theorem eqL_t {a b : List Int} {k : Nat} (h : a.take k = b.take k) (hk : a.length ≤ k) (hl : a.length = b.length) : eqL a b = true := by
  rw [List.take_of_length_le hk, List.take_of_length_le (by omega)] at h
  exact decide_eq_true h
theorem hi_0 (x : Int) : List.replicate 8 [TV.v (.int .u8 0)] = (List.replicate 8 0 ++ (beN x 8).drop 8).map by1 := by
  rw [List.drop_eq_nil_of_le (by rw [beN_len]; exact Nat.le_refl _)]; rfl
theorem eqL_self (a : List Int) : eqL a a = true := by simp [eqL]
theorem eqL_n {a b : List Int} (h : ¬ (a.length : Int) = b.length) : eqL a b = false := decide_eq_false fun e => h (by rw [e])
set_option maxRecDepth 20000 in
theorem same1_X (b b2 : Bool) (l l2 : List Int) (hl : l.length ≤ 1000000) : XMeets Tryd.prog 21 [.sl b (l.map by1), .sl b2 (l2.map by1)] (.p (.v (.bool (eqL l l2))) (nlv _)) := by
  refine XMeets.of_X tabX_ok (avs := [.p (.sl false (l.map by1)) (nl_by1 _).sl, .p (.sl false (l2.map by1)) (nl_by1 _).sl]) [(0, .p (.sl false (l.map by1)) (nl_by1 _).sl), (1, .p (.sl false (l2.map by1)) (nl_by1 _).sl)] (by kernel_rfl) Tryd.func21 rfl (by simp [PuL, Pu, pu_by1]) (by simp only [untagL, untag, ut_by1]; rfl) rfl rfl ?_
  intro B w0
  conv => whnf
  cases hc1 : (decide ((↑(List.map by1 l).length : Int) = (↑(List.map by1 l2).length : Int)))
  · skip
    try simp only [bls] at hc1
    conv => whnf
    refine FinG.mk none ?_ (by rintro _ ⟨⟩)
    simp only [outs, List.length_map, List.length_append, List.length_take, List.length_drop, List.length_cons, List.length_nil, fr_by1]
    rw [eqL_n (by assumption)]
  · skip
    try simp only [bls] at hc1
    conv => whnf
    refine XT.loop tabX_ok (Y := Nat) [4, 5, 13, 14, 15, 16, 17, 18, 19, 20, 21, 22, 23, 24, 25] (fun k => [(13, .p (.v (.int .i64 k)) (nlv _))]) (fun k => []) (fun k => k ≤ l.length ∧ l.take k = l2.take k) (fun k => l.length - k) 0 ⟨Nat.zero_le _, rfl⟩ ?_ ?_
    · skip
      refine ⟨?_, ?_, ?_⟩
      · skip
        repeat ((conv => whnf); first | exact True.intro | refine ⟨.rfl, ?_⟩ | refine ⟨.any, ?_⟩ | refine ⟨.nil, ?_⟩ | refine ⟨.int (by first | rfl | omega | (simp only [wrs]; omega)), ?_⟩)
      · skip
        repeat (first | exact LeVs.nil | ((conv => whnf); first | exact True.intro | exact .none | exact .row rfl | refine .cells ?_ | refine ⟨_, _, rfl, .rfl, ?_⟩ | refine ⟨_, _, rfl, .any, ?_⟩ | refine ⟨_, _, rfl, .nil, ?_⟩ | refine ⟨_, _, rfl, .int (by first | rfl | omega | (simp only [wrs]; omega)), ?_⟩ | refine ⟨?_, ?_⟩))
      · skip
        repeat (first | exact LeFr.nil | ((conv => whnf); first | exact True.intro | refine ⟨.rfl, ?_⟩ | refine ⟨_, _, rfl, rfl, ?_, ?_⟩))
    · skip
      rintro k ⟨hk, ht⟩
      conv => whnf
      cases hc2 : (decide ((↑k : Int) < (↑(List.map by1 l).length : Int)))
      · skip
        try simp only [bls] at hc2
        conv => whnf
        refine FinG.mk none ?_ (by rintro _ ⟨⟩)
        simp only [outs, List.length_map, List.length_append, List.length_take, List.length_drop, List.length_cons, List.length_nil, fr_by1]
        rw [eqL_t ht (by omega) (by omega)]
      · skip
        try simp only [bls] at hc2
        conv => whnf
        refine RegG.par 9 (by kernel_rfl) ?_
        conv => whnf
        refine IdxG.map _ rfl (by first | omega | (simp only [bls] at *; omega)) ?_; intro x_ hx_ hk_
        conv => whnf
        refine ⟨rfl, ?_⟩
        conv => whnf
        refine IdxG.map _ rfl (by first | omega | (simp only [bls] at *; omega)) ?_; intro x_2 hx_2 hk_2
        conv => whnf
        refine ⟨rfl, ?_⟩
        conv => whnf
        cases hc3 : (decide (x_ = x_2))
        · skip
          try simp only [bls] at hc3
          conv => whnf
          refine FinG.mk none ?_ (by rintro _ ⟨⟩)
          simp only [outs, List.length_map, List.length_append, List.length_take, List.length_drop, List.length_cons, List.length_nil, fr_by1]
          rw [eqL_f hx_ hx_2 (by assumption)]
        · skip
          try simp only [bls] at hc3
          conv => whnf
          refine ⟨(k + 1), ⟨by omega, take_step ht hx_ (by rw [show x_ = x_2 by assumption]; exact hx_2)⟩, by omega, ?_⟩
          refine ⟨?_, ?_, ?_⟩
          · skip
            repeat ((conv => whnf); first | exact True.intro | refine ⟨.rfl, ?_⟩ | refine ⟨.any, ?_⟩ | refine ⟨.nil, ?_⟩ | refine ⟨.int (by first | rfl | omega | (simp only [wrs]; omega)), ?_⟩)
          · skip
            repeat (first | exact LeVs.nil | ((conv => whnf); first | exact True.intro | exact .none | exact .row rfl | refine .cells ?_ | refine ⟨_, _, rfl, .rfl, ?_⟩ | refine ⟨_, _, rfl, .any, ?_⟩ | refine ⟨_, _, rfl, .nil, ?_⟩ | refine ⟨_, _, rfl, .int (by first | rfl | omega | (simp only [wrs]; omega)), ?_⟩ | refine ⟨?_, ?_⟩))
          · skip
            repeat (first | exact LeFr.nil | ((conv => whnf); first | exact True.intro | refine ⟨.rfl, ?_⟩ | refine ⟨_, _, rfl, rfl, ?_, ?_⟩))
set_option maxRecDepth 20000 in
theorem both1_X (b b2 : Bool) (l l2 : List Int) (hl : l.length ≤ 100000) (hl2 : l2.length ≤ 100000) : XMeets Tryd.prog 54 [.sl b (l.map by1), .sl b2 (l2.map by1)] (.ow 5 1 ((l ++ l2).map by1) (nl_by1 _)) := by
  refine XMeets.of_X tabX_ok (avs := [.p (.sl false (l.map by1)) (nl_by1 _).sl, .p (.sl false (l2.map by1)) (nl_by1 _).sl]) [(0, .p (.sl false (l.map by1)) (nl_by1 _).sl), (1, .p (.sl false (l2.map by1)) (nl_by1 _).sl)] (by kernel_rfl) Tryd.func54 rfl (by simp [PuL, Pu, pu_by1]) (by simp only [untagL, untag, ut_by1]; rfl) rfl rfl ?_
  intro B w0
  conv => whnf
  simp (disch := omega) only [wz, Int.reduceAdd, Int.reduceSub, Int.reduceMul, Int.reduceNeg, Int.zero_add, Int.add_zero, Int.sub_zero, Int.sub_self]
  conv => whnf
  refine ⟨0, l.length + l2.length, rfl, by simp only [wrs, List.length_map]; omega, by omega, (by show (l.length + l2.length) * 1 ≤ 140737488355328; omega), by omega, ?_⟩
  conv => whnf
  refine ⟨ap_by1 _, ?_⟩
  conv => whnf
  refine ⟨by simp only [List.length_map, List.length_append, beN_len, List.length_cons, List.length_nil, List.length_replicate, List.length_drop]; omega, ?_⟩
  conv => whnf
  refine ⟨ap_by1 _, ?_⟩
  conv => whnf
  refine ⟨by simp only [List.length_map, List.length_append, beN_len, List.length_cons, List.length_nil, List.length_replicate, List.length_drop]; omega, ?_⟩
  conv => whnf
  refine FinG.mk (some 0) ?_ (by rintro _ ⟨⟩; trivial)
  simp only [outs, List.length_map, List.length_append, List.length_take, List.length_drop, List.length_cons, List.length_nil, fr_by1]
  simp; done
theorem hi_at (x : Int) {m : Nat} : ((List.replicate (m + 1) 0 ++ (beN x 8).drop (m + 1)).map by1)[m]? = some (by1 0) := by
  rw [List.getElem?_map, List.getElem?_append_left (by simp), List.getElem?_replicate]; simp
theorem hi_pow {m : Nat} (h : m < 8) : (256 : Int) ^ (8 - (m + 1)) = 2 ^ (8 * (7 - m)) := by
  rcases m with _ | _ | _ | _ | _ | _ | _ | _ | m <;> first | decide | omega
theorem hi_be (x : Int) {m : Nat} (h : m < 8) : (beN x 8)[m]? = some (x / 256 ^ (8 - (m + 1)) % 256) := by
  rw [beN, List.getElem?_map, List.getElem?_range h, hi_pow h]; rfl
theorem hi_nn {x : Int} (hx : 0 ≤ x) (k : Nat) : 0 ≤ x / 256 ^ k := Int.ediv_nonneg hx (Int.le_of_lt (Int.pow_pos (by decide)))
theorem hi_set {x : Int} (hx : 0 ≤ x) {m : Nat} (h : m < 8) : ((List.replicate (m + 1) 0 ++ (beN x 8).drop (m + 1)).map by1).set m [TV.v (.int .u8 (IntKind.u8.wrap ((x / 256 ^ (8 - (m + 1))).tmod 256)))] = (List.replicate m 0 ++ (beN x 8).drop m).map by1 := by
  have h2 : m < (beN x 8).length := by rw [beN_len]; exact h
  have h3 := hi_be x h
  have e1 : (x / 256 ^ (8 - (m + 1))).tmod 256 = x / 256 ^ (8 - (m + 1)) % 256 := Int.tmod_eq_emod_of_nonneg (hi_nn hx _)
  have e2 : IntKind.u8.wrap (x / 256 ^ (8 - (m + 1)) % 256) = x / 256 ^ (8 - (m + 1)) % 256 := by rw [wr_u8]; omega
  rw [e1, e2, List.drop_eq_getElem_cons h2, show (beN x 8)[m] = x / 256 ^ (8 - (m + 1)) % 256 from Option.some.inj ((List.getElem?_eq_getElem h2).symm.trans h3), List.replicate_succ']
  have h4 : (List.replicate m (0 : Int)).length = m := by simp
  rw [List.append_assoc, List.map_append, List.map_append, List.set_append_right _ _ (by simp)]
  simp [by1]
theorem hi_div {x : Int} (hx : 0 ≤ x) {m : Nat} (h : m < 8) : (x / 256 ^ (8 - (m + 1))).tdiv 256 = x / 256 ^ (8 - m) := by
  rw [Int.tdiv_eq_ediv_of_nonneg (hi_nn hx _), Int.ediv_ediv_of_nonneg (Int.le_of_lt (Int.pow_pos (by decide))), ← Int.pow_succ]
  congr 2; omega
theorem hi_dw {x : Int} (hx : 0 ≤ x) (hx2 : x < 18446744073709551616) {m : Nat} (h : m < 8) : IntKind.u64.wrap ((x / 256 ^ (8 - (m + 1))).tdiv 256) = x / 256 ^ (8 - m) := by
  rw [hi_div hx h, wr_u64]
  exact Int.emod_eq_of_lt (hi_nn hx _) (Int.lt_of_le_of_lt (Int.ediv_le_self _ hx) hx2)
set_option maxRecDepth 20000 in
theorem high8_X (x : Int) (hx : 0 ≤ x) (hx2 : x < 18446744073709551616) : XMeets Tryd.prog 55 [.v (.int .u64 x), .v (.int .i64 8)] (.ow 5 1 ((beN x 8).map by1) (nl_by1 _)) := by
  refine XMeets.of_X tabX_ok (avs := [.p (.v (.int .u64 x)) (nlv _), .p (.v (.int .i64 8)) (nlv _)]) [(0, .p (.v (.int .u64 x)) (nlv _)), (1, .p (.v (.int .i64 8)) (nlv _))] (by kernel_rfl) Tryd.func55 rfl (by simp [PuL, Pu, pu_by1]) (by simp only [untagL, untag, ut_by1]; rfl) rfl rfl ?_
  intro B w0
  conv => whnf
  refine ⟨_, _, rfl, rfl, ?_⟩
  conv => whnf
  refine ⟨by simp only [bls]; omega, ?_⟩
  conv => whnf
  refine ⟨by simp only [bls]; omega, ?_⟩
  conv => whnf
  refine ⟨by simp only [bls]; omega, ?_⟩
  conv => whnf
  refine XT.loop tabX_ok (Y := Nat) [0, 5, 6, 8, 11, 12, 13, 14, 15, 16, 17, 18, 19, 20, 21, 22] (fun m => [(5, .row 0), (6, .p (.v (.int .i64 ((m : Int) - 1))) (nlv _)), (0, .p (.v (.int .u64 (x / 256 ^ (8 - m)))) (nlv _))]) (fun m => [(0, .row 5 1 ((List.replicate m 0 ++ (beN x 8).drop m).map by1) (nl_by1 _))]) (fun m => m ≤ 8) (fun m => m) 8 (Nat.le_refl _) ?_ ?_
  · skip
    refine ⟨?_, ?_, ?_⟩
    · skip
      repeat ((conv => whnf); first | exact True.intro | refine ⟨.rfl, ?_⟩ | refine ⟨.any, ?_⟩ | refine ⟨.nil, ?_⟩ | refine ⟨.int (by first | rfl | omega | (simp only [wrs]; omega)), ?_⟩ | refine ⟨.int (hi_dw hx hx2 (by omega)), ?_⟩ | refine ⟨.int (by simp; done), ?_⟩)
    · skip
      repeat (first | exact LeVs.nil | ((conv => whnf); first | exact True.intro | exact .none | exact .row rfl | exact .row (hi_0 _) | exact .row (hi_set hx (by omega)) | refine .cells ?_ | refine ⟨_, _, rfl, .rfl, ?_⟩ | refine ⟨_, _, rfl, .any, ?_⟩ | refine ⟨_, _, rfl, .nil, ?_⟩ | refine ⟨_, _, rfl, .int (by first | rfl | omega | (simp only [wrs]; omega)), ?_⟩ | refine ⟨_, _, rfl, .int (hi_dw hx hx2 (by omega)), ?_⟩ | refine ⟨_, _, rfl, .int (by simp; done), ?_⟩ | refine ⟨?_, ?_⟩))
    · skip
      repeat (first | exact LeFr.nil | ((conv => whnf); first | exact True.intro | refine ⟨.rfl, ?_⟩ | refine ⟨_, _, rfl, rfl, ?_, ?_⟩))
  · skip
    rintro m hm
    rcases m with _ | m
    · skip
      conv => whnf
      refine FinG.mk (some 0) ?_ (by rintro _ ⟨⟩; trivial)
      simp only [outs, List.length_map, List.length_append, List.length_take, List.length_drop, List.length_cons, List.length_nil, fr_by1]
      simp; done
    · skip
      conv => whnf
      rw [show (decide (0 ≤ (↑(m + 1) : Int) - 1)) = true from decide_eq_true (by omega)]
      conv => whnf
      simp (disch := omega) only [wz, Int.reduceAdd, Int.reduceSub, Int.reduceMul, Int.reduceNeg, Int.zero_add, Int.add_zero, Int.sub_zero, Int.sub_self]
      conv => whnf
      refine ⟨_, (Int.toNat_of_nonneg (by omega)).symm, ?_⟩
      conv => whnf
      refine ⟨by simp only [List.length_map, List.length_append, beN_len, List.length_cons, List.length_nil, List.length_replicate, List.length_drop]; omega, ?_⟩
      conv => whnf
      refine IdxG.mk (j := m) (hi_at x) (by omega) ?_
      conv => whnf
      refine ⟨rfl, ?_⟩
      conv => whnf
      refine ⟨m, by omega, Nat.lt_succ_self _, ?_⟩
      refine ⟨?_, ?_, ?_⟩
      · skip
        repeat ((conv => whnf); first | exact True.intro | refine ⟨.rfl, ?_⟩ | refine ⟨.any, ?_⟩ | refine ⟨.nil, ?_⟩ | refine ⟨.int (by first | rfl | omega | (simp only [wrs]; omega)), ?_⟩ | refine ⟨.int (hi_dw hx hx2 (by omega)), ?_⟩ | refine ⟨.int (by simp; done), ?_⟩)
      · skip
        repeat (first | exact LeVs.nil | ((conv => whnf); first | exact True.intro | exact .none | exact .row rfl | exact .row (hi_0 _) | exact .row (hi_set hx (by omega)) | refine .cells ?_ | refine ⟨_, _, rfl, .rfl, ?_⟩ | refine ⟨_, _, rfl, .any, ?_⟩ | refine ⟨_, _, rfl, .nil, ?_⟩ | refine ⟨_, _, rfl, .int (by first | rfl | omega | (simp only [wrs]; omega)), ?_⟩ | refine ⟨_, _, rfl, .int (hi_dw hx hx2 (by omega)), ?_⟩ | refine ⟨_, _, rfl, .int (by simp; done), ?_⟩ | refine ⟨?_, ?_⟩))
      · skip
        repeat (first | exact LeFr.nil | ((conv => whnf); first | exact True.intro | refine ⟨.rfl, ?_⟩ | refine ⟨_, _, rfl, rfl, ?_, ?_⟩))
theorem bias {n : Int} (h : I64 n) : IntKind.u64.wrap (IntKind.u64.wrap n + 9223372036854775808) = n + 9223372036854775808 ∧ (0 ≤ n + 9223372036854775808 ∧ n + 9223372036854775808 < 18446744073709551616) ∧ IntKind.u64.wrap (IntKind.u64.wrap n - 9223372036854775808) = n + 9223372036854775808 := by
  unfold I64 at h
  rw [wr_u64, wr_u64, wr_u64]; omega
theorem esk_0 {c : Int} {u : ByteArray} (h : c = 4) : [[TV.v (.int .u8 (IntKind.u8.wrap c))]] = (c :: escT u 0).map by1 := by subst h; simp [escT, by1, wr_u8]
theorem esk_z {c : Int} {u : ByteArray} {j : Nat} (h : j < u.size) (hz : (((bs u).getD j 0).toNat : Int) = 0) : (c :: escT u j).map by1 ++ [[TV.v (.int .u8 (((bs u).getD j 0).toNat : Int))]] ++ [[TV.v (.int .u8 255)]] = (c :: escT u (j + 1)).map by1 := by
  rw [escT_succ h, hz]; simp [by1, esc1]
theorem esk_c {c : Int} {u : ByteArray} {j : Nat} (h : j < u.size) (hz : ¬ (((bs u).getD j 0).toNat : Int) = 0) : (c :: escT u j).map by1 ++ [[TV.v (.int .u8 (((bs u).getD j 0).toNat : Int))]] = (c :: escT u (j + 1)).map by1 := by
  rw [escT_succ h]
  generalize (((bs u).getD j 0).toNat : Int) = x at hz ⊢
  simp [by1, esc1, hz]
theorem biasT_X (v : Val) (hn : I64 v.n) : XMeets Tryd.prog 55 [.v (.int .u64 (IntKind.u64.wrap (IntKind.u64.wrap v.n - 9223372036854775808))), .v (.int .i64 8)] (.ow 5 1 ((beN (v.n + 9223372036854775808) 8).map by1) (nl_by1 _)) := by
  rw [(bias hn).2.2]; exact high8_X _ (bias hn).2.1.1 (bias hn).2.1.2
theorem biasF_X (v : Val) (hn : I64 v.n) : XMeets Tryd.prog 55 [.v (.int .u64 (IntKind.u64.wrap (IntKind.u64.wrap v.n + 9223372036854775808))), .v (.int .i64 8)] (.ow 5 1 ((beN (v.n + 9223372036854775808) 8).map by1) (nl_by1 _)) := by
  rw [(bias hn).1]; exact high8_X _ (bias hn).2.1.1 (bias hn).2.1.2
set_option maxRecDepth 20000 in
theorem bytes5_X (v : Val) (hn : I64 v.n) (hr : rightB v = true) : XMeets Tryd.prog 22 [valT v] (.ow 5 1 ((encB v).map by1) (nl_by1 _)) := by
  refine XMeets.of_X tabX_ok (avs := [valX v]) [(0, valX v)] (by kernel_rfl) Tryd.func22 rfl (by simp [PuL, Pu, valT]) (rfl) rfl rfl ?_
  intro B w0
  have h64 : v.k = 4 → v.t.size ≤ 64 := fun h4 => by simp [rightB, h4] at hr; exact hr.2
  conv => whnf
  cases hc1 : (decide (v.k = 2))
  · skip
    try simp only [bls] at hc1
    conv => whnf
    cases hc2 : (decide (v.k = 3))
    · skip
      try simp only [bls] at hc2
      conv => whnf
      cases hc3 : (decide (v.k = 4))
      · skip
        try simp only [bls] at hc3
        conv => whnf
        refine FinG.mk (some 1) ?_ (by rintro _ ⟨⟩; trivial)
        simp only [outs, List.length_map, List.length_append, List.length_take, List.length_drop, List.length_cons, List.length_nil, fr_by1]
        simp [encB, by1, *]; done
      · skip
        try simp only [bls] at hc3
        conv => whnf
        refine XT.loop tabX_ok (Y := Nat) [3, 5, 9, 39, 40, 41, 42, 43, 44, 45, 46, 47, 48, 49, 50, 51, 52, 53, 54, 55, 56, 57, 58, 59, 60] (fun k => [(5, .p (.v (.int .i64 k)) (nlv _)), (3, .row 1)]) (fun k => [(1, .row 5 1 ((v.k :: escT v.t k).map by1) (nl_by1 _))]) (fun k => k ≤ v.t.size) (fun k => v.t.size - k) 0 (Nat.zero_le _) ?_ ?_
        · skip
          refine ⟨?_, ?_, ?_⟩
          · skip
            repeat ((conv => whnf); first | exact True.intro | refine ⟨.rfl, ?_⟩ | refine ⟨.any, ?_⟩ | refine ⟨.nil, ?_⟩ | refine ⟨.int (by first | rfl | omega | (simp only [wrs]; omega)), ?_⟩)
          · skip
            repeat (first | exact LeVs.nil | ((conv => whnf); first | exact True.intro | exact .none | exact .row rfl | exact .row (esk_0 (by assumption)) | exact .row (esk_z (by omega) (by assumption)) | exact .row (esk_c (by omega) (by assumption)) | refine .cells ?_ | refine ⟨_, _, rfl, .rfl, ?_⟩ | refine ⟨_, _, rfl, .any, ?_⟩ | refine ⟨_, _, rfl, .nil, ?_⟩ | refine ⟨_, _, rfl, .int (by first | rfl | omega | (simp only [wrs]; omega)), ?_⟩ | refine ⟨?_, ?_⟩))
          · skip
            repeat (first | exact LeFr.nil | ((conv => whnf); first | exact True.intro | refine ⟨.rfl, ?_⟩ | refine ⟨_, _, rfl, rfl, ?_, ?_⟩))
        · skip
          rintro k hk
          have hsz := h64 (by assumption)
          conv => whnf
          cases hc4 : (decide ((↑k : Int) < (↑v.t.size : Int)))
          · skip
            try simp only [bls] at hc4
            conv => whnf
            refine ⟨ApOk.lit rfl, ?_⟩
            conv => whnf
            refine ⟨by have := escT_len v.t k; simp only [List.length_map, List.length_append, List.length_cons, List.length_nil]; omega, ?_⟩
            conv => whnf
            refine FinG.mk (some 1) ?_ (by rintro _ ⟨⟩; trivial)
            simp only [outs, List.length_map, List.length_append, List.length_take, List.length_drop, List.length_cons, List.length_nil, fr_by1]
            obtain rfl : k = v.t.size := by omega
            rw [show v.k = 4 by assumption]
            simp [encB, escT_all, by1, *, wr_u8]
          · skip
            try simp only [bls] at hc4
            conv => whnf
            refine ⟨k, _, str_at (by omega), rfl, ?_⟩
            conv => whnf
            refine ⟨ApOk.lit rfl, ?_⟩
            conv => whnf
            refine ⟨by have := escT_len v.t k; simp only [List.length_map, List.length_append, List.length_cons, List.length_nil]; omega, ?_⟩
            conv => whnf
            refine ⟨k, _, str_at (by omega), rfl, ?_⟩
            conv => whnf
            cases hc5 : (decide ((↑((bs v.t).getD k 0).toNat : Int) = 0))
            · skip
              try simp only [bls] at hc5
              conv => whnf
              refine ⟨(k + 1), by omega, by omega, ?_⟩
              refine ⟨?_, ?_, ?_⟩
              · skip
                repeat ((conv => whnf); first | exact True.intro | refine ⟨.rfl, ?_⟩ | refine ⟨.any, ?_⟩ | refine ⟨.nil, ?_⟩ | refine ⟨.int (by first | rfl | omega | (simp only [wrs]; omega)), ?_⟩)
              · skip
                repeat (first | exact LeVs.nil | ((conv => whnf); first | exact True.intro | exact .none | exact .row rfl | exact .row (esk_0 (by assumption)) | exact .row (esk_z (by omega) (by assumption)) | exact .row (esk_c (by omega) (by assumption)) | refine .cells ?_ | refine ⟨_, _, rfl, .rfl, ?_⟩ | refine ⟨_, _, rfl, .any, ?_⟩ | refine ⟨_, _, rfl, .nil, ?_⟩ | refine ⟨_, _, rfl, .int (by first | rfl | omega | (simp only [wrs]; omega)), ?_⟩ | refine ⟨?_, ?_⟩))
              · skip
                repeat (first | exact LeFr.nil | ((conv => whnf); first | exact True.intro | refine ⟨.rfl, ?_⟩ | refine ⟨_, _, rfl, rfl, ?_, ?_⟩))
            · skip
              try simp only [bls] at hc5
              conv => whnf
              refine ⟨ApOk.lit rfl, ?_⟩
              conv => whnf
              refine ⟨by have := escT_len v.t k; simp only [List.length_map, List.length_append, List.length_cons, List.length_nil]; omega, ?_⟩
              conv => whnf
              refine ⟨(k + 1), by omega, by omega, ?_⟩
              refine ⟨?_, ?_, ?_⟩
              · skip
                repeat ((conv => whnf); first | exact True.intro | refine ⟨.rfl, ?_⟩ | refine ⟨.any, ?_⟩ | refine ⟨.nil, ?_⟩ | refine ⟨.int (by first | rfl | omega | (simp only [wrs]; omega)), ?_⟩)
              · skip
                repeat (first | exact LeVs.nil | ((conv => whnf); first | exact True.intro | exact .none | exact .row rfl | exact .row (esk_0 (by assumption)) | exact .row (esk_z (by omega) (by assumption)) | exact .row (esk_c (by omega) (by assumption)) | refine .cells ?_ | refine ⟨_, _, rfl, .rfl, ?_⟩ | refine ⟨_, _, rfl, .any, ?_⟩ | refine ⟨_, _, rfl, .nil, ?_⟩ | refine ⟨_, _, rfl, .int (by first | rfl | omega | (simp only [wrs]; omega)), ?_⟩ | refine ⟨?_, ?_⟩))
              · skip
                repeat (first | exact LeFr.nil | ((conv => whnf); first | exact True.intro | refine ⟨.rfl, ?_⟩ | refine ⟨_, _, rfl, rfl, ?_, ?_⟩))
    · skip
      try simp only [bls] at hc2
      conv => whnf
      cases hc6 : (decide (v.n < 0))
      · skip
        try simp only [bls] at hc6
        conv => whnf
        refine .ct ?_
        conv => whnf
        refine CallG.mk (biasF_X v hn) rfl ?_
        conv => whnf
        refine .ct ?_
        conv => whnf
        refine CallG.mk (both1_X _ _ [_] _ (by simp) (by rw [beN_len]; omega)) rfl ?_
        conv => whnf
        rw [show (decide (v.k = 4)) = false from decide_eq_false (by omega)]
        conv => whnf
        refine FinG.mk (some 3) ?_ (by rintro _ ⟨⟩; trivial)
        simp only [outs, List.length_map, List.length_append, List.length_take, List.length_drop, List.length_cons, List.length_nil, fr_by1]
        simp [encB, by1, *]; done
      · skip
        try simp only [bls] at hc6
        conv => whnf
        refine .ct ?_
        conv => whnf
        refine CallG.mk (biasT_X v hn) rfl ?_
        conv => whnf
        refine .ct ?_
        conv => whnf
        refine CallG.mk (both1_X _ _ [_] _ (by simp) (by rw [beN_len]; omega)) rfl ?_
        conv => whnf
        rw [show (decide (v.k = 4)) = false from decide_eq_false (by omega)]
        conv => whnf
        refine FinG.mk (some 3) ?_ (by rintro _ ⟨⟩; trivial)
        simp only [outs, List.length_map, List.length_append, List.length_take, List.length_drop, List.length_cons, List.length_nil, fr_by1]
        simp [encB, by1, *]; done
  · skip
    try simp only [bls] at hc1
    conv => whnf
    simp (disch := omega) only [wz, Int.reduceAdd, Int.reduceSub, Int.reduceMul, Int.reduceNeg, Int.zero_add, Int.add_zero, Int.sub_zero, Int.sub_self]
    conv => whnf
    refine ⟨ApOk.lit rfl, ?_⟩
    conv => whnf
    refine ⟨by simp only [List.length_map, List.length_append, beN_len, List.length_cons, List.length_nil, List.length_replicate, List.length_drop]; omega, ?_⟩
    conv => whnf
    rw [show (decide (v.k = 3)) = false from decide_eq_false (by omega)]
    conv => whnf
    rw [show (decide (v.k = 4)) = false from decide_eq_false (by omega)]
    conv => whnf
    refine FinG.mk (some 1) ?_ (by rintro _ ⟨⟩; trivial)
    simp only [outs, List.length_map, List.length_append, List.length_take, List.length_drop, List.length_cons, List.length_nil, fr_by1]
    rw [show v.k = 2 by assumption]
    simp [encB, by1, *, wr_u8]
set_option maxRecDepth 20000 in
theorem lBytes_X (b : Bool) (v : Val) (l : List Int) (hn : I64 v.n) (hB : isB1 l) : XMeets Tryd.prog 5 [valT v, .sl b (l.map by1)] (.p (.v (.bool true)) (nlv _)) := by
  refine XMeets.of_X tabX_ok (avs := [valX v, .p (.sl false (l.map by1)) (nl_by1 _).sl]) [(0, valX v), (1, .p (.sl false (l.map by1)) (nl_by1 _).sl)] (by kernel_rfl) Tryd.func5 rfl (by simp [PuL, Pu, valT, pu_by1]) (by simp only [untagL, untag, ut_by1]; rfl) rfl rfl ?_
  intro B w0
  cases hr : rightB v
  · skip
    have hk : checkN v = 150 := by simp [checkN, hr]
    have he : encV v = [] := by simp [encV, hr]
    conv => whnf
    refine .ct ?_
    conv => whnf
    refine CallG.mk (wakes_X) rfl ?_
    conv => whnf
    refine .ct ?_
    conv => whnf
    refine CallG.mk (long_X _ [v] (Nat.le_of_ble_eq_true rfl)) rfl ?_
    conv => whnf
    cases hc1 : (longB [v])
    · skip
      try simp only [bls] at hc1
      conv => whnf
      cases hc2 : (decide (1000 < (↑(List.map by1 l).length : Int)))
      · skip
        try simp only [bls] at hc2
        conv => whnf
        refine ⟨ap_by1 _, ?_⟩
        conv => whnf
        refine ⟨by simp only [List.length_map, List.length_append, beN_len, List.length_cons, List.length_nil, List.length_replicate, List.length_drop]; omega, ?_⟩
        conv => whnf
        refine .ct ?_
        conv => whnf
        refine CallG.mk (decode_X _ l hB (by omega)) rfl ?_
        conv => whnf
        refine .ct ?_
        conv => whnf
        refine CallG.mk (decode5_X _ _ hB (by omega)) rfl ?_
        conv => whnf
        refine BinG.mk rfl rfl (neVal_run _ _ _ _ _ _ _ _) ?_
        conv => whnf
        rw [show (!eqV { k := (decP l).fst.k, n := (decP l).fst.n, t := (decP l).fst.t } { k := (decP l).fst.k, n := (decP l).fst.n, t := (decP l).fst.t }) = false from by simp [List.length_map, List.length_append, List.length_take, List.length_drop, List.length_cons, List.length_nil, fr_by1, eqV_self, hr, hk, he, eqL_self]; done]
        conv => whnf
        rw [show (!decide ((decP l).snd.fst = (decP l).snd.fst)) = false from by simp [List.length_map, List.length_append, List.length_take, List.length_drop, List.length_cons, List.length_nil, fr_by1, eqV_self, hr, hk, he, eqL_self]; done]
        conv => whnf
        rw [show (!decide ((decP l).snd.snd = (decP l).snd.snd)) = false from by simp [List.length_map, List.length_append, List.length_take, List.length_drop, List.length_cons, List.length_nil, fr_by1, eqV_self, hr, hk, he, eqL_self]; done]
        conv => whnf
        refine .ct ?_
        conv => whnf
        refine CallG.mk (encode_X v hn) rfl ?_
        conv => whnf
        refine .ct ?_
        conv => whnf
        refine CallG.mk (right_X _) rfl ?_
        conv => whnf
        refine bT (by simp [List.length_map, List.length_append, List.length_take, List.length_drop, List.length_cons, List.length_nil, fr_by1, eqV_self, hr, hk, he, eqL_self]; done) ?_
        conv => whnf
        rw [show (decide ((↑(List.map by1 (encV v)).length : Int) = 0)) = true from by simp only [wrs, decide_eq_true_eq, List.length_map, List.length_append, List.length_take, List.length_drop, List.length_cons, List.length_nil, fr_by1, eqV_self, hr, hk, he, eqL_self]; omega]
        conv => whnf
        refine FinG.mk none ?_ (by rintro _ ⟨⟩)
        simp only [outs, List.length_map, List.length_append, List.length_take, List.length_drop, List.length_cons, List.length_nil, fr_by1, eqV_self, hr, hk, he, eqL_self]
        simp; done
      · skip
        try simp only [bls] at hc2
        conv => whnf
        refine FinG.mk none ?_ (by rintro _ ⟨⟩)
        simp only [outs, List.length_map, List.length_append, List.length_take, List.length_drop, List.length_cons, List.length_nil, fr_by1, eqV_self, hr, hk, he, eqL_self]
    · skip
      try simp only [bls] at hc1
      conv => whnf
      refine FinG.mk none ?_ (by rintro _ ⟨⟩)
      simp only [outs, List.length_map, List.length_append, List.length_take, List.length_drop, List.length_cons, List.length_nil, fr_by1, eqV_self, hr, hk, he, eqL_self]
  · skip
    have hk : checkN v = 0 := by simp [checkN, hr]
    have he : encV v = encB v := by simp [encV, hr]
    conv => whnf
    refine .ct ?_
    conv => whnf
    refine CallG.mk (wakes_X) rfl ?_
    conv => whnf
    refine .ct ?_
    conv => whnf
    refine CallG.mk (long_X _ [v] (Nat.le_of_ble_eq_true rfl)) rfl ?_
    conv => whnf
    cases hc3 : (longB [v])
    · skip
      try simp only [bls] at hc3
      conv => whnf
      cases hc4 : (decide (1000 < (↑(List.map by1 l).length : Int)))
      · skip
        try simp only [bls] at hc4
        conv => whnf
        refine ⟨ap_by1 _, ?_⟩
        conv => whnf
        refine ⟨by simp only [List.length_map, List.length_append, beN_len, List.length_cons, List.length_nil, List.length_replicate, List.length_drop]; omega, ?_⟩
        conv => whnf
        refine .ct ?_
        conv => whnf
        refine CallG.mk (decode_X _ l hB (by omega)) rfl ?_
        conv => whnf
        refine .ct ?_
        conv => whnf
        refine CallG.mk (decode5_X _ _ hB (by omega)) rfl ?_
        conv => whnf
        refine BinG.mk rfl rfl (neVal_run _ _ _ _ _ _ _ _) ?_
        conv => whnf
        rw [show (!eqV { k := (decP l).fst.k, n := (decP l).fst.n, t := (decP l).fst.t } { k := (decP l).fst.k, n := (decP l).fst.n, t := (decP l).fst.t }) = false from by simp [List.length_map, List.length_append, List.length_take, List.length_drop, List.length_cons, List.length_nil, fr_by1, eqV_self, hr, hk, he, eqL_self]; done]
        conv => whnf
        rw [show (!decide ((decP l).snd.fst = (decP l).snd.fst)) = false from by simp [List.length_map, List.length_append, List.length_take, List.length_drop, List.length_cons, List.length_nil, fr_by1, eqV_self, hr, hk, he, eqL_self]; done]
        conv => whnf
        rw [show (!decide ((decP l).snd.snd = (decP l).snd.snd)) = false from by simp [List.length_map, List.length_append, List.length_take, List.length_drop, List.length_cons, List.length_nil, fr_by1, eqV_self, hr, hk, he, eqL_self]; done]
        conv => whnf
        refine .ct ?_
        conv => whnf
        refine CallG.mk (encode_X v hn) rfl ?_
        conv => whnf
        refine .ct ?_
        conv => whnf
        refine CallG.mk (right_X _) rfl ?_
        conv => whnf
        refine bF (by simp [List.length_map, List.length_append, List.length_take, List.length_drop, List.length_cons, List.length_nil, fr_by1, eqV_self, hr, hk, he, eqL_self]; done) ?_
        conv => whnf
        rw [show (decide (checkN v = 0)) = true from decide_eq_true (by omega)]
        conv => whnf
        refine .ct ?_
        conv => whnf
        refine CallG.mk (bytes5_X _ hn (by assumption)) rfl ?_
        conv => whnf
        refine .ct ?_
        conv => whnf
        refine CallG.mk (same1_X _ _ (encV v) (encB v) (by have := enc_len hr; omega)) rfl ?_
        conv => whnf
        refine FinG.mk none ?_ (by rintro _ ⟨⟩)
        simp only [outs, List.length_map, List.length_append, List.length_take, List.length_drop, List.length_cons, List.length_nil, fr_by1, eqV_self, hr, hk, he, eqL_self]
      · skip
        try simp only [bls] at hc4
        conv => whnf
        refine FinG.mk none ?_ (by rintro _ ⟨⟩)
        simp only [outs, List.length_map, List.length_append, List.length_take, List.length_drop, List.length_cons, List.length_nil, fr_by1, eqV_self, hr, hk, he, eqL_self]
    · skip
      try simp only [bls] at hc3
      conv => whnf
      refine FinG.mk none ?_ (by rintro _ ⟨⟩)
      simp only [outs, List.length_map, List.length_append, List.length_take, List.length_drop, List.length_cons, List.length_nil, fr_by1, eqV_self, hr, hk, he, eqL_self]
theorem decE_X (b : Bool) (l : List Int) (hB : isB1 l) (hl : l.length ≤ 1000000) {x : Val} {n e : Int} (h : decP l = (x, n, e)) : XMeets Tryd.prog 17 [.sl b (l.map by1)] (.tu [valX x, .p (.v (.int .i64 n)) (nlv _), .p (.v (.int .i64 e)) (nlv _)]) := by
  have h2 := decode_X b l hB hl
  rw [h] at h2; exact h2
theorem decA_X (b : Bool) {v : Val} (hr : rightB v = true) (hn : I64 v.n) {l : List Int} (hB : isB1 l) (hl : l.length ≤ 1000) : XMeets Tryd.prog 17 [.sl b ((encV v).map by1 ++ l.map by1)] (.tu [valX v, .p (.v (.int .i64 ((encV v).length : Int))) (nlv _), .p (.v (.int .i64 0)) (nlv _)]) := by
  rw [← List.map_append]
  refine decE_X b _ (fun x hx => ?_) ?_ (back_all hr hn l)
  · rcases List.mem_append.1 hx with h | h
    · exact isB1_enc hr x h
    · exact hB x h
  · have := enc_len hr
    rw [List.length_append]; omega
theorem decC_X (b : Bool) {v : Val} (hr : rightB v = true) {j : Nat} (hj : j < (encV v).length) : XMeets Tryd.prog 17 [.sl b (((encV v).map by1).take j)] (.tu [valX (decP ((encV v).take j)).1, .p (.v (.int .i64 (decP ((encV v).take j)).2.1)) (nlv _), .p (.v (.int .i64 7)) (nlv _)]) := by
  rw [← List.map_take]
  have := enc_len hr
  refine decE_X b _ ((isB1_enc hr).take _) (by rw [List.length_take]; omega) ?_
  rw [← back_cut hr hj]
theorem cut_at (c : Int) {m : Nat} (h : 1 ≤ m) : ∃ j : Nat, (max c 0).tmod (m : Int) = (j : Int) ∧ j < m := by
  have h1 : 0 ≤ max c 0 := by omega
  refine ⟨((max c 0).tmod (m : Int)).toNat, (Int.toNat_of_nonneg (Int.tmod_nonneg _ h1)).symm, ?_⟩
  have h2 : (max c 0).tmod (m : Int) < m := Int.tmod_lt_of_pos _ (by omega)
  have h3 := Int.tmod_nonneg (m : Int) h1
  omega
theorem beqR_X (b b2 : Bool) {x : Val} {l : List Int} {n : Nat} (h : encV x = l.take n) : XMeets Tryd.prog 23 [.sl b ((encV x).map by1), .sl b2 ((l.map by1).take n)] (.p (.v (.bool true)) (nlv _)) := by
  have h2 := beq_X b b2 (encV x) (l.take n)
  rw [show bsEq (strOfNums (encV x)) (strOfNums (l.take n)) = true by rw [h]; simp [bsEq], List.map_take] at h2
  exact h2
theorem back_cases {l : List Int} (hB : isB1 l) : (∃ x : Val, ∃ n : Nat, decP l = (x, (n : Int), 0) ∧ rightB x = true ∧ checkN x = 0 ∧ I64 x.n ∧ n ≤ l.length ∧ encV x = l.take n) ∨ (∃ (x : Val) (n e : Int), decP l = (x, n, e) ∧ ¬ e = 0) := by
  by_cases h : (decP l).2.2 = 0
  · obtain ⟨h1, h2, n, h3, h4, h5⟩ := back_dec hB h
    refine .inl ⟨_, n, ?_, h1, ?_, h2, h4, h5⟩
    · rw [← h3, ← h]
    · rw [checkN_0]; exact h1
  · exact .inr ⟨_, _, _, rfl, h⟩
set_option maxRecDepth 20000 in
theorem lBack1_X (b : Bool) (v : Val) (cut : Int) (l : List Int) (hn : I64 v.n) (hB : isB1 l) (x : Val) (n : Nat) (hd : decP l = (x, (n : Int), 0)) (hx : checkN x = 0) (hxn : I64 x.n) (hnl : n ≤ l.length) (hen : encV x = l.take n) : XMeets Tryd.prog 6 [valT v, .v (.int .i64 cut), .sl b (l.map by1)] (.p (.v (.bool true)) (nlv _)) := by
  refine XMeets.of_X tabX_ok (avs := [valX v, .p (.v (.int .i64 cut)) (nlv _), .p (.sl false (l.map by1)) (nl_by1 _).sl]) [(0, valX v), (1, .p (.v (.int .i64 cut)) (nlv _)), (2, .p (.sl false (l.map by1)) (nl_by1 _).sl)] (by kernel_rfl) Tryd.func6 rfl (by simp [PuL, Pu, valT, pu_by1]) (by simp only [untagL, untag, ut_by1]; rfl) rfl rfl ?_
  intro B w0
  cases hr : rightB v
  · skip
    have hk : checkN v = 150 := by simp [checkN, hr]
    have he : encV v = [] := by simp [encV, hr]
    conv => whnf
    refine .ct ?_
    conv => whnf
    refine CallG.mk (wakes_X) rfl ?_
    conv => whnf
    refine .ct ?_
    conv => whnf
    refine CallG.mk (long_X _ [v] (Nat.le_of_ble_eq_true rfl)) rfl ?_
    conv => whnf
    cases hc1 : (longB [v])
    · skip
      try simp only [bls] at hc1
      conv => whnf
      cases hc2 : (decide (1000 < (↑(List.map by1 l).length : Int)))
      · skip
        try simp only [bls] at hc2
        conv => whnf
        refine .ct ?_
        conv => whnf
        refine CallG.mk (decE_X _ l hB (by omega) hd) rfl ?_
        conv => whnf
        refine .ct ?_
        conv => whnf
        refine CallG.mk (encode_X x hxn) rfl ?_
        conv => whnf
        rw [show (!decide (checkN x = 0)) = false from by simp [List.length_map, List.length_append, List.length_take, List.length_drop, List.length_cons, List.length_nil, fr_by1, eqV_self, hr, hk, he, hx]; done]
        conv => whnf
        rw [show (decide ((↑(List.map by1 l).length : Int) < (↑n : Int))) = false from decide_eq_false (by rw [List.length_map]; omega)]
        conv => whnf
        refine ⟨_, rfl, ?_⟩
        conv => whnf
        refine ⟨by omega, ?_⟩
        conv => whnf
        refine ⟨by simp only [bls]; omega, ?_⟩
        conv => whnf
        refine ⟨len_by1 _, ?_⟩
        conv => whnf
        refine .ct ?_
        conv => whnf
        refine CallG.mk (beqR_X _ _ hen) rfl ?_
        conv => whnf
        refine .ct ?_
        conv => whnf
        refine CallG.mk (encode_X v hn) rfl ?_
        conv => whnf
        rw [show (!decide (checkN v = 0)) = true from by simp [List.length_map, List.length_append, List.length_take, List.length_drop, List.length_cons, List.length_nil, fr_by1, eqV_self, hr, hk, he, hx]; done]
        conv => whnf
        refine FinG.mk none ?_ (by rintro _ ⟨⟩)
        simp only [outs, List.length_map, List.length_append, List.length_take, List.length_drop, List.length_cons, List.length_nil, fr_by1, eqV_self, hr, hk, he, hx]
        simp; done
      · skip
        try simp only [bls] at hc2
        conv => whnf
        refine FinG.mk none ?_ (by rintro _ ⟨⟩)
        simp only [outs, List.length_map, List.length_append, List.length_take, List.length_drop, List.length_cons, List.length_nil, fr_by1, eqV_self, hr, hk, he, hx]
    · skip
      try simp only [bls] at hc1
      conv => whnf
      refine FinG.mk none ?_ (by rintro _ ⟨⟩)
      simp only [outs, List.length_map, List.length_append, List.length_take, List.length_drop, List.length_cons, List.length_nil, fr_by1, eqV_self, hr, hk, he, hx]
  · skip
    have hk : checkN v = 0 := by simp [checkN, hr]
    have hL := enc_len hr
    have he : True := trivial
    obtain ⟨j, hj1, hj2⟩ := cut_at cut hL.1
    conv => whnf
    refine .ct ?_
    conv => whnf
    refine CallG.mk (wakes_X) rfl ?_
    conv => whnf
    refine .ct ?_
    conv => whnf
    refine CallG.mk (long_X _ [v] (Nat.le_of_ble_eq_true rfl)) rfl ?_
    conv => whnf
    cases hc3 : (longB [v])
    · skip
      try simp only [bls] at hc3
      conv => whnf
      cases hc4 : (decide (1000 < (↑(List.map by1 l).length : Int)))
      · skip
        try simp only [bls] at hc4
        conv => whnf
        refine .ct ?_
        conv => whnf
        refine CallG.mk (decE_X _ l hB (by omega) hd) rfl ?_
        conv => whnf
        refine .ct ?_
        conv => whnf
        refine CallG.mk (encode_X x hxn) rfl ?_
        conv => whnf
        rw [show (!decide (checkN x = 0)) = false from by simp [List.length_map, List.length_append, List.length_take, List.length_drop, List.length_cons, List.length_nil, fr_by1, eqV_self, hr, hk, he, hx]; done]
        conv => whnf
        rw [show (decide ((↑(List.map by1 l).length : Int) < (↑n : Int))) = false from decide_eq_false (by rw [List.length_map]; omega)]
        conv => whnf
        refine ⟨_, rfl, ?_⟩
        conv => whnf
        refine ⟨by omega, ?_⟩
        conv => whnf
        refine ⟨by simp only [bls]; omega, ?_⟩
        conv => whnf
        refine ⟨len_by1 _, ?_⟩
        conv => whnf
        refine .ct ?_
        conv => whnf
        refine CallG.mk (beqR_X _ _ hen) rfl ?_
        conv => whnf
        refine .ct ?_
        conv => whnf
        refine CallG.mk (encode_X v hn) rfl ?_
        conv => whnf
        rw [show (!decide (checkN v = 0)) = false from by simp [List.length_map, List.length_append, List.length_take, List.length_drop, List.length_cons, List.length_nil, fr_by1, eqV_self, hr, hk, he, hx]; done]
        conv => whnf
        refine ⟨ap_by1 _, ?_⟩
        conv => whnf
        refine ⟨by simp only [List.length_map, List.length_append, beN_len, List.length_cons, List.length_nil, List.length_replicate, List.length_drop]; omega, ?_⟩
        conv => whnf
        refine ⟨ap_by1 _, ?_⟩
        conv => whnf
        refine ⟨by simp only [List.length_map, List.length_append, beN_len, List.length_cons, List.length_nil, List.length_replicate, List.length_drop]; omega, ?_⟩
        conv => whnf
        refine .ct ?_
        conv => whnf
        refine CallG.mk (decA_X _ hr hn hB (by omega)) rfl ?_
        conv => whnf
        rw [show (decide ((↑(List.map by1 (encV v)).length : Int) = 0)) = false from decide_eq_false (by rw [List.length_map]; omega)]
        conv => whnf
        refine ⟨j, by rw [List.length_map]; exact hj1, ?_⟩
        conv => whnf
        refine ⟨by omega, ?_⟩
        conv => whnf
        refine ⟨by simp only [bls]; omega, ?_⟩
        conv => whnf
        refine ⟨len_by1 _, ?_⟩
        conv => whnf
        refine .ct ?_
        conv => whnf
        refine CallG.mk (decC_X _ hr hj2) rfl ?_
        conv => whnf
        rw [show (decide ((↑(encV v).length : Int) = (↑(List.map by1 (encV v)).length : Int))) = true from by simp [List.length_map, List.length_append, List.length_take, List.length_drop, List.length_cons, List.length_nil, fr_by1, eqV_self, hr, hk, he, hx]; done]
        conv => whnf
        refine BinG.mk rfl rfl (eqVal_run _ _ _ _ _ _ _ _) ?_
        conv => whnf
        rw [show (eqV { k := v.k, n := v.n, t := v.t } { k := v.k, n := v.n, t := v.t }) = true from by simp [List.length_map, List.length_append, List.length_take, List.length_drop, List.length_cons, List.length_nil, fr_by1, eqV_self, hr, hk, he, hx]; done]
        conv => whnf
        refine FinG.mk none ?_ (by rintro _ ⟨⟩)
        simp only [outs, List.length_map, List.length_append, List.length_take, List.length_drop, List.length_cons, List.length_nil, fr_by1, eqV_self, hr, hk, he, hx]
        simp; done
      · skip
        try simp only [bls] at hc4
        conv => whnf
        refine FinG.mk none ?_ (by rintro _ ⟨⟩)
        simp only [outs, List.length_map, List.length_append, List.length_take, List.length_drop, List.length_cons, List.length_nil, fr_by1, eqV_self, hr, hk, he, hx]
    · skip
      try simp only [bls] at hc3
      conv => whnf
      refine FinG.mk none ?_ (by rintro _ ⟨⟩)
      simp only [outs, List.length_map, List.length_append, List.length_take, List.length_drop, List.length_cons, List.length_nil, fr_by1, eqV_self, hr, hk, he, hx]
set_option maxRecDepth 20000 in
theorem lBack2_X (b : Bool) (v : Val) (cut : Int) (l : List Int) (hn : I64 v.n) (hB : isB1 l) (x : Val) (n e : Int) (hd : decP l = (x, n, e)) (hx : ¬ e = 0) : XMeets Tryd.prog 6 [valT v, .v (.int .i64 cut), .sl b (l.map by1)] (.p (.v (.bool true)) (nlv _)) := by
  refine XMeets.of_X tabX_ok (avs := [valX v, .p (.v (.int .i64 cut)) (nlv _), .p (.sl false (l.map by1)) (nl_by1 _).sl]) [(0, valX v), (1, .p (.v (.int .i64 cut)) (nlv _)), (2, .p (.sl false (l.map by1)) (nl_by1 _).sl)] (by kernel_rfl) Tryd.func6 rfl (by simp [PuL, Pu, valT, pu_by1]) (by simp only [untagL, untag, ut_by1]; rfl) rfl rfl ?_
  intro B w0
  cases hr : rightB v
  · skip
    have hk : checkN v = 150 := by simp [checkN, hr]
    have he : encV v = [] := by simp [encV, hr]
    conv => whnf
    refine .ct ?_
    conv => whnf
    refine CallG.mk (wakes_X) rfl ?_
    conv => whnf
    refine .ct ?_
    conv => whnf
    refine CallG.mk (long_X _ [v] (Nat.le_of_ble_eq_true rfl)) rfl ?_
    conv => whnf
    cases hc1 : (longB [v])
    · skip
      try simp only [bls] at hc1
      conv => whnf
      cases hc2 : (decide (1000 < (↑(List.map by1 l).length : Int)))
      · skip
        try simp only [bls] at hc2
        conv => whnf
        refine .ct ?_
        conv => whnf
        refine CallG.mk (decE_X _ l hB (by omega) hd) rfl ?_
        conv => whnf
        rw [show (decide (e = 0)) = false from decide_eq_false (by omega)]
        conv => whnf
        refine .ct ?_
        conv => whnf
        refine CallG.mk (encode_X v hn) rfl ?_
        conv => whnf
        rw [show (!decide (checkN v = 0)) = true from by simp [List.length_map, List.length_append, List.length_take, List.length_drop, List.length_cons, List.length_nil, fr_by1, eqV_self, hr, hk, he, hx]; done]
        conv => whnf
        refine FinG.mk none ?_ (by rintro _ ⟨⟩)
        simp only [outs, List.length_map, List.length_append, List.length_take, List.length_drop, List.length_cons, List.length_nil, fr_by1, eqV_self, hr, hk, he, hx]
        simp; done
      · skip
        try simp only [bls] at hc2
        conv => whnf
        refine FinG.mk none ?_ (by rintro _ ⟨⟩)
        simp only [outs, List.length_map, List.length_append, List.length_take, List.length_drop, List.length_cons, List.length_nil, fr_by1, eqV_self, hr, hk, he, hx]
    · skip
      try simp only [bls] at hc1
      conv => whnf
      refine FinG.mk none ?_ (by rintro _ ⟨⟩)
      simp only [outs, List.length_map, List.length_append, List.length_take, List.length_drop, List.length_cons, List.length_nil, fr_by1, eqV_self, hr, hk, he, hx]
  · skip
    have hk : checkN v = 0 := by simp [checkN, hr]
    have hL := enc_len hr
    have he : True := trivial
    obtain ⟨j, hj1, hj2⟩ := cut_at cut hL.1
    conv => whnf
    refine .ct ?_
    conv => whnf
    refine CallG.mk (wakes_X) rfl ?_
    conv => whnf
    refine .ct ?_
    conv => whnf
    refine CallG.mk (long_X _ [v] (Nat.le_of_ble_eq_true rfl)) rfl ?_
    conv => whnf
    cases hc3 : (longB [v])
    · skip
      try simp only [bls] at hc3
      conv => whnf
      cases hc4 : (decide (1000 < (↑(List.map by1 l).length : Int)))
      · skip
        try simp only [bls] at hc4
        conv => whnf
        refine .ct ?_
        conv => whnf
        refine CallG.mk (decE_X _ l hB (by omega) hd) rfl ?_
        conv => whnf
        rw [show (decide (e = 0)) = false from decide_eq_false (by omega)]
        conv => whnf
        refine .ct ?_
        conv => whnf
        refine CallG.mk (encode_X v hn) rfl ?_
        conv => whnf
        rw [show (!decide (checkN v = 0)) = false from by simp [List.length_map, List.length_append, List.length_take, List.length_drop, List.length_cons, List.length_nil, fr_by1, eqV_self, hr, hk, he, hx]; done]
        conv => whnf
        refine ⟨ap_by1 _, ?_⟩
        conv => whnf
        refine ⟨by simp only [List.length_map, List.length_append, beN_len, List.length_cons, List.length_nil, List.length_replicate, List.length_drop]; omega, ?_⟩
        conv => whnf
        refine ⟨ap_by1 _, ?_⟩
        conv => whnf
        refine ⟨by simp only [List.length_map, List.length_append, beN_len, List.length_cons, List.length_nil, List.length_replicate, List.length_drop]; omega, ?_⟩
        conv => whnf
        refine .ct ?_
        conv => whnf
        refine CallG.mk (decA_X _ hr hn hB (by omega)) rfl ?_
        conv => whnf
        rw [show (decide ((↑(List.map by1 (encV v)).length : Int) = 0)) = false from decide_eq_false (by rw [List.length_map]; omega)]
        conv => whnf
        refine ⟨j, by rw [List.length_map]; exact hj1, ?_⟩
        conv => whnf
        refine ⟨by omega, ?_⟩
        conv => whnf
        refine ⟨by simp only [bls]; omega, ?_⟩
        conv => whnf
        refine ⟨len_by1 _, ?_⟩
        conv => whnf
        refine .ct ?_
        conv => whnf
        refine CallG.mk (decC_X _ hr hj2) rfl ?_
        conv => whnf
        rw [show (decide ((↑(encV v).length : Int) = (↑(List.map by1 (encV v)).length : Int))) = true from by simp [List.length_map, List.length_append, List.length_take, List.length_drop, List.length_cons, List.length_nil, fr_by1, eqV_self, hr, hk, he, hx]; done]
        conv => whnf
        refine BinG.mk rfl rfl (eqVal_run _ _ _ _ _ _ _ _) ?_
        conv => whnf
        rw [show (eqV { k := v.k, n := v.n, t := v.t } { k := v.k, n := v.n, t := v.t }) = true from by simp [List.length_map, List.length_append, List.length_take, List.length_drop, List.length_cons, List.length_nil, fr_by1, eqV_self, hr, hk, he, hx]; done]
        conv => whnf
        refine FinG.mk none ?_ (by rintro _ ⟨⟩)
        simp only [outs, List.length_map, List.length_append, List.length_take, List.length_drop, List.length_cons, List.length_nil, fr_by1, eqV_self, hr, hk, he, hx]
        simp; done
      · skip
        try simp only [bls] at hc4
        conv => whnf
        refine FinG.mk none ?_ (by rintro _ ⟨⟩)
        simp only [outs, List.length_map, List.length_append, List.length_take, List.length_drop, List.length_cons, List.length_nil, fr_by1, eqV_self, hr, hk, he, hx]
    · skip
      try simp only [bls] at hc3
      conv => whnf
      refine FinG.mk none ?_ (by rintro _ ⟨⟩)
      simp only [outs, List.length_map, List.length_append, List.length_take, List.length_drop, List.length_cons, List.length_nil, fr_by1, eqV_self, hr, hk, he, hx]
theorem lBack_X (b : Bool) (v : Val) (cut : Int) (l : List Int) (hn : I64 v.n) (hB : isB1 l) : XMeets Tryd.prog 6 [valT v, .v (.int .i64 cut), .sl b (l.map by1)] (.p (.v (.bool true)) (nlv _)) := by
  rcases back_cases hB with ⟨x, n, h1, _, h3, h4, h5, h6⟩ | ⟨x, n, e, h1, h2⟩
  · exact lBack1_X b v cut l hn hB x n h1 h3 h4 h5 h6
  · exact lBack2_X b v cut l hn hB x n e h1 h2
end Go.Proofs.YtdcemcobldpcnaaDoor
