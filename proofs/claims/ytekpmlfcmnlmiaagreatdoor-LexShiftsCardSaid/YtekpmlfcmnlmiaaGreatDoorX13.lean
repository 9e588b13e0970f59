/- Blanks and a remark ahead: the walk of LexShifts. Condition: what the package-level variables hold. -/
import Derived.Test.YtekpmlfcmnlmiaaGreatDoorJT
import Derived.Test.YtekpmlfcmnlmiaaGreatDoorX10
namespace Go.Proofs.YtekpmlfcmnlmiaaGreatDoor
open Go.RowKit
set_option linter.unusedVariables false
set_option linter.unusedSimpArgs false
set_option maxRecDepth 20000
theorem sz1b (c : UInt8) : (⟨#[c]⟩ : ByteArray).size = 1 := rfl
theorem sz2b (c d : UInt8) : (⟨#[c, d]⟩ : ByteArray).size = 2 := rfl
theorem szA {x y : Nat} (h : IntKind.i64.wrap ((x : Int) + (y : Int)) ≤ 1024) (hy : y ≤ 100) (hx : (x : Int) ≤ 1025) : (x : Int) + (y : Int) ≤ 1024 := by
  simp only [wrs] at h
  omega
theorem shP_w {s : ByteArray} {d : Nat} (h : ¬ (lexT s).2.1 = 0) (hb : 0 ≤ (lexT s).2.2 ∧ (lexT s).2.2 ≤ (s.size : Int)) (hz : (s.size : Int) + (d : Int) ≤ 1024) : (!decide (shP s d = IntKind.i64.wrap ((lexT s).2.2 + (d : Int)))) = false := by
  have e : shP s d = IntKind.i64.wrap ((lexT s).2.2 + (d : Int)) := by
    rw [shP_ne h]
    simp only [wrs]
    omega
  rw [decide_eq_true e]; rfl
theorem sh_a {y : Yl} {d x : Nat} (h : 0 ≤ y.a ∧ y.a ≤ 1024 ∧ 0 ≤ y.z ∧ y.z ≤ 1024) (hz : (x : Int) + (d : Int) ≤ 1024) : (!decide ((shY d y).a = IntKind.i64.wrap (y.a + (d : Int)))) = false := by
  have e : (shY d y).a = IntKind.i64.wrap (y.a + (d : Int)) := by
    show y.a + (d : Int) = _
    simp only [wrs]
    omega
  rw [decide_eq_true e]; rfl
theorem sh_z {y : Yl} {d x : Nat} (h : 0 ≤ y.a ∧ y.a ≤ 1024 ∧ 0 ≤ y.z ∧ y.z ≤ 1024) (hz : (x : Int) + (d : Int) ≤ 1024) : (!decide ((shY d y).z = IntKind.i64.wrap (y.z + (d : Int)))) = false := by
  have e : (shY d y).z = IntKind.i64.wrap (y.z + (d : Int)) := by
    show y.z + (d : Int) = _
    simp only [wrs]
    omega
  rw [decide_eq_true e]; rfl
theorem sh_a0 {y : Yl} {d : Nat} : (!decide ((shY d y).a = y.a + (d : Int))) = false := by rw [decide_eq_true (show (shY d y).a = y.a + (d : Int) from rfl)]; rfl
theorem m9 (n : Int) : 0 ≤ IntKind.i64.wrap ((IntKind.u64.wrap n).tmod 9) ∧ IntKind.i64.wrap ((IntKind.u64.wrap n).tmod 9) ≤ 8 := by
  have h0 : 0 ≤ IntKind.u64.wrap n := by simp only [wrs]; omega
  rw [Int.tmod_eq_emod_of_nonneg h0]
  generalize IntKind.u64.wrap n = u at *
  simp only [wrs]
  omega
attribute [local irreducible] lexT smeL shP repS hasNl
set_option maxHeartbeats 4000000 in
set_option maxRecDepth 20000 in
theorem lShifts_X (s : ByteArray) (n : Int) (hn : -9223372036854775808 ≤ n ∧ n < 9223372036854775808) (r : ByteArray) : XMeets Tryz.prog 4 [.v (.string s), .v (.int .i64 n), .v (.string r)] (.p (.v (.bool (true))) (nlv _)) := by
  refine XMeets.of_X tabX_ok (avs := [.p (.v (.string s)) (nlv _), .p (.v (.int .i64 n)) (nlv _), .p (.v (.string r)) (nlv _)]) [(0, .p (.v (.string s)) (nlv _)), (1, .p (.v (.int .i64 n)) (nlv _)), (2, .p (.v (.string r)) (nlv _))] (by kernel_rfl) Tryz.func4 rfl (by simp [PuL, Pu]) (rfl) rfl rfl ?_
  intro B w0
  have hm9 := (m9 n).2
  have hrs := rep_size (m9 n).1
  have hbs := begS_size 1025 (by omega) s
  have hbd := (lex_bd (begS 1025 s)).2
  have hbl := (lex_bd (begS 1025 s)).1
  have hll := lex_len (begS 1025 s)
  conv => whnf
  refine .ct ?_
  conv => whnf
  refine CallG.mk (wakes_X) rfl ?_
  conv => whnf
  refine .ct ?_
  conv => whnf
  refine CallG.mk (text_X _) rfl ?_
  conv => whnf
  refine .ct ?_
  conv => whnf
  refine CallG.mk (repeat_X _ (m9 n).1 (m9 n).2) rfl ?_
  conv => whnf
  simp (disch := omega) only [wz, Int.reduceAdd, Int.reduceSub, Int.reduceMul, Int.reduceNeg, Int.zero_add, Int.add_zero, Int.sub_zero, Int.sub_self]
  conv => whnf
  refine ⟨by simp only [ByteArray.size_append, sz1b, sz2b]; omega, ?_⟩
  conv => whnf
  refine .ct ?_
  conv => whnf
  refine CallG.mk (contains1_X _) rfl ?_
  conv => whnf
  refine bS (fun hc1 => ?_) (fun hc1 => ?_)
  · skip
    try simp only [bls] at hc1
    conv => whnf
    refine bT (notT (by assumption)) ?_
    conv => whnf
    refine bT (notT (by assumption)) ?_
    conv => whnf
    refine bT (notT (by assumption)) ?_
    conv => whnf
    refine bS (fun hc2 => ?_) (fun hc2 => ?_)
    · skip
      try simp only [bls] at hc2
      conv => whnf
      refine ⟨by simp only [ByteArray.size_append, sz1b, sz2b]; omega, ?_⟩
      conv => whnf
      refine ⟨by simp only [ByteArray.size_append, sz1b, sz2b]; omega, ?_⟩
      conv => whnf
      simp (disch := omega) only [wz, Int.reduceAdd, Int.reduceSub, Int.reduceMul, Int.reduceNeg, Int.zero_add, Int.add_zero, Int.sub_zero, Int.sub_self]
      conv => whnf
      refine ⟨by simp only [ByteArray.size_append, sz1b, sz2b]; omega, ?_⟩
      conv => whnf
      refine bS (fun hc3 => ?_) (fun hc3 => ?_)
      · skip
        try simp only [bls] at hc3
        try simp (disch := omega) only [wz, Int.reduceAdd, Int.reduceSub, Int.reduceMul, Int.reduceNeg, Int.zero_add, Int.add_zero, Int.sub_zero, Int.sub_self] at hc3
        conv => whnf
        refine FinG.mk none ?_ (by rintro _ ⟨⟩)
        simp only [outs, List.length_map, List.length_append, List.length_take, List.length_drop, List.length_cons, List.length_nil]
      · skip
        try simp only [bls] at hc3
        try simp (disch := omega) only [wz, Int.reduceAdd, Int.reduceSub, Int.reduceMul, Int.reduceNeg, Int.zero_add, Int.add_zero, Int.sub_zero, Int.sub_self] at hc3
        have hAz := szA (by assumption) (by simp only [ByteArray.size_append, sz1b, sz2b]; omega) hbs
        conv => whnf
        refine .ct ?_
        conv => whnf
        refine CallG.mk (lex_X (begS 1025 s) (by omega)) rfl ?_
        conv => whnf
        simp (disch := omega) only [wz, Int.reduceAdd, Int.reduceSub, Int.reduceMul, Int.reduceNeg, Int.zero_add, Int.add_zero, Int.sub_zero, Int.sub_self]
        conv => whnf
        refine ⟨by omega, ?_⟩
        conv => whnf
        refine .ct ?_
        conv => whnf
        refine CallG.mk (lexSh (ah2 _ (by assumption)) hAz) rfl ?_
        conv => whnf
        refine bF (by simp [List.length_map, List.length_append, List.length_take, List.length_drop, List.length_cons, List.length_nil]; done) ?_
        conv => whnf
        refine bF (by simp [List.length_map, List.length_append, List.length_take, List.length_drop, List.length_cons, List.length_nil]; done) ?_
        conv => whnf
        refine bF (by simp [List.length_map, List.length_append, List.length_take, List.length_drop, List.length_cons, List.length_nil]; done) ?_
        conv => whnf
        refine bF (by simp [List.length_map, List.length_append, List.length_take, List.length_drop, List.length_cons, List.length_nil]; done) ?_
        conv => whnf
        refine bS (fun hc4 => ?_) (fun hc4 => ?_)
        · skip
          try simp only [bls] at hc4
          conv => whnf
          refine bT (by simp only [Bool.not_eq_true', decide_eq_false_iff_not]; assumption) ?_
          conv => whnf
          refine bT (by simp only [Bool.not_eq_true', decide_eq_false_iff_not]; assumption) ?_
          conv => whnf
          refine bT (by simp only [Bool.not_eq_true', decide_eq_false_iff_not]; assumption) ?_
          conv => whnf
          refine bT (by simp only [Bool.not_eq_true', decide_eq_false_iff_not]; assumption) ?_
          conv => whnf
          refine bT (by simp only [Bool.not_eq_true', decide_eq_false_iff_not]; assumption) ?_
          conv => whnf
          refine bT (by simp only [Bool.not_eq_true', decide_eq_false_iff_not]; assumption) ?_
          conv => whnf
          refine bT (by simp only [Bool.not_eq_true', decide_eq_false_iff_not]; assumption) ?_
          conv => whnf
          refine bF (by simp [List.length_map, List.length_append, List.length_take, List.length_drop, List.length_cons, List.length_nil]; done) ?_
          conv => whnf
          refine bT (by simp only [Bool.not_eq_true', decide_eq_false_iff_not]; assumption) ?_
          conv => whnf
          refine bF (by simp [List.length_map, List.length_append, List.length_take, List.length_drop, List.length_cons, List.length_nil]; done) ?_
          conv => whnf
          refine bF (shP_w (by assumption) hbd hAz) ?_
          conv => whnf
          refine bF (shP_w (by assumption) hbd hAz) ?_
          conv => whnf
          refine bF (shP_w (by assumption) hbd hAz) ?_
          conv => whnf
          refine .ct ?_
          conv => whnf
          refine CallG.mk (same_X _ _ (lexT (begS 1025 s)).1 ((lexT (begS 1025 s)).1.map (shY _)) (by omega)) rfl ?_
          conv => whnf
          refine bF (shP_w (by assumption) hbd hAz) ?_
          conv => whnf
          refine bF (shP_w (by assumption) hbd hAz) ?_
          conv => whnf
          refine bF (by rw [sme_sh]; rfl) ?_
          conv => whnf
          refine XT.loop tabX_ok (Y := Nat) [6, 12, 83, 84, 85, 86, 87, 88, 89, 90, 91, 92, 93, 94, 95, 96, 97, 98, 99, 100, 101, 102, 103, 104, 105, 106, 107, 108, 109, 110, 111, 112, 113, 114, 115, 116] (fun k => [(83, .p (.v (.int .i64 ((k : Int)))) (nlv _))]) (fun k => []) (fun k => k ≤ (lexT (begS 1025 s)).1.length) (fun k => (lexT (begS 1025 s)).1.length - k) 0 (Nat.zero_le _) ?_ ?_
          · skip
            refine ⟨?_, ?_, ?_⟩
            · skip
              refine leEnv_app (by kernel_rfl) (by kernel_rfl) ?_
              repeat ((conv => whnf); first | exact True.intro | refine ⟨.rfl, ?_⟩ | refine ⟨.any, ?_⟩ | refine ⟨.nil, ?_⟩ | refine ⟨.int (by first | rfl | omega | (simp only [wrs]; omega)), ?_⟩)
            · skip
              repeat (first | exact LeVs.nil | ((conv => whnf); first | exact True.intro | exact .none | exact .row rfl | refine .cells ?_ | refine ⟨_, _, rfl, .rfl, ?_⟩ | refine ⟨_, _, rfl, .any, ?_⟩ | refine ⟨_, _, rfl, .nil, ?_⟩ | refine ⟨_, _, rfl, .int (by first | rfl | omega | (simp only [wrs]; omega)), ?_⟩ | refine ⟨?_, ?_⟩))
              done
            · skip
              exact LeFr.nil
          · skip
            rintro k hk
            conv => whnf
            refine bS (fun hc5 => ?_) (fun hc5 => ?_)
            · skip
              try simp only [bls] at hc5
              conv => whnf
              refine RegG.par 30 (by kernel_rfl) ?_
              conv => whnf
              simp (disch := omega) only [wz, Int.reduceAdd, Int.reduceSub, Int.reduceMul, Int.reduceNeg, Int.zero_add, Int.add_zero, Int.sub_zero, Int.sub_self]
              conv => whnf
              refine ⟨_, rfl, ?_⟩
              conv => whnf
              refine ⟨by simp only [bls]; omega, ?_⟩
              conv => whnf
              refine IdxG.map (f := tokC) (l := (lexT (begS 1025 s)).1.map (shY _)) k rfl (by first | omega | (simp only [List.length_map, List.length_take, List.length_nil] at *; omega)) ?_; intro y2 hy2 hky2; obtain ⟨y, hy, rfl⟩ := Option.map_eq_some_iff.1 ((List.getElem?_map ..).symm.trans hy2); have hyb := hbl y (List.mem_of_getElem? hy)
              conv => whnf
              simp (disch := omega) only [wz, Int.reduceAdd, Int.reduceSub, Int.reduceMul, Int.reduceNeg, Int.zero_add, Int.add_zero, Int.sub_zero, Int.sub_self]
              conv => whnf
              refine ⟨_, rfl, ?_⟩
              conv => whnf
              refine ⟨by simp only [bls]; omega, ?_⟩
              conv => whnf
              refine IdxG.map (f := tokC) (l := (lexT (begS 1025 s)).1) k rfl (by first | omega | (simp only [List.length_map, List.length_take, List.length_nil] at *; omega)) ?_; intro y3 hy3 hky3; obtain rfl := Option.some.inj (hy.symm.trans hy3)
              conv => whnf
              refine bF (sh_a hyb hAz) ?_
              conv => whnf
              refine bF (sh_a hyb hAz) ?_
              conv => whnf
              refine bF (sh_a hyb hAz) ?_
              conv => whnf
              simp (disch := omega) only [wz, Int.reduceAdd, Int.reduceSub, Int.reduceMul, Int.reduceNeg, Int.zero_add, Int.add_zero, Int.sub_zero, Int.sub_self]
              conv => whnf
              refine ⟨_, rfl, ?_⟩
              conv => whnf
              refine ⟨by simp only [bls]; omega, ?_⟩
              conv => whnf
              refine bF sh_a0 ?_
              conv => whnf
              refine bF sh_a0 ?_
              conv => whnf
              refine IdxG.map (f := tokC) (l := (lexT (begS 1025 s)).1.map (shY _)) k rfl (by first | omega | (simp only [List.length_map, List.length_take, List.length_nil] at *; omega)) ?_; intro y2 hy2 hky2; obtain ⟨y, hy, rfl⟩ := Option.map_eq_some_iff.1 ((List.getElem?_map ..).symm.trans hy2); have hyb := hbl y (List.mem_of_getElem? hy)
              conv => whnf
              refine bF sh_a0 ?_
              conv => whnf
              refine bF sh_a0 ?_
              conv => whnf
              refine bF sh_a0 ?_
              conv => whnf
              simp (disch := omega) only [wz, Int.reduceAdd, Int.reduceSub, Int.reduceMul, Int.reduceNeg, Int.zero_add, Int.add_zero, Int.sub_zero, Int.sub_self]
              conv => whnf
              refine ⟨_, rfl, ?_⟩
              conv => whnf
              refine ⟨by simp only [bls]; omega, ?_⟩
              conv => whnf
              refine bF sh_a0 ?_
              conv => whnf
              refine bF sh_a0 ?_
              conv => whnf
              refine IdxG.map (f := tokC) (l := (lexT (begS 1025 s)).1) k rfl (by first | omega | (simp only [List.length_map, List.length_take, List.length_nil] at *; omega)) ?_; intro y3 hy3 hky3; obtain rfl := Option.some.inj (hy.symm.trans hy3)
              conv => whnf
              refine bF sh_a0 ?_
              conv => whnf
              refine bF sh_a0 ?_
              conv => whnf
              refine bF sh_a0 ?_
              conv => whnf
              refine bF sh_a0 ?_
              conv => whnf
              refine bF sh_a0 ?_
              conv => whnf
              refine bF (sh_z hyb hAz) ?_
              conv => whnf
              refine ⟨(k + 1), (by first | omega | (simp only [List.length_map, List.length_take, List.length_nil] at *; omega)), (by first | omega | (simp only [List.length_map, List.length_take, List.length_nil] at *; omega)), ?_⟩
              refine ⟨?_, ?_, ?_⟩
              · skip
                refine leEnv_app (by kernel_rfl) (by kernel_rfl) ?_
                repeat ((conv => whnf); first | exact True.intro | refine ⟨.rfl, ?_⟩ | refine ⟨.any, ?_⟩ | refine ⟨.nil, ?_⟩ | refine ⟨.int (by first | rfl | omega | (simp only [wrs]; omega)), ?_⟩)
              · skip
                repeat (first | exact LeVs.nil | ((conv => whnf); first | exact True.intro | exact .none | exact .row rfl | refine .cells ?_ | refine ⟨_, _, rfl, .rfl, ?_⟩ | refine ⟨_, _, rfl, .any, ?_⟩ | refine ⟨_, _, rfl, .nil, ?_⟩ | refine ⟨_, _, rfl, .int (by first | rfl | omega | (simp only [wrs]; omega)), ?_⟩ | refine ⟨?_, ?_⟩))
                done
              · skip
                exact LeFr.nil
            · skip
              try simp only [bls] at hc5
              conv => whnf
              refine FinG.mk none ?_ (by rintro _ ⟨⟩)
              simp only [outs, List.length_map, List.length_append, List.length_take, List.length_drop, List.length_cons, List.length_nil]
        · skip
          try simp only [bls] at hc4
          conv => whnf
          refine bF (by simp only [Bool.not_eq_false', decide_eq_true_eq]; assumption) ?_
          conv => whnf
          refine bF (by simp only [Bool.not_eq_false', decide_eq_true_eq]; assumption) ?_
          conv => whnf
          refine bF (by simp only [Bool.not_eq_false', decide_eq_true_eq]; assumption) ?_
          conv => whnf
          refine bF (by simp only [Bool.not_eq_false', decide_eq_true_eq]; assumption) ?_
          conv => whnf
          refine bF (by simp only [Bool.not_eq_false', decide_eq_true_eq]; assumption) ?_
          conv => whnf
          refine bF (by simp only [Bool.not_eq_false', decide_eq_true_eq]; assumption) ?_
          conv => whnf
          refine bF (by simp only [Bool.not_eq_false', decide_eq_true_eq]; assumption) ?_
          conv => whnf
          refine bF (by simp [List.length_map, List.length_append, List.length_take, List.length_drop, List.length_cons, List.length_nil]; done) ?_
          conv => whnf
          refine bF (by simp only [Bool.not_eq_false', decide_eq_true_eq]; assumption) ?_
          conv => whnf
          refine bF (by simp [List.length_map, List.length_append, List.length_take, List.length_drop, List.length_cons, List.length_nil]; done) ?_
          conv => whnf
          refine .ct ?_
          conv => whnf
          refine CallG.mk (same_X _ _ (lexT (begS 1025 s)).1 ((lexT (begS 1025 s)).1.map (shY _)) (by omega)) rfl ?_
          conv => whnf
          refine bF (by rw [sme_sh]; rfl) ?_
          conv => whnf
          refine XT.loop tabX_ok (Y := Nat) [6, 12, 83, 84, 85, 86, 87, 88, 89, 90, 91, 92, 93, 94, 95, 96, 97, 98, 99, 100, 101, 102, 103, 104, 105, 106, 107, 108, 109, 110, 111, 112, 113, 114, 115, 116] (fun k => [(83, .p (.v (.int .i64 ((k : Int)))) (nlv _))]) (fun k => []) (fun k => k ≤ (lexT (begS 1025 s)).1.length) (fun k => (lexT (begS 1025 s)).1.length - k) 0 (Nat.zero_le _) ?_ ?_
          · skip
            refine ⟨?_, ?_, ?_⟩
            · skip
              refine leEnv_app (by kernel_rfl) (by kernel_rfl) ?_
              repeat ((conv => whnf); first | exact True.intro | refine ⟨.rfl, ?_⟩ | refine ⟨.any, ?_⟩ | refine ⟨.nil, ?_⟩ | refine ⟨.int (by first | rfl | omega | (simp only [wrs]; omega)), ?_⟩)
            · skip
              repeat (first | exact LeVs.nil | ((conv => whnf); first | exact True.intro | exact .none | exact .row rfl | refine .cells ?_ | refine ⟨_, _, rfl, .rfl, ?_⟩ | refine ⟨_, _, rfl, .any, ?_⟩ | refine ⟨_, _, rfl, .nil, ?_⟩ | refine ⟨_, _, rfl, .int (by first | rfl | omega | (simp only [wrs]; omega)), ?_⟩ | refine ⟨?_, ?_⟩))
              done
            · skip
              exact LeFr.nil
          · skip
            rintro k hk
            conv => whnf
            refine bS (fun hc6 => ?_) (fun hc6 => ?_)
            · skip
              try simp only [bls] at hc6
              conv => whnf
              refine RegG.par 30 (by kernel_rfl) ?_
              conv => whnf
              simp (disch := omega) only [wz, Int.reduceAdd, Int.reduceSub, Int.reduceMul, Int.reduceNeg, Int.zero_add, Int.add_zero, Int.sub_zero, Int.sub_self]
              conv => whnf
              refine ⟨_, rfl, ?_⟩
              conv => whnf
              refine ⟨by simp only [bls]; omega, ?_⟩
              conv => whnf
              refine IdxG.map (f := tokC) (l := (lexT (begS 1025 s)).1.map (shY _)) k rfl (by first | omega | (simp only [List.length_map, List.length_take, List.length_nil] at *; omega)) ?_; intro y2 hy2 hky2; obtain ⟨y, hy, rfl⟩ := Option.map_eq_some_iff.1 ((List.getElem?_map ..).symm.trans hy2); have hyb := hbl y (List.mem_of_getElem? hy)
              conv => whnf
              simp (disch := omega) only [wz, Int.reduceAdd, Int.reduceSub, Int.reduceMul, Int.reduceNeg, Int.zero_add, Int.add_zero, Int.sub_zero, Int.sub_self]
              conv => whnf
              refine ⟨_, rfl, ?_⟩
              conv => whnf
              refine ⟨by simp only [bls]; omega, ?_⟩
              conv => whnf
              refine IdxG.map (f := tokC) (l := (lexT (begS 1025 s)).1) k rfl (by first | omega | (simp only [List.length_map, List.length_take, List.length_nil] at *; omega)) ?_; intro y3 hy3 hky3; obtain rfl := Option.some.inj (hy.symm.trans hy3)
              conv => whnf
              refine bF (sh_a hyb hAz) ?_
              conv => whnf
              refine bF (sh_a hyb hAz) ?_
              conv => whnf
              refine bF (sh_a hyb hAz) ?_
              conv => whnf
              simp (disch := omega) only [wz, Int.reduceAdd, Int.reduceSub, Int.reduceMul, Int.reduceNeg, Int.zero_add, Int.add_zero, Int.sub_zero, Int.sub_self]
              conv => whnf
              refine ⟨_, rfl, ?_⟩
              conv => whnf
              refine ⟨by simp only [bls]; omega, ?_⟩
              conv => whnf
              refine bF sh_a0 ?_
              conv => whnf
              refine bF sh_a0 ?_
              conv => whnf
              refine IdxG.map (f := tokC) (l := (lexT (begS 1025 s)).1.map (shY _)) k rfl (by first | omega | (simp only [List.length_map, List.length_take, List.length_nil] at *; omega)) ?_; intro y2 hy2 hky2; obtain ⟨y, hy, rfl⟩ := Option.map_eq_some_iff.1 ((List.getElem?_map ..).symm.trans hy2); have hyb := hbl y (List.mem_of_getElem? hy)
              conv => whnf
              refine bF sh_a0 ?_
              conv => whnf
              refine bF sh_a0 ?_
              conv => whnf
              refine bF sh_a0 ?_
              conv => whnf
              simp (disch := omega) only [wz, Int.reduceAdd, Int.reduceSub, Int.reduceMul, Int.reduceNeg, Int.zero_add, Int.add_zero, Int.sub_zero, Int.sub_self]
              conv => whnf
              refine ⟨_, rfl, ?_⟩
              conv => whnf
              refine ⟨by simp only [bls]; omega, ?_⟩
              conv => whnf
              refine bF sh_a0 ?_
              conv => whnf
              refine bF sh_a0 ?_
              conv => whnf
              refine IdxG.map (f := tokC) (l := (lexT (begS 1025 s)).1) k rfl (by first | omega | (simp only [List.length_map, List.length_take, List.length_nil] at *; omega)) ?_; intro y3 hy3 hky3; obtain rfl := Option.some.inj (hy.symm.trans hy3)
              conv => whnf
              refine bF sh_a0 ?_
              conv => whnf
              refine bF sh_a0 ?_
              conv => whnf
              refine bF sh_a0 ?_
              conv => whnf
              refine bF sh_a0 ?_
              conv => whnf
              refine bF sh_a0 ?_
              conv => whnf
              refine bF (sh_z hyb hAz) ?_
              conv => whnf
              refine ⟨(k + 1), (by first | omega | (simp only [List.length_map, List.length_take, List.length_nil] at *; omega)), (by first | omega | (simp only [List.length_map, List.length_take, List.length_nil] at *; omega)), ?_⟩
              refine ⟨?_, ?_, ?_⟩
              · skip
                refine leEnv_app (by kernel_rfl) (by kernel_rfl) ?_
                repeat ((conv => whnf); first | exact True.intro | refine ⟨.rfl, ?_⟩ | refine ⟨.any, ?_⟩ | refine ⟨.nil, ?_⟩ | refine ⟨.int (by first | rfl | omega | (simp only [wrs]; omega)), ?_⟩)
              · skip
                repeat (first | exact LeVs.nil | ((conv => whnf); first | exact True.intro | exact .none | exact .row rfl | refine .cells ?_ | refine ⟨_, _, rfl, .rfl, ?_⟩ | refine ⟨_, _, rfl, .any, ?_⟩ | refine ⟨_, _, rfl, .nil, ?_⟩ | refine ⟨_, _, rfl, .int (by first | rfl | omega | (simp only [wrs]; omega)), ?_⟩ | refine ⟨?_, ?_⟩))
                done
              · skip
                exact LeFr.nil
            · skip
              try simp only [bls] at hc6
              conv => whnf
              refine FinG.mk none ?_ (by rintro _ ⟨⟩)
              simp only [outs, List.length_map, List.length_append, List.length_take, List.length_drop, List.length_cons, List.length_nil]
    · skip
      try simp only [bls] at hc2
      conv => whnf
      refine bS (fun hc7 => ?_) (fun hc7 => ?_)
      · skip
        try simp only [bls] at hc7
        try simp (disch := omega) only [wz, Int.reduceAdd, Int.reduceSub, Int.reduceMul, Int.reduceNeg, Int.zero_add, Int.add_zero, Int.sub_zero, Int.sub_self] at hc7
        conv => whnf
        refine FinG.mk none ?_ (by rintro _ ⟨⟩)
        simp only [outs, List.length_map, List.length_append, List.length_take, List.length_drop, List.length_cons, List.length_nil]
      · skip
        try simp only [bls] at hc7
        try simp (disch := omega) only [wz, Int.reduceAdd, Int.reduceSub, Int.reduceMul, Int.reduceNeg, Int.zero_add, Int.add_zero, Int.sub_zero, Int.sub_self] at hc7
        have hAz := szA (by assumption) (by simp only [ByteArray.size_append, sz1b, sz2b]; omega) hbs
        conv => whnf
        refine .ct ?_
        conv => whnf
        refine CallG.mk (lex_X (begS 1025 s) (by omega)) rfl ?_
        conv => whnf
        simp (disch := omega) only [wz, Int.reduceAdd, Int.reduceSub, Int.reduceMul, Int.reduceNeg, Int.zero_add, Int.add_zero, Int.sub_zero, Int.sub_self]
        conv => whnf
        refine ⟨by omega, ?_⟩
        conv => whnf
        refine .ct ?_
        conv => whnf
        refine CallG.mk (lexSh (ah1 _) hAz) rfl ?_
        conv => whnf
        refine bF (by simp [List.length_map, List.length_append, List.length_take, List.length_drop, List.length_cons, List.length_nil]; done) ?_
        conv => whnf
        refine bF (by simp [List.length_map, List.length_append, List.length_take, List.length_drop, List.length_cons, List.length_nil]; done) ?_
        conv => whnf
        refine bF (by simp [List.length_map, List.length_append, List.length_take, List.length_drop, List.length_cons, List.length_nil]; done) ?_
        conv => whnf
        refine bF (by simp [List.length_map, List.length_append, List.length_take, List.length_drop, List.length_cons, List.length_nil]; done) ?_
        conv => whnf
        refine bS (fun hc8 => ?_) (fun hc8 => ?_)
        · skip
          try simp only [bls] at hc8
          conv => whnf
          refine bT (by simp only [Bool.not_eq_true', decide_eq_false_iff_not]; assumption) ?_
          conv => whnf
          refine bT (by simp only [Bool.not_eq_true', decide_eq_false_iff_not]; assumption) ?_
          conv => whnf
          refine bT (by simp only [Bool.not_eq_true', decide_eq_false_iff_not]; assumption) ?_
          conv => whnf
          refine bT (by simp only [Bool.not_eq_true', decide_eq_false_iff_not]; assumption) ?_
          conv => whnf
          refine bT (by simp only [Bool.not_eq_true', decide_eq_false_iff_not]; assumption) ?_
          conv => whnf
          refine bT (by simp only [Bool.not_eq_true', decide_eq_false_iff_not]; assumption) ?_
          conv => whnf
          refine bT (by simp only [Bool.not_eq_true', decide_eq_false_iff_not]; assumption) ?_
          conv => whnf
          refine bF (by simp [List.length_map, List.length_append, List.length_take, List.length_drop, List.length_cons, List.length_nil]; done) ?_
          conv => whnf
          refine bT (by simp only [Bool.not_eq_true', decide_eq_false_iff_not]; assumption) ?_
          conv => whnf
          refine bF (by simp [List.length_map, List.length_append, List.length_take, List.length_drop, List.length_cons, List.length_nil]; done) ?_
          conv => whnf
          refine bF (shP_w (by assumption) hbd hAz) ?_
          conv => whnf
          refine bF (shP_w (by assumption) hbd hAz) ?_
          conv => whnf
          refine bF (shP_w (by assumption) hbd hAz) ?_
          conv => whnf
          refine .ct ?_
          conv => whnf
          refine CallG.mk (same_X _ _ (lexT (begS 1025 s)).1 ((lexT (begS 1025 s)).1.map (shY _)) (by omega)) rfl ?_
          conv => whnf
          refine bF (shP_w (by assumption) hbd hAz) ?_
          conv => whnf
          refine bF (shP_w (by assumption) hbd hAz) ?_
          conv => whnf
          refine bF (by rw [sme_sh]; rfl) ?_
          conv => whnf
          refine XT.loop tabX_ok (Y := Nat) [6, 12, 83, 84, 85, 86, 87, 88, 89, 90, 91, 92, 93, 94, 95, 96, 97, 98, 99, 100, 101, 102, 103, 104, 105, 106, 107, 108, 109, 110, 111, 112, 113, 114, 115, 116] (fun k => [(83, .p (.v (.int .i64 ((k : Int)))) (nlv _))]) (fun k => []) (fun k => k ≤ (lexT (begS 1025 s)).1.length) (fun k => (lexT (begS 1025 s)).1.length - k) 0 (Nat.zero_le _) ?_ ?_
          · skip
            refine ⟨?_, ?_, ?_⟩
            · skip
              refine leEnv_app (by kernel_rfl) (by kernel_rfl) ?_
              repeat ((conv => whnf); first | exact True.intro | refine ⟨.rfl, ?_⟩ | refine ⟨.any, ?_⟩ | refine ⟨.nil, ?_⟩ | refine ⟨.int (by first | rfl | omega | (simp only [wrs]; omega)), ?_⟩)
            · skip
              repeat (first | exact LeVs.nil | ((conv => whnf); first | exact True.intro | exact .none | exact .row rfl | refine .cells ?_ | refine ⟨_, _, rfl, .rfl, ?_⟩ | refine ⟨_, _, rfl, .any, ?_⟩ | refine ⟨_, _, rfl, .nil, ?_⟩ | refine ⟨_, _, rfl, .int (by first | rfl | omega | (simp only [wrs]; omega)), ?_⟩ | refine ⟨?_, ?_⟩))
              done
            · skip
              exact LeFr.nil
          · skip
            rintro k hk
            conv => whnf
            refine bS (fun hc9 => ?_) (fun hc9 => ?_)
            · skip
              try simp only [bls] at hc9
              conv => whnf
              refine RegG.par 30 (by kernel_rfl) ?_
              conv => whnf
              simp (disch := omega) only [wz, Int.reduceAdd, Int.reduceSub, Int.reduceMul, Int.reduceNeg, Int.zero_add, Int.add_zero, Int.sub_zero, Int.sub_self]
              conv => whnf
              refine ⟨_, rfl, ?_⟩
              conv => whnf
              refine ⟨by simp only [bls]; omega, ?_⟩
              conv => whnf
              refine IdxG.map (f := tokC) (l := (lexT (begS 1025 s)).1.map (shY _)) k rfl (by first | omega | (simp only [List.length_map, List.length_take, List.length_nil] at *; omega)) ?_; intro y2 hy2 hky2; obtain ⟨y, hy, rfl⟩ := Option.map_eq_some_iff.1 ((List.getElem?_map ..).symm.trans hy2); have hyb := hbl y (List.mem_of_getElem? hy)
              conv => whnf
              simp (disch := omega) only [wz, Int.reduceAdd, Int.reduceSub, Int.reduceMul, Int.reduceNeg, Int.zero_add, Int.add_zero, Int.sub_zero, Int.sub_self]
              conv => whnf
              refine ⟨_, rfl, ?_⟩
              conv => whnf
              refine ⟨by simp only [bls]; omega, ?_⟩
              conv => whnf
              refine IdxG.map (f := tokC) (l := (lexT (begS 1025 s)).1) k rfl (by first | omega | (simp only [List.length_map, List.length_take, List.length_nil] at *; omega)) ?_; intro y3 hy3 hky3; obtain rfl := Option.some.inj (hy.symm.trans hy3)
              conv => whnf
              refine bF (sh_a hyb hAz) ?_
              conv => whnf
              refine bF (sh_a hyb hAz) ?_
              conv => whnf
              refine bF (sh_a hyb hAz) ?_
              conv => whnf
              simp (disch := omega) only [wz, Int.reduceAdd, Int.reduceSub, Int.reduceMul, Int.reduceNeg, Int.zero_add, Int.add_zero, Int.sub_zero, Int.sub_self]
              conv => whnf
              refine ⟨_, rfl, ?_⟩
              conv => whnf
              refine ⟨by simp only [bls]; omega, ?_⟩
              conv => whnf
              refine bF sh_a0 ?_
              conv => whnf
              refine bF sh_a0 ?_
              conv => whnf
              refine IdxG.map (f := tokC) (l := (lexT (begS 1025 s)).1.map (shY _)) k rfl (by first | omega | (simp only [List.length_map, List.length_take, List.length_nil] at *; omega)) ?_; intro y2 hy2 hky2; obtain ⟨y, hy, rfl⟩ := Option.map_eq_some_iff.1 ((List.getElem?_map ..).symm.trans hy2); have hyb := hbl y (List.mem_of_getElem? hy)
              conv => whnf
              refine bF sh_a0 ?_
              conv => whnf
              refine bF sh_a0 ?_
              conv => whnf
              refine bF sh_a0 ?_
              conv => whnf
              simp (disch := omega) only [wz, Int.reduceAdd, Int.reduceSub, Int.reduceMul, Int.reduceNeg, Int.zero_add, Int.add_zero, Int.sub_zero, Int.sub_self]
              conv => whnf
              refine ⟨_, rfl, ?_⟩
              conv => whnf
              refine ⟨by simp only [bls]; omega, ?_⟩
              conv => whnf
              refine bF sh_a0 ?_
              conv => whnf
              refine bF sh_a0 ?_
              conv => whnf
              refine IdxG.map (f := tokC) (l := (lexT (begS 1025 s)).1) k rfl (by first | omega | (simp only [List.length_map, List.length_take, List.length_nil] at *; omega)) ?_; intro y3 hy3 hky3; obtain rfl := Option.some.inj (hy.symm.trans hy3)
              conv => whnf
              refine bF sh_a0 ?_
              conv => whnf
              refine bF sh_a0 ?_
              conv => whnf
              refine bF sh_a0 ?_
              conv => whnf
              refine bF sh_a0 ?_
              conv => whnf
              refine bF sh_a0 ?_
              conv => whnf
              refine bF (sh_z hyb hAz) ?_
              conv => whnf
              refine ⟨(k + 1), (by first | omega | (simp only [List.length_map, List.length_take, List.length_nil] at *; omega)), (by first | omega | (simp only [List.length_map, List.length_take, List.length_nil] at *; omega)), ?_⟩
              refine ⟨?_, ?_, ?_⟩
              · skip
                refine leEnv_app (by kernel_rfl) (by kernel_rfl) ?_
                repeat ((conv => whnf); first | exact True.intro | refine ⟨.rfl, ?_⟩ | refine ⟨.any, ?_⟩ | refine ⟨.nil, ?_⟩ | refine ⟨.int (by first | rfl | omega | (simp only [wrs]; omega)), ?_⟩)
              · skip
                repeat (first | exact LeVs.nil | ((conv => whnf); first | exact True.intro | exact .none | exact .row rfl | refine .cells ?_ | refine ⟨_, _, rfl, .rfl, ?_⟩ | refine ⟨_, _, rfl, .any, ?_⟩ | refine ⟨_, _, rfl, .nil, ?_⟩ | refine ⟨_, _, rfl, .int (by first | rfl | omega | (simp only [wrs]; omega)), ?_⟩ | refine ⟨?_, ?_⟩))
                done
              · skip
                exact LeFr.nil
            · skip
              try simp only [bls] at hc9
              conv => whnf
              refine FinG.mk none ?_ (by rintro _ ⟨⟩)
              simp only [outs, List.length_map, List.length_append, List.length_take, List.length_drop, List.length_cons, List.length_nil]
        · skip
          try simp only [bls] at hc8
          conv => whnf
          refine bF (by simp only [Bool.not_eq_false', decide_eq_true_eq]; assumption) ?_
          conv => whnf
          refine bF (by simp only [Bool.not_eq_false', decide_eq_true_eq]; assumption) ?_
          conv => whnf
          refine bF (by simp only [Bool.not_eq_false', decide_eq_true_eq]; assumption) ?_
          conv => whnf
          refine bF (by simp only [Bool.not_eq_false', decide_eq_true_eq]; assumption) ?_
          conv => whnf
          refine bF (by simp only [Bool.not_eq_false', decide_eq_true_eq]; assumption) ?_
          conv => whnf
          refine bF (by simp only [Bool.not_eq_false', decide_eq_true_eq]; assumption) ?_
          conv => whnf
          refine bF (by simp only [Bool.not_eq_false', decide_eq_true_eq]; assumption) ?_
          conv => whnf
          refine bF (by simp [List.length_map, List.length_append, List.length_take, List.length_drop, List.length_cons, List.length_nil]; done) ?_
          conv => whnf
          refine bF (by simp only [Bool.not_eq_false', decide_eq_true_eq]; assumption) ?_
          conv => whnf
          refine bF (by simp [List.length_map, List.length_append, List.length_take, List.length_drop, List.length_cons, List.length_nil]; done) ?_
          conv => whnf
          refine .ct ?_
          conv => whnf
          refine CallG.mk (same_X _ _ (lexT (begS 1025 s)).1 ((lexT (begS 1025 s)).1.map (shY _)) (by omega)) rfl ?_
          conv => whnf
          refine bF (by rw [sme_sh]; rfl) ?_
          conv => whnf
          refine XT.loop tabX_ok (Y := Nat) [6, 12, 83, 84, 85, 86, 87, 88, 89, 90, 91, 92, 93, 94, 95, 96, 97, 98, 99, 100, 101, 102, 103, 104, 105, 106, 107, 108, 109, 110, 111, 112, 113, 114, 115, 116] (fun k => [(83, .p (.v (.int .i64 ((k : Int)))) (nlv _))]) (fun k => []) (fun k => k ≤ (lexT (begS 1025 s)).1.length) (fun k => (lexT (begS 1025 s)).1.length - k) 0 (Nat.zero_le _) ?_ ?_
          · skip
            refine ⟨?_, ?_, ?_⟩
            · skip
              refine leEnv_app (by kernel_rfl) (by kernel_rfl) ?_
              repeat ((conv => whnf); first | exact True.intro | refine ⟨.rfl, ?_⟩ | refine ⟨.any, ?_⟩ | refine ⟨.nil, ?_⟩ | refine ⟨.int (by first | rfl | omega | (simp only [wrs]; omega)), ?_⟩)
            · skip
              repeat (first | exact LeVs.nil | ((conv => whnf); first | exact True.intro | exact .none | exact .row rfl | refine .cells ?_ | refine ⟨_, _, rfl, .rfl, ?_⟩ | refine ⟨_, _, rfl, .any, ?_⟩ | refine ⟨_, _, rfl, .nil, ?_⟩ | refine ⟨_, _, rfl, .int (by first | rfl | omega | (simp only [wrs]; omega)), ?_⟩ | refine ⟨?_, ?_⟩))
              done
            · skip
              exact LeFr.nil
          · skip
            rintro k hk
            conv => whnf
            refine bS (fun hc10 => ?_) (fun hc10 => ?_)
            · skip
              try simp only [bls] at hc10
              conv => whnf
              refine RegG.par 30 (by kernel_rfl) ?_
              conv => whnf
              simp (disch := omega) only [wz, Int.reduceAdd, Int.reduceSub, Int.reduceMul, Int.reduceNeg, Int.zero_add, Int.add_zero, Int.sub_zero, Int.sub_self]
              conv => whnf
              refine ⟨_, rfl, ?_⟩
              conv => whnf
              refine ⟨by simp only [bls]; omega, ?_⟩
              conv => whnf
              refine IdxG.map (f := tokC) (l := (lexT (begS 1025 s)).1.map (shY _)) k rfl (by first | omega | (simp only [List.length_map, List.length_take, List.length_nil] at *; omega)) ?_; intro y2 hy2 hky2; obtain ⟨y, hy, rfl⟩ := Option.map_eq_some_iff.1 ((List.getElem?_map ..).symm.trans hy2); have hyb := hbl y (List.mem_of_getElem? hy)
              conv => whnf
              simp (disch := omega) only [wz, Int.reduceAdd, Int.reduceSub, Int.reduceMul, Int.reduceNeg, Int.zero_add, Int.add_zero, Int.sub_zero, Int.sub_self]
              conv => whnf
              refine ⟨_, rfl, ?_⟩
              conv => whnf
              refine ⟨by simp only [bls]; omega, ?_⟩
              conv => whnf
              refine IdxG.map (f := tokC) (l := (lexT (begS 1025 s)).1) k rfl (by first | omega | (simp only [List.length_map, List.length_take, List.length_nil] at *; omega)) ?_; intro y3 hy3 hky3; obtain rfl := Option.some.inj (hy.symm.trans hy3)
              conv => whnf
              refine bF (sh_a hyb hAz) ?_
              conv => whnf
              refine bF (sh_a hyb hAz) ?_
              conv => whnf
              refine bF (sh_a hyb hAz) ?_
              conv => whnf
              simp (disch := omega) only [wz, Int.reduceAdd, Int.reduceSub, Int.reduceMul, Int.reduceNeg, Int.zero_add, Int.add_zero, Int.sub_zero, Int.sub_self]
              conv => whnf
              refine ⟨_, rfl, ?_⟩
              conv => whnf
              refine ⟨by simp only [bls]; omega, ?_⟩
              conv => whnf
              refine bF sh_a0 ?_
              conv => whnf
              refine bF sh_a0 ?_
              conv => whnf
              refine IdxG.map (f := tokC) (l := (lexT (begS 1025 s)).1.map (shY _)) k rfl (by first | omega | (simp only [List.length_map, List.length_take, List.length_nil] at *; omega)) ?_; intro y2 hy2 hky2; obtain ⟨y, hy, rfl⟩ := Option.map_eq_some_iff.1 ((List.getElem?_map ..).symm.trans hy2); have hyb := hbl y (List.mem_of_getElem? hy)
              conv => whnf
              refine bF sh_a0 ?_
              conv => whnf
              refine bF sh_a0 ?_
              conv => whnf
              refine bF sh_a0 ?_
              conv => whnf
              simp (disch := omega) only [wz, Int.reduceAdd, Int.reduceSub, Int.reduceMul, Int.reduceNeg, Int.zero_add, Int.add_zero, Int.sub_zero, Int.sub_self]
              conv => whnf
              refine ⟨_, rfl, ?_⟩
              conv => whnf
              refine ⟨by simp only [bls]; omega, ?_⟩
              conv => whnf
              refine bF sh_a0 ?_
              conv => whnf
              refine bF sh_a0 ?_
              conv => whnf
              refine IdxG.map (f := tokC) (l := (lexT (begS 1025 s)).1) k rfl (by first | omega | (simp only [List.length_map, List.length_take, List.length_nil] at *; omega)) ?_; intro y3 hy3 hky3; obtain rfl := Option.some.inj (hy.symm.trans hy3)
              conv => whnf
              refine bF sh_a0 ?_
              conv => whnf
              refine bF sh_a0 ?_
              conv => whnf
              refine bF sh_a0 ?_
              conv => whnf
              refine bF sh_a0 ?_
              conv => whnf
              refine bF sh_a0 ?_
              conv => whnf
              refine bF (sh_z hyb hAz) ?_
              conv => whnf
              refine ⟨(k + 1), (by first | omega | (simp only [List.length_map, List.length_take, List.length_nil] at *; omega)), (by first | omega | (simp only [List.length_map, List.length_take, List.length_nil] at *; omega)), ?_⟩
              refine ⟨?_, ?_, ?_⟩
              · skip
                refine leEnv_app (by kernel_rfl) (by kernel_rfl) ?_
                repeat ((conv => whnf); first | exact True.intro | refine ⟨.rfl, ?_⟩ | refine ⟨.any, ?_⟩ | refine ⟨.nil, ?_⟩ | refine ⟨.int (by first | rfl | omega | (simp only [wrs]; omega)), ?_⟩)
              · skip
                repeat (first | exact LeVs.nil | ((conv => whnf); first | exact True.intro | exact .none | exact .row rfl | refine .cells ?_ | refine ⟨_, _, rfl, .rfl, ?_⟩ | refine ⟨_, _, rfl, .any, ?_⟩ | refine ⟨_, _, rfl, .nil, ?_⟩ | refine ⟨_, _, rfl, .int (by first | rfl | omega | (simp only [wrs]; omega)), ?_⟩ | refine ⟨?_, ?_⟩))
                done
              · skip
                exact LeFr.nil
            · skip
              try simp only [bls] at hc10
              conv => whnf
              refine FinG.mk none ?_ (by rintro _ ⟨⟩)
              simp only [outs, List.length_map, List.length_append, List.length_take, List.length_drop, List.length_cons, List.length_nil]
  · skip
    try simp only [bls] at hc1
    conv => whnf
    refine bF (notF (by assumption)) ?_
    conv => whnf
    refine bF (notF (by assumption)) ?_
    conv => whnf
    refine bF (notF (by assumption)) ?_
    conv => whnf
    refine bS (fun hc11 => ?_) (fun hc11 => ?_)
    · skip
      try simp only [bls] at hc11
      try simp (disch := omega) only [wz, Int.reduceAdd, Int.reduceSub, Int.reduceMul, Int.reduceNeg, Int.zero_add, Int.add_zero, Int.sub_zero, Int.sub_self] at hc11
      conv => whnf
      refine FinG.mk none ?_ (by rintro _ ⟨⟩)
      simp only [outs, List.length_map, List.length_append, List.length_take, List.length_drop, List.length_cons, List.length_nil]
    · skip
      try simp only [bls] at hc11
      try simp (disch := omega) only [wz, Int.reduceAdd, Int.reduceSub, Int.reduceMul, Int.reduceNeg, Int.zero_add, Int.add_zero, Int.sub_zero, Int.sub_self] at hc11
      have hAz := szA (by assumption) (by simp only [ByteArray.size_append, sz1b, sz2b]; omega) hbs
      conv => whnf
      refine .ct ?_
      conv => whnf
      refine CallG.mk (lex_X (begS 1025 s) (by omega)) rfl ?_
      conv => whnf
      simp (disch := omega) only [wz, Int.reduceAdd, Int.reduceSub, Int.reduceMul, Int.reduceNeg, Int.zero_add, Int.add_zero, Int.sub_zero, Int.sub_self]
      conv => whnf
      refine ⟨by omega, ?_⟩
      conv => whnf
      refine .ct ?_
      conv => whnf
      refine CallG.mk (lexSh (ah1 _) hAz) rfl ?_
      conv => whnf
      refine bF (by simp [List.length_map, List.length_append, List.length_take, List.length_drop, List.length_cons, List.length_nil]; done) ?_
      conv => whnf
      refine bF (by simp [List.length_map, List.length_append, List.length_take, List.length_drop, List.length_cons, List.length_nil]; done) ?_
      conv => whnf
      refine bF (by simp [List.length_map, List.length_append, List.length_take, List.length_drop, List.length_cons, List.length_nil]; done) ?_
      conv => whnf
      refine bF (by simp [List.length_map, List.length_append, List.length_take, List.length_drop, List.length_cons, List.length_nil]; done) ?_
      conv => whnf
      refine bS (fun hc12 => ?_) (fun hc12 => ?_)
      · skip
        try simp only [bls] at hc12
        conv => whnf
        refine bT (by simp only [Bool.not_eq_true', decide_eq_false_iff_not]; assumption) ?_
        conv => whnf
        refine bT (by simp only [Bool.not_eq_true', decide_eq_false_iff_not]; assumption) ?_
        conv => whnf
        refine bT (by simp only [Bool.not_eq_true', decide_eq_false_iff_not]; assumption) ?_
        conv => whnf
        refine bT (by simp only [Bool.not_eq_true', decide_eq_false_iff_not]; assumption) ?_
        conv => whnf
        refine bT (by simp only [Bool.not_eq_true', decide_eq_false_iff_not]; assumption) ?_
        conv => whnf
        refine bT (by simp only [Bool.not_eq_true', decide_eq_false_iff_not]; assumption) ?_
        conv => whnf
        refine bT (by simp only [Bool.not_eq_true', decide_eq_false_iff_not]; assumption) ?_
        conv => whnf
        refine bF (by simp [List.length_map, List.length_append, List.length_take, List.length_drop, List.length_cons, List.length_nil]; done) ?_
        conv => whnf
        refine bT (by simp only [Bool.not_eq_true', decide_eq_false_iff_not]; assumption) ?_
        conv => whnf
        refine bF (by simp [List.length_map, List.length_append, List.length_take, List.length_drop, List.length_cons, List.length_nil]; done) ?_
        conv => whnf
        refine bF (shP_w (by assumption) hbd hAz) ?_
        conv => whnf
        refine bF (shP_w (by assumption) hbd hAz) ?_
        conv => whnf
        refine bF (shP_w (by assumption) hbd hAz) ?_
        conv => whnf
        refine .ct ?_
        conv => whnf
        refine CallG.mk (same_X _ _ (lexT (begS 1025 s)).1 ((lexT (begS 1025 s)).1.map (shY _)) (by omega)) rfl ?_
        conv => whnf
        refine bF (shP_w (by assumption) hbd hAz) ?_
        conv => whnf
        refine bF (shP_w (by assumption) hbd hAz) ?_
        conv => whnf
        refine bF (by rw [sme_sh]; rfl) ?_
        conv => whnf
        refine XT.loop tabX_ok (Y := Nat) [6, 12, 83, 84, 85, 86, 87, 88, 89, 90, 91, 92, 93, 94, 95, 96, 97, 98, 99, 100, 101, 102, 103, 104, 105, 106, 107, 108, 109, 110, 111, 112, 113, 114, 115, 116] (fun k => [(83, .p (.v (.int .i64 ((k : Int)))) (nlv _))]) (fun k => []) (fun k => k ≤ (lexT (begS 1025 s)).1.length) (fun k => (lexT (begS 1025 s)).1.length - k) 0 (Nat.zero_le _) ?_ ?_
        · skip
          refine ⟨?_, ?_, ?_⟩
          · skip
            refine leEnv_app (by kernel_rfl) (by kernel_rfl) ?_
            repeat ((conv => whnf); first | exact True.intro | refine ⟨.rfl, ?_⟩ | refine ⟨.any, ?_⟩ | refine ⟨.nil, ?_⟩ | refine ⟨.int (by first | rfl | omega | (simp only [wrs]; omega)), ?_⟩)
          · skip
            repeat (first | exact LeVs.nil | ((conv => whnf); first | exact True.intro | exact .none | exact .row rfl | refine .cells ?_ | refine ⟨_, _, rfl, .rfl, ?_⟩ | refine ⟨_, _, rfl, .any, ?_⟩ | refine ⟨_, _, rfl, .nil, ?_⟩ | refine ⟨_, _, rfl, .int (by first | rfl | omega | (simp only [wrs]; omega)), ?_⟩ | refine ⟨?_, ?_⟩))
            done
          · skip
            exact LeFr.nil
        · skip
          rintro k hk
          conv => whnf
          refine bS (fun hc13 => ?_) (fun hc13 => ?_)
          · skip
            try simp only [bls] at hc13
            conv => whnf
            refine RegG.par 30 (by kernel_rfl) ?_
            conv => whnf
            simp (disch := omega) only [wz, Int.reduceAdd, Int.reduceSub, Int.reduceMul, Int.reduceNeg, Int.zero_add, Int.add_zero, Int.sub_zero, Int.sub_self]
            conv => whnf
            refine ⟨_, rfl, ?_⟩
            conv => whnf
            refine ⟨by simp only [bls]; omega, ?_⟩
            conv => whnf
            refine IdxG.map (f := tokC) (l := (lexT (begS 1025 s)).1.map (shY _)) k rfl (by first | omega | (simp only [List.length_map, List.length_take, List.length_nil] at *; omega)) ?_; intro y2 hy2 hky2; obtain ⟨y, hy, rfl⟩ := Option.map_eq_some_iff.1 ((List.getElem?_map ..).symm.trans hy2); have hyb := hbl y (List.mem_of_getElem? hy)
            conv => whnf
            simp (disch := omega) only [wz, Int.reduceAdd, Int.reduceSub, Int.reduceMul, Int.reduceNeg, Int.zero_add, Int.add_zero, Int.sub_zero, Int.sub_self]
            conv => whnf
            refine ⟨_, rfl, ?_⟩
            conv => whnf
            refine ⟨by simp only [bls]; omega, ?_⟩
            conv => whnf
            refine IdxG.map (f := tokC) (l := (lexT (begS 1025 s)).1) k rfl (by first | omega | (simp only [List.length_map, List.length_take, List.length_nil] at *; omega)) ?_; intro y3 hy3 hky3; obtain rfl := Option.some.inj (hy.symm.trans hy3)
            conv => whnf
            refine bF (sh_a hyb hAz) ?_
            conv => whnf
            refine bF (sh_a hyb hAz) ?_
            conv => whnf
            refine bF (sh_a hyb hAz) ?_
            conv => whnf
            simp (disch := omega) only [wz, Int.reduceAdd, Int.reduceSub, Int.reduceMul, Int.reduceNeg, Int.zero_add, Int.add_zero, Int.sub_zero, Int.sub_self]
            conv => whnf
            refine ⟨_, rfl, ?_⟩
            conv => whnf
            refine ⟨by simp only [bls]; omega, ?_⟩
            conv => whnf
            refine bF sh_a0 ?_
            conv => whnf
            refine bF sh_a0 ?_
            conv => whnf
            refine IdxG.map (f := tokC) (l := (lexT (begS 1025 s)).1.map (shY _)) k rfl (by first | omega | (simp only [List.length_map, List.length_take, List.length_nil] at *; omega)) ?_; intro y2 hy2 hky2; obtain ⟨y, hy, rfl⟩ := Option.map_eq_some_iff.1 ((List.getElem?_map ..).symm.trans hy2); have hyb := hbl y (List.mem_of_getElem? hy)
            conv => whnf
            refine bF sh_a0 ?_
            conv => whnf
            refine bF sh_a0 ?_
            conv => whnf
            refine bF sh_a0 ?_
            conv => whnf
            simp (disch := omega) only [wz, Int.reduceAdd, Int.reduceSub, Int.reduceMul, Int.reduceNeg, Int.zero_add, Int.add_zero, Int.sub_zero, Int.sub_self]
            conv => whnf
            refine ⟨_, rfl, ?_⟩
            conv => whnf
            refine ⟨by simp only [bls]; omega, ?_⟩
            conv => whnf
            refine bF sh_a0 ?_
            conv => whnf
            refine bF sh_a0 ?_
            conv => whnf
            refine IdxG.map (f := tokC) (l := (lexT (begS 1025 s)).1) k rfl (by first | omega | (simp only [List.length_map, List.length_take, List.length_nil] at *; omega)) ?_; intro y3 hy3 hky3; obtain rfl := Option.some.inj (hy.symm.trans hy3)
            conv => whnf
            refine bF sh_a0 ?_
            conv => whnf
            refine bF sh_a0 ?_
            conv => whnf
            refine bF sh_a0 ?_
            conv => whnf
            refine bF sh_a0 ?_
            conv => whnf
            refine bF sh_a0 ?_
            conv => whnf
            refine bF (sh_z hyb hAz) ?_
            conv => whnf
            refine ⟨(k + 1), (by first | omega | (simp only [List.length_map, List.length_take, List.length_nil] at *; omega)), (by first | omega | (simp only [List.length_map, List.length_take, List.length_nil] at *; omega)), ?_⟩
            refine ⟨?_, ?_, ?_⟩
            · skip
              refine leEnv_app (by kernel_rfl) (by kernel_rfl) ?_
              repeat ((conv => whnf); first | exact True.intro | refine ⟨.rfl, ?_⟩ | refine ⟨.any, ?_⟩ | refine ⟨.nil, ?_⟩ | refine ⟨.int (by first | rfl | omega | (simp only [wrs]; omega)), ?_⟩)
            · skip
              repeat (first | exact LeVs.nil | ((conv => whnf); first | exact True.intro | exact .none | exact .row rfl | refine .cells ?_ | refine ⟨_, _, rfl, .rfl, ?_⟩ | refine ⟨_, _, rfl, .any, ?_⟩ | refine ⟨_, _, rfl, .nil, ?_⟩ | refine ⟨_, _, rfl, .int (by first | rfl | omega | (simp only [wrs]; omega)), ?_⟩ | refine ⟨?_, ?_⟩))
              done
            · skip
              exact LeFr.nil
          · skip
            try simp only [bls] at hc13
            conv => whnf
            refine FinG.mk none ?_ (by rintro _ ⟨⟩)
            simp only [outs, List.length_map, List.length_append, List.length_take, List.length_drop, List.length_cons, List.length_nil]
      · skip
        try simp only [bls] at hc12
        conv => whnf
        refine bF (by simp only [Bool.not_eq_false', decide_eq_true_eq]; assumption) ?_
        conv => whnf
        refine bF (by simp only [Bool.not_eq_false', decide_eq_true_eq]; assumption) ?_
        conv => whnf
        refine bF (by simp only [Bool.not_eq_false', decide_eq_true_eq]; assumption) ?_
        conv => whnf
        refine bF (by simp only [Bool.not_eq_false', decide_eq_true_eq]; assumption) ?_
        conv => whnf
        refine bF (by simp only [Bool.not_eq_false', decide_eq_true_eq]; assumption) ?_
        conv => whnf
        refine bF (by simp only [Bool.not_eq_false', decide_eq_true_eq]; assumption) ?_
        conv => whnf
        refine bF (by simp only [Bool.not_eq_false', decide_eq_true_eq]; assumption) ?_
        conv => whnf
        refine bF (by simp [List.length_map, List.length_append, List.length_take, List.length_drop, List.length_cons, List.length_nil]; done) ?_
        conv => whnf
        refine bF (by simp only [Bool.not_eq_false', decide_eq_true_eq]; assumption) ?_
        conv => whnf
        refine bF (by simp [List.length_map, List.length_append, List.length_take, List.length_drop, List.length_cons, List.length_nil]; done) ?_
        conv => whnf
        refine .ct ?_
        conv => whnf
        refine CallG.mk (same_X _ _ (lexT (begS 1025 s)).1 ((lexT (begS 1025 s)).1.map (shY _)) (by omega)) rfl ?_
        conv => whnf
        refine bF (by rw [sme_sh]; rfl) ?_
        conv => whnf
        refine XT.loop tabX_ok (Y := Nat) [6, 12, 83, 84, 85, 86, 87, 88, 89, 90, 91, 92, 93, 94, 95, 96, 97, 98, 99, 100, 101, 102, 103, 104, 105, 106, 107, 108, 109, 110, 111, 112, 113, 114, 115, 116] (fun k => [(83, .p (.v (.int .i64 ((k : Int)))) (nlv _))]) (fun k => []) (fun k => k ≤ (lexT (begS 1025 s)).1.length) (fun k => (lexT (begS 1025 s)).1.length - k) 0 (Nat.zero_le _) ?_ ?_
        · skip
          refine ⟨?_, ?_, ?_⟩
          · skip
            refine leEnv_app (by kernel_rfl) (by kernel_rfl) ?_
            repeat ((conv => whnf); first | exact True.intro | refine ⟨.rfl, ?_⟩ | refine ⟨.any, ?_⟩ | refine ⟨.nil, ?_⟩ | refine ⟨.int (by first | rfl | omega | (simp only [wrs]; omega)), ?_⟩)
          · skip
            repeat (first | exact LeVs.nil | ((conv => whnf); first | exact True.intro | exact .none | exact .row rfl | refine .cells ?_ | refine ⟨_, _, rfl, .rfl, ?_⟩ | refine ⟨_, _, rfl, .any, ?_⟩ | refine ⟨_, _, rfl, .nil, ?_⟩ | refine ⟨_, _, rfl, .int (by first | rfl | omega | (simp only [wrs]; omega)), ?_⟩ | refine ⟨?_, ?_⟩))
            done
          · skip
            exact LeFr.nil
        · skip
          rintro k hk
          conv => whnf
          refine bS (fun hc14 => ?_) (fun hc14 => ?_)
          · skip
            try simp only [bls] at hc14
            conv => whnf
            refine RegG.par 30 (by kernel_rfl) ?_
            conv => whnf
            simp (disch := omega) only [wz, Int.reduceAdd, Int.reduceSub, Int.reduceMul, Int.reduceNeg, Int.zero_add, Int.add_zero, Int.sub_zero, Int.sub_self]
            conv => whnf
            refine ⟨_, rfl, ?_⟩
            conv => whnf
            refine ⟨by simp only [bls]; omega, ?_⟩
            conv => whnf
            refine IdxG.map (f := tokC) (l := (lexT (begS 1025 s)).1.map (shY _)) k rfl (by first | omega | (simp only [List.length_map, List.length_take, List.length_nil] at *; omega)) ?_; intro y2 hy2 hky2; obtain ⟨y, hy, rfl⟩ := Option.map_eq_some_iff.1 ((List.getElem?_map ..).symm.trans hy2); have hyb := hbl y (List.mem_of_getElem? hy)
            conv => whnf
            simp (disch := omega) only [wz, Int.reduceAdd, Int.reduceSub, Int.reduceMul, Int.reduceNeg, Int.zero_add, Int.add_zero, Int.sub_zero, Int.sub_self]
            conv => whnf
            refine ⟨_, rfl, ?_⟩
            conv => whnf
            refine ⟨by simp only [bls]; omega, ?_⟩
            conv => whnf
            refine IdxG.map (f := tokC) (l := (lexT (begS 1025 s)).1) k rfl (by first | omega | (simp only [List.length_map, List.length_take, List.length_nil] at *; omega)) ?_; intro y3 hy3 hky3; obtain rfl := Option.some.inj (hy.symm.trans hy3)
            conv => whnf
            refine bF (sh_a hyb hAz) ?_
            conv => whnf
            refine bF (sh_a hyb hAz) ?_
            conv => whnf
            refine bF (sh_a hyb hAz) ?_
            conv => whnf
            simp (disch := omega) only [wz, Int.reduceAdd, Int.reduceSub, Int.reduceMul, Int.reduceNeg, Int.zero_add, Int.add_zero, Int.sub_zero, Int.sub_self]
            conv => whnf
            refine ⟨_, rfl, ?_⟩
            conv => whnf
            refine ⟨by simp only [bls]; omega, ?_⟩
            conv => whnf
            refine bF sh_a0 ?_
            conv => whnf
            refine bF sh_a0 ?_
            conv => whnf
            refine IdxG.map (f := tokC) (l := (lexT (begS 1025 s)).1.map (shY _)) k rfl (by first | omega | (simp only [List.length_map, List.length_take, List.length_nil] at *; omega)) ?_; intro y2 hy2 hky2; obtain ⟨y, hy, rfl⟩ := Option.map_eq_some_iff.1 ((List.getElem?_map ..).symm.trans hy2); have hyb := hbl y (List.mem_of_getElem? hy)
            conv => whnf
            refine bF sh_a0 ?_
            conv => whnf
            refine bF sh_a0 ?_
            conv => whnf
            refine bF sh_a0 ?_
            conv => whnf
            simp (disch := omega) only [wz, Int.reduceAdd, Int.reduceSub, Int.reduceMul, Int.reduceNeg, Int.zero_add, Int.add_zero, Int.sub_zero, Int.sub_self]
            conv => whnf
            refine ⟨_, rfl, ?_⟩
            conv => whnf
            refine ⟨by simp only [bls]; omega, ?_⟩
            conv => whnf
            refine bF sh_a0 ?_
            conv => whnf
            refine bF sh_a0 ?_
            conv => whnf
            refine IdxG.map (f := tokC) (l := (lexT (begS 1025 s)).1) k rfl (by first | omega | (simp only [List.length_map, List.length_take, List.length_nil] at *; omega)) ?_; intro y3 hy3 hky3; obtain rfl := Option.some.inj (hy.symm.trans hy3)
            conv => whnf
            refine bF sh_a0 ?_
            conv => whnf
            refine bF sh_a0 ?_
            conv => whnf
            refine bF sh_a0 ?_
            conv => whnf
            refine bF sh_a0 ?_
            conv => whnf
            refine bF sh_a0 ?_
            conv => whnf
            refine bF (sh_z hyb hAz) ?_
            conv => whnf
            refine ⟨(k + 1), (by first | omega | (simp only [List.length_map, List.length_take, List.length_nil] at *; omega)), (by first | omega | (simp only [List.length_map, List.length_take, List.length_nil] at *; omega)), ?_⟩
            refine ⟨?_, ?_, ?_⟩
            · skip
              refine leEnv_app (by kernel_rfl) (by kernel_rfl) ?_
              repeat ((conv => whnf); first | exact True.intro | refine ⟨.rfl, ?_⟩ | refine ⟨.any, ?_⟩ | refine ⟨.nil, ?_⟩ | refine ⟨.int (by first | rfl | omega | (simp only [wrs]; omega)), ?_⟩)
            · skip
              repeat (first | exact LeVs.nil | ((conv => whnf); first | exact True.intro | exact .none | exact .row rfl | refine .cells ?_ | refine ⟨_, _, rfl, .rfl, ?_⟩ | refine ⟨_, _, rfl, .any, ?_⟩ | refine ⟨_, _, rfl, .nil, ?_⟩ | refine ⟨_, _, rfl, .int (by first | rfl | omega | (simp only [wrs]; omega)), ?_⟩ | refine ⟨?_, ?_⟩))
              done
            · skip
              exact LeFr.nil
          · skip
            try simp only [bls] at hc14
            conv => whnf
            refine FinG.mk none ?_ (by rintro _ ⟨⟩)
            simp only [outs, List.length_map, List.length_append, List.length_take, List.length_drop, List.length_cons, List.length_nil]
end Go.Proofs.YtekpmlfcmnlmiaaGreatDoor
