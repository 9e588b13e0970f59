/- Values: their bytes, there and back. No condition. -/
import Derived.Test.YtdcemcobldpcnaaDoorV4
namespace Go.Proofs.YtdcemcobldpcnaaDoor
open Go.RowKit
set_option linter.unusedVariables false
set_option linter.unusedSimpArgs false
set_option maxRecDepth 20000
theorem isB1.head {c : Int} {r : List Int} (h : isB1 (c :: r)) : 0 ≤ c ∧ c < 256 := h c (List.mem_cons_self ..)
theorem isB1.one {c : Int} (h : 0 ≤ c ∧ c < 256) : isB1 [c] := fun x hx => by rw [List.mem_singleton] at hx; rw [hx]; exact h
theorem numL_one (c : Int) : numL [c] 1 = c := by simp [numL]
theorem numL_take (r : List Int) (k : Nat) : numL (r.take k) k = numL r k := by simp [numL, List.take_take]
theorem drop_len {r l : List Int} {a : Nat} (h : r.drop a = l) : r.length - a = l.length := by rw [← h, List.length_drop]
theorem isB1.drop1 {r q : List Int} {a : Nat} {x : Int} (hr : isB1 r) (h : r.drop a = x :: q) : 0 ≤ x ∧ x < 256 := (hr.drop a) x (by rw [h]; exact List.mem_cons_self ..)
theorem isB1.drop2 {r q : List Int} {a : Nat} {x d : Int} (hr : isB1 r) (h : r.drop a = x :: d :: q) : 0 ≤ d ∧ d < 256 := (hr.drop a) d (by rw [h]; simp)
theorem slice1 {r q : List Int} {a i j : Nat} {x c : Int} (h : r.drop a = x :: q) (hi : i = a + 1) (hj : j = a + 2) : ((c :: r).take j).drop i = [x] := by
  subst hi hj
  rw [List.take_succ_cons, List.drop_succ_cons, List.drop_take, h]
  simp
theorem slice2 {r q : List Int} {a i j : Nat} {x d c : Int} (h : r.drop a = x :: d :: q) (hi : i = a + 2) (hj : j = a + 3) : ((c :: r).take j).drop i = [d] := by
  subst hi hj
  have h2 : r.drop (a + 1) = d :: q := by rw [← List.drop_drop, h]; rfl
  rw [List.take_succ_cons, List.drop_succ_cons, List.drop_take, h2]
  simp
theorem drop_1 {r q : List Int} {a : Nat} {x : Int} (h : r.drop a = x :: q) : r.drop (a + 1) = q := by rw [← List.drop_drop, h]; rfl
theorem app_by1 (l : List Int) (x : Int) : l.map by1 ++ [[TV.v (.int .u8 x)]] = (l ++ [x]).map by1 := by simp [by1]
theorem scan_1 {r out : List Int} {a : Nat} {x : Int} {R : Int × List Int × Nat} (hd : r.drop a = [x]) (hx : ¬ x = 0) (ho : ¬ (out.length : Int) = 64) (hs : R = scan (r.drop a) out (1 + a)) : R = scan (r.drop (a + 1)) (out ++ [x]) (1 + (a + 1)) := by
  have h2 : out.length ≠ 64 := by omega
  rw [hs, drop_1 hd, hd]; simp [scan, hx, h2]
theorem scan_2 {r out q : List Int} {a : Nat} {x d : Int} {R : Int × List Int × Nat} (hd : r.drop a = x :: d :: q) (hx : ¬ x = 0) (ho : ¬ (out.length : Int) = 64) (hs : R = scan (r.drop a) out (1 + a)) : R = scan (r.drop (a + 1)) (out ++ [x]) (1 + (a + 1)) := by
  have h2 : out.length ≠ 64 := by omega
  rw [hs, drop_1 hd, hd]; simp only [scan, hx, h2, if_false]; rw [show 1 + a + 1 = 1 + (a + 1) by omega]
theorem scan_3 {r out q : List Int} {a : Nat} {x d : Int} {R : Int × List Int × Nat} (hd : r.drop a = x :: d :: q) (hx : x = 0) (h255 : d = 255) (ho : ¬ (out.length : Int) = 64) (hs : R = scan (r.drop a) out (1 + a)) : R = scan (r.drop (a + 2)) (out ++ [x]) (1 + (a + 2)) := by
  have h2 : out.length ≠ 64 := by omega
  have h3 : r.drop (a + 2) = q := drop_1 (drop_1 hd)
  subst hx h255
  rw [hs, h3, hd]; simp only [scan, h2, if_false]; simp [Nat.add_assoc]
theorem decP_4 {r : List Int} {e : Int} (h : scan r [] 1 = (e, [], 0)) (he : e ≠ 0) : decP (4 :: r) = (val0, 0, e) := by simp [decP, h, he]
theorem decP_0 {r out : List Int} {n : Nat} (h : scan r [] 1 = (0, out, n)) : decP (4 :: r) = ((⟨4, 0, strOfNums out⟩ : Val), (n : Int), (0 : Int)) := by simp [decP, h]
theorem decP_3 {r : List Int} (h : 8 ≤ r.length) : decP (3 :: r) = ((⟨3, numL r 8 - 9223372036854775808, ⟨#[]⟩⟩ : Val), (9 : Int), (0 : Int)) := by
  have : ¬ r.length < 8 := by omega
  simp [decP, this]
theorem xor63r {r : List Int} (hr : isB1 r) : IntKind.i64.wrap (IntKind.u64.wrap ((BitVec.ofInt IntKind.u64.bits (numL r 8) ^^^ BitVec.ofInt IntKind.u64.bits 9223372036854775808).toNat : Int)) = numL r 8 - 9223372036854775808 := by
  have h1 := numL_lt hr 8
  have e : (256 : Int) ^ 8 = 18446744073709551616 := by decide
  rw [e] at h1
  have h2 := xor63 (n := IntKind.i64.wrap (numL r 8)) (by unfold I64; rw [wr_i64]; omega)
  rw [show IntKind.u64.wrap (IntKind.i64.wrap (numL r 8)) = numL r 8 by rw [wr_i64, wr_u64]; omega] at h2
  rw [h2, wr_i64, wr_i64]; omega
theorem num1_w {e : Int} {r : List Int} (hr : isB1 (e :: r)) : IntKind.i64.wrap (IntKind.u8.wrap (numL (e :: r) 1)) = e := by
  have h9 := hr.head
  rw [show numL (e :: r) 1 = e by simp [numL], wz.2.2.1 _ (by omega) (by omega), wz.1 _ (by omega) (by omega)]
theorem decP_2a {r : List Int} (hr : isB1 r) (h : 1 ≤ r.length) (h1 : IntKind.i64.wrap (IntKind.u8.wrap (numL r 1)) ≤ 1) : decP (2 :: r) = ((⟨2, IntKind.i64.wrap (IntKind.u8.wrap (numL r 1)), ⟨#[]⟩⟩ : Val), (2 : Int), (0 : Int)) := by
  rcases r with _ | ⟨e, r⟩
  · simp at h
  · rw [num1_w hr] at h1 ⊢
    have h5 : ¬ 1 < e := by omega
    simp [decP, h5]
theorem decP_2b {r : List Int} (hr : isB1 r) (h : 1 ≤ r.length) (h1 : 1 < IntKind.i64.wrap (IntKind.u8.wrap (numL r 1))) : decP (2 :: r) = (val0, (0 : Int), (150 : Int)) := by
  rcases r with _ | ⟨e, r⟩
  · simp at h
  · rw [num1_w hr] at h1
    simp [decP, h1]
theorem decP_2c {r : List Int} (h : r.length < 1) : decP (2 :: r) = (val0, (0 : Int), (7 : Int)) := by
  rcases r with _ | ⟨e, r⟩
  · simp [decP]
  · simp at h
theorem isB1.tail {c : Int} {r : List Int} (h : isB1 (c :: r)) : isB1 r := fun x hx => h x (List.mem_cons_of_mem _ hx)
set_option maxHeartbeats 4000000 in
set_option maxRecDepth 20000 in
theorem decode_X (b : Bool) (l : List Int) (hB : isB1 l) (hl : l.length ≤ 1000000) : XMeets Tryd.prog 17 [.sl b (l.map by1)] (.tu [valX (decP l).1, .p (.v (.int .i64 (decP l).2.1)) (nlv _), .p (.v (.int .i64 (decP l).2.2)) (nlv _)]) := by
  refine XMeets.of_X tabX_ok (avs := [.p (.sl false (l.map by1)) (nl_by1 _).sl]) [(0, .p (.sl false (l.map by1)) (nl_by1 _).sl)] (by kernel_rfl) Tryd.func17 rfl (by simp [PuL, Pu, pu_by1]) (by simp only [untagL, untag, ut_by1]; rfl) rfl rfl ?_
  intro B w0
  rcases l with _ | ⟨c, r⟩
  · skip
    conv => whnf
    refine .inl ?_
    conv => whnf
    refine InlG.mk (by kernel_rfl) Tryd.func46 rfl (Nat.le_of_ble_eq_true rfl) (XT.of tabX_ok ?_)
    conv => whnf
    refine ⟨.inr rfl, ?_⟩
    conv => whnf
    refine .inl ?_
    conv => whnf
    refine InlG.mk (by kernel_rfl) Tryd.func47 rfl (Nat.le_of_ble_eq_true rfl) (XT.of tabX_ok ?_)
    conv => whnf
    refine .inl ?_
    conv => whnf
    refine InlG.mk (by kernel_rfl) Tryd.func63 rfl (Nat.le_of_ble_eq_true rfl) (XT.of tabX_ok ?_)
    conv => whnf
    refine .inl ?_
    conv => whnf
    refine InlG.mk (by kernel_rfl) Tryd.func68 rfl (Nat.le_of_ble_eq_true rfl) (XT.of tabX_ok ?_)
    conv => whnf
    refine .ct ?_
    conv => whnf
    refine CallG.mk (left_X _ _ _ _) rfl ?_
    conv => whnf
    refine .inl ?_
    conv => whnf
    refine InlG.mk (by kernel_rfl) Tryd.func69 rfl (Nat.le_of_ble_eq_true rfl) (XT.of tabX_ok ?_)
    conv => whnf
    refine ⟨.inl rfl, ?_⟩
    conv => whnf
    refine ⟨.inr rfl, ?_⟩
    conv => whnf
    simp only [← List.map_take, ← List.map_drop]
    refine XT.loop tabX_ok (Y := Unit) [4, 6, 11, 12, 13, 14, 15, 16, 17, 18, 19, 20] (fun _ => [(11, .p (.v (.int .i64 0)) (nlv _)), (4, .p (.v (.int .u64 0)) (nlv _))]) (fun _ => []) (fun _ => True) (fun _ => 0) () trivial ?_ ?_
    · skip
      refine ⟨?_, ?_, ?_⟩
      · skip
        repeat ((conv => whnf); first | exact True.intro | refine ⟨.rfl, ?_⟩ | refine ⟨.any, ?_⟩ | refine ⟨.nil, ?_⟩ | refine ⟨.int (by first | rfl | omega | (simp only [wrs]; omega)), ?_⟩)
      · skip
        repeat (first | exact LeVs.nil | ((conv => whnf); first | exact True.intro | exact .none | exact .row rfl | refine .cells ?_ | refine ⟨_, _, rfl, .rfl, ?_⟩ | refine ⟨_, _, rfl, .any, ?_⟩ | refine ⟨_, _, rfl, .nil, ?_⟩ | refine ⟨_, _, rfl, .int (by first | rfl | omega | (simp only [wrs]; omega)), ?_⟩ | refine ⟨?_, ?_⟩))
      · skip
        repeat (first | exact LeFr.nil | ((conv => whnf); first | exact True.intro | refine ⟨.rfl, ?_⟩ | refine ⟨_, _, rfl, rfl, ?_, ?_⟩))
    · skip
      rintro u_ _
      conv => whnf
      refine ⟨.inr rfl, ?_⟩
      conv => whnf
      refine ⟨.inr rfl, ?_⟩
      conv => whnf
      refine .inl ?_
      conv => whnf
      refine InlG.mk (by kernel_rfl) Tryd.func48 rfl (Nat.le_of_ble_eq_true rfl) (XT.of tabX_ok ?_)
      conv => whnf
      refine ⟨.inr rfl, ?_⟩
      conv => whnf
      refine .inl ?_
      conv => whnf
      refine InlG.mk (by kernel_rfl) Tryd.func45 rfl (Nat.le_of_ble_eq_true rfl) (XT.of tabX_ok ?_)
      conv => whnf
      refine ⟨.inr rfl, ?_⟩
      conv => whnf
      refine FinG.mk none ?_ (by rintro _ ⟨⟩)
      simp only [outs, List.length_map, List.length_append, List.length_take, List.length_drop, List.length_cons, List.length_nil, fr_by1, valX]
      simp_all [decP, val0]
  · skip
    have hc0 := hB.head
    have hr0 := hB.tail
    rw [List.length_cons] at hl
    conv => whnf
    refine .inl ?_
    conv => whnf
    refine InlG.mk (by kernel_rfl) Tryd.func46 rfl (Nat.le_of_ble_eq_true rfl) (XT.of tabX_ok ?_)
    conv => whnf
    refine ⟨.inr rfl, ?_⟩
    conv => whnf
    refine .inl ?_
    conv => whnf
    refine InlG.mk (by kernel_rfl) Tryd.func47 rfl (Nat.le_of_ble_eq_true rfl) (XT.of tabX_ok ?_)
    conv => whnf
    refine .inl ?_
    conv => whnf
    refine InlG.mk (by kernel_rfl) Tryd.func63 rfl (Nat.le_of_ble_eq_true rfl) (XT.of tabX_ok ?_)
    conv => whnf
    refine .inl ?_
    conv => whnf
    refine InlG.mk (by kernel_rfl) Tryd.func68 rfl (Nat.le_of_ble_eq_true rfl) (XT.of tabX_ok ?_)
    conv => whnf
    refine .ct ?_
    conv => whnf
    refine CallG.mk (left_X _ _ _ _) rfl ?_
    conv => whnf
    rw [show (decide (IntKind.i64.wrap ((↑(c :: r).length : Int) - 0) < 1)) = false from by simp only [wrs, decide_eq_false_iff_not, List.length_map, List.length_append, List.length_take, List.length_drop, List.length_cons, List.length_nil, fr_by1, valX]; omega]
    conv => whnf
    refine RegG.par 19 (by kernel_rfl) ?_
    conv => whnf
    simp (disch := omega) only [wz, Int.reduceAdd, Int.reduceSub, Int.reduceMul, Int.reduceNeg, Int.zero_add, Int.add_zero, Int.sub_zero, Int.sub_self]
    conv => whnf
    refine ⟨_, rfl, ?_⟩
    conv => whnf
    refine ⟨_, rfl, ?_⟩
    conv => whnf
    refine ⟨by simp only [bls]; omega, ?_⟩
    conv => whnf
    refine ⟨by simp only [List.length_map, List.length_append, beN_len, List.length_cons, List.length_nil, List.length_replicate, List.length_drop]; omega, ?_⟩
    conv => whnf
    refine ⟨len_by1 _, ?_⟩
    conv => whnf
    refine ⟨.inr rfl, ?_⟩
    conv => whnf
    simp only [← List.map_take, ← List.map_drop]
    simp only [List.take_succ_cons, List.take_zero, List.drop_zero, List.drop_succ_cons]
    refine XT.loop tabX_ok (Y := Nat) [4, 6, 11, 12, 13, 14, 15, 16, 17, 18, 19, 20] (fun k => [(11, .p (.v (.int .i64 k)) (nlv _)), (4, .p (.v (.int .u64 (numL ([c]) k))) (nlv _))]) (fun k => []) (fun k => k ≤ 1) (fun k => 1 - k) 0 (Nat.zero_le _) ?_ ?_
    · skip
      refine ⟨?_, ?_, ?_⟩
      · skip
        repeat ((conv => whnf); first | exact True.intro | refine ⟨.rfl, ?_⟩ | refine ⟨.any, ?_⟩ | refine ⟨.nil, ?_⟩ | refine ⟨.int (by first | rfl | omega | (simp only [wrs]; omega)), ?_⟩ | refine ⟨.int (num_step (by assumption) (by assumption) (by omega) (by omega)), ?_⟩)
      · skip
        repeat (first | exact LeVs.nil | ((conv => whnf); first | exact True.intro | exact .none | exact .row rfl | refine .cells ?_ | refine ⟨_, _, rfl, .rfl, ?_⟩ | refine ⟨_, _, rfl, .any, ?_⟩ | refine ⟨_, _, rfl, .nil, ?_⟩ | refine ⟨_, _, rfl, .int (by first | rfl | omega | (simp only [wrs]; omega)), ?_⟩ | refine ⟨_, _, rfl, .int (num_step (by assumption) (by assumption) (by omega) (by omega)), ?_⟩ | refine ⟨?_, ?_⟩))
      · skip
        repeat (first | exact LeFr.nil | ((conv => whnf); first | exact True.intro | refine ⟨.rfl, ?_⟩ | refine ⟨_, _, rfl, rfl, ?_, ?_⟩))
    · skip
      rintro k hk
      have hbb : isB1 ([c]) := isB1.one (by assumption)
      have hlen : List.length ([c]) = 1 := rfl
      rcases Nat.lt_or_ge k 1 with hlt | hge
      · skip
        conv => whnf
        rw [show (decide ((↑k : Int) < (↑(List.map by1 [c]).length : Int))) = true from decide_eq_true (by rw [List.length_map]; omega)]
        conv => whnf
        refine IdxG.map _ rfl (by first | omega | (simp only [bls] at *; omega)) ?_; intro x_ hx_ hk_
        conv => whnf
        refine ⟨rfl, ?_⟩
        conv => whnf
        refine ⟨(k + 1), by omega, by omega, ?_⟩
        refine ⟨?_, ?_, ?_⟩
        · skip
          repeat ((conv => whnf); first | exact True.intro | refine ⟨.rfl, ?_⟩ | refine ⟨.any, ?_⟩ | refine ⟨.nil, ?_⟩ | refine ⟨.int (by first | rfl | omega | (simp only [wrs]; omega)), ?_⟩ | refine ⟨.int (num_step (by assumption) (by assumption) (by omega) (by omega)), ?_⟩)
        · skip
          repeat (first | exact LeVs.nil | ((conv => whnf); first | exact True.intro | exact .none | exact .row rfl | refine .cells ?_ | refine ⟨_, _, rfl, .rfl, ?_⟩ | refine ⟨_, _, rfl, .any, ?_⟩ | refine ⟨_, _, rfl, .nil, ?_⟩ | refine ⟨_, _, rfl, .int (by first | rfl | omega | (simp only [wrs]; omega)), ?_⟩ | refine ⟨_, _, rfl, .int (num_step (by assumption) (by assumption) (by omega) (by omega)), ?_⟩ | refine ⟨?_, ?_⟩))
        · skip
          repeat (first | exact LeFr.nil | ((conv => whnf); first | exact True.intro | refine ⟨.rfl, ?_⟩ | refine ⟨_, _, rfl, rfl, ?_, ?_⟩))
      · skip
        obtain rfl : k = 1 := by omega
        rw [show numL ([c]) 1 = c from numL_one _]
        conv => whnf
        refine ⟨.inr rfl, ?_⟩
        conv => whnf
        refine ⟨.inr rfl, ?_⟩
        conv => whnf
        refine .inl ?_
        conv => whnf
        refine InlG.mk (by kernel_rfl) Tryd.func48 rfl (Nat.le_of_ble_eq_true rfl) (XT.of tabX_ok ?_)
        conv => whnf
        refine ⟨.inr rfl, ?_⟩
        conv => whnf
        cases hc1 : (decide (IntKind.i64.wrap (IntKind.u8.wrap c) = 1))
        · skip
          try simp only [bls] at hc1
          try simp (disch := omega) only [wz, Int.reduceAdd, Int.reduceSub, Int.reduceMul, Int.reduceNeg, Int.zero_add, Int.add_zero, Int.sub_zero, Int.sub_self] at hc1
          conv => whnf
          cases hc2 : (decide (IntKind.i64.wrap (IntKind.u8.wrap c) = 2))
          · skip
            try simp only [bls] at hc2
            try simp (disch := omega) only [wz, Int.reduceAdd, Int.reduceSub, Int.reduceMul, Int.reduceNeg, Int.zero_add, Int.add_zero, Int.sub_zero, Int.sub_self] at hc2
            conv => whnf
            cases hc3 : (decide (IntKind.i64.wrap (IntKind.u8.wrap c) = 3))
            · skip
              try simp only [bls] at hc3
              try simp (disch := omega) only [wz, Int.reduceAdd, Int.reduceSub, Int.reduceMul, Int.reduceNeg, Int.zero_add, Int.add_zero, Int.sub_zero, Int.sub_self] at hc3
              conv => whnf
              cases hc4 : (decide (IntKind.i64.wrap (IntKind.u8.wrap c) = 4))
              · skip
                try simp only [bls] at hc4
                try simp (disch := omega) only [wz, Int.reduceAdd, Int.reduceSub, Int.reduceMul, Int.reduceNeg, Int.zero_add, Int.add_zero, Int.sub_zero, Int.sub_self] at hc4
                conv => whnf
                refine .inl ?_
                conv => whnf
                refine InlG.mk (by kernel_rfl) Tryd.func45 rfl (Nat.le_of_ble_eq_true rfl) (XT.of tabX_ok ?_)
                conv => whnf
                refine ⟨.inr rfl, ?_⟩
                conv => whnf
                refine FinG.mk none ?_ (by rintro _ ⟨⟩)
                simp only [outs, List.length_map, List.length_append, List.length_take, List.length_drop, List.length_cons, List.length_nil, fr_by1, valX]
                simp_all [decP, val0]
              · skip
                try simp only [bls] at hc4
                try simp (disch := omega) only [wz, Int.reduceAdd, Int.reduceSub, Int.reduceMul, Int.reduceNeg, Int.zero_add, Int.add_zero, Int.sub_zero, Int.sub_self] at hc4
                conv => whnf
                refine .inl ?_
                conv => whnf
                refine InlG.mk (by kernel_rfl) Tryd.func50 rfl (Nat.le_of_ble_eq_true rfl) (XT.of tabX_ok ?_)
                conv => whnf
                refine XT.nilr 4 5 1 rfl rfl ?_
                refine XT.loop tabX_ok (Y := Nat × List Int) [2, 3, 4, 5, 6, 7, 8, 9, 10, 11, 12, 13, 14, 15, 16, 17, 18, 19, 20, 21, 22, 23, 24, 25, 26, 27, 28, 29, 30, 31, 32, 33, 34, 35, 36, 37, 38, 39, 40, 41] (fun (a, out) => [(4, .row 3)]) (fun (a, out) => [(1, .cells 94 [.p (.sl false (List.map by1 (c :: r))) (nl_by1 _).sl, .p (.v (.int .i64 ((a : Int) + 1))) (nlv _), .p (.v (.int .i64 0)) (nlv _)]), (3, .row 5 1 (out.map by1) (nl_by1 _))]) (fun (a, out) => a ≤ r.length ∧ out.length ≤ 64 ∧ scan r [] 1 = scan (r.drop a) out (1 + a)) (fun (a, out) => r.length - a) (0, []) ⟨Nat.zero_le _, Nat.zero_le _, rfl⟩ ?_ ?_
                · skip
                  refine ⟨?_, ?_, ?_⟩
                  · skip
                    repeat ((conv => whnf); first | exact True.intro | refine ⟨.rfl, ?_⟩ | refine ⟨.any, ?_⟩ | refine ⟨.nil, ?_⟩ | refine ⟨.int (by first | rfl | omega | (simp only [wrs]; omega)), ?_⟩)
                  · skip
                    repeat (first | exact LeVs.nil | ((conv => whnf); first | exact True.intro | exact .none | exact .row rfl | exact .row (app_by1 _ _) | refine .cells ?_ | refine ⟨_, _, rfl, .rfl, ?_⟩ | refine ⟨_, _, rfl, .any, ?_⟩ | refine ⟨_, _, rfl, .nil, ?_⟩ | refine ⟨_, _, rfl, .int (by first | rfl | omega | (simp only [wrs]; omega)), ?_⟩ | refine ⟨?_, ?_⟩))
                  · skip
                    repeat (first | exact LeFr.nil | ((conv => whnf); first | exact True.intro | refine ⟨.rfl, ?_⟩ | refine ⟨_, _, rfl, rfl, ?_, ?_⟩))
                · skip
                  rintro ⟨a, out⟩ ⟨hk, ho, hs⟩
                  rcases hd : r.drop a with _ | ⟨x, _ | ⟨d, q⟩⟩
                  · skip
                    have hla := drop_len hd
                    simp only [List.length_nil] at hla
                    conv => whnf
                    refine .inl ?_
                    conv => whnf
                    refine InlG.mk (by kernel_rfl) Tryd.func47 rfl (Nat.le_of_ble_eq_true rfl) (XT.of tabX_ok ?_)
                    conv => whnf
                    refine .inl ?_
                    conv => whnf
                    refine InlG.mk (by kernel_rfl) Tryd.func63 rfl (Nat.le_of_ble_eq_true rfl) (XT.of tabX_ok ?_)
                    conv => whnf
                    refine .inl ?_
                    conv => whnf
                    refine InlG.mk (by kernel_rfl) Tryd.func68 rfl (Nat.le_of_ble_eq_true rfl) (XT.of tabX_ok ?_)
                    conv => whnf
                    refine .ct ?_
                    conv => whnf
                    refine CallG.mk (left_X _ _ _ _) rfl ?_
                    conv => whnf
                    rw [show (decide (IntKind.i64.wrap ((↑(c :: r).length : Int) - ((↑a : Int) + 1)) < 1)) = true from by simp only [wrs, decide_eq_true_eq, List.length_map, List.length_append, List.length_take, List.length_drop, List.length_cons, List.length_nil, fr_by1, valX]; omega]
                    conv => whnf
                    refine .inl ?_
                    conv => whnf
                    refine InlG.mk (by kernel_rfl) Tryd.func69 rfl (Nat.le_of_ble_eq_true rfl) (XT.of tabX_ok ?_)
                    conv => whnf
                    refine ⟨.inl rfl, ?_⟩
                    conv => whnf
                    refine ⟨.inr rfl, ?_⟩
                    conv => whnf
                    simp only [← List.map_take, ← List.map_drop]
                    refine XT.loop tabX_ok (Y := Unit) [4, 6, 11, 12, 13, 14, 15, 16, 17, 18, 19, 20] (fun _ => [(11, .p (.v (.int .i64 0)) (nlv _)), (4, .p (.v (.int .u64 0)) (nlv _))]) (fun _ => []) (fun _ => True) (fun _ => 0) () trivial ?_ ?_
                    · skip
                      refine ⟨?_, ?_, ?_⟩
                      · skip
                        repeat ((conv => whnf); first | exact True.intro | refine ⟨.rfl, ?_⟩ | refine ⟨.any, ?_⟩ | refine ⟨.nil, ?_⟩ | refine ⟨.int (by first | rfl | omega | (simp only [wrs]; omega)), ?_⟩)
                      · skip
                        repeat (first | exact LeVs.nil | ((conv => whnf); first | exact True.intro | exact .none | exact .row rfl | refine .cells ?_ | refine ⟨_, _, rfl, .rfl, ?_⟩ | refine ⟨_, _, rfl, .any, ?_⟩ | refine ⟨_, _, rfl, .nil, ?_⟩ | refine ⟨_, _, rfl, .int (by first | rfl | omega | (simp only [wrs]; omega)), ?_⟩ | refine ⟨?_, ?_⟩))
                      · skip
                        repeat (first | exact LeFr.nil | ((conv => whnf); first | exact True.intro | refine ⟨.rfl, ?_⟩ | refine ⟨_, _, rfl, rfl, ?_, ?_⟩))
                    · skip
                      rintro u_ _
                      conv => whnf
                      refine ⟨.inr rfl, ?_⟩
                      conv => whnf
                      refine ⟨.inr rfl, ?_⟩
                      conv => whnf
                      refine .inl ?_
                      conv => whnf
                      refine InlG.mk (by kernel_rfl) Tryd.func48 rfl (Nat.le_of_ble_eq_true rfl) (XT.of tabX_ok ?_)
                      conv => whnf
                      refine ⟨.inr rfl, ?_⟩
                      conv => whnf
                      refine .inl ?_
                      conv => whnf
                      refine InlG.mk (by kernel_rfl) Tryd.func48 rfl (Nat.le_of_ble_eq_true rfl) (XT.of tabX_ok ?_)
                      conv => whnf
                      refine ⟨.inr rfl, ?_⟩
                      conv => whnf
                      refine ⟨.inr rfl, ?_⟩
                      conv => whnf
                      refine .inl ?_
                      conv => whnf
                      refine InlG.mk (by kernel_rfl) Tryd.func45 rfl (Nat.le_of_ble_eq_true rfl) (XT.of tabX_ok ?_)
                      conv => whnf
                      refine ⟨.inr rfl, ?_⟩
                      conv => whnf
                      refine FinG.mk none ?_ (by rintro _ ⟨⟩)
                      simp only [outs, List.length_map, List.length_append, List.length_take, List.length_drop, List.length_cons, List.length_nil, fr_by1, valX]
                      try have h64 : out.length = 64 := by omega
                      have e9 : scan r [] 1 = (7, [], 0) := by rw [hs, hd]; simp [scan, *]
                      rw [show c = 4 by assumption, decP_4 e9 (by decide)]
                      exact ⟨⟨rfl, rfl, rfl⟩, rfl, rfl⟩
                  · skip
                    have hla := drop_len hd
                    simp only [List.length_cons, List.length_nil] at hla
                    have hx0 := isB1.drop1 hr0 hd
                    conv => whnf
                    refine .inl ?_
                    conv => whnf
                    refine InlG.mk (by kernel_rfl) Tryd.func47 rfl (Nat.le_of_ble_eq_true rfl) (XT.of tabX_ok ?_)
                    conv => whnf
                    refine .inl ?_
                    conv => whnf
                    refine InlG.mk (by kernel_rfl) Tryd.func63 rfl (Nat.le_of_ble_eq_true rfl) (XT.of tabX_ok ?_)
                    conv => whnf
                    refine .inl ?_
                    conv => whnf
                    refine InlG.mk (by kernel_rfl) Tryd.func68 rfl (Nat.le_of_ble_eq_true rfl) (XT.of tabX_ok ?_)
                    conv => whnf
                    refine .ct ?_
                    conv => whnf
                    refine CallG.mk (left_X _ _ _ _) rfl ?_
                    conv => whnf
                    rw [show (decide (IntKind.i64.wrap ((↑(c :: r).length : Int) - ((↑a : Int) + 1)) < 1)) = false from by simp only [wrs, decide_eq_false_iff_not, List.length_map, List.length_append, List.length_take, List.length_drop, List.length_cons, List.length_nil, fr_by1, valX]; omega]
                    conv => whnf
                    refine RegG.par 19 (by kernel_rfl) ?_
                    conv => whnf
                    rw [show IntKind.i64.wrap ((↑a : Int) + 1 + 1) = ((↑a : Int) + 1 + 1) from wz.1 _ (by omega) (by omega)]
                    conv => whnf
                    rw [show IntKind.i64.wrap ((↑a : Int) + 1 + 1 - 1) = ((↑a : Int) + 1 + 1 - 1) from wz.1 _ (by omega) (by omega)]
                    conv => whnf
                    refine ⟨_, (Int.toNat_of_nonneg (by omega)).symm, ?_⟩
                    conv => whnf
                    refine ⟨_, rfl, ?_⟩
                    conv => whnf
                    refine ⟨by simp only [bls]; omega, ?_⟩
                    conv => whnf
                    refine ⟨by simp only [List.length_map, List.length_append, beN_len, List.length_cons, List.length_nil, List.length_replicate, List.length_drop]; omega, ?_⟩
                    conv => whnf
                    refine ⟨len_by1 _, ?_⟩
                    conv => whnf
                    refine ⟨.inr rfl, ?_⟩
                    conv => whnf
                    simp only [← List.map_take, ← List.map_drop]
                    simp only [show List.drop ((↑a : Int) + 1 + 1 - 1).toNat (List.take (a + 1 + 1) (c :: r)) = [x] from slice1 hd (by omega) (by omega)]
                    refine XT.loop tabX_ok (Y := Nat) [4, 6, 11, 12, 13, 14, 15, 16, 17, 18, 19, 20] (fun k => [(11, .p (.v (.int .i64 k)) (nlv _)), (4, .p (.v (.int .u64 (numL ([x]) k))) (nlv _))]) (fun k => []) (fun k => k ≤ 1) (fun k => 1 - k) 0 (Nat.zero_le _) ?_ ?_
                    · skip
                      refine ⟨?_, ?_, ?_⟩
                      · skip
                        repeat ((conv => whnf); first | exact True.intro | refine ⟨.rfl, ?_⟩ | refine ⟨.any, ?_⟩ | refine ⟨.nil, ?_⟩ | refine ⟨.int (by first | rfl | omega | (simp only [wrs]; omega)), ?_⟩ | refine ⟨.int (num_step (by assumption) (by assumption) (by omega) (by omega)), ?_⟩)
                      · skip
                        repeat (first | exact LeVs.nil | ((conv => whnf); first | exact True.intro | exact .none | exact .row rfl | refine .cells ?_ | refine ⟨_, _, rfl, .rfl, ?_⟩ | refine ⟨_, _, rfl, .any, ?_⟩ | refine ⟨_, _, rfl, .nil, ?_⟩ | refine ⟨_, _, rfl, .int (by first | rfl | omega | (simp only [wrs]; omega)), ?_⟩ | refine ⟨_, _, rfl, .int (num_step (by assumption) (by assumption) (by omega) (by omega)), ?_⟩ | refine ⟨?_, ?_⟩))
                      · skip
                        repeat (first | exact LeFr.nil | ((conv => whnf); first | exact True.intro | refine ⟨.rfl, ?_⟩ | refine ⟨_, _, rfl, rfl, ?_, ?_⟩))
                    · skip
                      rintro k hk
                      have hbb : isB1 ([x]) := isB1.one (by assumption)
                      have hlen : List.length ([x]) = 1 := rfl
                      rcases Nat.lt_or_ge k 1 with hlt | hge
                      · skip
                        conv => whnf
                        rw [show (decide ((↑k : Int) < (↑(List.map by1 [x]).length : Int))) = true from decide_eq_true (by rw [List.length_map]; omega)]
                        conv => whnf
                        refine IdxG.map _ rfl (by first | omega | (simp only [bls] at *; omega)) ?_; intro x_ hx_ hk_
                        conv => whnf
                        refine ⟨rfl, ?_⟩
                        conv => whnf
                        refine ⟨(k + 1), by omega, by omega, ?_⟩
                        refine ⟨?_, ?_, ?_⟩
                        · skip
                          repeat ((conv => whnf); first | exact True.intro | refine ⟨.rfl, ?_⟩ | refine ⟨.any, ?_⟩ | refine ⟨.nil, ?_⟩ | refine ⟨.int (by first | rfl | omega | (simp only [wrs]; omega)), ?_⟩ | refine ⟨.int (num_step (by assumption) (by assumption) (by omega) (by omega)), ?_⟩)
                        · skip
                          repeat (first | exact LeVs.nil | ((conv => whnf); first | exact True.intro | exact .none | exact .row rfl | refine .cells ?_ | refine ⟨_, _, rfl, .rfl, ?_⟩ | refine ⟨_, _, rfl, .any, ?_⟩ | refine ⟨_, _, rfl, .nil, ?_⟩ | refine ⟨_, _, rfl, .int (by first | rfl | omega | (simp only [wrs]; omega)), ?_⟩ | refine ⟨_, _, rfl, .int (num_step (by assumption) (by assumption) (by omega) (by omega)), ?_⟩ | refine ⟨?_, ?_⟩))
                        · skip
                          repeat (first | exact LeFr.nil | ((conv => whnf); first | exact True.intro | refine ⟨.rfl, ?_⟩ | refine ⟨_, _, rfl, rfl, ?_, ?_⟩))
                      · skip
                        obtain rfl : k = 1 := by omega
                        rw [show numL ([x]) 1 = x from numL_one _]
                        conv => whnf
                        refine ⟨.inr rfl, ?_⟩
                        conv => whnf
                        refine ⟨.inr rfl, ?_⟩
                        conv => whnf
                        cases hc5 : (decide (IntKind.u8.wrap x = 0))
                        · skip
                          try simp only [bls] at hc5
                          try simp (disch := omega) only [wz, Int.reduceAdd, Int.reduceSub, Int.reduceMul, Int.reduceNeg, Int.zero_add, Int.add_zero, Int.sub_zero, Int.sub_self] at hc5
                          conv => whnf
                          refine .inl ?_
                          conv => whnf
                          refine InlG.mk (by kernel_rfl) Tryd.func48 rfl (Nat.le_of_ble_eq_true rfl) (XT.of tabX_ok ?_)
                          conv => whnf
                          refine ⟨.inr rfl, ?_⟩
                          conv => whnf
                          cases hc6 : (decide ((↑(List.map by1 out).length : Int) = 64))
                          · skip
                            try simp only [bls] at hc6
                            conv => whnf
                            simp (disch := omega) only [wz, Int.reduceAdd, Int.reduceSub, Int.reduceMul, Int.reduceNeg, Int.zero_add, Int.add_zero, Int.sub_zero, Int.sub_self]
                            conv => whnf
                            refine ⟨ApOk.lit rfl, ?_⟩
                            conv => whnf
                            refine ⟨by simp only [List.length_map, List.length_append, beN_len, List.length_cons, List.length_nil, List.length_replicate, List.length_drop]; omega, ?_⟩
                            conv => whnf
                            refine ⟨(a + 1, out ++ [x]), ⟨by omega, by rw [List.length_append, List.length_singleton]; omega, scan_1 hd (by assumption) (by assumption) hs⟩, (show r.length - (a + 1) < r.length - a by omega), ?_⟩
                            refine ⟨?_, ?_, ?_⟩
                            · skip
                              repeat ((conv => whnf); first | exact True.intro | refine ⟨.rfl, ?_⟩ | refine ⟨.any, ?_⟩ | refine ⟨.nil, ?_⟩ | refine ⟨.int (by first | rfl | omega | (simp only [wrs]; omega)), ?_⟩)
                            · skip
                              repeat (first | exact LeVs.nil | ((conv => whnf); first | exact True.intro | exact .none | exact .row rfl | exact .row (app_by1 _ _) | refine .cells ?_ | refine ⟨_, _, rfl, .rfl, ?_⟩ | refine ⟨_, _, rfl, .any, ?_⟩ | refine ⟨_, _, rfl, .nil, ?_⟩ | refine ⟨_, _, rfl, .int (by first | rfl | omega | (simp only [wrs]; omega)), ?_⟩ | refine ⟨?_, ?_⟩))
                            · skip
                              repeat (first | exact LeFr.nil | ((conv => whnf); first | exact True.intro | refine ⟨.rfl, ?_⟩ | refine ⟨_, _, rfl, rfl, ?_, ?_⟩))
                          · skip
                            try simp only [bls] at hc6
                            conv => whnf
                            refine ⟨.inr rfl, ?_⟩
                            conv => whnf
                            refine .inl ?_
                            conv => whnf
                            refine InlG.mk (by kernel_rfl) Tryd.func45 rfl (Nat.le_of_ble_eq_true rfl) (XT.of tabX_ok ?_)
                            conv => whnf
                            refine ⟨.inr rfl, ?_⟩
                            conv => whnf
                            refine FinG.mk none ?_ (by rintro _ ⟨⟩)
                            simp only [outs, List.length_map, List.length_append, List.length_take, List.length_drop, List.length_cons, List.length_nil, fr_by1, valX]
                            try have h64 : out.length = 64 := by omega
                            have e9 : scan r [] 1 = (150, [], 0) := by rw [hs, hd]; simp [scan, *]
                            rw [show c = 4 by assumption, decP_4 e9 (by decide)]
                            exact ⟨⟨rfl, rfl, rfl⟩, rfl, rfl⟩
                        · skip
                          try simp only [bls] at hc5
                          try simp (disch := omega) only [wz, Int.reduceAdd, Int.reduceSub, Int.reduceMul, Int.reduceNeg, Int.zero_add, Int.add_zero, Int.sub_zero, Int.sub_self] at hc5
                          conv => whnf
                          refine .inl ?_
                          conv => whnf
                          refine InlG.mk (by kernel_rfl) Tryd.func48 rfl (Nat.le_of_ble_eq_true rfl) (XT.of tabX_ok ?_)
                          conv => whnf
                          refine ⟨.inr rfl, ?_⟩
                          conv => whnf
                          refine .inl ?_
                          conv => whnf
                          refine InlG.mk (by kernel_rfl) Tryd.func47 rfl (Nat.le_of_ble_eq_true rfl) (XT.of tabX_ok ?_)
                          conv => whnf
                          refine .inl ?_
                          conv => whnf
                          refine InlG.mk (by kernel_rfl) Tryd.func63 rfl (Nat.le_of_ble_eq_true rfl) (XT.of tabX_ok ?_)
                          conv => whnf
                          refine .inl ?_
                          conv => whnf
                          refine InlG.mk (by kernel_rfl) Tryd.func68 rfl (Nat.le_of_ble_eq_true rfl) (XT.of tabX_ok ?_)
                          conv => whnf
                          refine .ct ?_
                          conv => whnf
                          refine CallG.mk (left_X _ _ _ _) rfl ?_
                          conv => whnf
                          rw [show (decide (IntKind.i64.wrap ((↑(c :: r).length : Int) - ((↑a : Int) + 1 + 1)) < 1)) = true from by simp only [wrs, decide_eq_true_eq, List.length_map, List.length_append, List.length_take, List.length_drop, List.length_cons, List.length_nil, fr_by1, valX]; omega]
                          conv => whnf
                          refine .inl ?_
                          conv => whnf
                          refine InlG.mk (by kernel_rfl) Tryd.func69 rfl (Nat.le_of_ble_eq_true rfl) (XT.of tabX_ok ?_)
                          conv => whnf
                          refine ⟨.inl rfl, ?_⟩
                          conv => whnf
                          refine ⟨.inr rfl, ?_⟩
                          conv => whnf
                          simp only [← List.map_take, ← List.map_drop]
                          refine XT.loop tabX_ok (Y := Unit) [4, 6, 11, 12, 13, 14, 15, 16, 17, 18, 19, 20] (fun _ => [(11, .p (.v (.int .i64 0)) (nlv _)), (4, .p (.v (.int .u64 0)) (nlv _))]) (fun _ => []) (fun _ => True) (fun _ => 0) () trivial ?_ ?_
                          · skip
                            refine ⟨?_, ?_, ?_⟩
                            · skip
                              repeat ((conv => whnf); first | exact True.intro | refine ⟨.rfl, ?_⟩ | refine ⟨.any, ?_⟩ | refine ⟨.nil, ?_⟩ | refine ⟨.int (by first | rfl | omega | (simp only [wrs]; omega)), ?_⟩)
                            · skip
                              repeat (first | exact LeVs.nil | ((conv => whnf); first | exact True.intro | exact .none | exact .row rfl | refine .cells ?_ | refine ⟨_, _, rfl, .rfl, ?_⟩ | refine ⟨_, _, rfl, .any, ?_⟩ | refine ⟨_, _, rfl, .nil, ?_⟩ | refine ⟨_, _, rfl, .int (by first | rfl | omega | (simp only [wrs]; omega)), ?_⟩ | refine ⟨?_, ?_⟩))
                            · skip
                              repeat (first | exact LeFr.nil | ((conv => whnf); first | exact True.intro | refine ⟨.rfl, ?_⟩ | refine ⟨_, _, rfl, rfl, ?_, ?_⟩))
                          · skip
                            rintro u_ _
                            conv => whnf
                            refine ⟨.inr rfl, ?_⟩
                            conv => whnf
                            refine ⟨.inr rfl, ?_⟩
                            conv => whnf
                            refine .inl ?_
                            conv => whnf
                            refine InlG.mk (by kernel_rfl) Tryd.func48 rfl (Nat.le_of_ble_eq_true rfl) (XT.of tabX_ok ?_)
                            conv => whnf
                            refine ⟨.inr rfl, ?_⟩
                            conv => whnf
                            refine ⟨.inr rfl, ?_⟩
                            conv => whnf
                            refine .inl ?_
                            conv => whnf
                            refine InlG.mk (by kernel_rfl) Tryd.func45 rfl (Nat.le_of_ble_eq_true rfl) (XT.of tabX_ok ?_)
                            conv => whnf
                            refine ⟨.inr rfl, ?_⟩
                            conv => whnf
                            refine FinG.mk none ?_ (by rintro _ ⟨⟩)
                            simp only [outs, List.length_map, List.length_append, List.length_take, List.length_drop, List.length_cons, List.length_nil, fr_by1, valX]
                            try have h64 : out.length = 64 := by omega
                            have e9 : scan r [] 1 = (7, [], 0) := by rw [hs, hd]; simp [scan, *]
                            rw [show c = 4 by assumption, decP_4 e9 (by decide)]
                            exact ⟨⟨rfl, rfl, rfl⟩, rfl, rfl⟩
                  · skip
                    have hla := drop_len hd
                    simp only [List.length_cons] at hla
                    have hx0 := isB1.drop1 hr0 hd
                    have hd0 := isB1.drop2 hr0 hd
                    conv => whnf
                    refine .inl ?_
                    conv => whnf
                    refine InlG.mk (by kernel_rfl) Tryd.func47 rfl (Nat.le_of_ble_eq_true rfl) (XT.of tabX_ok ?_)
                    conv => whnf
                    refine .inl ?_
                    conv => whnf
                    refine InlG.mk (by kernel_rfl) Tryd.func63 rfl (Nat.le_of_ble_eq_true rfl) (XT.of tabX_ok ?_)
                    conv => whnf
                    refine .inl ?_
                    conv => whnf
                    refine InlG.mk (by kernel_rfl) Tryd.func68 rfl (Nat.le_of_ble_eq_true rfl) (XT.of tabX_ok ?_)
                    conv => whnf
                    refine .ct ?_
                    conv => whnf
                    refine CallG.mk (left_X _ _ _ _) rfl ?_
                    conv => whnf
                    rw [show (decide (IntKind.i64.wrap ((↑(c :: r).length : Int) - ((↑a : Int) + 1)) < 1)) = false from by simp only [wrs, decide_eq_false_iff_not, List.length_map, List.length_append, List.length_take, List.length_drop, List.length_cons, List.length_nil, fr_by1, valX]; omega]
                    conv => whnf
                    refine RegG.par 19 (by kernel_rfl) ?_
                    conv => whnf
                    rw [show IntKind.i64.wrap ((↑a : Int) + 1 + 1) = ((↑a : Int) + 1 + 1) from wz.1 _ (by omega) (by omega)]
                    conv => whnf
                    rw [show IntKind.i64.wrap ((↑a : Int) + 1 + 1 - 1) = ((↑a : Int) + 1 + 1 - 1) from wz.1 _ (by omega) (by omega)]
                    conv => whnf
                    refine ⟨_, (Int.toNat_of_nonneg (by omega)).symm, ?_⟩
                    conv => whnf
                    refine ⟨_, rfl, ?_⟩
                    conv => whnf
                    refine ⟨by simp only [bls]; omega, ?_⟩
                    conv => whnf
                    refine ⟨by simp only [List.length_map, List.length_append, beN_len, List.length_cons, List.length_nil, List.length_replicate, List.length_drop]; omega, ?_⟩
                    conv => whnf
                    refine ⟨len_by1 _, ?_⟩
                    conv => whnf
                    refine ⟨.inr rfl, ?_⟩
                    conv => whnf
                    simp only [← List.map_take, ← List.map_drop]
                    simp only [show List.drop ((↑a : Int) + 1 + 1 - 1).toNat (List.take (a + 1 + 1) (c :: r)) = [x] from slice1 hd (by omega) (by omega)]
                    refine XT.loop tabX_ok (Y := Nat) [4, 6, 11, 12, 13, 14, 15, 16, 17, 18, 19, 20] (fun k => [(11, .p (.v (.int .i64 k)) (nlv _)), (4, .p (.v (.int .u64 (numL ([x]) k))) (nlv _))]) (fun k => []) (fun k => k ≤ 1) (fun k => 1 - k) 0 (Nat.zero_le _) ?_ ?_
                    · skip
                      refine ⟨?_, ?_, ?_⟩
                      · skip
                        repeat ((conv => whnf); first | exact True.intro | refine ⟨.rfl, ?_⟩ | refine ⟨.any, ?_⟩ | refine ⟨.nil, ?_⟩ | refine ⟨.int (by first | rfl | omega | (simp only [wrs]; omega)), ?_⟩ | refine ⟨.int (num_step (by assumption) (by assumption) (by omega) (by omega)), ?_⟩)
                      · skip
                        repeat (first | exact LeVs.nil | ((conv => whnf); first | exact True.intro | exact .none | exact .row rfl | refine .cells ?_ | refine ⟨_, _, rfl, .rfl, ?_⟩ | refine ⟨_, _, rfl, .any, ?_⟩ | refine ⟨_, _, rfl, .nil, ?_⟩ | refine ⟨_, _, rfl, .int (by first | rfl | omega | (simp only [wrs]; omega)), ?_⟩ | refine ⟨_, _, rfl, .int (num_step (by assumption) (by assumption) (by omega) (by omega)), ?_⟩ | refine ⟨?_, ?_⟩))
                      · skip
                        repeat (first | exact LeFr.nil | ((conv => whnf); first | exact True.intro | refine ⟨.rfl, ?_⟩ | refine ⟨_, _, rfl, rfl, ?_, ?_⟩))
                    · skip
                      rintro k hk
                      have hbb : isB1 ([x]) := isB1.one (by assumption)
                      have hlen : List.length ([x]) = 1 := rfl
                      rcases Nat.lt_or_ge k 1 with hlt | hge
                      · skip
                        conv => whnf
                        rw [show (decide ((↑k : Int) < (↑(List.map by1 [x]).length : Int))) = true from decide_eq_true (by rw [List.length_map]; omega)]
                        conv => whnf
                        refine IdxG.map _ rfl (by first | omega | (simp only [bls] at *; omega)) ?_; intro x_ hx_ hk_
                        conv => whnf
                        refine ⟨rfl, ?_⟩
                        conv => whnf
                        refine ⟨(k + 1), by omega, by omega, ?_⟩
                        refine ⟨?_, ?_, ?_⟩
                        · skip
                          repeat ((conv => whnf); first | exact True.intro | refine ⟨.rfl, ?_⟩ | refine ⟨.any, ?_⟩ | refine ⟨.nil, ?_⟩ | refine ⟨.int (by first | rfl | omega | (simp only [wrs]; omega)), ?_⟩ | refine ⟨.int (num_step (by assumption) (by assumption) (by omega) (by omega)), ?_⟩)
                        · skip
                          repeat (first | exact LeVs.nil | ((conv => whnf); first | exact True.intro | exact .none | exact .row rfl | refine .cells ?_ | refine ⟨_, _, rfl, .rfl, ?_⟩ | refine ⟨_, _, rfl, .any, ?_⟩ | refine ⟨_, _, rfl, .nil, ?_⟩ | refine ⟨_, _, rfl, .int (by first | rfl | omega | (simp only [wrs]; omega)), ?_⟩ | refine ⟨_, _, rfl, .int (num_step (by assumption) (by assumption) (by omega) (by omega)), ?_⟩ | refine ⟨?_, ?_⟩))
                        · skip
                          repeat (first | exact LeFr.nil | ((conv => whnf); first | exact True.intro | refine ⟨.rfl, ?_⟩ | refine ⟨_, _, rfl, rfl, ?_, ?_⟩))
                      · skip
                        obtain rfl : k = 1 := by omega
                        rw [show numL ([x]) 1 = x from numL_one _]
                        conv => whnf
                        refine ⟨.inr rfl, ?_⟩
                        conv => whnf
                        refine ⟨.inr rfl, ?_⟩
                        conv => whnf
                        cases hc7 : (decide (IntKind.u8.wrap x = 0))
                        · skip
                          try simp only [bls] at hc7
                          try simp (disch := omega) only [wz, Int.reduceAdd, Int.reduceSub, Int.reduceMul, Int.reduceNeg, Int.zero_add, Int.add_zero, Int.sub_zero, Int.sub_self] at hc7
                          conv => whnf
                          refine .inl ?_
                          conv => whnf
                          refine InlG.mk (by kernel_rfl) Tryd.func48 rfl (Nat.le_of_ble_eq_true rfl) (XT.of tabX_ok ?_)
                          conv => whnf
                          refine ⟨.inr rfl, ?_⟩
                          conv => whnf
                          cases hc8 : (decide ((↑(List.map by1 out).length : Int) = 64))
                          · skip
                            try simp only [bls] at hc8
                            conv => whnf
                            refine ⟨ApOk.lit rfl, ?_⟩
                            conv => whnf
                            simp (disch := omega) only [wz, Int.reduceAdd, Int.reduceSub, Int.reduceMul, Int.reduceNeg, Int.zero_add, Int.add_zero, Int.sub_zero, Int.sub_self]
                            conv => whnf
                            refine ⟨by simp only [List.length_map, List.length_append, beN_len, List.length_cons, List.length_nil, List.length_replicate, List.length_drop]; omega, ?_⟩
                            conv => whnf
                            refine ⟨(a + 1, out ++ [x]), ⟨by omega, by rw [List.length_append, List.length_singleton]; omega, scan_2 hd (by assumption) (by assumption) hs⟩, (show r.length - (a + 1) < r.length - a by omega), ?_⟩
                            refine ⟨?_, ?_, ?_⟩
                            · skip
                              repeat ((conv => whnf); first | exact True.intro | refine ⟨.rfl, ?_⟩ | refine ⟨.any, ?_⟩ | refine ⟨.nil, ?_⟩ | refine ⟨.int (by first | rfl | omega | (simp only [wrs]; omega)), ?_⟩)
                            · skip
                              repeat (first | exact LeVs.nil | ((conv => whnf); first | exact True.intro | exact .none | exact .row rfl | exact .row (app_by1 _ _) | refine .cells ?_ | refine ⟨_, _, rfl, .rfl, ?_⟩ | refine ⟨_, _, rfl, .any, ?_⟩ | refine ⟨_, _, rfl, .nil, ?_⟩ | refine ⟨_, _, rfl, .int (by first | rfl | omega | (simp only [wrs]; omega)), ?_⟩ | refine ⟨?_, ?_⟩))
                            · skip
                              repeat (first | exact LeFr.nil | ((conv => whnf); first | exact True.intro | refine ⟨.rfl, ?_⟩ | refine ⟨_, _, rfl, rfl, ?_, ?_⟩))
                          · skip
                            try simp only [bls] at hc8
                            conv => whnf
                            refine ⟨.inr rfl, ?_⟩
                            conv => whnf
                            refine .inl ?_
                            conv => whnf
                            refine InlG.mk (by kernel_rfl) Tryd.func45 rfl (Nat.le_of_ble_eq_true rfl) (XT.of tabX_ok ?_)
                            conv => whnf
                            refine ⟨.inr rfl, ?_⟩
                            conv => whnf
                            refine FinG.mk none ?_ (by rintro _ ⟨⟩)
                            simp only [outs, List.length_map, List.length_append, List.length_take, List.length_drop, List.length_cons, List.length_nil, fr_by1, valX]
                            try have h64 : out.length = 64 := by omega
                            have e9 : scan r [] 1 = (150, [], 0) := by rw [hs, hd]; simp [scan, *]
                            rw [show c = 4 by assumption, decP_4 e9 (by decide)]
                            exact ⟨⟨rfl, rfl, rfl⟩, rfl, rfl⟩
                        · skip
                          try simp only [bls] at hc7
                          try simp (disch := omega) only [wz, Int.reduceAdd, Int.reduceSub, Int.reduceMul, Int.reduceNeg, Int.zero_add, Int.add_zero, Int.sub_zero, Int.sub_self] at hc7
                          conv => whnf
                          refine .inl ?_
                          conv => whnf
                          refine InlG.mk (by kernel_rfl) Tryd.func48 rfl (Nat.le_of_ble_eq_true rfl) (XT.of tabX_ok ?_)
                          conv => whnf
                          refine ⟨.inr rfl, ?_⟩
                          conv => whnf
                          refine .inl ?_
                          conv => whnf
                          refine InlG.mk (by kernel_rfl) Tryd.func47 rfl (Nat.le_of_ble_eq_true rfl) (XT.of tabX_ok ?_)
                          conv => whnf
                          refine .inl ?_
                          conv => whnf
                          refine InlG.mk (by kernel_rfl) Tryd.func63 rfl (Nat.le_of_ble_eq_true rfl) (XT.of tabX_ok ?_)
                          conv => whnf
                          refine .inl ?_
                          conv => whnf
                          refine InlG.mk (by kernel_rfl) Tryd.func68 rfl (Nat.le_of_ble_eq_true rfl) (XT.of tabX_ok ?_)
                          conv => whnf
                          refine .ct ?_
                          conv => whnf
                          refine CallG.mk (left_X _ _ _ _) rfl ?_
                          conv => whnf
                          rw [show (decide (IntKind.i64.wrap ((↑(c :: r).length : Int) - ((↑a : Int) + 1 + 1)) < 1)) = false from by simp only [wrs, decide_eq_false_iff_not, List.length_map, List.length_append, List.length_take, List.length_drop, List.length_cons, List.length_nil, fr_by1, valX]; omega]
                          conv => whnf
                          refine RegG.par 19 (by kernel_rfl) ?_
                          conv => whnf
                          rw [show IntKind.i64.wrap ((↑a : Int) + 1 + 1 + 1) = ((↑a : Int) + 1 + 1 + 1) from wz.1 _ (by omega) (by omega)]
                          conv => whnf
                          rw [show IntKind.i64.wrap ((↑a : Int) + 1 + 1 + 1 - 1) = ((↑a : Int) + 1 + 1 + 1 - 1) from wz.1 _ (by omega) (by omega)]
                          conv => whnf
                          refine ⟨_, (Int.toNat_of_nonneg (by omega)).symm, ?_⟩
                          conv => whnf
                          refine ⟨_, rfl, ?_⟩
                          conv => whnf
                          refine ⟨by simp only [bls]; omega, ?_⟩
                          conv => whnf
                          refine ⟨by simp only [List.length_map, List.length_append, beN_len, List.length_cons, List.length_nil, List.length_replicate, List.length_drop]; omega, ?_⟩
                          conv => whnf
                          refine ⟨len_by1 _, ?_⟩
                          conv => whnf
                          refine ⟨.inr rfl, ?_⟩
                          conv => whnf
                          simp only [← List.map_take, ← List.map_drop]
                          simp only [show List.drop ((↑a : Int) + 1 + 1 + 1 - 1).toNat (List.take (a + 1 + 1 + 1) (c :: r)) = [d] from slice2 hd (by omega) (by omega)]
                          refine XT.loop tabX_ok (Y := Nat) [4, 6, 11, 12, 13, 14, 15, 16, 17, 18, 19, 20] (fun k => [(11, .p (.v (.int .i64 k)) (nlv _)), (4, .p (.v (.int .u64 (numL ([d]) k))) (nlv _))]) (fun k => []) (fun k => k ≤ 1) (fun k => 1 - k) 0 (Nat.zero_le _) ?_ ?_
                          · skip
                            refine ⟨?_, ?_, ?_⟩
                            · skip
                              repeat ((conv => whnf); first | exact True.intro | refine ⟨.rfl, ?_⟩ | refine ⟨.any, ?_⟩ | refine ⟨.nil, ?_⟩ | refine ⟨.int (by first | rfl | omega | (simp only [wrs]; omega)), ?_⟩ | refine ⟨.int (num_step (by assumption) (by assumption) (by omega) (by omega)), ?_⟩)
                            · skip
                              repeat (first | exact LeVs.nil | ((conv => whnf); first | exact True.intro | exact .none | exact .row rfl | refine .cells ?_ | refine ⟨_, _, rfl, .rfl, ?_⟩ | refine ⟨_, _, rfl, .any, ?_⟩ | refine ⟨_, _, rfl, .nil, ?_⟩ | refine ⟨_, _, rfl, .int (by first | rfl | omega | (simp only [wrs]; omega)), ?_⟩ | refine ⟨_, _, rfl, .int (num_step (by assumption) (by assumption) (by omega) (by omega)), ?_⟩ | refine ⟨?_, ?_⟩))
                            · skip
                              repeat (first | exact LeFr.nil | ((conv => whnf); first | exact True.intro | refine ⟨.rfl, ?_⟩ | refine ⟨_, _, rfl, rfl, ?_, ?_⟩))
                          · skip
                            rintro k hk
                            have hbb : isB1 ([d]) := isB1.one (by assumption)
                            have hlen : List.length ([d]) = 1 := rfl
                            rcases Nat.lt_or_ge k 1 with hlt | hge
                            · skip
                              conv => whnf
                              rw [show (decide ((↑k : Int) < (↑(List.map by1 [d]).length : Int))) = true from decide_eq_true (by rw [List.length_map]; omega)]
                              conv => whnf
                              refine IdxG.map _ rfl (by first | omega | (simp only [bls] at *; omega)) ?_; intro x_ hx_ hk_
                              conv => whnf
                              refine ⟨rfl, ?_⟩
                              conv => whnf
                              refine ⟨(k + 1), by omega, by omega, ?_⟩
                              refine ⟨?_, ?_, ?_⟩
                              · skip
                                repeat ((conv => whnf); first | exact True.intro | refine ⟨.rfl, ?_⟩ | refine ⟨.any, ?_⟩ | refine ⟨.nil, ?_⟩ | refine ⟨.int (by first | rfl | omega | (simp only [wrs]; omega)), ?_⟩ | refine ⟨.int (num_step (by assumption) (by assumption) (by omega) (by omega)), ?_⟩)
                              · skip
                                repeat (first | exact LeVs.nil | ((conv => whnf); first | exact True.intro | exact .none | exact .row rfl | refine .cells ?_ | refine ⟨_, _, rfl, .rfl, ?_⟩ | refine ⟨_, _, rfl, .any, ?_⟩ | refine ⟨_, _, rfl, .nil, ?_⟩ | refine ⟨_, _, rfl, .int (by first | rfl | omega | (simp only [wrs]; omega)), ?_⟩ | refine ⟨_, _, rfl, .int (num_step (by assumption) (by assumption) (by omega) (by omega)), ?_⟩ | refine ⟨?_, ?_⟩))
                              · skip
                                repeat (first | exact LeFr.nil | ((conv => whnf); first | exact True.intro | refine ⟨.rfl, ?_⟩ | refine ⟨_, _, rfl, rfl, ?_, ?_⟩))
                            · skip
                              obtain rfl : k = 1 := by omega
                              rw [show numL ([d]) 1 = d from numL_one _]
                              conv => whnf
                              refine ⟨.inr rfl, ?_⟩
                              conv => whnf
                              refine ⟨.inr rfl, ?_⟩
                              conv => whnf
                              refine .inl ?_
                              conv => whnf
                              refine InlG.mk (by kernel_rfl) Tryd.func48 rfl (Nat.le_of_ble_eq_true rfl) (XT.of tabX_ok ?_)
                              conv => whnf
                              refine ⟨.inr rfl, ?_⟩
                              conv => whnf
                              cases hc9 : (decide (IntKind.u8.wrap d = 0))
                              · skip
                                try simp only [bls] at hc9
                                try simp (disch := omega) only [wz, Int.reduceAdd, Int.reduceSub, Int.reduceMul, Int.reduceNeg, Int.zero_add, Int.add_zero, Int.sub_zero, Int.sub_self] at hc9
                                conv => whnf
                                cases hc10 : (decide (IntKind.u8.wrap d = 255))
                                · skip
                                  try simp only [bls] at hc10
                                  try simp (disch := omega) only [wz, Int.reduceAdd, Int.reduceSub, Int.reduceMul, Int.reduceNeg, Int.zero_add, Int.add_zero, Int.sub_zero, Int.sub_self] at hc10
                                  conv => whnf
                                  refine ⟨.inr rfl, ?_⟩
                                  conv => whnf
                                  refine .inl ?_
                                  conv => whnf
                                  refine InlG.mk (by kernel_rfl) Tryd.func45 rfl (Nat.le_of_ble_eq_true rfl) (XT.of tabX_ok ?_)
                                  conv => whnf
                                  refine ⟨.inr rfl, ?_⟩
                                  conv => whnf
                                  refine FinG.mk none ?_ (by rintro _ ⟨⟩)
                                  simp only [outs, List.length_map, List.length_append, List.length_take, List.length_drop, List.length_cons, List.length_nil, fr_by1, valX]
                                  try have h64 : out.length = 64 := by omega
                                  have e9 : scan r [] 1 = (150, [], 0) := by rw [hs, hd]; simp [scan, *]
                                  rw [show c = 4 by assumption, decP_4 e9 (by decide)]
                                  exact ⟨⟨rfl, rfl, rfl⟩, rfl, rfl⟩
                                · skip
                                  try simp only [bls] at hc10
                                  try simp (disch := omega) only [wz, Int.reduceAdd, Int.reduceSub, Int.reduceMul, Int.reduceNeg, Int.zero_add, Int.add_zero, Int.sub_zero, Int.sub_self] at hc10
                                  conv => whnf
                                  refine .inl ?_
                                  conv => whnf
                                  refine InlG.mk (by kernel_rfl) Tryd.func48 rfl (Nat.le_of_ble_eq_true rfl) (XT.of tabX_ok ?_)
                                  conv => whnf
                                  refine ⟨.inr rfl, ?_⟩
                                  conv => whnf
                                  cases hc11 : (decide ((↑(List.map by1 out).length : Int) = 64))
                                  · skip
                                    try simp only [bls] at hc11
                                    conv => whnf
                                    simp (disch := omega) only [wz, Int.reduceAdd, Int.reduceSub, Int.reduceMul, Int.reduceNeg, Int.zero_add, Int.add_zero, Int.sub_zero, Int.sub_self]
                                    conv => whnf
                                    refine ⟨ApOk.lit rfl, ?_⟩
                                    conv => whnf
                                    refine ⟨by simp only [List.length_map, List.length_append, beN_len, List.length_cons, List.length_nil, List.length_replicate, List.length_drop]; omega, ?_⟩
                                    conv => whnf
                                    refine ⟨(a + 2, out ++ [x]), ⟨by omega, by rw [List.length_append, List.length_singleton]; omega, scan_3 hd (by assumption) (by assumption) (by assumption) hs⟩, (show r.length - (a + 2) < r.length - a by omega), ?_⟩
                                    refine ⟨?_, ?_, ?_⟩
                                    · skip
                                      repeat ((conv => whnf); first | exact True.intro | refine ⟨.rfl, ?_⟩ | refine ⟨.any, ?_⟩ | refine ⟨.nil, ?_⟩ | refine ⟨.int (by first | rfl | omega | (simp only [wrs]; omega)), ?_⟩)
                                    · skip
                                      repeat (first | exact LeVs.nil | ((conv => whnf); first | exact True.intro | exact .none | exact .row rfl | exact .row (app_by1 _ _) | refine .cells ?_ | refine ⟨_, _, rfl, .rfl, ?_⟩ | refine ⟨_, _, rfl, .any, ?_⟩ | refine ⟨_, _, rfl, .nil, ?_⟩ | refine ⟨_, _, rfl, .int (by first | rfl | omega | (simp only [wrs]; omega)), ?_⟩ | refine ⟨?_, ?_⟩))
                                    · skip
                                      repeat (first | exact LeFr.nil | ((conv => whnf); first | exact True.intro | refine ⟨.rfl, ?_⟩ | refine ⟨_, _, rfl, rfl, ?_, ?_⟩))
                                  · skip
                                    try simp only [bls] at hc11
                                    conv => whnf
                                    refine ⟨.inr rfl, ?_⟩
                                    conv => whnf
                                    refine .inl ?_
                                    conv => whnf
                                    refine InlG.mk (by kernel_rfl) Tryd.func45 rfl (Nat.le_of_ble_eq_true rfl) (XT.of tabX_ok ?_)
                                    conv => whnf
                                    refine ⟨.inr rfl, ?_⟩
                                    conv => whnf
                                    refine FinG.mk none ?_ (by rintro _ ⟨⟩)
                                    simp only [outs, List.length_map, List.length_append, List.length_take, List.length_drop, List.length_cons, List.length_nil, fr_by1, valX]
                                    try have h64 : out.length = 64 := by omega
                                    have e9 : scan r [] 1 = (150, [], 0) := by rw [hs, hd]; simp [scan, *]
                                    rw [show c = 4 by assumption, decP_4 e9 (by decide)]
                                    exact ⟨⟨rfl, rfl, rfl⟩, rfl, rfl⟩
                              · skip
                                try simp only [bls] at hc9
                                try simp (disch := omega) only [wz, Int.reduceAdd, Int.reduceSub, Int.reduceMul, Int.reduceNeg, Int.zero_add, Int.add_zero, Int.sub_zero, Int.sub_self] at hc9
                                conv => whnf
                                refine ⟨_, rfl, ?_⟩
                                conv => whnf
                                refine ⟨.inr rfl, ?_⟩
                                conv => whnf
                                refine .inl ?_
                                conv => whnf
                                refine InlG.mk (by kernel_rfl) Tryd.func48 rfl (Nat.le_of_ble_eq_true rfl) (XT.of tabX_ok ?_)
                                conv => whnf
                                refine ⟨.inr rfl, ?_⟩
                                conv => whnf
                                refine RegG.late 9 [(0, 0, 3)] (by kernel_rfl) ?_
                                conv => whnf
                                refine CallG.mk (left_X _ _ _ _) rfl ?_
                                conv => whnf
                                simp (disch := omega) only [wz, Int.reduceAdd, Int.reduceSub, Int.reduceMul, Int.reduceNeg, Int.zero_add, Int.add_zero, Int.sub_zero, Int.sub_self]
                                conv => whnf
                                refine ⟨rfl, ?_⟩
                                conv => whnf
                                refine FinG.mk none ?_ (by rintro _ ⟨⟩)
                                simp only [outs, List.length_map, List.length_append, List.length_take, List.length_drop, List.length_cons, List.length_nil, fr_by1, valX]
                                have e9 : scan r [] 1 = (0, out, 1 + a + 2) := by rw [hs, hd]; simp [scan, *]
                                rw [show c = 4 by assumption, decP_0 e9]
                                refine ⟨⟨?_, ?_, ?_⟩, ?_, ?_⟩ <;> first | rfl | (simp (disch := omega) only [wz]; done) | (simp (disch := omega) only [wz]; congr 1; omega)
            · skip
              try simp only [bls] at hc3
              try simp (disch := omega) only [wz, Int.reduceAdd, Int.reduceSub, Int.reduceMul, Int.reduceNeg, Int.zero_add, Int.add_zero, Int.sub_zero, Int.sub_self] at hc3
              conv => whnf
              refine .inl ?_
              conv => whnf
              refine InlG.mk (by kernel_rfl) Tryd.func49 rfl (Nat.le_of_ble_eq_true rfl) (XT.of tabX_ok ?_)
              conv => whnf
              refine .inl ?_
              conv => whnf
              refine InlG.mk (by kernel_rfl) Tryd.func63 rfl (Nat.le_of_ble_eq_true rfl) (XT.of tabX_ok ?_)
              conv => whnf
              refine .inl ?_
              conv => whnf
              refine InlG.mk (by kernel_rfl) Tryd.func68 rfl (Nat.le_of_ble_eq_true rfl) (XT.of tabX_ok ?_)
              conv => whnf
              refine .ct ?_
              conv => whnf
              refine CallG.mk (left_X _ _ _ _) rfl ?_
              conv => whnf
              cases hc12 : (decide (IntKind.i64.wrap ((↑(c :: r).length : Int) - 1) < 8))
              · skip
                try simp only [bls] at hc12
                try simp (disch := omega) only [List.length_cons, List.length_nil, wz, Int.reduceAdd, Int.reduceSub, Int.reduceMul, Int.reduceNeg, Int.zero_add, Int.add_zero, Int.sub_zero, Int.sub_self] at hc12
                conv => whnf
                refine RegG.par 19 (by kernel_rfl) ?_
                conv => whnf
                simp (disch := omega) only [wz, Int.reduceAdd, Int.reduceSub, Int.reduceMul, Int.reduceNeg, Int.zero_add, Int.add_zero, Int.sub_zero, Int.sub_self]
                conv => whnf
                refine ⟨_, rfl, ?_⟩
                conv => whnf
                refine ⟨_, rfl, ?_⟩
                conv => whnf
                refine ⟨by simp only [bls]; omega, ?_⟩
                conv => whnf
                refine ⟨by simp only [List.length_map, List.length_append, beN_len, List.length_cons, List.length_nil, List.length_replicate, List.length_drop]; omega, ?_⟩
                conv => whnf
                refine ⟨len_by1 _, ?_⟩
                conv => whnf
                refine ⟨.inr rfl, ?_⟩
                conv => whnf
                simp only [← List.map_take, ← List.map_drop]
                simp only [List.take_succ_cons, List.take_zero, List.drop_zero, List.drop_succ_cons]
                refine XT.loop tabX_ok (Y := Nat) [4, 6, 11, 12, 13, 14, 15, 16, 17, 18, 19, 20] (fun k => [(11, .p (.v (.int .i64 k)) (nlv _)), (4, .p (.v (.int .u64 (numL ((List.take 8 r)) k))) (nlv _))]) (fun k => []) (fun k => k ≤ 8) (fun k => 8 - k) 0 (Nat.zero_le _) ?_ ?_
                · skip
                  refine ⟨?_, ?_, ?_⟩
                  · skip
                    repeat ((conv => whnf); first | exact True.intro | refine ⟨.rfl, ?_⟩ | refine ⟨.any, ?_⟩ | refine ⟨.nil, ?_⟩ | refine ⟨.int (by first | rfl | omega | (simp only [wrs]; omega)), ?_⟩ | refine ⟨.int (num_step (by assumption) (by assumption) (by omega) (by omega)), ?_⟩)
                  · skip
                    repeat (first | exact LeVs.nil | ((conv => whnf); first | exact True.intro | exact .none | exact .row rfl | refine .cells ?_ | refine ⟨_, _, rfl, .rfl, ?_⟩ | refine ⟨_, _, rfl, .any, ?_⟩ | refine ⟨_, _, rfl, .nil, ?_⟩ | refine ⟨_, _, rfl, .int (by first | rfl | omega | (simp only [wrs]; omega)), ?_⟩ | refine ⟨_, _, rfl, .int (num_step (by assumption) (by assumption) (by omega) (by omega)), ?_⟩ | refine ⟨?_, ?_⟩))
                  · skip
                    repeat (first | exact LeFr.nil | ((conv => whnf); first | exact True.intro | refine ⟨.rfl, ?_⟩ | refine ⟨_, _, rfl, rfl, ?_, ?_⟩))
                · skip
                  rintro k hk
                  have hbb : isB1 ((List.take 8 r)) := hr0.take 8
                  have hlen : List.length ((List.take 8 r)) = 8 := by rw [List.length_take]; omega
                  rcases Nat.lt_or_ge k 8 with hlt | hge
                  · skip
                    conv => whnf
                    rw [show (decide ((↑k : Int) < (↑(List.map by1 (List.take 8 r)).length : Int))) = true from decide_eq_true (by rw [List.length_map]; omega)]
                    conv => whnf
                    refine IdxG.map _ rfl (by first | omega | (simp only [bls] at *; omega)) ?_; intro x_ hx_ hk_
                    conv => whnf
                    refine ⟨rfl, ?_⟩
                    conv => whnf
                    refine ⟨(k + 1), by omega, by omega, ?_⟩
                    refine ⟨?_, ?_, ?_⟩
                    · skip
                      repeat ((conv => whnf); first | exact True.intro | refine ⟨.rfl, ?_⟩ | refine ⟨.any, ?_⟩ | refine ⟨.nil, ?_⟩ | refine ⟨.int (by first | rfl | omega | (simp only [wrs]; omega)), ?_⟩ | refine ⟨.int (num_step (by assumption) (by assumption) (by omega) (by omega)), ?_⟩)
                    · skip
                      repeat (first | exact LeVs.nil | ((conv => whnf); first | exact True.intro | exact .none | exact .row rfl | refine .cells ?_ | refine ⟨_, _, rfl, .rfl, ?_⟩ | refine ⟨_, _, rfl, .any, ?_⟩ | refine ⟨_, _, rfl, .nil, ?_⟩ | refine ⟨_, _, rfl, .int (by first | rfl | omega | (simp only [wrs]; omega)), ?_⟩ | refine ⟨_, _, rfl, .int (num_step (by assumption) (by assumption) (by omega) (by omega)), ?_⟩ | refine ⟨?_, ?_⟩))
                    · skip
                      repeat (first | exact LeFr.nil | ((conv => whnf); first | exact True.intro | refine ⟨.rfl, ?_⟩ | refine ⟨_, _, rfl, rfl, ?_, ?_⟩))
                  · skip
                    obtain rfl : k = 8 := by omega
                    rw [show numL ((List.take 8 r)) 8 = numL r 8 from numL_take _ _]
                    conv => whnf
                    refine bF (decide_eq_false (by rw [List.length_map]; omega)) ?_
                    conv => whnf
                    refine ⟨.inr rfl, ?_⟩
                    conv => whnf
                    refine ⟨.inr rfl, ?_⟩
                    conv => whnf
                    refine .inl ?_
                    conv => whnf
                    refine InlG.mk (by kernel_rfl) Tryd.func48 rfl (Nat.le_of_ble_eq_true rfl) (XT.of tabX_ok ?_)
                    conv => whnf
                    refine ⟨.inr rfl, ?_⟩
                    conv => whnf
                    refine RegG.late 9 [(0, 0, 3)] (by kernel_rfl) ?_
                    conv => whnf
                    refine CallG.mk (left_X _ _ _ _) rfl ?_
                    conv => whnf
                    simp (disch := omega) only [wz, Int.reduceAdd, Int.reduceSub, Int.reduceMul, Int.reduceNeg, Int.zero_add, Int.add_zero, Int.sub_zero, Int.sub_self]
                    conv => whnf
                    refine ⟨rfl, ?_⟩
                    conv => whnf
                    refine FinG.mk none ?_ (by rintro _ ⟨⟩)
                    simp only [outs, List.length_map, List.length_append, List.length_take, List.length_drop, List.length_cons, List.length_nil, fr_by1, valX]
                    rw [show c = 3 by assumption, decP_3 (by omega)]
                    refine ⟨⟨?_, ?_, ?_⟩, ?_, ?_⟩ <;> first | rfl | exact congrArg _ (xor63r hr0) | (simp (disch := omega) only [wz]; congr 1; omega)
              · skip
                try simp only [bls] at hc12
                try simp (disch := omega) only [List.length_cons, List.length_nil, wz, Int.reduceAdd, Int.reduceSub, Int.reduceMul, Int.reduceNeg, Int.zero_add, Int.add_zero, Int.sub_zero, Int.sub_self] at hc12
                conv => whnf
                refine .inl ?_
                conv => whnf
                refine InlG.mk (by kernel_rfl) Tryd.func69 rfl (Nat.le_of_ble_eq_true rfl) (XT.of tabX_ok ?_)
                conv => whnf
                refine ⟨.inl rfl, ?_⟩
                conv => whnf
                refine ⟨.inr rfl, ?_⟩
                conv => whnf
                simp only [← List.map_take, ← List.map_drop]
                refine XT.loop tabX_ok (Y := Unit) [4, 6, 11, 12, 13, 14, 15, 16, 17, 18, 19, 20] (fun _ => [(11, .p (.v (.int .i64 0)) (nlv _)), (4, .p (.v (.int .u64 0)) (nlv _))]) (fun _ => []) (fun _ => True) (fun _ => 0) () trivial ?_ ?_
                · skip
                  refine ⟨?_, ?_, ?_⟩
                  · skip
                    repeat ((conv => whnf); first | exact True.intro | refine ⟨.rfl, ?_⟩ | refine ⟨.any, ?_⟩ | refine ⟨.nil, ?_⟩ | refine ⟨.int (by first | rfl | omega | (simp only [wrs]; omega)), ?_⟩)
                  · skip
                    repeat (first | exact LeVs.nil | ((conv => whnf); first | exact True.intro | exact .none | exact .row rfl | refine .cells ?_ | refine ⟨_, _, rfl, .rfl, ?_⟩ | refine ⟨_, _, rfl, .any, ?_⟩ | refine ⟨_, _, rfl, .nil, ?_⟩ | refine ⟨_, _, rfl, .int (by first | rfl | omega | (simp only [wrs]; omega)), ?_⟩ | refine ⟨?_, ?_⟩))
                  · skip
                    repeat (first | exact LeFr.nil | ((conv => whnf); first | exact True.intro | refine ⟨.rfl, ?_⟩ | refine ⟨_, _, rfl, rfl, ?_, ?_⟩))
                · skip
                  rintro u_ _
                  conv => whnf
                  refine ⟨.inr rfl, ?_⟩
                  conv => whnf
                  refine ⟨.inr rfl, ?_⟩
                  conv => whnf
                  refine .inl ?_
                  conv => whnf
                  refine InlG.mk (by kernel_rfl) Tryd.func48 rfl (Nat.le_of_ble_eq_true rfl) (XT.of tabX_ok ?_)
                  conv => whnf
                  refine ⟨.inr rfl, ?_⟩
                  conv => whnf
                  refine .inl ?_
                  conv => whnf
                  refine InlG.mk (by kernel_rfl) Tryd.func45 rfl (Nat.le_of_ble_eq_true rfl) (XT.of tabX_ok ?_)
                  conv => whnf
                  refine ⟨.inr rfl, ?_⟩
                  conv => whnf
                  refine FinG.mk none ?_ (by rintro _ ⟨⟩)
                  simp only [outs, List.length_map, List.length_append, List.length_take, List.length_drop, List.length_cons, List.length_nil, fr_by1, valX]
                  have h8 : r.length < 8 := by omega
                  rw [show c = 3 by assumption]
                  simp [decP, h8, val0]
          · skip
            try simp only [bls] at hc2
            try simp (disch := omega) only [wz, Int.reduceAdd, Int.reduceSub, Int.reduceMul, Int.reduceNeg, Int.zero_add, Int.add_zero, Int.sub_zero, Int.sub_self] at hc2
            conv => whnf
            refine .inl ?_
            conv => whnf
            refine InlG.mk (by kernel_rfl) Tryd.func47 rfl (Nat.le_of_ble_eq_true rfl) (XT.of tabX_ok ?_)
            conv => whnf
            refine .inl ?_
            conv => whnf
            refine InlG.mk (by kernel_rfl) Tryd.func63 rfl (Nat.le_of_ble_eq_true rfl) (XT.of tabX_ok ?_)
            conv => whnf
            refine .inl ?_
            conv => whnf
            refine InlG.mk (by kernel_rfl) Tryd.func68 rfl (Nat.le_of_ble_eq_true rfl) (XT.of tabX_ok ?_)
            conv => whnf
            refine .ct ?_
            conv => whnf
            refine CallG.mk (left_X _ _ _ _) rfl ?_
            conv => whnf
            cases hc13 : (decide (IntKind.i64.wrap ((↑(c :: r).length : Int) - 1) < 1))
            · skip
              try simp only [bls] at hc13
              try simp (disch := omega) only [List.length_cons, List.length_nil, wz, Int.reduceAdd, Int.reduceSub, Int.reduceMul, Int.reduceNeg, Int.zero_add, Int.add_zero, Int.sub_zero, Int.sub_self] at hc13
              conv => whnf
              refine RegG.par 19 (by kernel_rfl) ?_
              conv => whnf
              simp (disch := omega) only [wz, Int.reduceAdd, Int.reduceSub, Int.reduceMul, Int.reduceNeg, Int.zero_add, Int.add_zero, Int.sub_zero, Int.sub_self]
              conv => whnf
              refine ⟨_, rfl, ?_⟩
              conv => whnf
              refine ⟨_, rfl, ?_⟩
              conv => whnf
              refine ⟨by simp only [bls]; omega, ?_⟩
              conv => whnf
              refine ⟨by simp only [List.length_map, List.length_append, beN_len, List.length_cons, List.length_nil, List.length_replicate, List.length_drop]; omega, ?_⟩
              conv => whnf
              refine ⟨len_by1 _, ?_⟩
              conv => whnf
              refine ⟨.inr rfl, ?_⟩
              conv => whnf
              simp only [← List.map_take, ← List.map_drop]
              simp only [List.take_succ_cons, List.take_zero, List.drop_zero, List.drop_succ_cons]
              refine XT.loop tabX_ok (Y := Nat) [4, 6, 11, 12, 13, 14, 15, 16, 17, 18, 19, 20] (fun k => [(11, .p (.v (.int .i64 k)) (nlv _)), (4, .p (.v (.int .u64 (numL ((List.take 1 r)) k))) (nlv _))]) (fun k => []) (fun k => k ≤ 1) (fun k => 1 - k) 0 (Nat.zero_le _) ?_ ?_
              · skip
                refine ⟨?_, ?_, ?_⟩
                · skip
                  repeat ((conv => whnf); first | exact True.intro | refine ⟨.rfl, ?_⟩ | refine ⟨.any, ?_⟩ | refine ⟨.nil, ?_⟩ | refine ⟨.int (by first | rfl | omega | (simp only [wrs]; omega)), ?_⟩ | refine ⟨.int (num_step (by assumption) (by assumption) (by omega) (by omega)), ?_⟩)
                · skip
                  repeat (first | exact LeVs.nil | ((conv => whnf); first | exact True.intro | exact .none | exact .row rfl | refine .cells ?_ | refine ⟨_, _, rfl, .rfl, ?_⟩ | refine ⟨_, _, rfl, .any, ?_⟩ | refine ⟨_, _, rfl, .nil, ?_⟩ | refine ⟨_, _, rfl, .int (by first | rfl | omega | (simp only [wrs]; omega)), ?_⟩ | refine ⟨_, _, rfl, .int (num_step (by assumption) (by assumption) (by omega) (by omega)), ?_⟩ | refine ⟨?_, ?_⟩))
                · skip
                  repeat (first | exact LeFr.nil | ((conv => whnf); first | exact True.intro | refine ⟨.rfl, ?_⟩ | refine ⟨_, _, rfl, rfl, ?_, ?_⟩))
              · skip
                rintro k hk
                have hbb : isB1 ((List.take 1 r)) := hr0.take 1
                have hlen : List.length ((List.take 1 r)) = 1 := by rw [List.length_take]; omega
                rcases Nat.lt_or_ge k 1 with hlt | hge
                · skip
                  conv => whnf
                  rw [show (decide ((↑k : Int) < (↑(List.map by1 (List.take 1 r)).length : Int))) = true from decide_eq_true (by rw [List.length_map]; omega)]
                  conv => whnf
                  refine IdxG.map _ rfl (by first | omega | (simp only [bls] at *; omega)) ?_; intro x_ hx_ hk_
                  conv => whnf
                  refine ⟨rfl, ?_⟩
                  conv => whnf
                  refine ⟨(k + 1), by omega, by omega, ?_⟩
                  refine ⟨?_, ?_, ?_⟩
                  · skip
                    repeat ((conv => whnf); first | exact True.intro | refine ⟨.rfl, ?_⟩ | refine ⟨.any, ?_⟩ | refine ⟨.nil, ?_⟩ | refine ⟨.int (by first | rfl | omega | (simp only [wrs]; omega)), ?_⟩ | refine ⟨.int (num_step (by assumption) (by assumption) (by omega) (by omega)), ?_⟩)
                  · skip
                    repeat (first | exact LeVs.nil | ((conv => whnf); first | exact True.intro | exact .none | exact .row rfl | refine .cells ?_ | refine ⟨_, _, rfl, .rfl, ?_⟩ | refine ⟨_, _, rfl, .any, ?_⟩ | refine ⟨_, _, rfl, .nil, ?_⟩ | refine ⟨_, _, rfl, .int (by first | rfl | omega | (simp only [wrs]; omega)), ?_⟩ | refine ⟨_, _, rfl, .int (num_step (by assumption) (by assumption) (by omega) (by omega)), ?_⟩ | refine ⟨?_, ?_⟩))
                  · skip
                    repeat (first | exact LeFr.nil | ((conv => whnf); first | exact True.intro | refine ⟨.rfl, ?_⟩ | refine ⟨_, _, rfl, rfl, ?_, ?_⟩))
                · skip
                  obtain rfl : k = 1 := by omega
                  rw [show numL ((List.take 1 r)) 1 = numL r 1 from numL_take _ _]
                  conv => whnf
                  refine bF (decide_eq_false (by rw [List.length_map]; omega)) ?_
                  conv => whnf
                  refine ⟨.inr rfl, ?_⟩
                  conv => whnf
                  refine ⟨.inr rfl, ?_⟩
                  conv => whnf
                  cases hc14 : (decide (1 < IntKind.i64.wrap (IntKind.u8.wrap (numL r 1))))
                  · skip
                    try simp only [bls] at hc14
                    try simp (disch := omega) only [wz, Int.reduceAdd, Int.reduceSub, Int.reduceMul, Int.reduceNeg, Int.zero_add, Int.add_zero, Int.sub_zero, Int.sub_self] at hc14
                    conv => whnf
                    refine .inl ?_
                    conv => whnf
                    refine InlG.mk (by kernel_rfl) Tryd.func48 rfl (Nat.le_of_ble_eq_true rfl) (XT.of tabX_ok ?_)
                    conv => whnf
                    refine ⟨.inr rfl, ?_⟩
                    conv => whnf
                    refine RegG.late 9 [(0, 0, 3)] (by kernel_rfl) ?_
                    conv => whnf
                    refine CallG.mk (left_X _ _ _ _) rfl ?_
                    conv => whnf
                    simp (disch := omega) only [wz, Int.reduceAdd, Int.reduceSub, Int.reduceMul, Int.reduceNeg, Int.zero_add, Int.add_zero, Int.sub_zero, Int.sub_self]
                    conv => whnf
                    refine ⟨rfl, ?_⟩
                    conv => whnf
                    refine FinG.mk none ?_ (by rintro _ ⟨⟩)
                    simp only [outs, List.length_map, List.length_append, List.length_take, List.length_drop, List.length_cons, List.length_nil, fr_by1, valX]
                    rw [show c = 2 by assumption, decP_2a hr0 (by omega) (by assumption)]
                    refine ⟨⟨?_, ?_, ?_⟩, ?_, ?_⟩ <;> first | rfl | (simp (disch := omega) only [wz]; congr 1; omega)
                  · skip
                    try simp only [bls] at hc14
                    try simp (disch := omega) only [wz, Int.reduceAdd, Int.reduceSub, Int.reduceMul, Int.reduceNeg, Int.zero_add, Int.add_zero, Int.sub_zero, Int.sub_self] at hc14
                    conv => whnf
                    refine .inl ?_
                    conv => whnf
                    refine InlG.mk (by kernel_rfl) Tryd.func45 rfl (Nat.le_of_ble_eq_true rfl) (XT.of tabX_ok ?_)
                    conv => whnf
                    refine ⟨.inr rfl, ?_⟩
                    conv => whnf
                    refine FinG.mk none ?_ (by rintro _ ⟨⟩)
                    simp only [outs, List.length_map, List.length_append, List.length_take, List.length_drop, List.length_cons, List.length_nil, fr_by1, valX]
                    rw [show c = 2 by assumption, decP_2b hr0 (by omega) (by assumption)]
                    exact ⟨⟨rfl, rfl, rfl⟩, rfl, rfl⟩
            · skip
              try simp only [bls] at hc13
              try simp (disch := omega) only [List.length_cons, List.length_nil, wz, Int.reduceAdd, Int.reduceSub, Int.reduceMul, Int.reduceNeg, Int.zero_add, Int.add_zero, Int.sub_zero, Int.sub_self] at hc13
              conv => whnf
              refine .inl ?_
              conv => whnf
              refine InlG.mk (by kernel_rfl) Tryd.func69 rfl (Nat.le_of_ble_eq_true rfl) (XT.of tabX_ok ?_)
              conv => whnf
              refine ⟨.inl rfl, ?_⟩
              conv => whnf
              refine ⟨.inr rfl, ?_⟩
              conv => whnf
              simp only [← List.map_take, ← List.map_drop]
              refine XT.loop tabX_ok (Y := Unit) [4, 6, 11, 12, 13, 14, 15, 16, 17, 18, 19, 20] (fun _ => [(11, .p (.v (.int .i64 0)) (nlv _)), (4, .p (.v (.int .u64 0)) (nlv _))]) (fun _ => []) (fun _ => True) (fun _ => 0) () trivial ?_ ?_
              · skip
                refine ⟨?_, ?_, ?_⟩
                · skip
                  repeat ((conv => whnf); first | exact True.intro | refine ⟨.rfl, ?_⟩ | refine ⟨.any, ?_⟩ | refine ⟨.nil, ?_⟩ | refine ⟨.int (by first | rfl | omega | (simp only [wrs]; omega)), ?_⟩)
                · skip
                  repeat (first | exact LeVs.nil | ((conv => whnf); first | exact True.intro | exact .none | exact .row rfl | refine .cells ?_ | refine ⟨_, _, rfl, .rfl, ?_⟩ | refine ⟨_, _, rfl, .any, ?_⟩ | refine ⟨_, _, rfl, .nil, ?_⟩ | refine ⟨_, _, rfl, .int (by first | rfl | omega | (simp only [wrs]; omega)), ?_⟩ | refine ⟨?_, ?_⟩))
                · skip
                  repeat (first | exact LeFr.nil | ((conv => whnf); first | exact True.intro | refine ⟨.rfl, ?_⟩ | refine ⟨_, _, rfl, rfl, ?_, ?_⟩))
              · skip
                rintro u_ _
                conv => whnf
                refine ⟨.inr rfl, ?_⟩
                conv => whnf
                refine ⟨.inr rfl, ?_⟩
                conv => whnf
                refine .inl ?_
                conv => whnf
                refine InlG.mk (by kernel_rfl) Tryd.func48 rfl (Nat.le_of_ble_eq_true rfl) (XT.of tabX_ok ?_)
                conv => whnf
                refine ⟨.inr rfl, ?_⟩
                conv => whnf
                refine .inl ?_
                conv => whnf
                refine InlG.mk (by kernel_rfl) Tryd.func45 rfl (Nat.le_of_ble_eq_true rfl) (XT.of tabX_ok ?_)
                conv => whnf
                refine ⟨.inr rfl, ?_⟩
                conv => whnf
                refine FinG.mk none ?_ (by rintro _ ⟨⟩)
                simp only [outs, List.length_map, List.length_append, List.length_take, List.length_drop, List.length_cons, List.length_nil, fr_by1, valX]
                rw [show c = 2 by assumption, decP_2c (by omega)]
                exact ⟨⟨rfl, rfl, rfl⟩, rfl, rfl⟩
        · skip
          try simp only [bls] at hc1
          try simp (disch := omega) only [wz, Int.reduceAdd, Int.reduceSub, Int.reduceMul, Int.reduceNeg, Int.zero_add, Int.add_zero, Int.sub_zero, Int.sub_self] at hc1
          conv => whnf
          refine .inl ?_
          conv => whnf
          refine InlG.mk (by kernel_rfl) Tryd.func48 rfl (Nat.le_of_ble_eq_true rfl) (XT.of tabX_ok ?_)
          conv => whnf
          refine ⟨.inr rfl, ?_⟩
          conv => whnf
          refine RegG.late 9 [(0, 0, 3)] (by kernel_rfl) ?_
          conv => whnf
          refine CallG.mk (left_X _ _ _ _) rfl ?_
          conv => whnf
          simp (disch := omega) only [wz, Int.reduceAdd, Int.reduceSub, Int.reduceMul, Int.reduceNeg, Int.zero_add, Int.add_zero, Int.sub_zero, Int.sub_self]
          conv => whnf
          refine ⟨rfl, ?_⟩
          conv => whnf
          refine FinG.mk none ?_ (by rintro _ ⟨⟩)
          simp only [outs, List.length_map, List.length_append, List.length_take, List.length_drop, List.length_cons, List.length_nil, fr_by1, valX]
          rw [show c = 1 by assumption]
          simp (disch := omega) only [wz]
          simp [decP]; omega
theorem num_mul {r : List Int} (h : isB1 r) {k : Nat} {x : Int} (hx : r[k]? = some x) (hk : k < 8) : IntKind.u64.wrap (IntKind.u64.wrap (256 * numL r k) + IntKind.u64.wrap x) = numL r (k + 1) := by
  have h1 := numL_lt h k
  have h2 := h.at_ hx
  have h3 : (256 : Int) ^ k ≤ 256 ^ 7 := by
    have : (256 : Nat) ^ k ≤ 256 ^ 7 := Nat.pow_le_pow_right (by decide) (by omega)
    exact_mod_cast this
  have e : (256 : Int) ^ 7 = 72057594037927936 := by decide
  rw [numL_succ hx, wr_u64, wr_u64, wr_u64]; omega
set_option maxRecDepth 20000 in
theorem num1_X (b : Bool) (l : List Int) (hB : isB1 l) (hl : l.length ≤ 8) : XMeets Tryd.prog 52 [.sl b (l.map by1)] (.p (.v (.int .u64 (numL l l.length))) (nlv _)) := by
  refine XMeets.of_X tabX_ok (avs := [.p (.sl false (l.map by1)) (nl_by1 _).sl]) [(0, .p (.sl false (l.map by1)) (nl_by1 _).sl)] (by kernel_rfl) Tryd.func52 rfl (by simp [PuL, Pu, pu_by1]) (by simp only [untagL, untag, ut_by1]; rfl) rfl rfl ?_
  intro B w0
  conv => whnf
  refine XT.loop tabX_ok (Y := Nat) [3, 5, 8, 9, 10, 11, 12, 13, 14, 15, 16, 17] (fun k => [(8, .p (.v (.int .i64 k)) (nlv _)), (3, .p (.v (.int .u64 (numL l k))) (nlv _))]) (fun k => []) (fun k => k ≤ l.length) (fun k => l.length - k) 0 (Nat.zero_le _) ?_ ?_
  · skip
    refine ⟨?_, ?_, ?_⟩
    · skip
      repeat ((conv => whnf); first | exact True.intro | refine ⟨.rfl, ?_⟩ | refine ⟨.any, ?_⟩ | refine ⟨.nil, ?_⟩ | refine ⟨.int (by first | rfl | omega | (simp only [wrs]; omega)), ?_⟩ | refine ⟨.int (num_mul hB (by assumption) (by omega)), ?_⟩)
    · skip
      repeat (first | exact LeVs.nil | ((conv => whnf); first | exact True.intro | exact .none | exact .row rfl | refine .cells ?_ | refine ⟨_, _, rfl, .rfl, ?_⟩ | refine ⟨_, _, rfl, .any, ?_⟩ | refine ⟨_, _, rfl, .nil, ?_⟩ | refine ⟨_, _, rfl, .int (by first | rfl | omega | (simp only [wrs]; omega)), ?_⟩ | refine ⟨_, _, rfl, .int (num_mul hB (by assumption) (by omega)), ?_⟩ | refine ⟨?_, ?_⟩))
    · skip
      repeat (first | exact LeFr.nil | ((conv => whnf); first | exact True.intro | refine ⟨.rfl, ?_⟩ | refine ⟨_, _, rfl, rfl, ?_, ?_⟩))
  · skip
    rintro k hk
    conv => whnf
    cases hc1 : (decide ((↑k : Int) < (↑(List.map by1 l).length : Int)))
    · skip
      try simp only [bls] at hc1
      conv => whnf
      refine FinG.mk none ?_ (by rintro _ ⟨⟩)
      simp only [outs, List.length_map, List.length_append, List.length_take, List.length_drop, List.length_cons, List.length_nil, fr_by1]
      rw [show k = l.length by omega]
    · skip
      try simp only [bls] at hc1
      conv => whnf
      refine IdxG.map _ rfl (by first | omega | (simp only [bls] at *; omega)) ?_; intro x_ hx_ hk_
      conv => whnf
      refine ⟨rfl, ?_⟩
      conv => whnf
      refine ⟨(k + 1), by omega, by omega, ?_⟩
      refine ⟨?_, ?_, ?_⟩
      · skip
        repeat ((conv => whnf); first | exact True.intro | refine ⟨.rfl, ?_⟩ | refine ⟨.any, ?_⟩ | refine ⟨.nil, ?_⟩ | refine ⟨.int (by first | rfl | omega | (simp only [wrs]; omega)), ?_⟩ | refine ⟨.int (num_mul hB (by assumption) (by omega)), ?_⟩)
      · skip
        repeat (first | exact LeVs.nil | ((conv => whnf); first | exact True.intro | exact .none | exact .row rfl | refine .cells ?_ | refine ⟨_, _, rfl, .rfl, ?_⟩ | refine ⟨_, _, rfl, .any, ?_⟩ | refine ⟨_, _, rfl, .nil, ?_⟩ | refine ⟨_, _, rfl, .int (by first | rfl | omega | (simp only [wrs]; omega)), ?_⟩ | refine ⟨_, _, rfl, .int (num_mul hB (by assumption) (by omega)), ?_⟩ | refine ⟨?_, ?_⟩))
      · skip
        repeat (first | exact LeFr.nil | ((conv => whnf); first | exact True.intro | refine ⟨.rfl, ?_⟩ | refine ⟨_, _, rfl, rfl, ?_, ?_⟩))
theorem ixm1 {r q : List Int} {a : Nat} {x c : Int} (h : r.drop a = x :: q) : ((c :: r).map by1)[a + 1]? = some (by1 x) := by
  have : r[a]? = some x := by
    have h2 : (r.drop a)[0]? = r[a + 0]? := List.getElem?_drop ..
    rw [h] at h2; simpa using h2.symm
  simp [this]
theorem ixm2 {r q : List Int} {a : Nat} {x d c : Int} (h : r.drop a = x :: d :: q) : ((c :: r).map by1)[a + 2]? = some (by1 d) := ixm1 (drop_1 h)
theorem num8_X (b : Bool) (c : Int) (r : List Int) (hr : isB1 r) (h8 : 8 ≤ r.length) : XMeets Tryd.prog 52 [.sl b (((c :: r).map by1).take 9 |>.drop 1)] (.p (.v (.int .u64 (numL r 8))) (nlv _)) := by
  have e : (((c :: r).map by1).take 9 |>.drop 1) = (r.take 8).map by1 := by simp [List.map_take]
  have h := num1_X b (r.take 8) (hr.take 8) (by simp; omega)
  rw [List.length_take, Nat.min_eq_left h8, numL_take] at h
  rw [e]; exact h
theorem ixn {c : Int} {r : List Int} (hr : isB1 r) (h : 1 ≤ r.length) : ((c :: r).map by1)[1]? = some (by1 (numL r 1)) := by
  rcases r with _ | ⟨e, r⟩
  · simp at h
  · simp [numL]
theorem num1_in {r : List Int} (hr : isB1 r) : 0 ≤ numL r 1 ∧ numL r 1 < 256 := by
  have := numL_lt hr 1
  rwa [show (256 : Int) ^ 1 = 256 by decide] at this
theorem num1_e {r : List Int} (hr : isB1 r) : IntKind.i64.wrap (IntKind.u8.wrap (numL r 1)) = numL r 1 := by
  have := num1_in hr
  rw [wz.2.2.1 _ (by omega) (by omega), wz.1 _ (by omega) (by omega)]
theorem num1_f {r : List Int} (hr : isB1 r) : IntKind.i64.wrap (numL r 1) = numL r 1 := by
  have := num1_in hr
  rw [wz.1 _ (by omega) (by omega)]
theorem decP_2d {r : List Int} (hr : isB1 r) (h : 1 ≤ r.length) (h1 : numL r 1 ≤ 1) : decP (2 :: r) = ((⟨2, numL r 1, ⟨#[]⟩⟩ : Val), (2 : Int), (0 : Int)) := by
  rw [decP_2a hr h (by rw [num1_e hr]; exact h1), num1_e hr]
theorem decP_2e {r : List Int} (hr : isB1 r) (h : 1 ≤ r.length) (h1 : 1 < numL r 1) : decP (2 :: r) = (val0, (0 : Int), (150 : Int)) := decP_2b hr h (by rw [num1_e hr]; exact h1)
theorem xorN {r : List Int} (hr : isB1 r) : IntKind.i64.wrap (IntKind.u64.wrap (numL r 8 + 9223372036854775808)) = numL r 8 - 9223372036854775808 := by
  have h1 := numL_lt hr 8
  have e : (256 : Int) ^ 8 = 18446744073709551616 := by decide
  rw [e] at h1
  rw [wr_i64, wr_u64]; omega
set_option maxHeartbeats 4000000 in
set_option maxRecDepth 20000 in
theorem decode5_X (b : Bool) (l : List Int) (hB : isB1 l) (hl : l.length ≤ 1000000) : XMeets Tryd.prog 18 [.sl b (l.map by1)] (.tu [valX (decP l).1, .p (.v (.int .i64 (decP l).2.1)) (nlv _), .p (.v (.int .i64 (decP l).2.2)) (nlv _)]) := by
  refine XMeets.of_X tabX_ok (avs := [.p (.sl false (l.map by1)) (nl_by1 _).sl]) [(0, .p (.sl false (l.map by1)) (nl_by1 _).sl)] (by kernel_rfl) Tryd.func18 rfl (by simp [PuL, Pu, pu_by1]) (by simp only [untagL, untag, ut_by1]; rfl) rfl rfl ?_
  intro B w0
  rcases l with _ | ⟨c, r⟩
  · skip
    conv => whnf
    refine FinG.mk none ?_ (by rintro _ ⟨⟩)
    simp only [outs, List.length_map, List.length_append, List.length_take, List.length_drop, List.length_cons, List.length_nil, fr_by1, valX]
    simp_all [decP, val0]
  · skip
    have hc0 := hB.head
    have hr0 := hB.tail
    rw [List.length_cons] at hl
    conv => whnf
    refine IdxG.mk rfl rfl ?_
    conv => whnf
    refine ⟨rfl, ?_⟩
    conv => whnf
    cases hc1 : (decide (IntKind.i64.wrap c = 1))
    · skip
      try simp only [bls] at hc1
      try simp (disch := omega) only [wz, Int.reduceAdd, Int.reduceSub, Int.reduceMul, Int.reduceNeg, Int.zero_add, Int.add_zero, Int.sub_zero, Int.sub_self] at hc1
      conv => whnf
      cases hc2 : (decide (IntKind.i64.wrap c = 2))
      · skip
        try simp only [bls] at hc2
        try simp (disch := omega) only [wz, Int.reduceAdd, Int.reduceSub, Int.reduceMul, Int.reduceNeg, Int.zero_add, Int.add_zero, Int.sub_zero, Int.sub_self] at hc2
        conv => whnf
        cases hc3 : (decide (IntKind.i64.wrap c = 3))
        · skip
          try simp only [bls] at hc3
          try simp (disch := omega) only [wz, Int.reduceAdd, Int.reduceSub, Int.reduceMul, Int.reduceNeg, Int.zero_add, Int.add_zero, Int.sub_zero, Int.sub_self] at hc3
          conv => whnf
          cases hc4 : (decide (IntKind.i64.wrap c = 4))
          · skip
            try simp only [bls] at hc4
            try simp (disch := omega) only [wz, Int.reduceAdd, Int.reduceSub, Int.reduceMul, Int.reduceNeg, Int.zero_add, Int.add_zero, Int.sub_zero, Int.sub_self] at hc4
            conv => whnf
            refine FinG.mk none ?_ (by rintro _ ⟨⟩)
            simp only [outs, List.length_map, List.length_append, List.length_take, List.length_drop, List.length_cons, List.length_nil, fr_by1, valX]
            simp_all [decP, val0]
          · skip
            try simp only [bls] at hc4
            try simp (disch := omega) only [wz, Int.reduceAdd, Int.reduceSub, Int.reduceMul, Int.reduceNeg, Int.zero_add, Int.add_zero, Int.sub_zero, Int.sub_self] at hc4
            conv => whnf
            refine XT.nilr 7 5 1 rfl rfl ?_
            refine XT.loop tabX_ok (Y := Nat × List Int) [3, 4, 7, 8, 56, 57, 58, 59, 60, 61, 62, 63, 64, 65, 66, 67, 68, 69, 70, 71, 72, 73, 74, 75, 76, 77, 78, 79, 80, 81, 82, 83, 84, 85, 86, 87, 88, 89, 90, 91, 92, 93, 94, 95, 96, 97, 98, 99, 100, 101, 102, 103, 104, 105, 106, 107, 108, 109] (fun (a, out) => [(7, .row 3), (8, .p (.v (.int .i64 ((a : Int) + 1))) (nlv _))]) (fun (a, out) => [(3, .row 5 1 (out.map by1) (nl_by1 _))]) (fun (a, out) => a ≤ r.length ∧ out.length ≤ 64 ∧ scan r [] 1 = scan (r.drop a) out (1 + a)) (fun (a, out) => r.length - a) (0, []) ⟨Nat.zero_le _, Nat.zero_le _, rfl⟩ ?_ ?_
            · skip
              refine ⟨?_, ?_, ?_⟩
              · skip
                repeat ((conv => whnf); first | exact True.intro | refine ⟨.rfl, ?_⟩ | refine ⟨.any, ?_⟩ | refine ⟨.nil, ?_⟩ | refine ⟨.int (by first | rfl | omega | (simp only [wrs]; omega)), ?_⟩)
              · skip
                repeat (first | exact LeVs.nil | ((conv => whnf); first | exact True.intro | exact .none | exact .row rfl | exact .row (app_by1 _ _) | refine .cells ?_ | refine ⟨_, _, rfl, .rfl, ?_⟩ | refine ⟨_, _, rfl, .any, ?_⟩ | refine ⟨_, _, rfl, .nil, ?_⟩ | refine ⟨_, _, rfl, .int (by first | rfl | omega | (simp only [wrs]; omega)), ?_⟩ | refine ⟨?_, ?_⟩))
              · skip
                repeat (first | exact LeFr.nil | ((conv => whnf); first | exact True.intro | refine ⟨.rfl, ?_⟩ | refine ⟨_, _, rfl, rfl, ?_, ?_⟩))
            · skip
              rintro ⟨a, out⟩ ⟨hk, ho, hs⟩
              rcases hd : r.drop a with _ | ⟨x, _ | ⟨d, q⟩⟩
              · skip
                have hla := drop_len hd
                simp only [List.length_nil] at hla
                conv => whnf
                rw [show (decide ((↑a : Int) + 1 < (↑(List.map by1 (c :: r)).length : Int))) = false from by simp only [wrs, decide_eq_false_iff_not, List.length_map, List.length_append, List.length_take, List.length_drop, List.length_cons, List.length_nil, fr_by1, valX]; omega]
                conv => whnf
                refine FinG.mk none ?_ (by rintro _ ⟨⟩)
                simp only [outs, List.length_map, List.length_append, List.length_take, List.length_drop, List.length_cons, List.length_nil, fr_by1, valX]
                try have h64 : out.length = 64 := by omega
                have e9 : scan r [] 1 = (7, [], 0) := by rw [hs, hd]; simp [scan, *]
                rw [show c = 4 by assumption, decP_4 e9 (by decide)]
                exact ⟨⟨rfl, rfl, rfl⟩, rfl, rfl⟩
              · skip
                have hla := drop_len hd
                simp only [List.length_cons, List.length_nil] at hla
                have hx0 := isB1.drop1 hr0 hd
                conv => whnf
                rw [show (decide ((↑a : Int) + 1 < (↑(List.map by1 (c :: r)).length : Int))) = true from by simp only [wrs, decide_eq_true_eq, List.length_map, List.length_append, List.length_take, List.length_drop, List.length_cons, List.length_nil, fr_by1, valX]; omega]
                conv => whnf
                refine IdxG.mk (j := a + 1) (c := by1 x) (ixm1 hd) (by first | rfl | omega) ?_
                conv => whnf
                refine ⟨rfl, ?_⟩
                conv => whnf
                cases hc5 : (decide (x = 0))
                · skip
                  try simp only [bls] at hc5
                  conv => whnf
                  cases hc6 : (decide ((↑(List.map by1 out).length : Int) = 64))
                  · skip
                    try simp only [bls] at hc6
                    conv => whnf
                    refine IdxG.mk (j := a + 1) (c := by1 x) (ixm1 hd) (by first | rfl | omega) ?_
                    conv => whnf
                    refine ⟨rfl, ?_⟩
                    conv => whnf
                    refine ⟨ApOk.lit rfl, ?_⟩
                    conv => whnf
                    refine ⟨by simp only [List.length_map, List.length_append, beN_len, List.length_cons, List.length_nil, List.length_replicate, List.length_drop]; omega, ?_⟩
                    conv => whnf
                    refine IdxG.mk (j := a + 1) (c := by1 x) (ixm1 hd) (by first | rfl | omega) ?_
                    conv => whnf
                    refine ⟨rfl, ?_⟩
                    conv => whnf
                    rw [show (decide (x = 0)) = false from decide_eq_false (by omega)]
                    conv => whnf
                    refine ⟨(a + 1, out ++ [x]), ⟨by omega, by rw [List.length_append, List.length_singleton]; omega, scan_1 hd (by assumption) (by assumption) hs⟩, (show r.length - (a + 1) < r.length - a by omega), ?_⟩
                    refine ⟨?_, ?_, ?_⟩
                    · skip
                      repeat ((conv => whnf); first | exact True.intro | refine ⟨.rfl, ?_⟩ | refine ⟨.any, ?_⟩ | refine ⟨.nil, ?_⟩ | refine ⟨.int (by first | rfl | omega | (simp only [wrs]; omega)), ?_⟩)
                    · skip
                      repeat (first | exact LeVs.nil | ((conv => whnf); first | exact True.intro | exact .none | exact .row rfl | exact .row (app_by1 _ _) | refine .cells ?_ | refine ⟨_, _, rfl, .rfl, ?_⟩ | refine ⟨_, _, rfl, .any, ?_⟩ | refine ⟨_, _, rfl, .nil, ?_⟩ | refine ⟨_, _, rfl, .int (by first | rfl | omega | (simp only [wrs]; omega)), ?_⟩ | refine ⟨?_, ?_⟩))
                    · skip
                      repeat (first | exact LeFr.nil | ((conv => whnf); first | exact True.intro | refine ⟨.rfl, ?_⟩ | refine ⟨_, _, rfl, rfl, ?_, ?_⟩))
                  · skip
                    try simp only [bls] at hc6
                    conv => whnf
                    refine FinG.mk none ?_ (by rintro _ ⟨⟩)
                    simp only [outs, List.length_map, List.length_append, List.length_take, List.length_drop, List.length_cons, List.length_nil, fr_by1, valX]
                    try have h64 : out.length = 64 := by omega
                    have e9 : scan r [] 1 = (150, [], 0) := by rw [hs, hd]; simp [scan, *]
                    rw [show c = 4 by assumption, decP_4 e9 (by decide)]
                    exact ⟨⟨rfl, rfl, rfl⟩, rfl, rfl⟩
                · skip
                  try simp only [bls] at hc5
                  conv => whnf
                  rw [show (decide ((↑(List.map by1 (c :: r)).length : Int) ≤ IntKind.i64.wrap ((↑a : Int) + 1 + 1))) = true from by simp only [wrs, decide_eq_true_eq, List.length_map, List.length_append, List.length_take, List.length_drop, List.length_cons, List.length_nil, fr_by1, valX]; omega]
                  conv => whnf
                  refine FinG.mk none ?_ (by rintro _ ⟨⟩)
                  simp only [outs, List.length_map, List.length_append, List.length_take, List.length_drop, List.length_cons, List.length_nil, fr_by1, valX]
                  try have h64 : out.length = 64 := by omega
                  have e9 : scan r [] 1 = (7, [], 0) := by rw [hs, hd]; simp [scan, *]
                  rw [show c = 4 by assumption, decP_4 e9 (by decide)]
                  exact ⟨⟨rfl, rfl, rfl⟩, rfl, rfl⟩
              · skip
                have hla := drop_len hd
                simp only [List.length_cons] at hla
                have hx0 := isB1.drop1 hr0 hd
                have hd0 := isB1.drop2 hr0 hd
                conv => whnf
                rw [show (decide ((↑a : Int) + 1 < (↑(List.map by1 (c :: r)).length : Int))) = true from by simp only [wrs, decide_eq_true_eq, List.length_map, List.length_append, List.length_take, List.length_drop, List.length_cons, List.length_nil, fr_by1, valX]; omega]
                conv => whnf
                refine IdxG.mk (j := a + 1) (c := by1 x) (ixm1 hd) (by first | rfl | omega) ?_
                conv => whnf
                refine ⟨rfl, ?_⟩
                conv => whnf
                cases hc7 : (decide (x = 0))
                · skip
                  try simp only [bls] at hc7
                  conv => whnf
                  cases hc8 : (decide ((↑(List.map by1 out).length : Int) = 64))
                  · skip
                    try simp only [bls] at hc8
                    conv => whnf
                    refine IdxG.mk (j := a + 1) (c := by1 x) (ixm1 hd) (by first | rfl | omega) ?_
                    conv => whnf
                    refine ⟨rfl, ?_⟩
                    conv => whnf
                    refine ⟨ApOk.lit rfl, ?_⟩
                    conv => whnf
                    refine ⟨by simp only [List.length_map, List.length_append, beN_len, List.length_cons, List.length_nil, List.length_replicate, List.length_drop]; omega, ?_⟩
                    conv => whnf
                    refine IdxG.mk (j := a + 1) (c := by1 x) (ixm1 hd) (by first | rfl | omega) ?_
                    conv => whnf
                    refine ⟨rfl, ?_⟩
                    conv => whnf
                    rw [show (decide (x = 0)) = false from decide_eq_false (by omega)]
                    conv => whnf
                    refine ⟨(a + 1, out ++ [x]), ⟨by omega, by rw [List.length_append, List.length_singleton]; omega, scan_2 hd (by assumption) (by assumption) hs⟩, (show r.length - (a + 1) < r.length - a by omega), ?_⟩
                    refine ⟨?_, ?_, ?_⟩
                    · skip
                      repeat ((conv => whnf); first | exact True.intro | refine ⟨.rfl, ?_⟩ | refine ⟨.any, ?_⟩ | refine ⟨.nil, ?_⟩ | refine ⟨.int (by first | rfl | omega | (simp only [wrs]; omega)), ?_⟩)
                    · skip
                      repeat (first | exact LeVs.nil | ((conv => whnf); first | exact True.intro | exact .none | exact .row rfl | exact .row (app_by1 _ _) | refine .cells ?_ | refine ⟨_, _, rfl, .rfl, ?_⟩ | refine ⟨_, _, rfl, .any, ?_⟩ | refine ⟨_, _, rfl, .nil, ?_⟩ | refine ⟨_, _, rfl, .int (by first | rfl | omega | (simp only [wrs]; omega)), ?_⟩ | refine ⟨?_, ?_⟩))
                    · skip
                      repeat (first | exact LeFr.nil | ((conv => whnf); first | exact True.intro | refine ⟨.rfl, ?_⟩ | refine ⟨_, _, rfl, rfl, ?_, ?_⟩))
                  · skip
                    try simp only [bls] at hc8
                    conv => whnf
                    refine FinG.mk none ?_ (by rintro _ ⟨⟩)
                    simp only [outs, List.length_map, List.length_append, List.length_take, List.length_drop, List.length_cons, List.length_nil, fr_by1, valX]
                    try have h64 : out.length = 64 := by omega
                    have e9 : scan r [] 1 = (150, [], 0) := by rw [hs, hd]; simp [scan, *]
                    rw [show c = 4 by assumption, decP_4 e9 (by decide)]
                    exact ⟨⟨rfl, rfl, rfl⟩, rfl, rfl⟩
                · skip
                  try simp only [bls] at hc7
                  conv => whnf
                  rw [show (decide ((↑(List.map by1 (c :: r)).length : Int) ≤ IntKind.i64.wrap ((↑a : Int) + 1 + 1))) = false from by simp only [wrs, decide_eq_false_iff_not, List.length_map, List.length_append, List.length_take, List.length_drop, List.length_cons, List.length_nil, fr_by1, valX]; omega]
                  conv => whnf
                  rw [show IntKind.i64.wrap ((↑a : Int) + 1 + 1) = ((↑a : Int) + 1 + 1) from wz.1 _ (by omega) (by omega)]
                  refine IdxG.mk (j := a + 2) (c := by1 d) (ixm2 hd) (by first | rfl | omega) ?_
                  conv => whnf
                  refine ⟨rfl, ?_⟩
                  conv => whnf
                  cases hc9 : (decide (d = 0))
                  · skip
                    try simp only [bls] at hc9
                    conv => whnf
                    rw [show IntKind.i64.wrap ((↑a : Int) + 1 + 1) = ((↑a : Int) + 1 + 1) from wz.1 _ (by omega) (by omega)]
                    refine IdxG.mk (j := a + 2) (c := by1 d) (ixm2 hd) (by first | rfl | omega) ?_
                    conv => whnf
                    refine ⟨rfl, ?_⟩
                    conv => whnf
                    cases hc10 : (decide (d = 255))
                    · skip
                      try simp only [bls] at hc10
                      conv => whnf
                      refine FinG.mk none ?_ (by rintro _ ⟨⟩)
                      simp only [outs, List.length_map, List.length_append, List.length_take, List.length_drop, List.length_cons, List.length_nil, fr_by1, valX]
                      try have h64 : out.length = 64 := by omega
                      have e9 : scan r [] 1 = (150, [], 0) := by rw [hs, hd]; simp [scan, *]
                      rw [show c = 4 by assumption, decP_4 e9 (by decide)]
                      exact ⟨⟨rfl, rfl, rfl⟩, rfl, rfl⟩
                    · skip
                      try simp only [bls] at hc10
                      conv => whnf
                      cases hc11 : (decide ((↑(List.map by1 out).length : Int) = 64))
                      · skip
                        try simp only [bls] at hc11
                        conv => whnf
                        refine IdxG.mk (j := a + 1) (c := by1 x) (ixm1 hd) (by first | rfl | omega) ?_
                        conv => whnf
                        refine ⟨rfl, ?_⟩
                        conv => whnf
                        refine ⟨ApOk.lit rfl, ?_⟩
                        conv => whnf
                        refine ⟨by simp only [List.length_map, List.length_append, beN_len, List.length_cons, List.length_nil, List.length_replicate, List.length_drop]; omega, ?_⟩
                        conv => whnf
                        refine IdxG.mk (j := a + 1) (c := by1 x) (ixm1 hd) (by first | rfl | omega) ?_
                        conv => whnf
                        refine ⟨rfl, ?_⟩
                        conv => whnf
                        rw [show (decide (x = 0)) = true from decide_eq_true (by omega)]
                        conv => whnf
                        refine ⟨(a + 2, out ++ [x]), ⟨by omega, by rw [List.length_append, List.length_singleton]; omega, scan_3 hd (by assumption) (by assumption) (by assumption) hs⟩, (show r.length - (a + 2) < r.length - a by omega), ?_⟩
                        refine ⟨?_, ?_, ?_⟩
                        · skip
                          repeat ((conv => whnf); first | exact True.intro | refine ⟨.rfl, ?_⟩ | refine ⟨.any, ?_⟩ | refine ⟨.nil, ?_⟩ | refine ⟨.int (by first | rfl | omega | (simp only [wrs]; omega)), ?_⟩)
                        · skip
                          repeat (first | exact LeVs.nil | ((conv => whnf); first | exact True.intro | exact .none | exact .row rfl | exact .row (app_by1 _ _) | refine .cells ?_ | refine ⟨_, _, rfl, .rfl, ?_⟩ | refine ⟨_, _, rfl, .any, ?_⟩ | refine ⟨_, _, rfl, .nil, ?_⟩ | refine ⟨_, _, rfl, .int (by first | rfl | omega | (simp only [wrs]; omega)), ?_⟩ | refine ⟨?_, ?_⟩))
                        · skip
                          repeat (first | exact LeFr.nil | ((conv => whnf); first | exact True.intro | refine ⟨.rfl, ?_⟩ | refine ⟨_, _, rfl, rfl, ?_, ?_⟩))
                      · skip
                        try simp only [bls] at hc11
                        conv => whnf
                        refine FinG.mk none ?_ (by rintro _ ⟨⟩)
                        simp only [outs, List.length_map, List.length_append, List.length_take, List.length_drop, List.length_cons, List.length_nil, fr_by1, valX]
                        try have h64 : out.length = 64 := by omega
                        have e9 : scan r [] 1 = (150, [], 0) := by rw [hs, hd]; simp [scan, *]
                        rw [show c = 4 by assumption, decP_4 e9 (by decide)]
                        exact ⟨⟨rfl, rfl, rfl⟩, rfl, rfl⟩
                  · skip
                    try simp only [bls] at hc9
                    conv => whnf
                    refine ⟨_, rfl, ?_⟩
                    conv => whnf
                    refine FinG.mk none ?_ (by rintro _ ⟨⟩)
                    simp only [outs, List.length_map, List.length_append, List.length_take, List.length_drop, List.length_cons, List.length_nil, fr_by1, valX]
                    have e9 : scan r [] 1 = (0, out, 1 + a + 2) := by rw [hs, hd]; simp [scan, *]
                    rw [show c = 4 by assumption, decP_0 e9]
                    refine ⟨⟨?_, ?_, ?_⟩, ?_, ?_⟩ <;> first | rfl | (simp (disch := omega) only [wz]; done) | (simp (disch := omega) only [wz]; congr 1; omega)
        · skip
          try simp only [bls] at hc3
          try simp (disch := omega) only [wz, Int.reduceAdd, Int.reduceSub, Int.reduceMul, Int.reduceNeg, Int.zero_add, Int.add_zero, Int.sub_zero, Int.sub_self] at hc3
          conv => whnf
          cases hc12 : (decide ((↑(List.map by1 (c :: r)).length : Int) < 9))
          · skip
            try simp only [bls] at hc12
            try simp only [List.length_cons, List.length_nil] at hc12
            conv => whnf
            simp (disch := omega) only [wz, Int.reduceAdd, Int.reduceSub, Int.reduceMul, Int.reduceNeg, Int.zero_add, Int.add_zero, Int.sub_zero, Int.sub_self]
            conv => whnf
            refine ⟨_, rfl, ?_⟩
            conv => whnf
            refine ⟨_, rfl, ?_⟩
            conv => whnf
            refine ⟨by simp only [bls]; omega, ?_⟩
            conv => whnf
            refine ⟨by simp only [List.length_map, List.length_append, beN_len, List.length_cons, List.length_nil, List.length_replicate, List.length_drop]; omega, ?_⟩
            conv => whnf
            refine ⟨len_by1 _, ?_⟩
            conv => whnf
            refine .ct ?_
            conv => whnf
            refine CallG.mk (num8_X _ c r hr0 (by omega)) rfl ?_
            conv => whnf
            refine FinG.mk none ?_ (by rintro _ ⟨⟩)
            simp only [outs, List.length_map, List.length_append, List.length_take, List.length_drop, List.length_cons, List.length_nil, fr_by1, valX]
            rw [show c = 3 by assumption, decP_3 (by omega)]
            exact ⟨⟨rfl, congrArg _ (xorN hr0), rfl⟩, rfl, rfl⟩
          · skip
            try simp only [bls] at hc12
            try simp only [List.length_cons, List.length_nil] at hc12
            conv => whnf
            refine FinG.mk none ?_ (by rintro _ ⟨⟩)
            simp only [outs, List.length_map, List.length_append, List.length_take, List.length_drop, List.length_cons, List.length_nil, fr_by1, valX]
            have h8 : r.length < 8 := by omega
            rw [show c = 3 by assumption]
            simp [decP, h8, val0]
      · skip
        try simp only [bls] at hc2
        try simp (disch := omega) only [wz, Int.reduceAdd, Int.reduceSub, Int.reduceMul, Int.reduceNeg, Int.zero_add, Int.add_zero, Int.sub_zero, Int.sub_self] at hc2
        conv => whnf
        cases hc13 : (decide ((↑(List.map by1 (c :: r)).length : Int) < 2))
        · skip
          try simp only [bls] at hc13
          try simp only [List.length_cons, List.length_nil] at hc13
          conv => whnf
          refine IdxG.mk (j := 1) (c := by1 (numL r 1)) (ixn hr0 (by omega)) rfl ?_
          conv => whnf
          refine ⟨rfl, ?_⟩
          conv => whnf
          cases hc14 : (decide (1 < numL r 1))
          · skip
            try simp only [bls] at hc14
            conv => whnf
            refine IdxG.mk (j := 1) (c := by1 (numL r 1)) (ixn hr0 (by omega)) rfl ?_
            conv => whnf
            refine ⟨rfl, ?_⟩
            conv => whnf
            refine FinG.mk none ?_ (by rintro _ ⟨⟩)
            simp only [outs, List.length_map, List.length_append, List.length_take, List.length_drop, List.length_cons, List.length_nil, fr_by1, valX]
            rw [show c = 2 by assumption, decP_2d hr0 (by omega) (by assumption)]
            exact ⟨⟨rfl, congrArg _ (num1_f hr0), rfl⟩, rfl, rfl⟩
          · skip
            try simp only [bls] at hc14
            conv => whnf
            refine FinG.mk none ?_ (by rintro _ ⟨⟩)
            simp only [outs, List.length_map, List.length_append, List.length_take, List.length_drop, List.length_cons, List.length_nil, fr_by1, valX]
            rw [show c = 2 by assumption, decP_2e hr0 (by omega) (by assumption)]
            exact ⟨⟨rfl, rfl, rfl⟩, rfl, rfl⟩
        · skip
          try simp only [bls] at hc13
          try simp only [List.length_cons, List.length_nil] at hc13
          conv => whnf
          refine FinG.mk none ?_ (by rintro _ ⟨⟩)
          simp only [outs, List.length_map, List.length_append, List.length_take, List.length_drop, List.length_cons, List.length_nil, fr_by1, valX]
          rw [show c = 2 by assumption, decP_2c (by omega)]
          exact ⟨⟨rfl, rfl, rfl⟩, rfl, rfl⟩
    · skip
      try simp only [bls] at hc1
      try simp (disch := omega) only [wz, Int.reduceAdd, Int.reduceSub, Int.reduceMul, Int.reduceNeg, Int.zero_add, Int.add_zero, Int.sub_zero, Int.sub_self] at hc1
      conv => whnf
      refine FinG.mk none ?_ (by rintro _ ⟨⟩)
      simp only [outs, List.length_map, List.length_append, List.length_take, List.length_drop, List.length_cons, List.length_nil, fr_by1, valX]
      rw [show c = 1 by assumption]
      exact ⟨⟨rfl, rfl, rfl⟩, rfl, rfl⟩
end Go.Proofs.YtdcemcobldpcnaaDoor
