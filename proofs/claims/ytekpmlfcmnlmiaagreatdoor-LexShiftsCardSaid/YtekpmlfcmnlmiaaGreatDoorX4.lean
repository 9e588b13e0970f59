/- Quoted texts. No condition. -/
import Derived.Test.YtekpmlfcmnlmiaaGreatDoorX3
namespace Go.Proofs.YtekpmlfcmnlmiaaGreatDoor
open Go.RowKit
set_option linter.unusedVariables false
set_option linter.unusedSimpArgs false
set_option maxRecDepth 20000
/-- May a byte be quoted? -/
def isP (c : Int) : Bool := decide (32 ≤ c) && decide (c ≤ 126)
set_option maxRecDepth 20000 in
theorem printed_X (c : Int) : XMeets Tryz.prog 42 [.v (.int .u8 c)] (.p (.v (.bool (isP c))) (nlv _)) := by
  refine XMeets.of_X tabX_ok (avs := [.p (.v (.int .u8 c)) (nlv _)]) [(0, .p (.v (.int .u8 c)) (nlv _))] (by kernel_rfl) Tryz.func42 rfl (by simp [PuL, Pu]) (rfl) rfl rfl ?_
  intro B w0
  conv => whnf
  refine bS (fun hc1 => ?_) (fun hc1 => ?_)
  · skip
    try simp only [bls] at hc1
    conv => whnf
    refine bT (decide_eq_true (by omega)) ?_
    conv => whnf
    refine bT (decide_eq_true (by omega)) ?_
    conv => whnf
    refine FinG.mk none ?_ (by rintro _ ⟨⟩)
    simp only [outs, List.length_map, List.length_append, List.length_take, List.length_drop, List.length_cons, List.length_nil]
    simp_all [isP]
  · skip
    try simp only [bls] at hc1
    conv => whnf
    refine bF (decide_eq_false (by omega)) ?_
    conv => whnf
    refine bF (decide_eq_false (by omega)) ?_
    conv => whnf
    refine FinG.mk none ?_ (by rintro _ ⟨⟩)
    simp only [outs, List.length_map, List.length_append, List.length_take, List.length_drop, List.length_cons, List.length_nil]
    simp_all [isP]; omega
/-- What a quoted text holds, from its k-th byte on, behind what has been read; and where it ends. -/
def quoU : List UInt8 → List Int → Nat → Option (List Int × Nat)
  | [], _, _ => none
  | [c], acc, k => if isP (c.toNat : Int) = true ∧ c = 39 then some (acc, k + 1) else none
  | c :: d :: l, acc, k => if isP (c.toNat : Int) = true then if c = 39 then if d = 39 then quoU l (acc ++ [39]) (k + 2) else some (acc, k + 1) else quoU (d :: l) (acc ++ [(c.toNat : Int)]) (k + 1) else none
/-- A round of the reading. -/
def quoR (s : ByteArray) (acc : List Int) (k : Nat) : Prop := 1 ≤ k ∧ acc.length ≤ k ∧ quoU ((bs s).drop 1) [] 1 = quoU ((bs s).drop k) acc k
theorem quoR_0 (s : ByteArray) : quoR s [] 1 := ⟨by omega, by simp, rfl⟩
theorem quoR_s {s : ByteArray} {acc : List Int} {k : Nat} {y : UInt8} (h : quoR s acc k) (hy : (bs s)[k]? = some y) (hp : isP (y.toNat : Int) = true) (hn : ¬ ((y.toNat : Int) = 39)) : quoR s (acc ++ [(y.toNat : Int)]) (k + 1) := by
  obtain ⟨h1, h2, h3⟩ := h
  refine ⟨by omega, by simp; omega, h3.trans ?_⟩
  obtain ⟨hk, rfl⟩ := List.getElem?_eq_some_iff.1 hy
  have h39 : ¬ ((bs s)[k] = 39) := fun e => hn (by rw [e]; rfl)
  rw [List.drop_eq_getElem_cons hk]
  cases hd : (bs s).drop (k + 1) with
  | nil => simp [quoU, h39]
  | cons d l => rw [quoU, if_pos hp, if_neg h39]
theorem quoR_q {s : ByteArray} {acc : List Int} {k : Nat} {y z : UInt8} (h : quoR s acc k) (hy : (bs s)[k]? = some y) (hq : (y.toNat : Int) = 39) (hz : (bs s)[k + 1]? = some z) (hq2 : (z.toNat : Int) = 39) : quoR s (acc ++ [39]) (k + 2) := by
  obtain ⟨h1, h2, h3⟩ := h
  refine ⟨by omega, by simp; omega, h3.trans ?_⟩
  obtain ⟨hk, rfl⟩ := List.getElem?_eq_some_iff.1 hy
  obtain ⟨hk2, rfl⟩ := List.getElem?_eq_some_iff.1 hz
  have e1 : (bs s)[k] = 39 := UInt8.toNat_inj.1 (show _ = 39 by omega)
  have e2 : (bs s)[k + 1] = 39 := UInt8.toNat_inj.1 (show _ = 39 by omega)
  rw [List.drop_eq_getElem_cons hk, List.drop_eq_getElem_cons hk2, e1, e2, quoU, if_pos (by decide), if_pos rfl, if_pos rfl]
/-- The token of a quoted text: kind and text, how long, why not. -/
def quoT (s : ByteArray) : (Int × ByteArray) × (Int × Int) := match quoU ((bs s).drop 1) [] 1 with
  | some (l, k) => if l.length ≤ 64 then ((4, strOfNums l), ((k : Int), 0)) else ((0, ⟨#[]⟩), (0, 200))
  | none => ((0, ⟨#[]⟩), (0, 200))
theorem quo_1 {s : ByteArray} {acc : List Int} {k : Nat} {y : UInt8} (h : quoR s acc k) (hy : (bs s)[k]? = some y) (hp : isP (y.toNat : Int) = true) (hq : (y.toNat : Int) = 39) (hz : ∀ z, (bs s)[k + 1]? = some z → ¬ ((z.toNat : Int) = 39)) : quoU ((bs s).drop 1) [] 1 = some (acc, k + 1) := by
  obtain ⟨h1, h2, h3⟩ := h
  rw [h3]
  obtain ⟨hk, rfl⟩ := List.getElem?_eq_some_iff.1 hy
  have e1 : (bs s)[k] = 39 := UInt8.toNat_inj.1 (show _ = 39 by omega)
  rw [List.drop_eq_getElem_cons hk]
  cases hd : (bs s).drop (k + 1) with
  | nil => rw [quoU, if_pos ⟨hp, e1⟩]
  | cons d l =>
    have hd0 : (bs s)[k + 1]? = some d := by
      have := congrArg List.head? hd
      simpa [List.head?_drop] using this
    have h39 : ¬ (d = 39) := fun e => hz d hd0 (by rw [e]; rfl)
    rw [quoU, if_pos hp, if_pos e1, if_neg h39]
theorem quo_2 {s : ByteArray} {acc : List Int} {k : Nat} {y : UInt8} (h : quoR s acc k) (hy : (bs s)[k]? = some y) (hp : isP (y.toNat : Int) = false) : quoU ((bs s).drop 1) [] 1 = none := by
  obtain ⟨h1, h2, h3⟩ := h
  rw [h3]
  obtain ⟨hk, rfl⟩ := List.getElem?_eq_some_iff.1 hy
  rw [List.drop_eq_getElem_cons hk]
  cases hd : (bs s).drop (k + 1) with
  | nil => rw [quoU, if_neg (fun e => by simp [hp] at e)]
  | cons d l => rw [quoU, if_neg (by simp [hp])]
theorem quo_3 {s : ByteArray} {acc : List Int} {k : Nat} (h : quoR s acc k) (hk : s.size ≤ k) : quoU ((bs s).drop 1) [] 1 = none := by
  obtain ⟨h1, h2, h3⟩ := h
  rw [h3, List.drop_of_length_le (by rw [bs_len]; exact hk)]
  rfl
theorem quoT_b {s : ByteArray} {l : List Int} {k : Nat} (h : quoU ((bs s).drop 1) [] 1 = some (l, k)) (hl : l.length ≤ 64) : quoT s = ((4, strOfNums l), ((k : Int), 0)) := by unfold quoT; rw [h]; simp [hl]
theorem quoT_c {s : ByteArray} {l : List Int} {k : Nat} (h : quoU ((bs s).drop 1) [] 1 = some (l, k)) (hl : ¬ l.length ≤ 64) : quoT s = ((0, ⟨#[]⟩), (0, 200)) := by unfold quoT; rw [h]; simp [hl]
theorem quoT_n {s : ByteArray} (h : quoU ((bs s).drop 1) [] 1 = none) : quoT s = ((0, ⟨#[]⟩), (0, 200)) := by unfold quoT; rw [h]
set_option maxRecDepth 20000 in
theorem quoted_X (s : ByteArray) (hs : s.size ≤ 140737488355328) (h0 : 1 ≤ s.size) : XMeets Tryz.prog 62 [.v (.string s)] (.tu [.ag [.p (.v (.int .i64 ((quoT s).1.1))) (nlv _), .p (.v (.string ((quoT s).1.2))) (nlv _), .p (.v (.int .i64 (0))) (nlv _), .p (.v (.int .i64 (0))) (nlv _), .p (.v (.int .i64 (0))) (nlv _)], .p (.v (.int .i64 ((quoT s).2.1))) (nlv _), .p (.v (.int .i64 ((quoT s).2.2))) (nlv _)]) := by
  refine XMeets.of_X tabX_ok (avs := [.p (.v (.string s)) (nlv _)]) [(0, .p (.v (.string s)) (nlv _))] (by kernel_rfl) Tryz.func62 rfl (by simp [PuL, Pu]) (rfl) rfl rfl ?_
  intro B w0
  have hsl := bs_len s
  conv => whnf
  refine XT.nilr 5 5 1 rfl rfl ?_
  conv => whnf
  refine XT.loop tabX_ok (Y := (List Int × Nat)) [5, 6, 7, 8, 9, 10, 11, 12, 13, 14, 15, 16, 17, 18, 19, 20, 21, 22, 23, 24, 25, 26, 27, 28, 29, 30, 31, 32, 33, 34, 35, 36, 37, 38, 39, 40] (fun ⟨acc, k⟩ => [(6, .p (.v (.int .i64 ((k : Int)))) (nlv _)), (5, .row 1)]) (fun ⟨acc, k⟩ => [(1, .row 5 1 (acc.map by1) (nl_by1 _))]) (fun ⟨acc, k⟩ => quoR s acc k ∧ k ≤ s.size) (fun ⟨acc, k⟩ => s.size + 1 - k) ([], 1) ⟨quoR_0 s, h0⟩ ?_ ?_
  · skip
    refine ⟨?_, ?_, ?_⟩
    · skip
      refine leEnv_app (by kernel_rfl) (by kernel_rfl) ?_
      repeat ((conv => whnf); first | exact True.intro | refine ⟨.rfl, ?_⟩ | refine ⟨.any, ?_⟩ | refine ⟨.nil, ?_⟩ | refine ⟨.int (by first | rfl | omega | (simp only [wrs]; omega)), ?_⟩)
    · skip
      repeat (first | exact LeVs.nil | ((conv => whnf); first | exact True.intro | exact .none | exact .row rfl | refine .cells ?_ | refine ⟨_, _, rfl, .rfl, ?_⟩ | refine ⟨_, _, rfl, .any, ?_⟩ | refine ⟨_, _, rfl, .nil, ?_⟩ | refine ⟨_, _, rfl, .int (by first | rfl | omega | (simp only [wrs]; omega)), ?_⟩ | refine ⟨?_, ?_⟩))
      done
    · skip
      exact LeFr.nil
  · skip
    rintro ⟨acc, k⟩ ⟨hq, hk⟩
    conv => whnf
    refine bS (fun hc1 => ?_) (fun hc1 => ?_)
    · skip
      try simp only [bls] at hc1
      conv => whnf
      refine bT (decide_eq_true (by omega)) ?_
      conv => whnf
      refine bT (decide_eq_true (by omega)) ?_
      conv => whnf
      refine str_ex k rfl (by omega) ?_; intro y hy hy0 hy1
      conv => whnf
      refine bT (decide_eq_true (by omega)) ?_
      conv => whnf
      refine .ct ?_
      conv => whnf
      refine CallG.mk (printed_X _) rfl ?_
      conv => whnf
      refine bT (decide_eq_true (by omega)) ?_
      conv => whnf
      refine bS (fun hc2 => ?_) (fun hc2 => ?_)
      · skip
        try simp only [bls] at hc2
        conv => whnf
        refine str_ex2 hy rfl ?_
        conv => whnf
        refine bS (fun hc3 => ?_) (fun hc3 => ?_)
        · skip
          try simp only [bls] at hc3
          conv => whnf
          refine bS (fun hc4 => ?_) (fun hc4 => ?_)
          · skip
            try simp only [bls] at hc4
            try simp (disch := omega) only [wz, Int.reduceAdd, Int.reduceSub, Int.reduceMul, Int.reduceNeg, Int.zero_add, Int.add_zero, Int.sub_zero, Int.sub_self] at hc4
            conv => whnf
            refine bT (by simp only [wrs, decide_eq_true_eq, List.length_map, List.length_append, List.length_take, List.length_drop, List.length_cons, List.length_nil]; omega) ?_
            conv => whnf
            refine bT (by simp only [wrs, decide_eq_true_eq, List.length_map, List.length_append, List.length_take, List.length_drop, List.length_cons, List.length_nil]; omega) ?_
            conv => whnf
            refine bT (by simp only [wrs, decide_eq_true_eq, List.length_map, List.length_append, List.length_take, List.length_drop, List.length_cons, List.length_nil]; omega) ?_
            conv => whnf
            refine bT (by simp only [wrs, decide_eq_true_eq, List.length_map, List.length_append, List.length_take, List.length_drop, List.length_cons, List.length_nil]; omega) ?_
            conv => whnf
            refine XT.pass tabX_ok ?_
            conv => whnf
            refine bS (fun hc5 => ?_) (fun hc5 => ?_)
            · skip
              try simp only [bls] at hc5
              conv => whnf
              refine FinG.mk none ?_ (by rintro _ ⟨⟩)
              simp only [outs, List.length_map, List.length_append, List.length_take, List.length_drop, List.length_cons, List.length_nil]
              rw [quoT_c (quo_1 hq hy (by assumption) (by omega) (fun z hz => by have := (List.getElem?_eq_some_iff.1 hz).1; omega)) (by omega)]
              simp
            · skip
              try simp only [bls] at hc5
              conv => whnf
              rw [show IntKind.i64.wrap ((↑k : Int) + 1) = ((↑k : Int) + 1) from wz.1 _ (by omega) (by omega)]
              conv => whnf
              refine ⟨_, rfl, ?_⟩
              conv => whnf
              refine FinG.mk none ?_ (by rintro _ ⟨⟩)
              simp only [outs, List.length_map, List.length_append, List.length_take, List.length_drop, List.length_cons, List.length_nil]
              rw [quoT_b (quo_1 hq hy (by assumption) (by omega) (fun z hz => by have := (List.getElem?_eq_some_iff.1 hz).1; omega)) (by omega)]
              simp
          · skip
            try simp only [bls] at hc4
            try simp (disch := omega) only [wz, Int.reduceAdd, Int.reduceSub, Int.reduceMul, Int.reduceNeg, Int.zero_add, Int.add_zero, Int.sub_zero, Int.sub_self] at hc4
            conv => whnf
            refine bF (by simp only [wrs, decide_eq_false_iff_not, List.length_map, List.length_append, List.length_take, List.length_drop, List.length_cons, List.length_nil]; omega) ?_
            conv => whnf
            refine bF (by simp only [wrs, decide_eq_false_iff_not, List.length_map, List.length_append, List.length_take, List.length_drop, List.length_cons, List.length_nil]; omega) ?_
            conv => whnf
            rw [show IntKind.i64.wrap ((↑k : Int) + 1) = ((↑k : Int) + 1) from wz.1 _ (by omega) (by omega)]
            conv => whnf
            refine str_ex (k + 1) (by omega) (by omega) ?_; intro z hz hz0 hz1
            conv => whnf
            refine bF (decide_eq_false (by omega)) ?_
            conv => whnf
            refine bF (decide_eq_false (by omega)) ?_
            conv => whnf
            refine bS (fun hc6 => ?_) (fun hc6 => ?_)
            · skip
              try simp only [bls] at hc6
              conv => whnf
              refine XT.pass tabX_ok ?_
              conv => whnf
              refine bS (fun hc7 => ?_) (fun hc7 => ?_)
              · skip
                try simp only [bls] at hc7
                conv => whnf
                refine FinG.mk none ?_ (by rintro _ ⟨⟩)
                simp only [outs, List.length_map, List.length_append, List.length_take, List.length_drop, List.length_cons, List.length_nil]
                rw [quoT_c (quo_1 hq hy (by assumption) (by omega) (fun z2 hz2 => by rw [hz] at hz2; cases hz2; simp_all)) (by omega)]
                simp
              · skip
                try simp only [bls] at hc7
                conv => whnf
                refine ⟨_, rfl, ?_⟩
                conv => whnf
                refine FinG.mk none ?_ (by rintro _ ⟨⟩)
                simp only [outs, List.length_map, List.length_append, List.length_take, List.length_drop, List.length_cons, List.length_nil]
                rw [quoT_b (quo_1 hq hy (by assumption) (by omega) (fun z2 hz2 => by rw [hz] at hz2; cases hz2; simp_all)) (by omega)]
                simp
            · skip
              try simp only [bls] at hc6
              conv => whnf
              refine str_ex2 hz (by omega) ?_
              conv => whnf
              refine ⟨ApOk.lit rfl, ?_⟩
              conv => whnf
              refine ⟨by have := hq.2.1; simp only [List.length_map, List.length_cons, List.length_nil, Nat.mul_one]; omega, ?_⟩
              conv => whnf
              refine ⟨(acc ++ [39], k + 2), ⟨quoR_q hq hy (by omega) hz (by omega), (by omega : k + 2 ≤ s.size)⟩, (show s.size + 1 - (k + 2) < s.size + 1 - k by omega), ?_⟩
              refine ⟨?_, ?_, ?_⟩
              · skip
                refine leEnv_app (by kernel_rfl) (by kernel_rfl) ?_
                repeat ((conv => whnf); first | exact True.intro | refine ⟨.rfl, ?_⟩ | refine ⟨.any, ?_⟩ | refine ⟨.nil, ?_⟩ | refine ⟨.int (by first | rfl | omega | (simp only [wrs]; omega)), ?_⟩)
              · skip
                repeat (first | exact LeVs.nil | ((conv => whnf); first | exact True.intro | exact .none | exact .row rfl | exact .row ((by simp [by1, *]; done)) | refine .cells ?_ | refine ⟨_, _, rfl, .rfl, ?_⟩ | refine ⟨_, _, rfl, .any, ?_⟩ | refine ⟨_, _, rfl, .nil, ?_⟩ | refine ⟨_, _, rfl, .int (by first | rfl | omega | (simp only [wrs]; omega)), ?_⟩ | refine ⟨?_, ?_⟩))
                done
              · skip
                exact LeFr.nil
        · skip
          try simp only [bls] at hc3
          conv => whnf
          refine str_ex2 hy rfl ?_
          conv => whnf
          refine ⟨ApOk.lit rfl, ?_⟩
          conv => whnf
          refine ⟨by have := hq.2.1; simp only [List.length_map, List.length_cons, List.length_nil, Nat.mul_one]; omega, ?_⟩
          conv => whnf
          refine ⟨(acc ++ [(y.toNat : Int)], k + 1), ⟨quoR_s hq hy (by assumption) (by omega), (by omega : k + 1 ≤ s.size)⟩, (show s.size + 1 - (k + 1) < s.size + 1 - k by omega), ?_⟩
          refine ⟨?_, ?_, ?_⟩
          · skip
            refine leEnv_app (by kernel_rfl) (by kernel_rfl) ?_
            repeat ((conv => whnf); first | exact True.intro | refine ⟨.rfl, ?_⟩ | refine ⟨.any, ?_⟩ | refine ⟨.nil, ?_⟩ | refine ⟨.int (by first | rfl | omega | (simp only [wrs]; omega)), ?_⟩)
          · skip
            repeat (first | exact LeVs.nil | ((conv => whnf); first | exact True.intro | exact .none | exact .row rfl | exact .row ((by simp [by1, *]; done)) | refine .cells ?_ | refine ⟨_, _, rfl, .rfl, ?_⟩ | refine ⟨_, _, rfl, .any, ?_⟩ | refine ⟨_, _, rfl, .nil, ?_⟩ | refine ⟨_, _, rfl, .int (by first | rfl | omega | (simp only [wrs]; omega)), ?_⟩ | refine ⟨?_, ?_⟩))
            done
          · skip
            exact LeFr.nil
      · skip
        try simp only [bls] at hc2
        conv => whnf
        refine FinG.mk none ?_ (by rintro _ ⟨⟩)
        simp only [outs, List.length_map, List.length_append, List.length_take, List.length_drop, List.length_cons, List.length_nil]
        rw [quoT_n (quo_2 hq hy (by assumption))]
        simp
    · skip
      try simp only [bls] at hc1
      conv => whnf
      refine bF (decide_eq_false (by omega)) ?_
      conv => whnf
      refine bF (decide_eq_false (by omega)) ?_
      conv => whnf
      refine bF (decide_eq_false (by omega)) ?_
      conv => whnf
      refine bF (decide_eq_false (by omega)) ?_
      conv => whnf
      refine FinG.mk none ?_ (by rintro _ ⟨⟩)
      simp only [outs, List.length_map, List.length_append, List.length_take, List.length_drop, List.length_cons, List.length_nil]
      rw [quoT_n (quo_3 hq (by omega))]
      simp
end Go.Proofs.YtekpmlfcmnlmiaaGreatDoor
