/- Who hears whom then. No condition. -/
import Derived.Test.YtmhmldpccccjbaaNB
namespace Go.Proofs.Ytmhmldpccccjbaa
open Go.RowKit
set_option linter.unusedVariables false
set_option linter.unusedSimpArgs false
set_option maxRecDepth 20000
set_option maxRecDepth 20000 in
theorem isNaN_X (a : Int) : XMeets Try.prog 82 [.v (.int .i64 a)] (.p (.v (.bool (false))) (nlv _)) := by
  refine XMeets.of_X tabX_ok (avs := [.p (.v (.int .i64 a)) (nlv _)]) [(0, .p (.v (.int .i64 a)) (nlv _))] (by kernel_rfl) Try.func82 rfl (by simp [PuL, Pu]) (rfl) rfl rfl ?_
  intro B w0
  conv => whnf
  refine FinG.mk none ?_ (by rintro _ ⟨⟩)
  simp only [outs, List.length_map, List.length_append, List.length_take, List.length_drop, List.length_cons, List.length_nil, slC, dfC]
  simp; done
set_option maxRecDepth 20000 in
theorem cmp_X (a b : Int) : XMeets Try.prog 71 [.v (.int .i64 a), .v (.int .i64 b)] (.p (.v (.int .i64 (cmpN a b))) (nlv _)) := by
  refine XMeets.of_X tabX_ok (avs := [.p (.v (.int .i64 a)) (nlv _), .p (.v (.int .i64 b)) (nlv _)]) [(0, .p (.v (.int .i64 a)) (nlv _)), (1, .p (.v (.int .i64 b)) (nlv _))] (by kernel_rfl) Try.func71 rfl (by simp [PuL, Pu]) (rfl) rfl rfl ?_
  intro B w0
  conv => whnf
  refine .ct ?_
  conv => whnf
  refine CallG.mk (isNaN_X _) rfl ?_
  conv => whnf
  refine .ct ?_
  conv => whnf
  refine CallG.mk (isNaN_X _) rfl ?_
  conv => whnf
  cases hc1 : (decide (a < b))
  · skip
    try simp only [bls] at hc1
    conv => whnf
    cases hc2 : (decide (b < a))
    · skip
      try simp only [bls] at hc2
      conv => whnf
      refine FinG.mk none ?_ (by rintro _ ⟨⟩)
      simp only [outs, List.length_map, List.length_append, List.length_take, List.length_drop, List.length_cons, List.length_nil, slC, dfC]
      unfold cmpN; split <;> first | rfl | omega | (split <;> first | rfl | omega)
    · skip
      try simp only [bls] at hc2
      conv => whnf
      refine FinG.mk none ?_ (by rintro _ ⟨⟩)
      simp only [outs, List.length_map, List.length_append, List.length_take, List.length_drop, List.length_cons, List.length_nil, slC, dfC]
      unfold cmpN; split <;> first | rfl | omega | (split <;> first | rfl | omega)
  · skip
    try simp only [bls] at hc1
    conv => whnf
    refine FinG.mk none ?_ (by rintro _ ⟨⟩)
    simp only [outs, List.length_map, List.length_append, List.length_take, List.length_drop, List.length_cons, List.length_nil, slC, dfC]
    unfold cmpN; split <;> first | rfl | omega | (split <;> first | rfl | omega)
set_option maxRecDepth 20000 in
theorem node_X (a : Int) : XMeets Try.prog 46 [.v (.int .i64 a)] (.p (.v (.bool (nodeB a))) (nlv _)) := by
  refine XMeets.of_X tabX_ok (avs := [.p (.v (.int .i64 a)) (nlv _)]) [(0, .p (.v (.int .i64 a)) (nlv _))] (by kernel_rfl) Try.func46 rfl (by simp [PuL, Pu]) (rfl) rfl rfl ?_
  intro B w0
  conv => whnf
  cases hc1 : (decide (1 ≤ a))
  · skip
    try simp only [bls] at hc1
    conv => whnf
    refine FinG.mk none ?_ (by rintro _ ⟨⟩)
    simp only [outs, List.length_map, List.length_append, List.length_take, List.length_drop, List.length_cons, List.length_nil, slC, dfC]
    simp [nodeB]; omega
  · skip
    try simp only [bls] at hc1
    conv => whnf
    refine FinG.mk none ?_ (by rintro _ ⟨⟩)
    simp only [outs, List.length_map, List.length_append, List.length_take, List.length_drop, List.length_cons, List.length_nil, slC, dfC]
    simp [nodeB]; omega
set_option maxRecDepth 20000 in
theorem packet_X (c : Bool) (f t : Int) (l : List Int) : XMeets Try.prog 47 [.agg [.v (.int .i64 f), .v (.int .i64 t), .sl c (l.map by1)]] (.p (.v (.bool (pkB f t l.length))) (nlv _)) := by
  refine XMeets.of_X tabX_ok (avs := [.ag [.p (.v (.int .i64 f)) (nlv _), .p (.v (.int .i64 t)) (nlv _), .p (.sl false (l.map by1)) (nl_by1 _).sl]]) [(0, .ag [.p (.v (.int .i64 f)) (nlv _), .p (.v (.int .i64 t)) (nlv _), .p (.sl false (l.map by1)) (nl_by1 _).sl])] (by kernel_rfl) Try.func47 rfl (by simp [PuL, Pu, netT, slC, dfC, pu_by1, pu_sl, pu_df]) (by simp only [untagL, untag, netT, untag_by1, untag_sl, untag_df]; rfl) rfl rfl ?_
  intro B w0
  conv => whnf
  refine .ct ?_
  conv => whnf
  refine CallG.mk (node_X _) rfl ?_
  conv => whnf
  cases hc1 : (nodeB f)
  · skip
    try simp only [bls] at hc1
    conv => whnf
    refine FinG.mk none ?_ (by rintro _ ⟨⟩)
    simp only [outs, List.length_map, List.length_append, List.length_take, List.length_drop, List.length_cons, List.length_nil, slC, dfC]
    simp_all [pkB]
  · skip
    try simp only [bls] at hc1
    conv => whnf
    refine .ct ?_
    conv => whnf
    refine CallG.mk (node_X _) rfl ?_
    conv => whnf
    cases hc2 : (nodeB t)
    · skip
      try simp only [bls] at hc2
      conv => whnf
      refine FinG.mk none ?_ (by rintro _ ⟨⟩)
      simp only [outs, List.length_map, List.length_append, List.length_take, List.length_drop, List.length_cons, List.length_nil, slC, dfC]
      simp_all [pkB]
    · skip
      try simp only [bls] at hc2
      conv => whnf
      cases hc3 : (decide (f = t))
      · skip
        try simp only [bls] at hc3
        conv => whnf
        refine FinG.mk none ?_ (by rintro _ ⟨⟩)
        simp only [outs, List.length_map, List.length_append, List.length_take, List.length_drop, List.length_cons, List.length_nil, slC, dfC]
        simp_all [pkB]; omega
      · skip
        try simp only [bls] at hc3
        conv => whnf
        refine FinG.mk none ?_ (by rintro _ ⟨⟩)
        simp only [outs, List.length_map, List.length_append, List.length_take, List.length_drop, List.length_cons, List.length_nil, slC, dfC]
        simp_all [pkB]
theorem packet0_X (c : Bool) (f t : Int) : XMeets Try.prog 47 [.agg [.v (.int .i64 f), .v (.int .i64 t), .sl c []]] (.p (.v (.bool (pkB f t 0))) (nlv _)) := packet_X c f t []
def two (x y : Int) : List (List TV) := [[.v (.int .i64 x)], [.v (.int .i64 y)]]
theorem two_at {x y : Int} {k : Nat} (h : (k : Int) < (([[.v (.int .i64 x)], [.v (.int .i64 y)]] : List (List TV)).length : Int)) : ([[.v (.int .i64 x)], [.v (.int .i64 y)]] : List (List TV))[k]? = some [.v (.int .i64 (if k = 0 then x else y))] := by
  simp only [List.length_cons, List.length_nil] at h
  rcases (show k = 0 ∨ k = 1 by omega) with rfl | rfl <;> rfl
theorem or_n {x y : Int} {k : Nat} (h : (k : Int) < (([[.v (.int .i64 x)], [.v (.int .i64 y)]] : List (List TV)).length : Int)) (h1 : 0 < k → x = 0) (h2 : 1 < k → y = 0) (h3 : (if k = 0 then x else y) = 0) : (k + 1 ≤ 2 ∧ (0 < k + 1 → x = 0) ∧ (1 < k + 1 → y = 0)) ∧ 2 - (k + 1) < 2 - k := by
  simp only [List.length_cons, List.length_nil] at h
  split at h3
  · subst_vars; exact ⟨⟨by omega, fun _ => rfl, by omega⟩, by omega⟩
  · exact ⟨⟨by omega, fun _ => h1 (by omega), fun _ => h3⟩, by omega⟩
theorem or_e1 {x y : Int} {k : Nat} (h1 : 0 < k → x = 0) (h3 : ¬ (if k = 0 then x else y) = 0) : (if k = 0 then x else y) = (if x = 0 then y else x) := by
  by_cases hk : k = 0
  · rw [if_pos hk] at h3 ⊢; rw [if_neg h3]
  · rw [if_neg hk, if_pos (h1 (by omega))]
set_option maxRecDepth 20000 in
theorem or_X (b : Bool) (x y : Int) : XMeets Try.prog 70 [.sl b [[.v (.int .i64 x)], [.v (.int .i64 y)]]] (.p (.v (.int .i64 (if x = 0 then y else x))) (nlv _)) := by
  refine XMeets.of_X tabX_ok (avs := [.p (.sl false [[.v (.int .i64 x)], [.v (.int .i64 y)]]) (NlLL.cons (.cons (nlv _) .nil) (NlLL.cons (.cons (nlv _) .nil) .nil)).sl]) [(0, .p (.sl false [[.v (.int .i64 x)], [.v (.int .i64 y)]]) (NlLL.cons (.cons (nlv _) .nil) (NlLL.cons (.cons (nlv _) .nil) .nil)).sl)] (by kernel_rfl) Try.func70 rfl (by simp [PuL, Pu, PuLL]) (rfl) rfl rfl ?_
  intro B w0
  conv => whnf
  refine XT.loop tabX_ok (Y := Nat) [5, 8, 9, 10, 11, 12, 13, 14, 15, 16] (fun k => [(8, .p (.v (.int .i64 ((k : Int)))) (nlv _))]) (fun k => []) (fun k => k ≤ 2 ∧ (0 < k → x = 0) ∧ (1 < k → y = 0)) (fun k => 2 - k) 0 ⟨by omega, by omega, by omega⟩ ?_ ?_
  · skip
    refine ⟨?_, ?_, ?_⟩
    · skip
      repeat ((conv => whnf); first | exact True.intro | refine ⟨.rfl, ?_⟩ | refine ⟨.any, ?_⟩ | refine ⟨.nil, ?_⟩ | refine ⟨.int (by first | rfl | omega | (simp only [wrs]; omega)), ?_⟩)
    · skip
      repeat (first | exact LeVs.nil | ((conv => whnf); first | exact True.intro | exact .none | exact .row rfl | refine .cells ?_ | refine ⟨_, _, rfl, .rfl, ?_⟩ | refine ⟨_, _, rfl, .any, ?_⟩ | refine ⟨_, _, rfl, .nil, ?_⟩ | refine ⟨_, _, rfl, .int (by first | rfl | omega | (simp only [wrs]; omega)), ?_⟩ | refine ⟨?_, ?_⟩))
    · skip
      repeat (first | exact LeFr.nil | ((conv => whnf); first | exact True.intro | refine ⟨.rfl, ?_⟩ | refine ⟨_, _, rfl, rfl, ?_, ?_⟩))
  · skip
    rintro k ⟨hk, h1, h2⟩
    conv => whnf
    cases hc1 : (decide ((↑k : Int) < (↑[[TV.v (Value.int IntKind.i64 x)], [TV.v (Value.int IntKind.i64 y)]].length : Int)))
    · skip
      try simp only [bls] at hc1
      conv => whnf
      refine FinG.mk none ?_ (by rintro _ ⟨⟩)
      simp only [outs, List.length_map, List.length_append, List.length_take, List.length_drop, List.length_cons, List.length_nil, slC, dfC]
      and_intros <;> first | rfl | (simp; done) | omega | (simp_all; done) | (simp_all; omega)
    · skip
      try simp only [bls] at hc1
      conv => whnf
      refine IdxG.mk (two_at hc1) rfl ?_
      conv => whnf
      refine ⟨rfl, ?_⟩
      conv => whnf
      cases hc2 : (decide ((if k = 0 then x else y) = 0))
      · skip
        try simp only [bls] at hc2
        conv => whnf
        refine FinG.mk none ?_ (by rintro _ ⟨⟩)
        simp only [outs, List.length_map, List.length_append, List.length_take, List.length_drop, List.length_cons, List.length_nil, slC, dfC]
        rw [← or_e1 h1 hc2]
      · skip
        try simp only [bls] at hc2
        conv => whnf
        refine ⟨(k + 1), (or_n hc1 h1 h2 hc2).1, (or_n hc1 h1 h2 hc2).2, ?_⟩
        refine ⟨?_, ?_, ?_⟩
        · skip
          repeat ((conv => whnf); first | exact True.intro | refine ⟨.rfl, ?_⟩ | refine ⟨.any, ?_⟩ | refine ⟨.nil, ?_⟩ | refine ⟨.int (by first | rfl | omega | (simp only [wrs]; omega)), ?_⟩)
        · skip
          repeat (first | exact LeVs.nil | ((conv => whnf); first | exact True.intro | exact .none | exact .row rfl | refine .cells ?_ | refine ⟨_, _, rfl, .rfl, ?_⟩ | refine ⟨_, _, rfl, .any, ?_⟩ | refine ⟨_, _, rfl, .nil, ?_⟩ | refine ⟨_, _, rfl, .int (by first | rfl | omega | (simp only [wrs]; omega)), ?_⟩ | refine ⟨?_, ?_⟩))
        · skip
          repeat (first | exact LeFr.nil | ((conv => whnf); first | exact True.intro | refine ⟨.rfl, ?_⟩ | refine ⟨_, _, rfl, rfl, ?_, ?_⟩))
set_option maxRecDepth 20000 in
theorem order_X (a b : Int × Int) : XMeets Try.prog 50 [.agg [.v (.int .i64 a.1), .v (.int .i64 a.2)], .agg [.v (.int .i64 b.1), .v (.int .i64 b.2)]] (.p (.v (.int .i64 (ordN a b))) (nlv _)) := by
  refine XMeets.of_X tabX_ok (avs := [.ag [.p (.v (.int .i64 a.1)) (nlv _), .p (.v (.int .i64 a.2)) (nlv _)], .ag [.p (.v (.int .i64 b.1)) (nlv _), .p (.v (.int .i64 b.2)) (nlv _)]]) [(0, .ag [.p (.v (.int .i64 a.1)) (nlv _), .p (.v (.int .i64 a.2)) (nlv _)]), (1, .ag [.p (.v (.int .i64 b.1)) (nlv _), .p (.v (.int .i64 b.2)) (nlv _)])] (by kernel_rfl) Try.func50 rfl (by simp [PuL, Pu, netT, slC, dfC, pu_by1, pu_sl, pu_df]) (by simp only [untagL, untag, netT, untag_by1, untag_sl, untag_df]; rfl) rfl rfl ?_
  intro B w0
  conv => whnf
  refine RegG.par 10 (by kernel_rfl) ?_
  conv => whnf
  refine CallG.mk (cmp_X _ _) rfl ?_
  conv => whnf
  refine CallG.mk (cmp_X _ _) rfl ?_
  conv => whnf
  refine .ct ?_
  conv => whnf
  refine CallG.mk (or_X _ _ _) rfl ?_
  conv => whnf
  refine FinG.mk none ?_ (by rintro _ ⟨⟩)
  simp only [outs, List.length_map, List.length_append, List.length_take, List.length_drop, List.length_cons, List.length_nil, slC, dfC]
  rfl
theorem eqDf_run (x y : Operand) (a b c d : Int) (w : World) : (do eqGuard .eql 77 x y (.agg #[.int .i64 a, .int .i64 b]) (.agg #[.int .i64 c, .int .i64 d]); binOp .eql 77 (.agg #[.int .i64 a, .int .i64 b]) (.agg #[.int .i64 c, .int .i64 d]) : Sem Value).run Try.prog w = .ok (.bool (decide (a = c) && decide (b = d))) w := by
  go_simp
  by_cases h1 : a = c <;> by_cases h2 : b = d <;> simp [h1, h2]
/-- Where a pair stands in a row; -1: nowhere. -/
def ixD (d : List (Int × Int)) (x : Int × Int) : Int := if x ∈ d then (d.idxOf x : Int) else -1
theorem idxOf_le' {x : Int × Int} : ∀ {d : List (Int × Int)} {k : Nat}, d[k]? = some x → d.idxOf x ≤ k
  | [], k, h => by simp at h
  | a :: d, 0, h => by simp at h; subst h; simp
  | a :: d, k + 1, h => by
    have h1 := idxOf_le' (x := x) (d := d) (k := k) (by simpa using h)
    rw [List.idxOf_cons]
    cases a == x <;> simp <;> omega
theorem ixD_at {d : List (Int × Int)} {x y : Int × Int} {k : Nat} (h : d[k]? = some y) (hq : (decide (x.1 = y.1) && decide (x.2 = y.2)) = true) (hn : ∀ j, j < k → d[j]? ≠ some x) : ixD d x = (k : Int) := by
  simp only [Bool.and_eq_true, decide_eq_true_eq] at hq
  obtain rfl : x = y := Prod.ext hq.1 hq.2
  have hm := List.mem_of_getElem? h
  unfold ixD
  rw [if_pos hm]
  have h1 := List.idxOf_lt_length_of_mem hm
  have h2 : d[d.idxOf x]? = some x := by rw [List.getElem?_eq_getElem h1]; simp
  have h4 := idxOf_le' h
  rcases Nat.eq_or_lt_of_le h4 with h3 | h3
  · rw [h3]
  · exact absurd h2 (hn _ h3)
theorem ixD_no {d : List (Int × Int)} {x : Int × Int} (hn : ∀ j, j < d.length → d[j]? ≠ some x) : ixD d x = -1 := by
  unfold ixD
  rw [if_neg fun hm => ?_]
  obtain ⟨j, hj, he⟩ := List.getElem_of_mem hm
  exact hn j hj (by rw [List.getElem?_eq_getElem hj, he])
theorem ixD_step {d : List (Int × Int)} {x y : Int × Int} {k : Nat} (h : d[k]? = some y) (hq : (decide (x.1 = y.1) && decide (x.2 = y.2)) = false) (hn : ∀ j, j < k → d[j]? ≠ some x) : ∀ j, j < k + 1 → d[j]? ≠ some x := fun j hj e => by
  rcases Nat.lt_or_ge j k with h1 | h1
  · exact hn j h1 e
  · obtain rfl : j = k := by omega
    rw [h] at e
    injection e with e
    subst e
    simp at hq
theorem ixD_mem (d : List (Int × Int)) (x : Int × Int) : decide (0 ≤ ixD d x) = decide (x ∈ d) := by
  unfold ixD
  split
  · rename_i h; simp [h]
  · rename_i h; simp [h]
set_option maxRecDepth 20000 in
theorem index_X (b : Bool) (d : List (Int × Int)) (x : Int × Int) (hd : d.length ≤ 100000) : XMeets Try.prog 77 [.sl b (d.map dfC), .agg [.v (.int .i64 x.1), .v (.int .i64 x.2)]] (.p (.v (.int .i64 (ixD d x))) (nlv _)) := by
  refine XMeets.of_X tabX_ok (avs := [.p (.sl false (d.map dfC)) (nl_df _).sl, .ag [.p (.v (.int .i64 x.1)) (nlv _), .p (.v (.int .i64 x.2)) (nlv _)]]) [(0, .p (.sl false (d.map dfC)) (nl_df _).sl), (1, .ag [.p (.v (.int .i64 x.1)) (nlv _), .p (.v (.int .i64 x.2)) (nlv _)])] (by kernel_rfl) Try.func77 rfl (by simp [PuL, Pu, netT, slC, dfC, pu_by1, pu_sl, pu_df]) (by simp only [untagL, untag, netT, untag_by1, untag_sl, untag_df]; rfl) rfl rfl ?_
  intro B w0
  conv => whnf
  refine XT.loop tabX_ok (Y := Nat) [4, 5, 8, 9, 10, 11, 12, 13, 14, 15, 16, 17, 18] (fun k => [(8, .p (.v (.int .i64 ((k : Int)))) (nlv _))]) (fun k => []) (fun k => k ≤ d.length ∧ ∀ j, j < k → d[j]? ≠ some x) (fun k => d.length - k) 0 ⟨Nat.zero_le _, fun j hj => by omega⟩ ?_ ?_
  · skip
    refine ⟨?_, ?_, ?_⟩
    · skip
      repeat ((conv => whnf); first | exact True.intro | refine ⟨.rfl, ?_⟩ | refine ⟨.any, ?_⟩ | refine ⟨.nil, ?_⟩ | refine ⟨.int (by first | rfl | omega | (simp only [wrs]; omega)), ?_⟩)
    · skip
      repeat (first | exact LeVs.nil | ((conv => whnf); first | exact True.intro | exact .none | exact .row rfl | refine .cells ?_ | refine ⟨_, _, rfl, .rfl, ?_⟩ | refine ⟨_, _, rfl, .any, ?_⟩ | refine ⟨_, _, rfl, .nil, ?_⟩ | refine ⟨_, _, rfl, .int (by first | rfl | omega | (simp only [wrs]; omega)), ?_⟩ | refine ⟨?_, ?_⟩))
    · skip
      repeat (first | exact LeFr.nil | ((conv => whnf); first | exact True.intro | refine ⟨.rfl, ?_⟩ | refine ⟨_, _, rfl, rfl, ?_, ?_⟩))
  · skip
    rintro k ⟨hk, hn⟩
    conv => whnf
    cases hc1 : (decide ((↑k : Int) < (↑(List.map dfC d).length : Int)))
    · skip
      try simp only [bls] at hc1
      conv => whnf
      refine FinG.mk none ?_ (by rintro _ ⟨⟩)
      simp only [outs, List.length_map, List.length_append, List.length_take, List.length_drop, List.length_cons, List.length_nil, slC, dfC]
      rw [ixD_no fun j hj => hn j (by omega)]
    · skip
      try simp only [bls] at hc1
      conv => whnf
      refine RegG.par 6 (by kernel_rfl) ?_
      conv => whnf
      refine IdxG.map _ rfl (by first | omega | (simp only [List.length_map] at *; omega)) ?_; intro y hy hny
      conv => whnf
      refine ⟨rfl, ?_⟩
      conv => whnf
      refine BinG.mk rfl rfl (eqDf_run _ _ _ _ _ _) ?_
      conv => whnf
      cases hc2 : (decide (x.fst = y.fst) && decide (x.snd = y.snd))
      · skip
        try simp only [bls] at hc2
        conv => whnf
        refine ⟨(k + 1), ⟨by omega, ixD_step hy (by assumption) hn⟩, (by omega), ?_⟩
        refine ⟨?_, ?_, ?_⟩
        · skip
          repeat ((conv => whnf); first | exact True.intro | refine ⟨.rfl, ?_⟩ | refine ⟨.any, ?_⟩ | refine ⟨.nil, ?_⟩ | refine ⟨.int (by first | rfl | omega | (simp only [wrs]; omega)), ?_⟩)
        · skip
          repeat (first | exact LeVs.nil | ((conv => whnf); first | exact True.intro | exact .none | exact .row rfl | refine .cells ?_ | refine ⟨_, _, rfl, .rfl, ?_⟩ | refine ⟨_, _, rfl, .any, ?_⟩ | refine ⟨_, _, rfl, .nil, ?_⟩ | refine ⟨_, _, rfl, .int (by first | rfl | omega | (simp only [wrs]; omega)), ?_⟩ | refine ⟨?_, ?_⟩))
        · skip
          repeat (first | exact LeFr.nil | ((conv => whnf); first | exact True.intro | refine ⟨.rfl, ?_⟩ | refine ⟨_, _, rfl, rfl, ?_, ?_⟩))
      · skip
        try simp only [bls] at hc2
        conv => whnf
        refine FinG.mk none ?_ (by rintro _ ⟨⟩)
        simp only [outs, List.length_map, List.length_append, List.length_take, List.length_drop, List.length_cons, List.length_nil, slC, dfC]
        rw [ixD_at hy (by simp [hc2]) hn]
set_option maxRecDepth 20000 in
theorem contains_X (b : Bool) (d : List (Int × Int)) (x : Int × Int) (hd : d.length ≤ 100000) : XMeets Try.prog 67 [.sl b (d.map dfC), .agg [.v (.int .i64 x.1), .v (.int .i64 x.2)]] (.p (.v (.bool (decide (x ∈ d)))) (nlv _)) := by
  refine XMeets.of_X tabX_ok (avs := [.p (.sl false (d.map dfC)) (nl_df _).sl, .ag [.p (.v (.int .i64 x.1)) (nlv _), .p (.v (.int .i64 x.2)) (nlv _)]]) [(0, .p (.sl false (d.map dfC)) (nl_df _).sl), (1, .ag [.p (.v (.int .i64 x.1)) (nlv _), .p (.v (.int .i64 x.2)) (nlv _)])] (by kernel_rfl) Try.func67 rfl (by simp [PuL, Pu, netT, slC, dfC, pu_by1, pu_sl, pu_df]) (by simp only [untagL, untag, netT, untag_by1, untag_sl, untag_df]; rfl) rfl rfl ?_
  intro B w0
  conv => whnf
  refine .ct ?_
  conv => whnf
  refine CallG.mk (index_X _ _ _ (by first | assumption | omega)) rfl ?_
  conv => whnf
  refine FinG.mk none ?_ (by rintro _ ⟨⟩)
  simp only [outs, List.length_map, List.length_append, List.length_take, List.length_drop, List.length_cons, List.length_nil, slC, dfC]
  rw [← ixD_mem]
set_option maxRecDepth 20000 in
theorem hears_X (b c e g : Bool) (n : NetA) (p : Sl) (hd : n.d.length ≤ 100000) : XMeets Try.prog 48 [netT b c e n, .agg [.v (.int .i64 p.f), .v (.int .i64 p.t), .sl g (p.b.map by1)]] (.p (.v (.bool (!decide ((p.f, p.t) ∈ n.d)))) (nlv _)) := by
  refine XMeets.of_X tabX_ok (avs := [.ag [.p (.sl false (n.s.map (slC false))) (nl_sl _ _).sl, .p (.v (.int .i64 n.l)) (nlv _), .p (.sl false (n.d.map dfC)) (nl_df _).sl], .ag [.p (.v (.int .i64 p.f)) (nlv _), .p (.v (.int .i64 p.t)) (nlv _), .p (.sl false (p.b.map by1)) (nl_by1 _).sl]]) [(0, .ag [.p (.sl false (n.s.map (slC false))) (nl_sl _ _).sl, .p (.v (.int .i64 n.l)) (nlv _), .p (.sl false (n.d.map dfC)) (nl_df _).sl]), (1, .ag [.p (.v (.int .i64 p.f)) (nlv _), .p (.v (.int .i64 p.t)) (nlv _), .p (.sl false (p.b.map by1)) (nl_by1 _).sl])] (by kernel_rfl) Try.func48 rfl (by simp [PuL, Pu, netT, slC, dfC, pu_by1, pu_sl, pu_df]) (by simp only [untagL, untag, netT, untag_by1, untag_sl, untag_df]; rfl) rfl rfl ?_
  intro B w0
  conv => whnf
  refine .ct ?_
  conv => whnf
  refine CallG.mk (contains_X _ _ (_, _) (by first | assumption | omega)) rfl ?_
  conv => whnf
  refine FinG.mk none ?_ (by rintro _ ⟨⟩)
  simp only [outs, List.length_map, List.length_append, List.length_take, List.length_drop, List.length_cons, List.length_nil, slC, dfC]
set_option maxRecDepth 20000 in
theorem at1_X (b : Bool) (s : Sl) (x : Int) : XMeets Try.prog 79 [.agg [.v (.int .i64 s.a), .v (.int .i64 s.f), .v (.int .i64 s.t), .sl b (s.b.map by1)], .v (.int .i64 x)] (.p (.v (.int .i64 (IntKind.i64.wrap (s.a - x)))) (nlv _)) := by
  refine XMeets.of_X tabX_ok (avs := [.ag [.p (.v (.int .i64 s.a)) (nlv _), .p (.v (.int .i64 s.f)) (nlv _), .p (.v (.int .i64 s.t)) (nlv _), .p (.sl false (s.b.map by1)) (nl_by1 _).sl], .p (.v (.int .i64 x)) (nlv _)]) [(0, .ag [.p (.v (.int .i64 s.a)) (nlv _), .p (.v (.int .i64 s.f)) (nlv _), .p (.v (.int .i64 s.t)) (nlv _), .p (.sl false (s.b.map by1)) (nl_by1 _).sl]), (1, .p (.v (.int .i64 x)) (nlv _))] (by kernel_rfl) Try.func79 rfl (by simp [PuL, Pu, netT, slC, dfC, pu_by1, pu_sl, pu_df]) (by simp only [untagL, untag, netT, untag_by1, untag_sl, untag_df]; rfl) rfl rfl ?_
  intro B w0
  conv => whnf
  refine FinG.mk none ?_ (by rintro _ ⟨⟩)
  simp only [outs, List.length_map, List.length_append, List.length_take, List.length_drop, List.length_cons, List.length_nil, slC, dfC]
def posS (s : List Sl) (x : Int) : Nat := (s.takeWhile fun y => decide (y.a < x)).length
def hasS (s : List Sl) (x : Int) : Bool := s.any fun y => decide (y.a = x)
def inWay (x : Int) : Prop := 0 ≤ x ∧ x < 80
structure WayS (s : List Sl) : Prop where
  n : s.length ≤ 80
  w : ∀ y ∈ s, inWay y.a
  o : s.Pairwise fun x y => x.a < y.a
theorem pos_is {s : List Sl} {x : Int} {i : Nat} (hi : i ≤ s.length) (h1 : ∀ m y, m < i → s[m]? = some y → y.a < x) (h2 : ∀ m y, i ≤ m → s[m]? = some y → x ≤ y.a) : posS s x = i := by
  induction s generalizing i with
  | nil => simp at hi; subst hi; rfl
  | cons a s ih =>
    unfold posS
    cases i with
    | zero =>
      have := h2 0 a (Nat.le_refl _) rfl
      rw [List.takeWhile_cons_of_neg (by simp; omega)]; rfl
    | succ i =>
      have h3 := h1 0 a (by omega) rfl
      rw [List.takeWhile_cons_of_pos (by simp; omega), List.length_cons]
      have := ih (i := i) (by simpa using hi) (fun m y hm hy => h1 (m + 1) y (by omega) (by simpa using hy)) (fun m y hm hy => h2 (m + 1) y (by omega) (by simpa using hy))
      unfold posS at this
      rw [this]
theorem has_is {s : List Sl} {x : Int} {i : Nat} (ho : s.Pairwise fun x y => x.a < y.a) (h1 : ∀ m y, m < i → s[m]? = some y → y.a < x) (h2 : ∀ m y, i ≤ m → s[m]? = some y → x ≤ y.a) : hasS s x = match s[i]? with | some y => decide (y.a = x) | none => false := by
  cases hi : s[i]? with
  | none =>
    simp only
    unfold hasS
    rw [List.any_eq_false]
    intro y hy
    obtain ⟨m, hm, rfl⟩ := List.getElem_of_mem hy
    have h3 : m < i := by
      rcases Nat.lt_or_ge m i with h | h
      · exact h
      · rw [List.getElem?_eq_none_iff] at hi; omega
    have := h1 m _ h3 (List.getElem?_eq_getElem hm)
    simp; omega
  | some y =>
    simp only
    by_cases hq : y.a = x
    · unfold hasS
      rw [decide_eq_true hq, List.any_eq_true]
      exact ⟨y, List.mem_of_getElem? hi, by simp [hq]⟩
    · rw [decide_eq_false hq]
      unfold hasS
      rw [List.any_eq_false]
      intro z hz
      obtain ⟨m, hm, rfl⟩ := List.getElem_of_mem hz
      have h4 := h2 i y (Nat.le_refl _) hi
      obtain ⟨hil, hie⟩ := List.getElem?_eq_some_iff.1 hi
      rcases Nat.lt_trichotomy m i with h | h | h
      · have := h1 m _ h (List.getElem?_eq_getElem hm); simp; omega
      · subst h; rw [hie]; simpa using hq
      · have := List.pairwise_iff_getElem.1 ho i m hil hm h
        rw [hie] at this
        simp; omega
theorem half_w {i j : Nat} (h : i + j ≤ 1000) : IntKind.i64.wrap ((IntKind.u64.wrap ((i : Int) + (j : Int))).fdiv (2 ^ min (Int.toNat 1) IntKind.u64.bits)) = (((i + j) / 2 : Nat) : Int) := by
  have h1 : IntKind.u64.wrap ((i : Int) + (j : Int)) = ((i + j : Nat) : Int) := by simp [IntKind.wrap, IntKind.bits, IntKind.signed]; omega
  rw [h1]
  have h2 : (((i + j : Nat) : Int)).fdiv (2 ^ min (Int.toNat 1) IntKind.u64.bits) = (((i + j) / 2 : Nat) : Int) := by
    rw [show (2 : Int) ^ min (Int.toNat 1) IntKind.u64.bits = 2 from rfl, Int.fdiv_eq_ediv_of_nonneg _ (by omega)]
    omega
  rw [h2]
  simp [IntKind.wrap, IntKind.bits, IntKind.signed]
  omega
theorem wrap_sub {a x : Int} (h1 : inWay a) (h2 : inWay x) : IntKind.i64.wrap (a - x) = a - x := by
  unfold inWay at h1 h2
  rw [IntKind.wrap_i64]; omega
theorem has_end {s : List Sl} {x : Int} {i j : Nat} {y : Sl} (hw : inWay y.a) (hx : inWay x) (ho : s.Pairwise fun x y => x.a < y.a) (hij : i = j) (h1 : ∀ m y, m < i → s[m]? = some y → y.a < x) (h2 : ∀ m y, j ≤ m → s[m]? = some y → x ≤ y.a) (hy : s[i]? = some y) : decide (IntKind.i64.wrap (y.a - x) = 0) = hasS s x := by
  subst hij
  rw [has_is ho h1 h2, hy, wrap_sub hw hx]
  simp only [decide_eq_decide]
  omega
theorem has_none {s : List Sl} {x : Int} {i j : Nat} (ho : s.Pairwise fun x y => x.a < y.a) (hij : i = j) (h1 : ∀ m y, m < i → s[m]? = some y → y.a < x) (h2 : ∀ m y, j ≤ m → s[m]? = some y → x ≤ y.a) (hl : s.length ≤ i) : false = hasS s x := by
  subst hij
  rw [has_is ho h1 h2, List.getElem?_eq_none hl]
theorem bs_lt {s : List Sl} {x : Int} {h : Nat} {y : Sl} (ho : s.Pairwise fun x y => x.a < y.a) (hy : s[h]? = some y) (hq : y.a < x) : ∀ m z, m < h + 1 → s[m]? = some z → z.a < x := fun m z hm hz => by
  obtain ⟨hil, hie⟩ := List.getElem?_eq_some_iff.1 hy
  obtain ⟨hml, hme⟩ := List.getElem?_eq_some_iff.1 hz
  rcases Nat.lt_or_ge m h with h1 | h1
  · have := List.pairwise_iff_getElem.1 ho m h hml hil h1
    rw [hie, hme] at this; omega
  · obtain rfl : m = h := by omega
    rw [hy] at hz
    injection hz with hz
    subst hz
    exact hq
theorem bs_ge {s : List Sl} {x : Int} {h : Nat} {y : Sl} (ho : s.Pairwise fun x y => x.a < y.a) (hy : s[h]? = some y) (hq : x ≤ y.a) : ∀ m z, h ≤ m → s[m]? = some z → x ≤ z.a := fun m z hm hz => by
  obtain ⟨hil, hie⟩ := List.getElem?_eq_some_iff.1 hy
  obtain ⟨hml, hme⟩ := List.getElem?_eq_some_iff.1 hz
  rcases Nat.eq_or_lt_of_le hm with h1 | h1
  · subst h1
    rw [hy] at hz
    injection hz with hz
    subst hz
    exact hq
  · have := List.pairwise_iff_getElem.1 ho h m hil hml h1
    rw [hie, hme] at this; omega
set_option maxRecDepth 20000 in
theorem binS_X (b c : Bool) (s : List Sl) (x : Int) (hs : WayS s) (hx : inWay x) : XMeets Try.prog 78 [.sl b (s.map (slC c)), .v (.int .i64 x), .fn (.func 79) []] (.tu [.p (.v (.int .i64 ((posS s x : Int)))) (nlv _), .p (.v (.bool (hasS s x))) (nlv _)]) := by
  refine XMeets.of_X tabX_ok (avs := [.p (.sl false (s.map (slC false))) (nl_sl _ _).sl, .p (.v (.int .i64 x)) (nlv _), .fu (.func 79) []]) [(0, .p (.sl false (s.map (slC false))) (nl_sl _ _).sl), (1, .p (.v (.int .i64 x)) (nlv _)), (2, .fu (.func 79) [])] (by kernel_rfl) Try.func78 rfl (by simp [PuL, Pu, netT, slC, dfC, pu_by1, pu_sl, pu_df]) (by simp only [untagL, untag, netT, untag_by1, untag_sl, untag_df]; rfl) rfl rfl ?_
  intro B w0
  have hsn := hs.n
  have hx0 := hx.1
  have hx1 := hx.2
  conv => whnf
  refine XT.loop tabX_ok (Y := Nat × Nat) [9, 10, 11, 15, 16, 17, 18, 19, 20, 21, 22, 23, 24, 25, 26, 27, 28, 29, 30, 31, 32, 33, 34] (fun (i, j) => [(9, .p (.v (.int .i64 ((i : Int)))) (nlv _)), (10, .p (.v (.int .i64 ((j : Int)))) (nlv _))]) (fun (i, j) => []) (fun (i, j) => i ≤ j ∧ j ≤ s.length ∧ (∀ m y, m < i → s[m]? = some y → y.a < x) ∧ (∀ m y, j ≤ m → s[m]? = some y → x ≤ y.a)) (fun (i, j) => j - i) (0, s.length) ⟨Nat.zero_le _, Nat.le_refl _, fun m y hm => by omega, fun m y hm hy => by have := (List.getElem?_eq_some_iff.1 hy).1; omega⟩ ?_ ?_
  · skip
    refine ⟨?_, ?_, ?_⟩
    · skip
      repeat ((conv => whnf); first | exact True.intro | refine ⟨.rfl, ?_⟩ | refine ⟨.any, ?_⟩ | refine ⟨.nil, ?_⟩ | refine ⟨.int (by first | rfl | omega | (simp only [wrs]; omega)), ?_⟩ | refine ⟨.int (by simp), ?_⟩)
    · skip
      repeat (first | exact LeVs.nil | ((conv => whnf); first | exact True.intro | exact .none | exact .row rfl | refine .cells ?_ | refine ⟨_, _, rfl, .rfl, ?_⟩ | refine ⟨_, _, rfl, .any, ?_⟩ | refine ⟨_, _, rfl, .nil, ?_⟩ | refine ⟨_, _, rfl, .int (by first | rfl | omega | (simp only [wrs]; omega)), ?_⟩ | refine ⟨_, _, rfl, .int (by simp), ?_⟩ | refine ⟨?_, ?_⟩))
    · skip
      repeat (first | exact LeFr.nil | ((conv => whnf); first | exact True.intro | refine ⟨.rfl, ?_⟩ | refine ⟨_, _, rfl, rfl, ?_, ?_⟩))
  · skip
    rintro ⟨i, j⟩ ⟨hij, hj, h1, h2⟩
    conv => whnf
    cases hc1 : (decide ((↑i : Int) < (↑j : Int)))
    · skip
      try simp only [bls] at hc1
      conv => whnf
      cases hc2 : (decide ((↑i : Int) < (↑(List.map (slC false) s).length : Int)))
      · skip
        try simp only [bls] at hc2
        conv => whnf
        refine FinG.mk none ?_ (by rintro _ ⟨⟩)
        simp only [outs, List.length_map, List.length_append, List.length_take, List.length_drop, List.length_cons, List.length_nil, slC, dfC]
        obtain rfl : i = j := by omega
        exact ⟨by rw [pos_is (by omega) h1 h2], by rw [← has_none hs.o rfl h1 h2 (by omega)]⟩
      · skip
        try simp only [bls] at hc2
        conv => whnf
        refine IdxG.map i rfl (by omega) ?_; intro y hy hny; have hyw := hs.w y (List.mem_of_getElem? hy); have hy0 := hyw.1; have hy1 := hyw.2
        conv => whnf
        refine ⟨rfl, ?_⟩
        conv => whnf
        refine .ct ?_
        conv => whnf
        refine CallG.mk (at1_X _ _ _) rfl ?_
        conv => whnf
        refine FinG.mk none ?_ (by rintro _ ⟨⟩)
        simp only [outs, List.length_map, List.length_append, List.length_take, List.length_drop, List.length_cons, List.length_nil, slC, dfC]
        obtain rfl : i = j := by omega
        exact ⟨by rw [pos_is (by omega) h1 h2], by rw [has_end hyw hx hs.o rfl h1 h2 hy]⟩
    · skip
      try simp only [bls] at hc1
      conv => whnf
      rw [show IntKind.i64.wrap ((↑i : Int) + (↑j : Int)) = ((↑i : Int) + (↑j : Int)) from wz.1 _ (by omega) (by omega)]
      simp only [half_w (i := i) (j := j) (show i + j ≤ 1000 by omega)]; refine IdxG.map ((i + j) / 2) rfl (by omega) ?_; intro y hy hny; have hyw := hs.w y (List.mem_of_getElem? hy); have hy0 := hyw.1; have hy1 := hyw.2
      conv => whnf
      refine ⟨rfl, ?_⟩
      conv => whnf
      refine .ct ?_
      conv => whnf
      refine CallG.mk (at1_X _ _ _) rfl ?_
      conv => whnf
      cases hc3 : (decide (IntKind.i64.wrap (y.a - x) < 0))
      · skip
        try simp only [bls] at hc3
        try simp (disch := omega) only [wz, Int.reduceAdd, Int.reduceSub, Int.reduceMul, Int.reduceNeg, Int.zero_add, Int.add_zero, Int.sub_zero, Int.sub_self] at hc3
        conv => whnf
        refine ⟨(i, (i + j) / 2), ⟨by omega, by omega, h1, bs_ge hs.o hy (by omega)⟩, (by show (i + j) / 2 - i < j - i; omega), ?_⟩
        refine ⟨?_, ?_, ?_⟩
        · skip
          repeat ((conv => whnf); first | exact True.intro | refine ⟨.rfl, ?_⟩ | refine ⟨.any, ?_⟩ | refine ⟨.nil, ?_⟩ | refine ⟨.int (by first | rfl | omega | (simp only [wrs]; omega)), ?_⟩ | refine ⟨.int (by simp), ?_⟩)
        · skip
          repeat (first | exact LeVs.nil | ((conv => whnf); first | exact True.intro | exact .none | exact .row rfl | refine .cells ?_ | refine ⟨_, _, rfl, .rfl, ?_⟩ | refine ⟨_, _, rfl, .any, ?_⟩ | refine ⟨_, _, rfl, .nil, ?_⟩ | refine ⟨_, _, rfl, .int (by first | rfl | omega | (simp only [wrs]; omega)), ?_⟩ | refine ⟨_, _, rfl, .int (by simp), ?_⟩ | refine ⟨?_, ?_⟩))
        · skip
          repeat (first | exact LeFr.nil | ((conv => whnf); first | exact True.intro | refine ⟨.rfl, ?_⟩ | refine ⟨_, _, rfl, rfl, ?_, ?_⟩))
      · skip
        try simp only [bls] at hc3
        try simp (disch := omega) only [wz, Int.reduceAdd, Int.reduceSub, Int.reduceMul, Int.reduceNeg, Int.zero_add, Int.add_zero, Int.sub_zero, Int.sub_self] at hc3
        conv => whnf
        refine ⟨((i + j) / 2 + 1, j), ⟨by omega, hj, bs_lt hs.o hy (by omega), h2⟩, (by show j - ((i + j) / 2 + 1) < j - i; omega), ?_⟩
        refine ⟨?_, ?_, ?_⟩
        · skip
          repeat ((conv => whnf); first | exact True.intro | refine ⟨.rfl, ?_⟩ | refine ⟨.any, ?_⟩ | refine ⟨.nil, ?_⟩ | refine ⟨.int (by first | rfl | omega | (simp only [wrs]; omega)), ?_⟩ | refine ⟨.int (by simp), ?_⟩)
        · skip
          repeat (first | exact LeVs.nil | ((conv => whnf); first | exact True.intro | exact .none | exact .row rfl | refine .cells ?_ | refine ⟨_, _, rfl, .rfl, ?_⟩ | refine ⟨_, _, rfl, .any, ?_⟩ | refine ⟨_, _, rfl, .nil, ?_⟩ | refine ⟨_, _, rfl, .int (by first | rfl | omega | (simp only [wrs]; omega)), ?_⟩ | refine ⟨_, _, rfl, .int (by simp), ?_⟩ | refine ⟨?_, ?_⟩))
        · skip
          repeat (first | exact LeFr.nil | ((conv => whnf); first | exact True.intro | refine ⟨.rfl, ?_⟩ | refine ⟨_, _, rfl, rfl, ?_, ?_⟩))
set_option maxRecDepth 20000 in
theorem at_X (b c e : Bool) (n : NetA) (x : Int) (hs : WayS n.s) (hx : inWay x) : XMeets Try.prog 68 [netT b c e n, .v (.int .i64 x)] (.tu [.p (.v (.int .i64 ((posS n.s x : Int)))) (nlv _), .p (.v (.bool (hasS n.s x))) (nlv _)]) := by
  refine XMeets.of_X tabX_ok (avs := [.ag [.p (.sl false (n.s.map (slC false))) (nl_sl _ _).sl, .p (.v (.int .i64 n.l)) (nlv _), .p (.sl false (n.d.map dfC)) (nl_df _).sl], .p (.v (.int .i64 x)) (nlv _)]) [(0, .ag [.p (.sl false (n.s.map (slC false))) (nl_sl _ _).sl, .p (.v (.int .i64 n.l)) (nlv _), .p (.sl false (n.d.map dfC)) (nl_df _).sl]), (1, .p (.v (.int .i64 x)) (nlv _))] (by kernel_rfl) Try.func68 rfl (by simp [PuL, Pu, netT, slC, dfC, pu_by1, pu_sl, pu_df]) (by simp only [untagL, untag, netT, untag_by1, untag_sl, untag_df]; rfl) rfl rfl ?_
  intro B w0
  conv => whnf
  refine .ct ?_
  conv => whnf
  refine CallG.mk (binS_X _ _ _ _ hs hx) rfl ?_
  conv => whnf
  refine FinG.mk none ?_ (by rintro _ ⟨⟩)
  simp only [outs, List.length_map, List.length_append, List.length_take, List.length_drop, List.length_cons, List.length_nil, slC, dfC]
def lastA (s : List Sl) : Nat → Int
  | 0 => -1
  | k + 1 => ((s[k]?).map (·.a)).getD 0
/-- May the first slots be, behind what was asked before? -/
def chkS (s : List Sl) (ok : Bool) : Nat → Bool
  | 0 => ok
  | k + 1 => chkS s ok k && match s[k]? with
    | some x => decide (lastA s k < x.a) && decide (x.a < 80) && pkB x.f x.t x.b.length
    | none => true
def prevOk (d : List (Int × Int)) (x : Int × Int) : Nat → Bool
  | 0 => true
  | k + 1 => match d[k]? with
    | some p => decide (ordN p x < 0)
    | none => true
def chkD (d : List (Int × Int)) (ok : Bool) : Nat → Bool
  | 0 => ok
  | k + 1 => chkD d ok k && match d[k]? with
    | some x => pkB x.1 x.2 0 && prevOk d x k
    | none => true
def lastB (l : Int) : Bool := decide (0 ≤ l) && decide (l < 80)
/-- May a net be? -/
def rightB (n : NetA) : Bool := chkD n.d (chkS n.s (lastB n.l) n.s.length) n.d.length
theorem chkS_s {s : List Sl} {ok : Bool} {k : Nat} {x : Sl} (h : s[k]? = some x) : chkS s ok (k + 1) = (chkS s ok k && (decide (lastA s k < x.a) && decide (x.a < 80) && pkB x.f x.t x.b.length)) := by
  simp [chkS, h]
theorem lastA_s {s : List Sl} {k : Nat} {x : Sl} (h : s[k]? = some x) : lastA s (k + 1) = x.a := by simp [lastA, h]
theorem chkD_s {d : List (Int × Int)} {ok : Bool} {k : Nat} {x : Int × Int} (h : d[k]? = some x) : chkD d ok (k + 1) = (chkD d ok k && (pkB x.1 x.2 0 && prevOk d x k)) := by
  simp [chkD, h]
theorem prev_0 {d : List (Int × Int)} {x : Int × Int} {k : Nat} (h : k = 0) : prevOk d x k = true := by subst h; rfl
theorem prev_s {d : List (Int × Int)} {x p : Int × Int} {k : Nat} (h0 : k ≠ 0) (h : d[k - 1]? = some p) : prevOk d x k = decide (ordN p x < 0) := by
  obtain ⟨j, rfl⟩ : ∃ j, k = j + 1 := ⟨k - 1, by omega⟩
  simp only [Nat.add_sub_cancel] at h
  simp [prevOk, h]
set_option maxHeartbeats 4000000 in
set_option maxRecDepth 20000 in
theorem check_X (b c e : Bool) (n : NetA) (ho : n.Ok) : XMeets Try.prog 22 [netT b c e n] (.p (.v (.int .i64 (if rightB n = true then 0 else 330))) (nlv _)) := by
  refine XMeets.of_X tabX_ok (avs := [.ag [.p (.sl false (n.s.map (slC false))) (nl_sl _ _).sl, .p (.v (.int .i64 n.l)) (nlv _), .p (.sl false (n.d.map dfC)) (nl_df _).sl]]) [(0, .ag [.p (.sl false (n.s.map (slC false))) (nl_sl _ _).sl, .p (.v (.int .i64 n.l)) (nlv _), .p (.sl false (n.d.map dfC)) (nl_df _).sl])] (by kernel_rfl) Try.func22 rfl (by simp [PuL, Pu, netT, slC, dfC, pu_by1, pu_sl, pu_df]) (by simp only [untagL, untag, netT, untag_by1, untag_sl, untag_df]; rfl) rfl rfl ?_
  intro B w0
  have hsn := ho.sn
  have hdn := ho.dn
  have hl := ho.l
  have hl0 := hl.1
  have hl1 := hl.2
  conv => whnf
  cases hc1 : (decide (0 ≤ n.l))
  · skip
    try simp only [bls] at hc1
    conv => whnf
    refine XT.loop tabX_ok (Y := Nat × Bool × Int) [3, 4, 6, 20, 21, 22, 23, 24, 25, 26, 27, 28, 29, 30, 31, 32, 33, 34, 35, 36, 37, 38, 39, 40, 41, 42, 43] (fun (k, ok, la) => [(20, .p (.v (.int .i64 ((k : Int)))) (nlv _)), (3, .p (.v (.bool (ok))) (nlv _)), (4, .p (.v (.int .i64 (la))) (nlv _))]) (fun (k, ok, la) => []) (fun (k, ok, la) => k ≤ n.s.length ∧ ok = chkS n.s (lastB n.l) k ∧ la = lastA n.s k) (fun (k, ok, la) => n.s.length - k) (0, false, -1) ⟨Nat.zero_le _, by simp [chkS, lastB]; omega, rfl⟩ ?_ ?_
    · skip
      refine ⟨?_, ?_, ?_⟩
      · skip
        repeat ((conv => whnf); first | exact True.intro | refine ⟨.rfl, ?_⟩ | refine ⟨.any, ?_⟩ | refine ⟨.nil, ?_⟩ | refine ⟨.int (by first | rfl | omega | (simp only [wrs]; omega)), ?_⟩)
      · skip
        repeat (first | exact LeVs.nil | ((conv => whnf); first | exact True.intro | exact .none | exact .row rfl | refine .cells ?_ | refine ⟨_, _, rfl, .rfl, ?_⟩ | refine ⟨_, _, rfl, .any, ?_⟩ | refine ⟨_, _, rfl, .nil, ?_⟩ | refine ⟨_, _, rfl, .int (by first | rfl | omega | (simp only [wrs]; omega)), ?_⟩ | refine ⟨?_, ?_⟩))
      · skip
        repeat (first | exact LeFr.nil | ((conv => whnf); first | exact True.intro | refine ⟨.rfl, ?_⟩ | refine ⟨_, _, rfl, rfl, ?_, ?_⟩))
    · skip
      rintro ⟨k, ok, la⟩ ⟨hk, hok, hla⟩
      conv => whnf
      cases hc2 : (decide ((↑k : Int) < (↑(List.map (slC false) n.s).length : Int)))
      · skip
        try simp only [bls] at hc2
        conv => whnf
        refine XT.loop tabX_ok (Y := Nat × Bool) [3, 7, 8, 47, 48, 49, 50, 51, 52, 53, 54, 55, 56, 57, 58, 59, 60, 61, 62, 63, 64, 65, 66, 67, 68, 69, 70, 71, 72, 73, 74, 75, 76] (fun (k2, ok2) => [(47, .p (.v (.int .i64 ((k2 : Int)))) (nlv _)), (3, .p (.v (.bool (ok2))) (nlv _))]) (fun (k2, ok2) => []) (fun (k2, ok2) => k2 ≤ n.d.length ∧ ok2 = chkD n.d ok k2) (fun (k2, ok2) => n.d.length - k2) (0, ok) ⟨Nat.zero_le _, rfl⟩ ?_ ?_
        · skip
          refine ⟨?_, ?_, ?_⟩
          · skip
            repeat ((conv => whnf); first | exact True.intro | refine ⟨.rfl, ?_⟩ | refine ⟨.any, ?_⟩ | refine ⟨.nil, ?_⟩ | refine ⟨.int (by first | rfl | omega | (simp only [wrs]; omega)), ?_⟩)
          · skip
            repeat (first | exact LeVs.nil | ((conv => whnf); first | exact True.intro | exact .none | exact .row rfl | refine .cells ?_ | refine ⟨_, _, rfl, .rfl, ?_⟩ | refine ⟨_, _, rfl, .any, ?_⟩ | refine ⟨_, _, rfl, .nil, ?_⟩ | refine ⟨_, _, rfl, .int (by first | rfl | omega | (simp only [wrs]; omega)), ?_⟩ | refine ⟨?_, ?_⟩))
          · skip
            repeat (first | exact LeFr.nil | ((conv => whnf); first | exact True.intro | refine ⟨.rfl, ?_⟩ | refine ⟨_, _, rfl, rfl, ?_, ?_⟩))
        · skip
          rintro ⟨k2, ok2⟩ ⟨hk2, hok2⟩
          conv => whnf
          cases hc3 : (decide ((↑k2 : Int) < (↑(List.map dfC n.d).length : Int)))
          · skip
            try simp only [bls] at hc3
            conv => whnf
            cases hc4 : (ok2)
            · skip
              try simp only [bls] at hc4
              conv => whnf
              refine FinG.mk none ?_ (by rintro _ ⟨⟩)
              simp only [outs, List.length_map, List.length_append, List.length_take, List.length_drop, List.length_cons, List.length_nil, slC, dfC]
              obtain rfl : k = n.s.length := by omega
              obtain rfl : k2 = n.d.length := by omega
              have hr : rightB n = ok2 := by rw [hok2, hok]; rfl
              rw [hr]
              simp [*]
            · skip
              try simp only [bls] at hc4
              conv => whnf
              refine FinG.mk none ?_ (by rintro _ ⟨⟩)
              simp only [outs, List.length_map, List.length_append, List.length_take, List.length_drop, List.length_cons, List.length_nil, slC, dfC]
              obtain rfl : k = n.s.length := by omega
              obtain rfl : k2 = n.d.length := by omega
              have hr : rightB n = ok2 := by rw [hok2, hok]; rfl
              rw [hr]
              simp [*]
          · skip
            try simp only [bls] at hc3
            conv => whnf
            refine IdxG.map _ rfl (by first | omega | (simp only [List.length_map] at *; omega)) ?_; intro z hz hnz; have hzd := hk2
            conv => whnf
            refine ⟨rfl, ?_⟩
            conv => whnf
            refine RegG.par 24 (by kernel_rfl) ?_
            conv => whnf
            cases hc5 : (ok2)
            · skip
              try simp only [bls] at hc5
              conv => whnf
              refine ⟨(k2 + 1, false), ⟨by omega, by rw [chkD_s hz, ← hok2]; simp_all⟩, (by show n.d.length - (k2 + 1) < n.d.length - k2; omega), ?_⟩
              refine ⟨?_, ?_, ?_⟩
              · skip
                repeat ((conv => whnf); first | exact True.intro | refine ⟨.rfl, ?_⟩ | refine ⟨.any, ?_⟩ | refine ⟨.nil, ?_⟩ | refine ⟨.int (by first | rfl | omega | (simp only [wrs]; omega)), ?_⟩)
              · skip
                repeat (first | exact LeVs.nil | ((conv => whnf); first | exact True.intro | exact .none | exact .row rfl | refine .cells ?_ | refine ⟨_, _, rfl, .rfl, ?_⟩ | refine ⟨_, _, rfl, .any, ?_⟩ | refine ⟨_, _, rfl, .nil, ?_⟩ | refine ⟨_, _, rfl, .int (by first | rfl | omega | (simp only [wrs]; omega)), ?_⟩ | refine ⟨?_, ?_⟩))
              · skip
                repeat (first | exact LeFr.nil | ((conv => whnf); first | exact True.intro | refine ⟨.rfl, ?_⟩ | refine ⟨_, _, rfl, rfl, ?_, ?_⟩))
            · skip
              try simp only [bls] at hc5
              conv => whnf
              refine CallG.mk (packet0_X _ _ _) rfl ?_
              conv => whnf
              cases hc6 : (pkB z.fst z.snd 0)
              · skip
                try simp only [bls] at hc6
                conv => whnf
                refine ⟨(k2 + 1, false), ⟨by omega, by rw [chkD_s hz, ← hok2]; simp_all⟩, (by show n.d.length - (k2 + 1) < n.d.length - k2; omega), ?_⟩
                refine ⟨?_, ?_, ?_⟩
                · skip
                  repeat ((conv => whnf); first | exact True.intro | refine ⟨.rfl, ?_⟩ | refine ⟨.any, ?_⟩ | refine ⟨.nil, ?_⟩ | refine ⟨.int (by first | rfl | omega | (simp only [wrs]; omega)), ?_⟩)
                · skip
                  repeat (first | exact LeVs.nil | ((conv => whnf); first | exact True.intro | exact .none | exact .row rfl | refine .cells ?_ | refine ⟨_, _, rfl, .rfl, ?_⟩ | refine ⟨_, _, rfl, .any, ?_⟩ | refine ⟨_, _, rfl, .nil, ?_⟩ | refine ⟨_, _, rfl, .int (by first | rfl | omega | (simp only [wrs]; omega)), ?_⟩ | refine ⟨?_, ?_⟩))
                · skip
                  repeat (first | exact LeFr.nil | ((conv => whnf); first | exact True.intro | refine ⟨.rfl, ?_⟩ | refine ⟨_, _, rfl, rfl, ?_, ?_⟩))
              · skip
                try simp only [bls] at hc6
                conv => whnf
                cases hc7 : (decide ((↑k2 : Int) = 0))
                · skip
                  try simp only [bls] at hc7
                  conv => whnf
                  rw [show IntKind.i64.wrap ((↑k2 : Int) - 1) = ((↑k2 : Int) - 1) from wz.1 _ (by omega) (by omega)]
                  refine IdxG.map (k2 - 1) (by omega) (by omega) ?_; intro p hp hnp
                  conv => whnf
                  refine ⟨rfl, ?_⟩
                  conv => whnf
                  refine CallG.mk (order_X _ _) rfl ?_
                  conv => whnf
                  refine ⟨(k2 + 1, decide (ordN p z < 0)), ⟨by omega, by rw [chkD_s hz, ← hok2, prev_s (by omega) hp]; simp_all⟩, (by show n.d.length - (k2 + 1) < n.d.length - k2; omega), ?_⟩
                  refine ⟨?_, ?_, ?_⟩
                  · skip
                    repeat ((conv => whnf); first | exact True.intro | refine ⟨.rfl, ?_⟩ | refine ⟨.any, ?_⟩ | refine ⟨.nil, ?_⟩ | refine ⟨.int (by first | rfl | omega | (simp only [wrs]; omega)), ?_⟩)
                  · skip
                    repeat (first | exact LeVs.nil | ((conv => whnf); first | exact True.intro | exact .none | exact .row rfl | refine .cells ?_ | refine ⟨_, _, rfl, .rfl, ?_⟩ | refine ⟨_, _, rfl, .any, ?_⟩ | refine ⟨_, _, rfl, .nil, ?_⟩ | refine ⟨_, _, rfl, .int (by first | rfl | omega | (simp only [wrs]; omega)), ?_⟩ | refine ⟨?_, ?_⟩))
                  · skip
                    repeat (first | exact LeFr.nil | ((conv => whnf); first | exact True.intro | refine ⟨.rfl, ?_⟩ | refine ⟨_, _, rfl, rfl, ?_, ?_⟩))
                · skip
                  try simp only [bls] at hc7
                  conv => whnf
                  refine ⟨(k2 + 1, true), ⟨by omega, by rw [chkD_s hz, ← hok2, prev_0 (by omega)]; simp_all⟩, (by show n.d.length - (k2 + 1) < n.d.length - k2; omega), ?_⟩
                  refine ⟨?_, ?_, ?_⟩
                  · skip
                    repeat ((conv => whnf); first | exact True.intro | refine ⟨.rfl, ?_⟩ | refine ⟨.any, ?_⟩ | refine ⟨.nil, ?_⟩ | refine ⟨.int (by first | rfl | omega | (simp only [wrs]; omega)), ?_⟩)
                  · skip
                    repeat (first | exact LeVs.nil | ((conv => whnf); first | exact True.intro | exact .none | exact .row rfl | refine .cells ?_ | refine ⟨_, _, rfl, .rfl, ?_⟩ | refine ⟨_, _, rfl, .any, ?_⟩ | refine ⟨_, _, rfl, .nil, ?_⟩ | refine ⟨_, _, rfl, .int (by first | rfl | omega | (simp only [wrs]; omega)), ?_⟩ | refine ⟨?_, ?_⟩))
                  · skip
                    repeat (first | exact LeFr.nil | ((conv => whnf); first | exact True.intro | refine ⟨.rfl, ?_⟩ | refine ⟨_, _, rfl, rfl, ?_, ?_⟩))
      · skip
        try simp only [bls] at hc2
        conv => whnf
        refine IdxG.map _ rfl (by first | omega | (simp only [List.length_map] at *; omega)) ?_; intro y hy hny; have hyo := ho.s y (List.mem_of_getElem? hy); have hya := hyo.a; have hya0 := hya.1; have hya1 := hya.2
        conv => whnf
        refine ⟨rfl, ?_⟩
        conv => whnf
        cases hc8 : (ok)
        · skip
          try simp only [bls] at hc8
          conv => whnf
          refine ⟨(k + 1, false, y.a), ⟨by omega, by rw [chkS_s hy, ← hok, ← hla]; simp_all; done, (lastA_s hy).symm⟩, (by show n.s.length - (k + 1) < n.s.length - k; omega), ?_⟩
          refine ⟨?_, ?_, ?_⟩
          · skip
            repeat ((conv => whnf); first | exact True.intro | refine ⟨.rfl, ?_⟩ | refine ⟨.any, ?_⟩ | refine ⟨.nil, ?_⟩ | refine ⟨.int (by first | rfl | omega | (simp only [wrs]; omega)), ?_⟩)
          · skip
            repeat (first | exact LeVs.nil | ((conv => whnf); first | exact True.intro | exact .none | exact .row rfl | refine .cells ?_ | refine ⟨_, _, rfl, .rfl, ?_⟩ | refine ⟨_, _, rfl, .any, ?_⟩ | refine ⟨_, _, rfl, .nil, ?_⟩ | refine ⟨_, _, rfl, .int (by first | rfl | omega | (simp only [wrs]; omega)), ?_⟩ | refine ⟨?_, ?_⟩))
          · skip
            repeat (first | exact LeFr.nil | ((conv => whnf); first | exact True.intro | refine ⟨.rfl, ?_⟩ | refine ⟨_, _, rfl, rfl, ?_, ?_⟩))
        · skip
          try simp only [bls] at hc8
          conv => whnf
          cases hc9 : (decide (la < y.a))
          · skip
            try simp only [bls] at hc9
            conv => whnf
            refine ⟨(k + 1, false, y.a), ⟨by omega, by rw [chkS_s hy, ← hok, ← hla]; simp_all; omega, (lastA_s hy).symm⟩, (by show n.s.length - (k + 1) < n.s.length - k; omega), ?_⟩
            refine ⟨?_, ?_, ?_⟩
            · skip
              repeat ((conv => whnf); first | exact True.intro | refine ⟨.rfl, ?_⟩ | refine ⟨.any, ?_⟩ | refine ⟨.nil, ?_⟩ | refine ⟨.int (by first | rfl | omega | (simp only [wrs]; omega)), ?_⟩)
            · skip
              repeat (first | exact LeVs.nil | ((conv => whnf); first | exact True.intro | exact .none | exact .row rfl | refine .cells ?_ | refine ⟨_, _, rfl, .rfl, ?_⟩ | refine ⟨_, _, rfl, .any, ?_⟩ | refine ⟨_, _, rfl, .nil, ?_⟩ | refine ⟨_, _, rfl, .int (by first | rfl | omega | (simp only [wrs]; omega)), ?_⟩ | refine ⟨?_, ?_⟩))
            · skip
              repeat (first | exact LeFr.nil | ((conv => whnf); first | exact True.intro | refine ⟨.rfl, ?_⟩ | refine ⟨_, _, rfl, rfl, ?_, ?_⟩))
          · skip
            try simp only [bls] at hc9
            conv => whnf
            cases hc10 : (decide (y.a < 80))
            · skip
              try simp only [bls] at hc10
              conv => whnf
              refine ⟨(k + 1, false, y.a), ⟨by omega, by rw [chkS_s hy, ← hok, ← hla]; simp_all; omega, (lastA_s hy).symm⟩, (by show n.s.length - (k + 1) < n.s.length - k; omega), ?_⟩
              refine ⟨?_, ?_, ?_⟩
              · skip
                repeat ((conv => whnf); first | exact True.intro | refine ⟨.rfl, ?_⟩ | refine ⟨.any, ?_⟩ | refine ⟨.nil, ?_⟩ | refine ⟨.int (by first | rfl | omega | (simp only [wrs]; omega)), ?_⟩)
              · skip
                repeat (first | exact LeVs.nil | ((conv => whnf); first | exact True.intro | exact .none | exact .row rfl | refine .cells ?_ | refine ⟨_, _, rfl, .rfl, ?_⟩ | refine ⟨_, _, rfl, .any, ?_⟩ | refine ⟨_, _, rfl, .nil, ?_⟩ | refine ⟨_, _, rfl, .int (by first | rfl | omega | (simp only [wrs]; omega)), ?_⟩ | refine ⟨?_, ?_⟩))
              · skip
                repeat (first | exact LeFr.nil | ((conv => whnf); first | exact True.intro | refine ⟨.rfl, ?_⟩ | refine ⟨_, _, rfl, rfl, ?_, ?_⟩))
            · skip
              try simp only [bls] at hc10
              conv => whnf
              refine .ct ?_
              conv => whnf
              refine CallG.mk (packet_X _ _ _ _) rfl ?_
              conv => whnf
              refine ⟨(k + 1, pkB y.f y.t y.b.length, y.a), ⟨by omega, by rw [chkS_s hy, ← hok, ← hla]; simp_all; done, (lastA_s hy).symm⟩, (by show n.s.length - (k + 1) < n.s.length - k; omega), ?_⟩
              refine ⟨?_, ?_, ?_⟩
              · skip
                repeat ((conv => whnf); first | exact True.intro | refine ⟨.rfl, ?_⟩ | refine ⟨.any, ?_⟩ | refine ⟨.nil, ?_⟩ | refine ⟨.int (by first | rfl | omega | (simp only [wrs]; omega)), ?_⟩)
              · skip
                repeat (first | exact LeVs.nil | ((conv => whnf); first | exact True.intro | exact .none | exact .row rfl | refine .cells ?_ | refine ⟨_, _, rfl, .rfl, ?_⟩ | refine ⟨_, _, rfl, .any, ?_⟩ | refine ⟨_, _, rfl, .nil, ?_⟩ | refine ⟨_, _, rfl, .int (by first | rfl | omega | (simp only [wrs]; omega)), ?_⟩ | refine ⟨?_, ?_⟩))
              · skip
                repeat (first | exact LeFr.nil | ((conv => whnf); first | exact True.intro | refine ⟨.rfl, ?_⟩ | refine ⟨_, _, rfl, rfl, ?_, ?_⟩))
  · skip
    try simp only [bls] at hc1
    conv => whnf
    refine XT.loop tabX_ok (Y := Nat × Bool × Int) [3, 4, 6, 20, 21, 22, 23, 24, 25, 26, 27, 28, 29, 30, 31, 32, 33, 34, 35, 36, 37, 38, 39, 40, 41, 42, 43] (fun (k, ok, la) => [(20, .p (.v (.int .i64 ((k : Int)))) (nlv _)), (3, .p (.v (.bool (ok))) (nlv _)), (4, .p (.v (.int .i64 (la))) (nlv _))]) (fun (k, ok, la) => []) (fun (k, ok, la) => k ≤ n.s.length ∧ ok = chkS n.s (lastB n.l) k ∧ la = lastA n.s k) (fun (k, ok, la) => n.s.length - k) (0, decide (n.l < 80), -1) ⟨Nat.zero_le _, by simp [chkS, lastB]; omega, rfl⟩ ?_ ?_
    · skip
      refine ⟨?_, ?_, ?_⟩
      · skip
        repeat ((conv => whnf); first | exact True.intro | refine ⟨.rfl, ?_⟩ | refine ⟨.any, ?_⟩ | refine ⟨.nil, ?_⟩ | refine ⟨.int (by first | rfl | omega | (simp only [wrs]; omega)), ?_⟩)
      · skip
        repeat (first | exact LeVs.nil | ((conv => whnf); first | exact True.intro | exact .none | exact .row rfl | refine .cells ?_ | refine ⟨_, _, rfl, .rfl, ?_⟩ | refine ⟨_, _, rfl, .any, ?_⟩ | refine ⟨_, _, rfl, .nil, ?_⟩ | refine ⟨_, _, rfl, .int (by first | rfl | omega | (simp only [wrs]; omega)), ?_⟩ | refine ⟨?_, ?_⟩))
      · skip
        repeat (first | exact LeFr.nil | ((conv => whnf); first | exact True.intro | refine ⟨.rfl, ?_⟩ | refine ⟨_, _, rfl, rfl, ?_, ?_⟩))
    · skip
      rintro ⟨k, ok, la⟩ ⟨hk, hok, hla⟩
      conv => whnf
      cases hc11 : (decide ((↑k : Int) < (↑(List.map (slC false) n.s).length : Int)))
      · skip
        try simp only [bls] at hc11
        conv => whnf
        refine XT.loop tabX_ok (Y := Nat × Bool) [3, 7, 8, 47, 48, 49, 50, 51, 52, 53, 54, 55, 56, 57, 58, 59, 60, 61, 62, 63, 64, 65, 66, 67, 68, 69, 70, 71, 72, 73, 74, 75, 76] (fun (k2, ok2) => [(47, .p (.v (.int .i64 ((k2 : Int)))) (nlv _)), (3, .p (.v (.bool (ok2))) (nlv _))]) (fun (k2, ok2) => []) (fun (k2, ok2) => k2 ≤ n.d.length ∧ ok2 = chkD n.d ok k2) (fun (k2, ok2) => n.d.length - k2) (0, ok) ⟨Nat.zero_le _, rfl⟩ ?_ ?_
        · skip
          refine ⟨?_, ?_, ?_⟩
          · skip
            repeat ((conv => whnf); first | exact True.intro | refine ⟨.rfl, ?_⟩ | refine ⟨.any, ?_⟩ | refine ⟨.nil, ?_⟩ | refine ⟨.int (by first | rfl | omega | (simp only [wrs]; omega)), ?_⟩)
          · skip
            repeat (first | exact LeVs.nil | ((conv => whnf); first | exact True.intro | exact .none | exact .row rfl | refine .cells ?_ | refine ⟨_, _, rfl, .rfl, ?_⟩ | refine ⟨_, _, rfl, .any, ?_⟩ | refine ⟨_, _, rfl, .nil, ?_⟩ | refine ⟨_, _, rfl, .int (by first | rfl | omega | (simp only [wrs]; omega)), ?_⟩ | refine ⟨?_, ?_⟩))
          · skip
            repeat (first | exact LeFr.nil | ((conv => whnf); first | exact True.intro | refine ⟨.rfl, ?_⟩ | refine ⟨_, _, rfl, rfl, ?_, ?_⟩))
        · skip
          rintro ⟨k2, ok2⟩ ⟨hk2, hok2⟩
          conv => whnf
          cases hc12 : (decide ((↑k2 : Int) < (↑(List.map dfC n.d).length : Int)))
          · skip
            try simp only [bls] at hc12
            conv => whnf
            cases hc13 : (ok2)
            · skip
              try simp only [bls] at hc13
              conv => whnf
              refine FinG.mk none ?_ (by rintro _ ⟨⟩)
              simp only [outs, List.length_map, List.length_append, List.length_take, List.length_drop, List.length_cons, List.length_nil, slC, dfC]
              obtain rfl : k = n.s.length := by omega
              obtain rfl : k2 = n.d.length := by omega
              have hr : rightB n = ok2 := by rw [hok2, hok]; rfl
              rw [hr]
              simp [*]
            · skip
              try simp only [bls] at hc13
              conv => whnf
              refine FinG.mk none ?_ (by rintro _ ⟨⟩)
              simp only [outs, List.length_map, List.length_append, List.length_take, List.length_drop, List.length_cons, List.length_nil, slC, dfC]
              obtain rfl : k = n.s.length := by omega
              obtain rfl : k2 = n.d.length := by omega
              have hr : rightB n = ok2 := by rw [hok2, hok]; rfl
              rw [hr]
              simp [*]
          · skip
            try simp only [bls] at hc12
            conv => whnf
            refine IdxG.map _ rfl (by first | omega | (simp only [List.length_map] at *; omega)) ?_; intro z hz hnz; have hzd := hk2
            conv => whnf
            refine ⟨rfl, ?_⟩
            conv => whnf
            refine RegG.par 24 (by kernel_rfl) ?_
            conv => whnf
            cases hc14 : (ok2)
            · skip
              try simp only [bls] at hc14
              conv => whnf
              refine ⟨(k2 + 1, false), ⟨by omega, by rw [chkD_s hz, ← hok2]; simp_all⟩, (by show n.d.length - (k2 + 1) < n.d.length - k2; omega), ?_⟩
              refine ⟨?_, ?_, ?_⟩
              · skip
                repeat ((conv => whnf); first | exact True.intro | refine ⟨.rfl, ?_⟩ | refine ⟨.any, ?_⟩ | refine ⟨.nil, ?_⟩ | refine ⟨.int (by first | rfl | omega | (simp only [wrs]; omega)), ?_⟩)
              · skip
                repeat (first | exact LeVs.nil | ((conv => whnf); first | exact True.intro | exact .none | exact .row rfl | refine .cells ?_ | refine ⟨_, _, rfl, .rfl, ?_⟩ | refine ⟨_, _, rfl, .any, ?_⟩ | refine ⟨_, _, rfl, .nil, ?_⟩ | refine ⟨_, _, rfl, .int (by first | rfl | omega | (simp only [wrs]; omega)), ?_⟩ | refine ⟨?_, ?_⟩))
              · skip
                repeat (first | exact LeFr.nil | ((conv => whnf); first | exact True.intro | refine ⟨.rfl, ?_⟩ | refine ⟨_, _, rfl, rfl, ?_, ?_⟩))
            · skip
              try simp only [bls] at hc14
              conv => whnf
              refine CallG.mk (packet0_X _ _ _) rfl ?_
              conv => whnf
              cases hc15 : (pkB z.fst z.snd 0)
              · skip
                try simp only [bls] at hc15
                conv => whnf
                refine ⟨(k2 + 1, false), ⟨by omega, by rw [chkD_s hz, ← hok2]; simp_all⟩, (by show n.d.length - (k2 + 1) < n.d.length - k2; omega), ?_⟩
                refine ⟨?_, ?_, ?_⟩
                · skip
                  repeat ((conv => whnf); first | exact True.intro | refine ⟨.rfl, ?_⟩ | refine ⟨.any, ?_⟩ | refine ⟨.nil, ?_⟩ | refine ⟨.int (by first | rfl | omega | (simp only [wrs]; omega)), ?_⟩)
                · skip
                  repeat (first | exact LeVs.nil | ((conv => whnf); first | exact True.intro | exact .none | exact .row rfl | refine .cells ?_ | refine ⟨_, _, rfl, .rfl, ?_⟩ | refine ⟨_, _, rfl, .any, ?_⟩ | refine ⟨_, _, rfl, .nil, ?_⟩ | refine ⟨_, _, rfl, .int (by first | rfl | omega | (simp only [wrs]; omega)), ?_⟩ | refine ⟨?_, ?_⟩))
                · skip
                  repeat (first | exact LeFr.nil | ((conv => whnf); first | exact True.intro | refine ⟨.rfl, ?_⟩ | refine ⟨_, _, rfl, rfl, ?_, ?_⟩))
              · skip
                try simp only [bls] at hc15
                conv => whnf
                cases hc16 : (decide ((↑k2 : Int) = 0))
                · skip
                  try simp only [bls] at hc16
                  conv => whnf
                  rw [show IntKind.i64.wrap ((↑k2 : Int) - 1) = ((↑k2 : Int) - 1) from wz.1 _ (by omega) (by omega)]
                  refine IdxG.map (k2 - 1) (by omega) (by omega) ?_; intro p hp hnp
                  conv => whnf
                  refine ⟨rfl, ?_⟩
                  conv => whnf
                  refine CallG.mk (order_X _ _) rfl ?_
                  conv => whnf
                  refine ⟨(k2 + 1, decide (ordN p z < 0)), ⟨by omega, by rw [chkD_s hz, ← hok2, prev_s (by omega) hp]; simp_all⟩, (by show n.d.length - (k2 + 1) < n.d.length - k2; omega), ?_⟩
                  refine ⟨?_, ?_, ?_⟩
                  · skip
                    repeat ((conv => whnf); first | exact True.intro | refine ⟨.rfl, ?_⟩ | refine ⟨.any, ?_⟩ | refine ⟨.nil, ?_⟩ | refine ⟨.int (by first | rfl | omega | (simp only [wrs]; omega)), ?_⟩)
                  · skip
                    repeat (first | exact LeVs.nil | ((conv => whnf); first | exact True.intro | exact .none | exact .row rfl | refine .cells ?_ | refine ⟨_, _, rfl, .rfl, ?_⟩ | refine ⟨_, _, rfl, .any, ?_⟩ | refine ⟨_, _, rfl, .nil, ?_⟩ | refine ⟨_, _, rfl, .int (by first | rfl | omega | (simp only [wrs]; omega)), ?_⟩ | refine ⟨?_, ?_⟩))
                  · skip
                    repeat (first | exact LeFr.nil | ((conv => whnf); first | exact True.intro | refine ⟨.rfl, ?_⟩ | refine ⟨_, _, rfl, rfl, ?_, ?_⟩))
                · skip
                  try simp only [bls] at hc16
                  conv => whnf
                  refine ⟨(k2 + 1, true), ⟨by omega, by rw [chkD_s hz, ← hok2, prev_0 (by omega)]; simp_all⟩, (by show n.d.length - (k2 + 1) < n.d.length - k2; omega), ?_⟩
                  refine ⟨?_, ?_, ?_⟩
                  · skip
                    repeat ((conv => whnf); first | exact True.intro | refine ⟨.rfl, ?_⟩ | refine ⟨.any, ?_⟩ | refine ⟨.nil, ?_⟩ | refine ⟨.int (by first | rfl | omega | (simp only [wrs]; omega)), ?_⟩)
                  · skip
                    repeat (first | exact LeVs.nil | ((conv => whnf); first | exact True.intro | exact .none | exact .row rfl | refine .cells ?_ | refine ⟨_, _, rfl, .rfl, ?_⟩ | refine ⟨_, _, rfl, .any, ?_⟩ | refine ⟨_, _, rfl, .nil, ?_⟩ | refine ⟨_, _, rfl, .int (by first | rfl | omega | (simp only [wrs]; omega)), ?_⟩ | refine ⟨?_, ?_⟩))
                  · skip
                    repeat (first | exact LeFr.nil | ((conv => whnf); first | exact True.intro | refine ⟨.rfl, ?_⟩ | refine ⟨_, _, rfl, rfl, ?_, ?_⟩))
      · skip
        try simp only [bls] at hc11
        conv => whnf
        refine IdxG.map _ rfl (by first | omega | (simp only [List.length_map] at *; omega)) ?_; intro y hy hny; have hyo := ho.s y (List.mem_of_getElem? hy); have hya := hyo.a; have hya0 := hya.1; have hya1 := hya.2
        conv => whnf
        refine ⟨rfl, ?_⟩
        conv => whnf
        cases hc17 : (ok)
        · skip
          try simp only [bls] at hc17
          conv => whnf
          refine ⟨(k + 1, false, y.a), ⟨by omega, by rw [chkS_s hy, ← hok, ← hla]; simp_all; done, (lastA_s hy).symm⟩, (by show n.s.length - (k + 1) < n.s.length - k; omega), ?_⟩
          refine ⟨?_, ?_, ?_⟩
          · skip
            repeat ((conv => whnf); first | exact True.intro | refine ⟨.rfl, ?_⟩ | refine ⟨.any, ?_⟩ | refine ⟨.nil, ?_⟩ | refine ⟨.int (by first | rfl | omega | (simp only [wrs]; omega)), ?_⟩)
          · skip
            repeat (first | exact LeVs.nil | ((conv => whnf); first | exact True.intro | exact .none | exact .row rfl | refine .cells ?_ | refine ⟨_, _, rfl, .rfl, ?_⟩ | refine ⟨_, _, rfl, .any, ?_⟩ | refine ⟨_, _, rfl, .nil, ?_⟩ | refine ⟨_, _, rfl, .int (by first | rfl | omega | (simp only [wrs]; omega)), ?_⟩ | refine ⟨?_, ?_⟩))
          · skip
            repeat (first | exact LeFr.nil | ((conv => whnf); first | exact True.intro | refine ⟨.rfl, ?_⟩ | refine ⟨_, _, rfl, rfl, ?_, ?_⟩))
        · skip
          try simp only [bls] at hc17
          conv => whnf
          cases hc18 : (decide (la < y.a))
          · skip
            try simp only [bls] at hc18
            conv => whnf
            refine ⟨(k + 1, false, y.a), ⟨by omega, by rw [chkS_s hy, ← hok, ← hla]; simp_all; omega, (lastA_s hy).symm⟩, (by show n.s.length - (k + 1) < n.s.length - k; omega), ?_⟩
            refine ⟨?_, ?_, ?_⟩
            · skip
              repeat ((conv => whnf); first | exact True.intro | refine ⟨.rfl, ?_⟩ | refine ⟨.any, ?_⟩ | refine ⟨.nil, ?_⟩ | refine ⟨.int (by first | rfl | omega | (simp only [wrs]; omega)), ?_⟩)
            · skip
              repeat (first | exact LeVs.nil | ((conv => whnf); first | exact True.intro | exact .none | exact .row rfl | refine .cells ?_ | refine ⟨_, _, rfl, .rfl, ?_⟩ | refine ⟨_, _, rfl, .any, ?_⟩ | refine ⟨_, _, rfl, .nil, ?_⟩ | refine ⟨_, _, rfl, .int (by first | rfl | omega | (simp only [wrs]; omega)), ?_⟩ | refine ⟨?_, ?_⟩))
            · skip
              repeat (first | exact LeFr.nil | ((conv => whnf); first | exact True.intro | refine ⟨.rfl, ?_⟩ | refine ⟨_, _, rfl, rfl, ?_, ?_⟩))
          · skip
            try simp only [bls] at hc18
            conv => whnf
            cases hc19 : (decide (y.a < 80))
            · skip
              try simp only [bls] at hc19
              conv => whnf
              refine ⟨(k + 1, false, y.a), ⟨by omega, by rw [chkS_s hy, ← hok, ← hla]; simp_all; omega, (lastA_s hy).symm⟩, (by show n.s.length - (k + 1) < n.s.length - k; omega), ?_⟩
              refine ⟨?_, ?_, ?_⟩
              · skip
                repeat ((conv => whnf); first | exact True.intro | refine ⟨.rfl, ?_⟩ | refine ⟨.any, ?_⟩ | refine ⟨.nil, ?_⟩ | refine ⟨.int (by first | rfl | omega | (simp only [wrs]; omega)), ?_⟩)
              · skip
                repeat (first | exact LeVs.nil | ((conv => whnf); first | exact True.intro | exact .none | exact .row rfl | refine .cells ?_ | refine ⟨_, _, rfl, .rfl, ?_⟩ | refine ⟨_, _, rfl, .any, ?_⟩ | refine ⟨_, _, rfl, .nil, ?_⟩ | refine ⟨_, _, rfl, .int (by first | rfl | omega | (simp only [wrs]; omega)), ?_⟩ | refine ⟨?_, ?_⟩))
              · skip
                repeat (first | exact LeFr.nil | ((conv => whnf); first | exact True.intro | refine ⟨.rfl, ?_⟩ | refine ⟨_, _, rfl, rfl, ?_, ?_⟩))
            · skip
              try simp only [bls] at hc19
              conv => whnf
              refine .ct ?_
              conv => whnf
              refine CallG.mk (packet_X _ _ _ _) rfl ?_
              conv => whnf
              refine ⟨(k + 1, pkB y.f y.t y.b.length, y.a), ⟨by omega, by rw [chkS_s hy, ← hok, ← hla]; simp_all; done, (lastA_s hy).symm⟩, (by show n.s.length - (k + 1) < n.s.length - k; omega), ?_⟩
              refine ⟨?_, ?_, ?_⟩
              · skip
                repeat ((conv => whnf); first | exact True.intro | refine ⟨.rfl, ?_⟩ | refine ⟨.any, ?_⟩ | refine ⟨.nil, ?_⟩ | refine ⟨.int (by first | rfl | omega | (simp only [wrs]; omega)), ?_⟩)
              · skip
                repeat (first | exact LeVs.nil | ((conv => whnf); first | exact True.intro | exact .none | exact .row rfl | refine .cells ?_ | refine ⟨_, _, rfl, .rfl, ?_⟩ | refine ⟨_, _, rfl, .any, ?_⟩ | refine ⟨_, _, rfl, .nil, ?_⟩ | refine ⟨_, _, rfl, .int (by first | rfl | omega | (simp only [wrs]; omega)), ?_⟩ | refine ⟨?_, ?_⟩))
              · skip
                repeat (first | exact LeFr.nil | ((conv => whnf); first | exact True.intro | refine ⟨.rfl, ?_⟩ | refine ⟨_, _, rfl, rfl, ?_, ?_⟩))
end Go.Proofs.Ytmhmldpccccjbaa

namespace Go.Proofs.Ytmhmldpccccjbaa
open Go.RowKit
set_option linter.unusedVariables false
set_option linter.unusedSimpArgs false

def dk (d : Int × Int) : Int := 10 * d.1 + d.2
def posD (s : List (Int × Int)) (x : Int) : Nat := (s.takeWhile fun y => decide (dk y < x)).length
structure WayD (d : List (Int × Int)) : Prop where
  n : d.length ≤ 100
  w : ∀ y ∈ d, pkB y.1 y.2 0 = true
  o : d.Pairwise fun x y => dk x < dk y
theorem posD_is {s : List (Int × Int)} {x : Int} {i : Nat} (hi : i ≤ s.length) (h1 : ∀ m y, m < i → s[m]? = some y → dk y < x) (h2 : ∀ m y, i ≤ m → s[m]? = some y → x ≤ dk y) : posD s x = i := by
  induction s generalizing i with
  | nil => simp at hi; subst hi; rfl
  | cons a s ih =>
    unfold posD
    cases i with
    | zero =>
      have := h2 0 a (Nat.le_refl _) rfl
      rw [List.takeWhile_cons_of_neg (by simp; omega)]; rfl
    | succ i =>
      have h3 := h1 0 a (by omega) rfl
      rw [List.takeWhile_cons_of_pos (by simp; omega), List.length_cons]
      have := ih (i := i) (by simpa using hi) (fun m y hm hy => h1 (m + 1) y (by omega) (by simpa using hy)) (fun m y hm hy => h2 (m + 1) y (by omega) (by simpa using hy))
      unfold posD at this
      rw [this]
theorem pkB_iff {f t : Int} {n : Nat} : pkB f t n = true ↔ (1 ≤ f ∧ f ≤ 8) ∧ (1 ≤ t ∧ t ≤ 8) ∧ f ≠ t ∧ n ≤ 70000 := by simp [pkB, nodeB, and_assoc]
theorem ordN_dk {a b : Int × Int} (ha : pkB a.1 a.2 0 = true) (hb : pkB b.1 b.2 0 = true) : (ordN a b < 0 ↔ dk a < dk b) ∧ (ordN a b = 0 ↔ a = b) ∧ (a = b ↔ dk a = dk b) := by
  rw [pkB_iff] at ha hb
  obtain ⟨a1, a2⟩ := a
  obtain ⟨b1, b2⟩ := b
  simp only [Prod.mk.injEq, dk] at *
  unfold ordN cmpN
  refine ⟨?_, ?_, by omega⟩
  · simp only
    split <;> split <;> (repeat' split) <;> omega
  · simp only
    split <;> split <;> (repeat' split) <;> omega
theorem bd_lt {s : List (Int × Int)} {x : Int} {h : Nat} {y : Int × Int} (ho : s.Pairwise fun x y => dk x < dk y) (hy : s[h]? = some y) (hq : dk y < x) : ∀ m z, m < h + 1 → s[m]? = some z → dk z < x := fun m z hm hz => by
  obtain ⟨hil, hie⟩ := List.getElem?_eq_some_iff.1 hy
  obtain ⟨hml, hme⟩ := List.getElem?_eq_some_iff.1 hz
  rcases Nat.lt_or_ge m h with h1 | h1
  · have := List.pairwise_iff_getElem.1 ho m h hml hil h1
    rw [hie, hme] at this; omega
  · obtain rfl : m = h := by omega
    rw [hy] at hz
    injection hz with hz
    subst hz
    exact hq
theorem bd_ge {s : List (Int × Int)} {x : Int} {h : Nat} {y : Int × Int} (ho : s.Pairwise fun x y => dk x < dk y) (hy : s[h]? = some y) (hq : x ≤ dk y) : ∀ m z, h ≤ m → s[m]? = some z → x ≤ dk z := fun m z hm hz => by
  obtain ⟨hil, hie⟩ := List.getElem?_eq_some_iff.1 hy
  obtain ⟨hml, hme⟩ := List.getElem?_eq_some_iff.1 hz
  rcases Nat.eq_or_lt_of_le hm with h1 | h1
  · subst h1
    rw [hy] at hz
    injection hz with hz
    subst hz
    exact hq
  · have := List.pairwise_iff_getElem.1 ho h m hil hml h1
    rw [hie, hme] at this; omega
theorem memD_end {s : List (Int × Int)} {x y : Int × Int} {i j : Nat} (hw : WayD s) (hx : pkB x.1 x.2 0 = true) (hij : i = j) (h1 : ∀ m y, m < i → s[m]? = some y → dk y < dk x) (h2 : ∀ m y, j ≤ m → s[m]? = some y → dk x ≤ dk y) (hy : s[i]? = some y) : decide (ordN y x = 0) = decide (x ∈ s) := by
  subst hij
  have hyw := hw.w y (List.mem_of_getElem? hy)
  rw [decide_eq_decide, (ordN_dk hyw hx).2.1]
  constructor
  · rintro rfl; exact List.mem_of_getElem? hy
  · intro hm
    obtain ⟨m, hml, rfl⟩ := List.getElem_of_mem hm
    obtain ⟨hil, hie⟩ := List.getElem?_eq_some_iff.1 hy
    rcases Nat.lt_trichotomy m i with h | h | h
    · have := h1 m _ h (List.getElem?_eq_getElem hml); omega
    · subst h; exact hie.symm
    · have h3 := List.pairwise_iff_getElem.1 hw.o i m hil hml h
      have h4 := h2 i y (Nat.le_refl _) hy
      rw [hie] at h3
      omega
theorem memD_none {s : List (Int × Int)} {x : Int × Int} {i : Nat} (h1 : ∀ m y, m < i → s[m]? = some y → dk y < dk x) (hl : s.length ≤ i) : decide (x ∈ s) = false := by
  rw [decide_eq_false_iff_not]
  intro hm
  obtain ⟨m, hml, rfl⟩ := List.getElem_of_mem hm
  have := h1 m _ (by omega) (List.getElem?_eq_getElem hml)
  omega
/-- Numbers that rise, in a range. -/
theorem rise_len : ∀ {l : List Int} {lo hi : Int}, l.Pairwise (· < ·) → (∀ x ∈ l, lo ≤ x ∧ x < hi) → lo ≤ hi → (l.length : Int) ≤ hi - lo
  | [], lo, hi, _, _, h => by simp; omega
  | a :: l, lo, hi, hp, hr, h => by
    have h1 := hr a (by simp)
    have h2 := rise_len (l := l) (lo := a + 1) (hi := hi) (List.pairwise_cons.1 hp).2 (fun x hx => ⟨by have := (List.pairwise_cons.1 hp).1 x hx; omega, (hr x (by simp [hx])).2⟩) (by omega)
    simp only [List.length_cons]
    omega
theorem chkS_ok {s : List Sl} {ok : Bool} : ∀ {k : Nat}, chkS s ok k = true → ok = true ∧ ∀ j x, j < k → s[j]? = some x → lastA s j < x.a ∧ x.a < 80 ∧ pkB x.f x.t x.b.length = true
  | 0, h => ⟨h, fun j x hj => by omega⟩
  | k + 1, h => by
    simp only [chkS, Bool.and_eq_true] at h
    obtain ⟨i1, i2⟩ := chkS_ok h.1
    refine ⟨i1, fun j x hj hx => ?_⟩
    rcases Nat.lt_or_ge j k with h1 | h1
    · exact i2 j x h1 hx
    · obtain rfl : j = k := by omega
      have := h.2
      rw [hx] at this
      simpa [and_assoc] using this
theorem chkD_ok {s : List (Int × Int)} {ok : Bool} : ∀ {k : Nat}, chkD s ok k = true → ok = true ∧ ∀ j x, j < k → s[j]? = some x → pkB x.1 x.2 0 = true ∧ prevOk s x j = true
  | 0, h => ⟨h, fun j x hj => by omega⟩
  | k + 1, h => by
    simp only [chkD, Bool.and_eq_true] at h
    obtain ⟨i1, i2⟩ := chkD_ok h.1
    refine ⟨i1, fun j x hj hx => ?_⟩
    rcases Nat.lt_or_ge j k with h1 | h1
    · exact i2 j x h1 hx
    · obtain rfl : j = k := by omega
      have := h.2
      rw [hx] at this
      simpa using this
theorem rise_of {α : Type} {key : α → Int} {s : List α} (h : ∀ j x y, s[j]? = some x → s[j + 1]? = some y → key x < key y) : s.Pairwise fun x y => key x < key y := by
  induction s with
  | nil => exact .nil
  | cons a s ih =>
    have i1 := ih fun j x y hx hy => h (j + 1) x y (by simpa using hx) (by simpa using hy)
    refine List.pairwise_cons.2 ⟨fun z hz => ?_, i1⟩
    cases s with
    | nil => simp at hz
    | cons b s =>
      have h0 := h 0 a b rfl rfl
      rcases List.mem_cons.1 hz with rfl | hz
      · exact h0
      · have := (List.pairwise_cons.1 i1).1 z hz
        omega
theorem right_parts {n : NetA} (h : rightB n = true) : lastB n.l = true ∧ (∀ j x, n.s[j]? = some x → lastA n.s j < x.a ∧ x.a < 80 ∧ pkB x.f x.t x.b.length = true) ∧ ∀ j x, n.d[j]? = some x → pkB x.1 x.2 0 = true ∧ prevOk n.d x j = true := by
  obtain ⟨h1, h2⟩ := chkD_ok h
  obtain ⟨h3, h4⟩ := chkS_ok h1
  exact ⟨h3, fun j x hx => h4 j x (List.getElem?_eq_some_iff.1 hx).1 hx, fun j x hx => h2 j x (List.getElem?_eq_some_iff.1 hx).1 hx⟩
theorem lastA_ge {s : List Sl} : ∀ {j : Nat}, (∀ i x, i < j → s[i]? = some x → lastA s i < x.a) → j ≤ s.length → -1 ≤ lastA s j
  | 0, _, _ => by simp [lastA]
  | j + 1, h, hj => by
    have h1 := lastA_ge (j := j) (fun i x hi => h i x (by omega)) (by omega)
    have h2 : s[j]? = some s[j] := List.getElem?_eq_getElem (by omega)
    have h3 := h j _ (by omega) h2
    rw [lastA_s h2]
    omega
theorem right_S {n : NetA} (h : rightB n = true) : WayS n.s := by
  obtain ⟨-, h2, -⟩ := right_parts h
  have hw : ∀ y ∈ n.s, inWay y.a := fun y hy => by
    obtain ⟨j, hj, rfl⟩ := List.getElem_of_mem hy
    have h3 := h2 j _ (List.getElem?_eq_getElem hj)
    have h4 := lastA_ge (s := n.s) (j := j) (fun i x _ hx => (h2 i x hx).1) (by omega)
    exact ⟨by omega, h3.2.1⟩
  have ho : n.s.Pairwise fun x y => x.a < y.a := rise_of (key := fun x : Sl => x.a) fun j x y hx hy => by
    have := (h2 (j + 1) y hy).1
    rwa [lastA_s hx] at this
  refine ⟨?_, hw, ho⟩
  have := rise_len (l := n.s.map (·.a)) (lo := 0) (hi := 80) (List.pairwise_map.2 ho) (fun x hx => by obtain ⟨y, hy, rfl⟩ := List.mem_map.1 hx; exact hw y hy) (by omega)
  simp at this
  omega
theorem right_D {n : NetA} (h : rightB n = true) : WayD n.d := by
  obtain ⟨-, -, h2⟩ := right_parts h
  have hw : ∀ y ∈ n.d, pkB y.1 y.2 0 = true := fun y hy => by
    obtain ⟨j, hj, rfl⟩ := List.getElem_of_mem hy
    exact (h2 j _ (List.getElem?_eq_getElem hj)).1
  have ho : n.d.Pairwise fun x y => dk x < dk y := rise_of (key := dk) fun j x y hx hy => by
    have h1 := h2 (j + 1) y hy
    have h3 := (h2 j x hx).1
    simp only [prevOk, hx, decide_eq_true_eq] at h1
    exact (ordN_dk h3 h1.1).1.1 h1.2
  refine ⟨?_, hw, ho⟩
  have := rise_len (l := n.d.map dk) (lo := 0) (hi := 100) (List.pairwise_map.2 ho) (fun x hx => by
    obtain ⟨y, hy, rfl⟩ := List.mem_map.1 hx
    have := pkB_iff.1 (hw y hy)
    unfold dk; omega) (by omega)
  simp at this
  omega
/-- And back: a net whose parts are in order may be. -/
theorem chkS_all {s : List Sl} {ok : Bool} (hok : ok = true) : ∀ {k : Nat}, (∀ j x, j < k → s[j]? = some x → lastA s j < x.a ∧ x.a < 80 ∧ pkB x.f x.t x.b.length = true) → chkS s ok k = true
  | 0, _ => hok
  | k + 1, h => by
    have i1 := chkS_all hok (k := k) fun j x hj => h j x (by omega)
    simp only [chkS, i1, Bool.true_and]
    cases hx : s[k]? with
    | none => rfl
    | some x => have := h k x (by omega) hx; simp [this]
theorem chkD_all {s : List (Int × Int)} {ok : Bool} (hok : ok = true) : ∀ {k : Nat}, (∀ j x, j < k → s[j]? = some x → pkB x.1 x.2 0 = true ∧ prevOk s x j = true) → chkD s ok k = true
  | 0, _ => hok
  | k + 1, h => by
    have i1 := chkD_all hok (k := k) fun j x hj => h j x (by omega)
    simp only [chkD, i1, Bool.true_and]
    cases hx : s[k]? with
    | none => rfl
    | some x => have := h k x (by omega) hx; simp [this]
structure Right (n : NetA) : Prop where
  l : 0 ≤ n.l ∧ n.l < 80
  s : WayS n.s
  p : ∀ x ∈ n.s, pkB x.f x.t x.b.length = true
  d : WayD n.d
theorem right_of {n : NetA} (h : rightB n = true) : Right n := by
  have hs := right_parts h
  refine ⟨by simpa [lastB] using hs.1, right_S h, fun x hx => ?_, right_D h⟩
  obtain ⟨j, hj, rfl⟩ := List.getElem_of_mem hx
  exact (hs.2.1 j _ (List.getElem?_eq_getElem hj)).2.2
theorem right_is {n : NetA} (h : Right n) : rightB n = true := by
  refine chkD_all (chkS_all (by simpa [lastB] using h.l) fun j x hj hx => ?_) fun j x hj hx => ?_
  · have hm := List.mem_of_getElem? hx
    have h1 := h.s.w x hm
    refine ⟨?_, h1.2, h.p x hm⟩
    cases j with
    | zero => simp only [lastA]; have := h1.1; omega
    | succ j =>
      obtain ⟨hl, he⟩ := List.getElem?_eq_some_iff.1 hx
      have h2 : n.s[j]? = some n.s[j] := List.getElem?_eq_getElem (by omega)
      rw [lastA_s h2]
      have := List.pairwise_iff_getElem.1 h.s.o j (j + 1) (by omega) hl (by omega)
      rwa [he] at this
  · have hm := List.mem_of_getElem? hx
    refine ⟨h.d.w x hm, ?_⟩
    cases j with
    | zero => rfl
    | succ j =>
      obtain ⟨hl, he⟩ := List.getElem?_eq_some_iff.1 hx
      have h2 : n.d[j]? = some n.d[j] := List.getElem?_eq_getElem (by omega)
      simp only [prevOk, h2, decide_eq_true_eq]
      have := List.pairwise_iff_getElem.1 h.d.o j (j + 1) (by omega) hl (by omega)
      rw [he] at this
      exact (ordN_dk (h.d.w _ (List.getElem_mem _)) (h.d.w x hm)).1.2 this
def net0 : NetA := ⟨[], 0, []⟩
def netX (n : NetA) : XV := .ag [.p (.sl true (n.s.map (slC true))) (nl_sl _ _).sl, .p (.v (.int .i64 n.l)) (nlv _), .p (.sl true (n.d.map dfC)) (nl_df _).sl]
/-- Who does not hear whom then. -/
def partN (n : NetA) (f t : Int) : NetA × Int :=
  if rightB n = true then if pkB f t 0 = true then if (f, t) ∈ n.d then (net0, 5) else (⟨n.s, n.l, n.d.take (posD n.d (dk (f, t))) ++ [(f, t)] ++ n.d.drop (posD n.d (dk (f, t)))⟩, 0) else (net0, 2) else (net0, 330)
def mendN (n : NetA) (f t : Int) : NetA × Int :=
  if rightB n = true then if pkB f t 0 = true then if (f, t) ∈ n.d then (⟨n.s, n.l, n.d.take (posD n.d (dk (f, t))) ++ n.d.drop (posD n.d (dk (f, t)) + 1)⟩, 0) else (net0, 4) else (net0, 2) else (net0, 330)
theorem part_cases (n : NetA) (f t : Int) : (rightB n = false ∧ partN n f t = (net0, 330)) ∨ (rightB n = true ∧ pkB f t 0 = false ∧ partN n f t = (net0, 2)) ∨ (rightB n = true ∧ pkB f t 0 = true ∧ (f, t) ∈ n.d ∧ partN n f t = (net0, 5)) ∨ (rightB n = true ∧ pkB f t 0 = true ∧ (f, t) ∉ n.d ∧ partN n f t = (⟨n.s, n.l, n.d.take (posD n.d (dk (f, t))) ++ [(f, t)] ++ n.d.drop (posD n.d (dk (f, t)))⟩, 0)) := by
  unfold partN
  cases rightB n <;> cases pkB f t 0 <;> by_cases h : (f, t) ∈ n.d <;> simp [h]
theorem mend_cases (n : NetA) (f t : Int) : (rightB n = false ∧ mendN n f t = (net0, 330)) ∨ (rightB n = true ∧ pkB f t 0 = false ∧ mendN n f t = (net0, 2)) ∨ (rightB n = true ∧ pkB f t 0 = true ∧ (f, t) ∈ n.d ∧ mendN n f t = (⟨n.s, n.l, n.d.take (posD n.d (dk (f, t))) ++ n.d.drop (posD n.d (dk (f, t)) + 1)⟩, 0)) ∨ (rightB n = true ∧ pkB f t 0 = true ∧ (f, t) ∉ n.d ∧ mendN n f t = (net0, 4)) := by
  unfold mendN
  cases rightB n <;> cases pkB f t 0 <;> by_cases h : (f, t) ∈ n.d <;> simp [h]
theorem posD_le (s : List (Int × Int)) (x : Int) : posD s x ≤ s.length := (List.takeWhile_sublist _).length_le
theorem posD_at {d : List (Int × Int)} {x : Int × Int} (hd : WayD d) (hm : x ∈ d) : d[posD d (dk x)]? = some x := by
  obtain ⟨i, hi, he⟩ := List.getElem_of_mem hm
  have h1 : posD d (dk x) = i := posD_is (by omega) (fun m y hm2 hy => by
    obtain ⟨hl, rfl⟩ := List.getElem?_eq_some_iff.1 hy
    have := List.pairwise_iff_getElem.1 hd.o m i hl hi hm2
    rwa [he] at this) (fun m y hm2 hy => by
    obtain ⟨hl, rfl⟩ := List.getElem?_eq_some_iff.1 hy
    rcases Nat.eq_or_lt_of_le hm2 with h | h
    · subst h; rw [he]; exact Int.le_refl _
    · have := List.pairwise_iff_getElem.1 hd.o i m hi hl h
      rw [he] at this; omega)
  rw [h1, List.getElem?_eq_getElem hi, he]
theorem posD_lt {d : List (Int × Int)} {x : Int × Int} (hd : WayD d) (hm : x ∈ d) : posD d (dk x) < d.length := (List.getElem?_eq_some_iff.1 (posD_at hd hm)).1
/-- A row of slots whose first ones have bytes of their own. -/
def mixS (s : List Sl) (i : Nat) : List (List TV) := (s.take i).map (slC true) ++ (s.drop i).map (slC false)
theorem nl_mix (s : List Sl) (i : Nat) : NlLL (mixS s i) := (nl_sl _ _).append (nl_sl _ _)
theorem mix_0 (s : List Sl) : mixS s 0 = s.map (slC false) := by simp [mixS]
theorem mix_all {s : List Sl} {i : Nat} (h : s.length ≤ i) : mixS s i = s.map (slC true) := by simp [mixS, List.take_of_length_le h, List.drop_eq_nil_of_le h]
theorem mix_len (s : List Sl) (i : Nat) : (mixS s i).length = s.length := by simp [mixS]; omega
theorem mix_at {s : List Sl} {i : Nat} {y : Sl} (h : s[i]? = some y) : (mixS s i)[i]? = some (slC false y) := by
  obtain ⟨hl, he⟩ := List.getElem?_eq_some_iff.1 h
  simp only [mixS]
  rw [List.getElem?_append_right (by simp; omega)]
  simp [List.length_take, Nat.min_eq_left (Nat.le_of_lt hl), h]
theorem mix_set {s : List Sl} {i : Nat} {y : Sl} (h : s[i]? = some y) : (mixS s i).set i (slC true y) = mixS s (i + 1) := by
  obtain ⟨hl, rfl⟩ := List.getElem?_eq_some_iff.1 h
  simp only [mixS]
  rw [List.set_append_right _ _ (by simp; omega), List.take_succ_eq_append_getElem hl, List.map_append, List.append_assoc]
  congr 1
  simp only [List.length_map, List.length_take, Nat.min_eq_left (Nat.le_of_lt hl), Nat.sub_self]
  rw [List.drop_eq_getElem_cons hl]
  simp only [List.map_cons, List.map_nil, List.set_cons_zero, List.cons_append, List.nil_append]
/-- The first number below 80 of which something holds. -/
def firstI (p : Nat → Bool) : Option Nat := (List.range 80).find? p
theorem find_range {p : Nat → Bool} : ∀ {n i : Nat}, (List.range n).find? p = some i ↔ i < n ∧ p i = true ∧ ∀ j, j < i → p j = false
  | 0, i => by simp
  | n + 1, i => by
    rw [List.range_succ, List.find?_append, Option.or_eq_some_iff, find_range (n := n) (i := i)]
    have hn : (List.range n).find? p = none ↔ ∀ j, j < n → p j = false := by
      rw [List.find?_eq_none]
      exact ⟨fun h j hj => by simpa using h j (List.mem_range.2 hj), fun h j hj => by simpa using h j (List.mem_range.1 hj)⟩
    rw [hn]
    constructor
    · rintro (⟨h1, h2, h3⟩ | ⟨h1, h2⟩)
      · exact ⟨by omega, h2, h3⟩
      · cases hp : p n with
        | true =>
          simp [List.find?_cons, hp] at h2
          subst h2
          exact ⟨by omega, hp, h1⟩
        | false => simp [List.find?_cons, hp] at h2
    · rintro ⟨h1, h2, h3⟩
      rcases Nat.lt_or_ge i n with h4 | h4
      · exact .inl ⟨h4, h2, h3⟩
      · obtain rfl : i = n := by omega
        exact .inr ⟨h3, by simp [List.find?_cons, h2]⟩
theorem first_some {p : Nat → Bool} {i : Nat} (hi : i < 80) (h : p i = true) (h2 : ∀ j, j < i → p j = false) : firstI p = some i := find_range.2 ⟨hi, h, h2⟩
theorem first_none {p : Nat → Bool} (h2 : ∀ j, j < 80 → p j = false) : firstI p = none := by
  unfold firstI
  rw [List.find?_eq_none]
  exact fun j hj => by simpa using h2 j (List.mem_range.1 hj)
theorem first_is {p : Nat → Bool} {i : Nat} (h : firstI p = some i) : i < 80 ∧ p i = true ∧ ∀ j, j < i → p j = false := find_range.1 h
theorem first_no {p : Nat → Bool} (h : firstI p = none) : ∀ j, j < 80 → p j = false := fun j hj => by
  unfold firstI at h
  rw [List.find?_eq_none] at h
  simpa using h j (List.mem_range.2 hj)
def posP (s : List Sl) (x : Int) : Prop := True
theorem posS_le (s : List Sl) (x : Int) : posS s x ≤ s.length := (List.takeWhile_sublist _).length_le
/-- What stands ahead of a place is less. -/
theorem posS_lt {s : List Sl} {x : Int} : ∀ {m : Nat} {y : Sl}, m < posS s x → s[m]? = some y → y.a < x := by
  induction s with
  | nil => intro m y h hy; simp at hy
  | cons a s ih =>
    intro m y h hy
    unfold posS at h
    by_cases ha : a.a < x
    · rw [List.takeWhile_cons_of_pos (by simpa using ha), List.length_cons] at h
      cases m with
      | zero => simp at hy; subst hy; exact ha
      | succ m => exact ih (m := m) (by unfold posS; omega) (by simpa using hy)
    · rw [List.takeWhile_cons_of_neg (by simpa using ha)] at h
      simp at h
theorem posS_ge {s : List Sl} {x : Int} (ho : s.Pairwise fun x y => x.a < y.a) : ∀ {m : Nat} {y : Sl}, posS s x ≤ m → s[m]? = some y → x ≤ y.a := by
  induction s with
  | nil => intro m y h hy; simp at hy
  | cons a s ih =>
    intro m y h hy
    unfold posS at h
    by_cases ha : a.a < x
    · rw [List.takeWhile_cons_of_pos (by simpa using ha), List.length_cons] at h
      cases m with
      | zero => omega
      | succ m => exact ih (List.pairwise_cons.1 ho).2 (m := m) (by unfold posS; omega) (by simpa using hy)
    · cases m with
      | zero => simp at hy; subst hy; omega
      | succ m =>
        have := (List.pairwise_cons.1 ho).1 y (List.mem_of_getElem? (by simpa using hy))
        omega
theorem has_at {s : List Sl} {x : Int} (hs : WayS s) (h : hasS s x = true) : ∃ y, s[posS s x]? = some y ∧ y.a = x := by
  rw [has_is hs.o (fun m y => posS_lt) (fun m y => posS_ge hs.o)] at h
  split at h
  · rename_i y hy; exact ⟨y, hy, by simpa using h⟩
  · cases h
/-- A slot among the others. -/
def insS (s : List Sl) (x : Sl) : List Sl := s.take (posS s x.a) ++ [x] ++ s.drop (posS s x.a)
def delS (s : List Sl) (k : Nat) : List Sl := s.take k ++ s.drop (k + 1)
theorem way_of {s : List Sl} (hw : ∀ y ∈ s, inWay y.a) (ho : s.Pairwise fun x y => x.a < y.a) : WayS s := by
  refine ⟨?_, hw, ho⟩
  have := rise_len (l := s.map (·.a)) (lo := 0) (hi := 80) (List.pairwise_map.2 ho) (fun x hx => by obtain ⟨y, hy, rfl⟩ := List.mem_map.1 hx; exact hw y hy) (by omega)
  simp at this
  omega
theorem insS_way {s : List Sl} {x : Sl} (hs : WayS s) (hx : inWay x.a) (hn : hasS s x.a = false) : WayS (insS s x) := by
  unfold insS
  refine way_of (fun y hy => ?_) ?_
  · simp only [List.mem_append, List.mem_singleton] at hy
    rcases hy with (hy | rfl) | hy
    · exact hs.w y (List.mem_of_mem_take hy)
    · exact hx
    · exact hs.w y (List.mem_of_mem_drop hy)
  · rw [List.pairwise_append, List.pairwise_append]
    refine ⟨⟨hs.o.sublist (List.take_sublist _ _), by simp, fun y hy z hz => ?_⟩, hs.o.sublist (List.drop_sublist _ _), fun y hy z hz => ?_⟩
    · simp only [List.mem_singleton] at hz
      subst hz
      obtain ⟨m, hm, rfl⟩ := List.getElem_of_mem hy
      rw [List.length_take] at hm
      rw [List.getElem_take]
      exact posS_lt (m := m) (by omega) (List.getElem?_eq_getElem _)
    · have hz2 : x.a < z.a := by
        obtain ⟨m, hm, rfl⟩ := List.getElem_of_mem hz
        rw [List.length_drop] at hm
        rw [List.getElem_drop]
        have h1 := posS_ge hs.o (x := x.a) (m := posS s x.a + m) (by omega) (List.getElem?_eq_getElem (by omega))
        have h2 : s[posS s x.a + m].a ≠ x.a := fun e => by
          unfold hasS at hn
          rw [List.any_eq_false] at hn
          exact hn _ (List.getElem_mem (l := s) (n := posS s x.a + m) (by omega)) (by simpa using e)
        omega
      rcases List.mem_append.1 hy with hy | hy
      · obtain ⟨m, hm, rfl⟩ := List.getElem_of_mem hy
        rw [List.length_take] at hm
        rw [List.getElem_take]
        have := posS_lt (s := s) (x := x.a) (m := m) (by omega) (List.getElem?_eq_getElem (by omega))
        omega
      · simp only [List.mem_singleton] at hy
        subst hy; exact hz2
/-- Where a packet goes that is sent. -/
def slotN (l : Int) (i : Nat) : Int := (l + 1 + i) % 80
def freeI (s : List Sl) (l : Int) : Option Nat := firstI fun i => !hasS s (slotN l i)
theorem slotN_way (l : Int) (i : Nat) : inWay (slotN l i) := by unfold slotN inWay; omega
def fillN (s : List Sl) (l f t : Int) (b : List Int) : List Sl × Int × Bool :=
  match freeI s l with
  | some i => (insS s ⟨slotN l i, f, t, b⟩, slotN l i, true)
  | none => (s, l, false)
/-- Which slot is meant. -/
def mtN (p : Int) (i : Nat) : Int := (p % 80 + i) % 80
theorem mtN_way (p : Int) (i : Nat) : inWay (mtN p i) := by unfold mtN inWay; omega
def meantI (s : List Sl) (p : Int) : Option Nat := firstI fun i => hasS s (mtN p i)
def mtK (s : List Sl) (p : Int) : Int × Int :=
  if p < 0 then (0, 2) else match meantI s p with
    | some i => ((posS s (mtN p i) : Int), 0)
    | none => (0, 4)
theorem mt_cases {n : NetA} (h : rightB n = true) (p : Int) : (p < 0 ∧ mtK n.s p = (0, 2)) ∨ (0 ≤ p ∧ n.s = [] ∧ mtK n.s p = (0, 4)) ∨ (0 ≤ p ∧ ∃ (k : Nat) (x : Sl), n.s[k]? = some x ∧ mtK n.s p = ((k : Int), 0)) := by
  have hS := right_S h
  by_cases hp : p < 0
  · exact .inl ⟨hp, by unfold mtK; rw [if_pos hp]⟩
  · refine .inr ?_
    cases hm : meantI n.s p with
    | none =>
      refine .inl ⟨by omega, ?_, by unfold mtK; rw [if_neg hp, hm]⟩
      cases hs : n.s with
      | nil => rfl
      | cons y s =>
        have hy := hS.w y (by rw [hs]; simp)
        unfold inWay at hy
        have h1 := first_no hm ((y.a - p % 80) % 80).toNat (by omega)
        rw [show mtN p ((y.a - p % 80) % 80).toNat = y.a from by unfold mtN; omega] at h1
        unfold hasS at h1
        rw [List.any_eq_false] at h1
        exact absurd (h1 y (by rw [hs]; simp)) (by simp)
    | some i =>
      obtain ⟨y, hy, -⟩ := has_at hS (first_is hm).2.1
      exact .inr ⟨by omega, _, y, hy, by unfold mtK; rw [if_neg hp, hm]⟩
def sl0 : Sl := ⟨0, 0, 0, []⟩
def slotAt (n : NetA) (k : Int) : Sl := (n.s[k.toNat]?).getD sl0
def loseN (n : NetA) (p : Int) : NetA × Int :=
  if rightB n = true then if (mtK n.s p).2 = 0 then (⟨delS n.s (mtK n.s p).1.toNat, n.l, n.d⟩, 0) else (net0, (mtK n.s p).2) else (net0, 330)
def meantN (n : NetA) (p : Int) : Sl × Int :=
  if rightB n = true then if (mtK n.s p).2 = 0 then (slotAt n (mtK n.s p).1, 0) else (sl0, (mtK n.s p).2) else (sl0, 330)
def delivN (n : NetA) (p : Int) : NetA × Sl × Int :=
  if rightB n = true then if (mtK n.s p).2 = 0 then
    if ((slotAt n (mtK n.s p).1).f, (slotAt n (mtK n.s p).1).t) ∈ n.d then (net0, sl0, 331) else (⟨delS n.s (mtK n.s p).1.toNat, n.l, n.d⟩, slotAt n (mtK n.s p).1, 0)
    else (net0, sl0, (mtK n.s p).2) else (net0, sl0, 330)
def doubX (n : NetA) (x : Sl) : NetA × Int := if (fillN n.s n.l x.f x.t x.b).2.2 = true then (⟨(fillN n.s n.l x.f x.t x.b).1, (fillN n.s n.l x.f x.t x.b).2.1, n.d⟩, 0) else (net0, 6)
def doubN (n : NetA) (p : Int) : NetA × Int :=
  if rightB n = true then if (mtK n.s p).2 = 0 then doubX n (slotAt n (mtK n.s p).1) else (net0, (mtK n.s p).2) else (net0, 330)
theorem slotAt_k {n : NetA} {k : Nat} {x : Sl} (h : n.s[k]? = some x) : slotAt n (k : Int) = x := by simp [slotAt, h]
/-- What is said. -/
abbrev Msg := Int × List Int
def sdC (c : Bool) (m : Msg) : List TV := [.v (.int .i64 m.1), .sl c (m.2.map by1)]
theorem nl_sd (c : Bool) (l : List Msg) : NlLL (l.map (sdC c)) := .map fun s _ => .cons (nlv _) (.cons (nl_by1 _).sl .nil)
theorem untag_sd (c : Bool) (l : List Msg) : untagLL (l.map (sdC c)) = l.map (sdC false) := by
  rw [untagLL_map]
  exact List.map_congr_left fun s _ => by simp only [sdC, untagL, untag, untag_by1]
theorem pu_sd (c : Bool) (l : List Msg) : PuLL (l.map (sdC c)) := PuLL_map _ _ fun s _ => by simp [sdC, PuL, Pu, pu_by1]
def sstep (d : List (Int × Int)) (fr : Int) (q : List Sl × Int) (m : Msg) : List Sl × Int :=
  if pkB fr m.1 m.2.length = true ∧ (fr, m.1) ∉ d then ((fillN q.1 q.2 fr m.1 m.2).1, (fillN q.1 q.2 fr m.1 m.2).2.1) else q
def sendK (n : NetA) (fr : Int) (ms : List Msg) : List Sl × Int := ms.foldl (sstep n.d fr) (n.s, n.l)
def sendN (n : NetA) (fr : Int) (ms : List Msg) : NetA × Int :=
  if rightB n = true then if nodeB fr = true then (⟨(sendK n fr ms).1, (sendK n fr ms).2, n.d⟩, 0) else (net0, 2) else (net0, 330)
theorem sendK_s {n : NetA} {fr : Int} {ms : List Msg} {k : Nat} {m : Msg} (h : ms[k]? = some m) : sendK n fr (ms.take (k + 1)) = sstep n.d fr (sendK n fr (ms.take k)) m := by
  obtain ⟨hl, rfl⟩ := List.getElem?_eq_some_iff.1 h
  unfold sendK
  rw [List.take_succ_eq_append_getElem hl, List.foldl_append]
  rfl
theorem fill_t {s : List Sl} {l f t : Int} {b : List Int} {i : Nat} (hi : i < 80) (h : hasS s (slotN l i) = false) (h2 : ∀ j, j < i → hasS s (slotN l j) = true) : fillN s l f t b = (insS s ⟨slotN l i, f, t, b⟩, slotN l i, true) := by
  unfold fillN freeI
  rw [first_some hi (by simp [h]) (fun j hj => by simp [h2 j hj])]
theorem fill_f {s : List Sl} {l f t : Int} {b : List Int} (h2 : ∀ j, j < 80 → hasS s (slotN l j) = true) : fillN s l f t b = (s, l, false) := by
  unfold fillN freeI
  rw [first_none (fun j hj => by simp [h2 j hj])]
theorem mtK_t {s : List Sl} {p : Int} {i : Nat} (hp : 0 ≤ p) (hi : i < 80) (h : hasS s (mtN p i) = true) (h2 : ∀ j, j < i → hasS s (mtN p j) = false) : mtK s p = ((posS s (mtN p i) : Int), 0) := by
  unfold mtK meantI
  rw [if_neg (by omega), first_some hi h h2]
theorem mtK_f {s : List Sl} {p : Int} (hp : 0 ≤ p) (h2 : ∀ j, j < 80 → hasS s (mtN p j) = false) : mtK s p = (0, 4) := by
  unfold mtK meantI
  rw [if_neg (by omega), first_none h2]
section
variable {P : Program} {B : Nat} {w0 : World} {T : Tab} {n : Nat} {e : Env} {h : List XLB} {gs : Frames} {K : XQ} {c : Code}
/-- A row that is written no more. -/
theorem XT.frz (j : Nat) (hx : frzK e h gs j fun e' h' gs' => XT P B w0 n c e' h' gs' K) : XT P B w0 n c e h gs K := ⟨fun gh Q hq => by
  obtain ⟨e', h', gs', hs, hh⟩ := frzK_ok (n := n) (B := B) (w0 := w0) hx
  exact TW.le (hh.ok gh Q hq) (hs _)⟩
end
end Go.Proofs.Ytmhmldpccccjbaa

namespace Go.Proofs.Ytmhmldpccccjbaa
open Go.RowKit
set_option linter.unusedVariables false
set_option linter.unusedSimpArgs false
set_option maxRecDepth 20000
set_option maxRecDepth 20000 in
theorem binD_X (b : Bool) (d : List (Int × Int)) (x : Int × Int) (hd : WayD d) (hx : pkB x.1 x.2 0 = true) : XMeets Try.prog 63 [.sl b (d.map dfC), .agg [.v (.int .i64 x.1), .v (.int .i64 x.2)], .fn (.func 50) []] (.tu [.p (.v (.int .i64 ((posD d (dk x) : Int)))) (nlv _), .p (.v (.bool (decide (x ∈ d)))) (nlv _)]) := by
  refine XMeets.of_X tabX_ok (avs := [.p (.sl false (d.map dfC)) (nl_df _).sl, .ag [.p (.v (.int .i64 x.1)) (nlv _), .p (.v (.int .i64 x.2)) (nlv _)], .fu (.func 50) []]) [(0, .p (.sl false (d.map dfC)) (nl_df _).sl), (1, .ag [.p (.v (.int .i64 x.1)) (nlv _), .p (.v (.int .i64 x.2)) (nlv _)]), (2, .fu (.func 50) [])] (by kernel_rfl) Try.func63 rfl (by simp [PuL, Pu, netT, slC, dfC, pu_by1, pu_sl, pu_df]) (by simp only [untagL, untag, netT, untag_by1, untag_sl, untag_df]; rfl) rfl rfl ?_
  intro B w0
  have hsn := hd.n
  conv => whnf
  refine XT.loop tabX_ok (Y := Nat × Nat) [9, 10, 11, 15, 16, 17, 18, 19, 20, 21, 22, 23, 24, 25, 26, 27, 28, 29, 30, 31, 32, 33, 34] (fun (i, j) => [(9, .p (.v (.int .i64 ((i : Int)))) (nlv _)), (10, .p (.v (.int .i64 ((j : Int)))) (nlv _))]) (fun (i, j) => []) (fun (i, j) => i ≤ j ∧ j ≤ d.length ∧ (∀ m y, m < i → d[m]? = some y → dk y < dk x) ∧ (∀ m y, j ≤ m → d[m]? = some y → dk x ≤ dk y)) (fun (i, j) => j - i) (0, d.length) ⟨Nat.zero_le _, Nat.le_refl _, fun m y hm => by omega, fun m y hm hy => by have := (List.getElem?_eq_some_iff.1 hy).1; omega⟩ ?_ ?_
  · skip
    refine ⟨?_, ?_, ?_⟩
    · skip
      repeat ((conv => whnf); first | exact True.intro | refine ⟨.rfl, ?_⟩ | refine ⟨.any, ?_⟩ | refine ⟨.nil, ?_⟩ | refine ⟨.int (by first | rfl | omega | (simp only [wrs]; omega)), ?_⟩ | refine ⟨.int (by simp), ?_⟩)
    · skip
      repeat (first | exact LeVs.nil | ((conv => whnf); first | exact True.intro | exact .none | exact .row rfl | refine .cells ?_ | refine ⟨_, _, rfl, .rfl, ?_⟩ | refine ⟨_, _, rfl, .any, ?_⟩ | refine ⟨_, _, rfl, .nil, ?_⟩ | refine ⟨_, _, rfl, .int (by first | rfl | omega | (simp only [wrs]; omega)), ?_⟩ | refine ⟨_, _, rfl, .int (by simp), ?_⟩ | refine ⟨?_, ?_⟩))
    · skip
      repeat (first | exact LeFr.nil | ((conv => whnf); first | exact True.intro | refine ⟨.rfl, ?_⟩ | refine ⟨_, _, rfl, rfl, ?_, ?_⟩))
  · skip
    rintro ⟨i, j⟩ ⟨hij, hj, h1, h2⟩
    conv => whnf
    cases hc1 : (decide ((↑i : Int) < (↑j : Int)))
    · skip
      try simp only [bls] at hc1
      conv => whnf
      refine RegG.par 16 (by kernel_rfl) ?_
      conv => whnf
      cases hc2 : (decide ((↑i : Int) < (↑(List.map dfC d).length : Int)))
      · skip
        try simp only [bls] at hc2
        conv => whnf
        refine FinG.mk none ?_ (by rintro _ ⟨⟩)
        simp only [outs, List.length_map, List.length_append, List.length_take, List.length_drop, List.length_cons, List.length_nil, slC, dfC]
        obtain rfl : i = j := by omega
        exact ⟨by rw [posD_is (by omega) h1 h2], by rw [memD_none h1 (by omega)]⟩
      · skip
        try simp only [bls] at hc2
        conv => whnf
        refine IdxG.map i rfl (by omega) ?_; intro y hy hny; have hyw := hd.w y (List.mem_of_getElem? hy); have hyo := ordN_dk hyw hx; have hya := hyo.1
        conv => whnf
        refine ⟨rfl, ?_⟩
        conv => whnf
        refine CallG.mk (order_X _ _) rfl ?_
        conv => whnf
        refine FinG.mk none ?_ (by rintro _ ⟨⟩)
        simp only [outs, List.length_map, List.length_append, List.length_take, List.length_drop, List.length_cons, List.length_nil, slC, dfC]
        obtain rfl : i = j := by omega
        exact ⟨by rw [posD_is (by omega) h1 h2], by rw [memD_end hd hx rfl h1 h2 hy]⟩
    · skip
      try simp only [bls] at hc1
      conv => whnf
      refine RegG.par 8 (by kernel_rfl) ?_
      conv => whnf
      rw [show IntKind.i64.wrap ((↑i : Int) + (↑j : Int)) = ((↑i : Int) + (↑j : Int)) from wz.1 _ (by omega) (by omega)]
      simp only [half_w (i := i) (j := j) (show i + j ≤ 1000 by omega)]; refine IdxG.map ((i + j) / 2) rfl (by omega) ?_; intro y hy hny; have hyw := hd.w y (List.mem_of_getElem? hy); have hyo := ordN_dk hyw hx; have hya := hyo.1
      conv => whnf
      refine ⟨rfl, ?_⟩
      conv => whnf
      refine CallG.mk (order_X _ _) rfl ?_
      conv => whnf
      cases hc3 : (decide (ordN y x < 0))
      · skip
        try simp only [bls] at hc3
        conv => whnf
        refine ⟨(i, (i + j) / 2), ⟨by omega, by omega, h1, bd_ge hd.o hy (by omega)⟩, (by show (i + j) / 2 - i < j - i; omega), ?_⟩
        refine ⟨?_, ?_, ?_⟩
        · skip
          repeat ((conv => whnf); first | exact True.intro | refine ⟨.rfl, ?_⟩ | refine ⟨.any, ?_⟩ | refine ⟨.nil, ?_⟩ | refine ⟨.int (by first | rfl | omega | (simp only [wrs]; omega)), ?_⟩ | refine ⟨.int (by simp), ?_⟩)
        · skip
          repeat (first | exact LeVs.nil | ((conv => whnf); first | exact True.intro | exact .none | exact .row rfl | refine .cells ?_ | refine ⟨_, _, rfl, .rfl, ?_⟩ | refine ⟨_, _, rfl, .any, ?_⟩ | refine ⟨_, _, rfl, .nil, ?_⟩ | refine ⟨_, _, rfl, .int (by first | rfl | omega | (simp only [wrs]; omega)), ?_⟩ | refine ⟨_, _, rfl, .int (by simp), ?_⟩ | refine ⟨?_, ?_⟩))
        · skip
          repeat (first | exact LeFr.nil | ((conv => whnf); first | exact True.intro | refine ⟨.rfl, ?_⟩ | refine ⟨_, _, rfl, rfl, ?_, ?_⟩))
      · skip
        try simp only [bls] at hc3
        conv => whnf
        refine ⟨((i + j) / 2 + 1, j), ⟨by omega, hj, bd_lt hd.o hy (by omega), h2⟩, (by show j - ((i + j) / 2 + 1) < j - i; omega), ?_⟩
        refine ⟨?_, ?_, ?_⟩
        · skip
          repeat ((conv => whnf); first | exact True.intro | refine ⟨.rfl, ?_⟩ | refine ⟨.any, ?_⟩ | refine ⟨.nil, ?_⟩ | refine ⟨.int (by first | rfl | omega | (simp only [wrs]; omega)), ?_⟩ | refine ⟨.int (by simp), ?_⟩)
        · skip
          repeat (first | exact LeVs.nil | ((conv => whnf); first | exact True.intro | exact .none | exact .row rfl | refine .cells ?_ | refine ⟨_, _, rfl, .rfl, ?_⟩ | refine ⟨_, _, rfl, .any, ?_⟩ | refine ⟨_, _, rfl, .nil, ?_⟩ | refine ⟨_, _, rfl, .int (by first | rfl | omega | (simp only [wrs]; omega)), ?_⟩ | refine ⟨_, _, rfl, .int (by simp), ?_⟩ | refine ⟨?_, ?_⟩))
        · skip
          repeat (first | exact LeFr.nil | ((conv => whnf); first | exact True.intro | refine ⟨.rfl, ?_⟩ | refine ⟨_, _, rfl, rfl, ?_, ?_⟩))
theorem check_t {n : NetA} (h : rightB n = true) (b c e : Bool) (ho : n.Ok) : XMeets Try.prog 22 [netT b c e n] (.p (.v (.int .i64 0)) (nlv _)) := by
  have := check_X b c e n ho
  rwa [show (if rightB n = true then (0 : Int) else 330) = 0 from if_pos h] at this
theorem check_f {n : NetA} (h : rightB n = false) (b c e : Bool) (ho : n.Ok) : XMeets Try.prog 22 [netT b c e n] (.p (.v (.int .i64 330)) (nlv _)) := by
  have := check_X b c e n ho
  rwa [show (if rightB n = true then (0 : Int) else 330) = 330 from if_neg (by simp [h])] at this
set_option maxRecDepth 20000 in
theorem part_X (b c e : Bool) (n : NetA) (f t : Int) (ho : n.Ok) (R : NetA × Int) (hR : R = partN n f t) : XMeets Try.prog 12 [netT b c e n, .v (.int .i64 f), .v (.int .i64 t)] (.tu [netX R.1, .p (.v (.int .i64 (R.2))) (nlv _)]) := by
  refine XMeets.of_X tabX_ok (avs := [.ag [.p (.sl false (n.s.map (slC false))) (nl_sl _ _).sl, .p (.v (.int .i64 n.l)) (nlv _), .p (.sl false (n.d.map dfC)) (nl_df _).sl], .p (.v (.int .i64 f)) (nlv _), .p (.v (.int .i64 t)) (nlv _)]) [(0, .ag [.p (.sl false (n.s.map (slC false))) (nl_sl _ _).sl, .p (.v (.int .i64 n.l)) (nlv _), .p (.sl false (n.d.map dfC)) (nl_df _).sl]), (1, .p (.v (.int .i64 f)) (nlv _)), (2, .p (.v (.int .i64 t)) (nlv _))] (by kernel_rfl) Try.func12 rfl (by simp [PuL, Pu, netT, slC, dfC, pu_by1, pu_sl, pu_df]) (by simp only [untagL, untag, netT, untag_by1, untag_sl, untag_df]; rfl) rfl rfl ?_
  intro B w0
  have hsn := ho.sn
  have hdn := ho.dn
  rcases part_cases n f t with ⟨hr, hq⟩ | ⟨hr, hp, hq⟩ | ⟨hr, hp, hm, hq⟩ | ⟨hr, hp, hm, hq⟩
  · skip
    rw [hq] at hR
    subst hR
    conv => whnf
    refine InlG.mk (by kernel_rfl) Try.func38 rfl (Nat.le_of_ble_eq_true rfl) (XT.of tabX_ok ?_)
    conv => whnf
    refine InlG.mk (by kernel_rfl) Try.func44 rfl (Nat.le_of_ble_eq_true rfl) (XT.of tabX_ok ?_)
    conv => whnf
    refine .ct ?_
    conv => whnf
    refine CallG.mk (check_f (by assumption) _ _ _ ho) rfl ?_
    conv => whnf
    refine ⟨.inr rfl, ?_⟩
    conv => whnf
    refine ⟨.inr rfl, ?_⟩
    conv => whnf
    refine FinG.mk none ?_ (by rintro _ ⟨⟩)
    simp only [outs, List.length_map, List.length_append, List.length_take, List.length_drop, List.length_cons, List.length_nil, slC, dfC, netX, net0, List.map_nil, mix_len]
  · skip
    rw [hq] at hR
    subst hR
    conv => whnf
    refine InlG.mk (by kernel_rfl) Try.func38 rfl (Nat.le_of_ble_eq_true rfl) (XT.of tabX_ok ?_)
    conv => whnf
    refine InlG.mk (by kernel_rfl) Try.func44 rfl (Nat.le_of_ble_eq_true rfl) (XT.of tabX_ok ?_)
    conv => whnf
    refine .ct ?_
    conv => whnf
    refine CallG.mk (check_t (by assumption) _ _ _ ho) rfl ?_
    conv => whnf
    refine RegG.par 7 (by kernel_rfl) ?_
    conv => whnf
    refine .cl (nl_sl _ _) clone_slot rfl (sl_len _ _) (sl_one _ _) (by simp only [List.length_map]; omega) ?_
    conv => whnf
    refine .cl (nl_df _) clone_deaf rfl (df_len _) (df_one _) (by simp only [List.length_map]; omega) ?_
    conv => whnf
    refine XT.loop tabX_ok (Y := Nat) [7, 17, 24, 26, 27, 28, 29, 30, 31, 32, 33, 34, 35, 36, 37, 38, 39, 40, 41, 42, 43] (fun k => [(26, .p (.v (.int .i64 ((k : Int)))) (nlv _))]) (fun k => [(7, .cells 25 [.row 9, .p (.v (.int .i64 n.l)) (nlv _), .row 10]), (9, .row 65 4 (mixS n.s k) (nl_mix _ _))]) (fun k => k ≤ n.s.length) (fun k => n.s.length - k) 0 (Nat.zero_le _) ?_ ?_
    · skip
      refine ⟨?_, ?_, ?_⟩
      · skip
        repeat ((conv => whnf); first | exact True.intro | refine ⟨.rfl, ?_⟩ | refine ⟨.any, ?_⟩ | refine ⟨.nil, ?_⟩ | refine ⟨.int (by first | rfl | omega | (simp only [wrs]; omega)), ?_⟩)
      · skip
        repeat (first | exact LeVs.nil | ((conv => whnf); first | exact True.intro | exact .none | exact .row rfl | exact .row (mix_0 _) | exact .row ((mix_0 _).symm) | exact .row (mix_set hy) | exact .row ((mix_set hy).symm) | refine .cells ?_ | refine ⟨_, _, rfl, .rfl, ?_⟩ | refine ⟨_, _, rfl, .any, ?_⟩ | refine ⟨_, _, rfl, .nil, ?_⟩ | refine ⟨_, _, rfl, .int (by first | rfl | omega | (simp only [wrs]; omega)), ?_⟩ | refine ⟨?_, ?_⟩))
      · skip
        repeat (first | exact LeFr.nil | ((conv => whnf); first | exact True.intro | refine ⟨.rfl, ?_⟩ | refine ⟨_, _, rfl, rfl, ?_, ?_⟩))
    · skip
      rintro k hk
      conv => whnf
      cases hc1 : (decide ((↑k : Int) < (↑(List.map (slC false) n.s).length : Int)))
      · skip
        try simp only [bls] at hc1
        conv => whnf
        refine InlG.mk (by kernel_rfl) Try.func62 rfl (Nat.le_of_ble_eq_true rfl) (XT.of tabX_ok ?_)
        conv => whnf
        refine .ct ?_
        conv => whnf
        refine CallG.mk (packet0_X _ _ _) rfl ?_
        conv => whnf
        refine bT (by simp [hp]) ?_
        conv => whnf
        refine ⟨.inr rfl, ?_⟩
        conv => whnf
        refine ⟨.inr rfl, ?_⟩
        conv => whnf
        refine ⟨.inr rfl, ?_⟩
        conv => whnf
        refine FinG.mk none ?_ (by rintro _ ⟨⟩)
        simp only [outs, List.length_map, List.length_append, List.length_take, List.length_drop, List.length_cons, List.length_nil, slC, dfC, netX, net0, List.map_nil, mix_len]
      · skip
        try simp only [bls] at hc1
        conv => whnf
        refine RegG.par 14 (by kernel_rfl) ?_
        conv => whnf
        refine ⟨_, rfl, ?_⟩
        conv => whnf
        refine ⟨by simp [List.length_map, List.length_append, List.length_take, List.length_drop, List.length_cons, List.length_nil, slC, dfC, netX, net0, List.map_nil, mix_len]; omega, ?_⟩
        conv => whnf
        obtain ⟨y, hy⟩ : ∃ y, n.s[k]? = some y := ⟨_, List.getElem?_eq_getElem (by omega)⟩; have hyn := (ho.s y (List.mem_of_getElem? hy)).n; refine IdxG.mk (mix_at hy) rfl ?_
        conv => whnf
        refine .cl (nl_by1 _) clone_byte rfl (by_len _) (by_one _) (by simp only [List.length_map]; omega) ?_
        conv => whnf
        refine ⟨_, rfl, ?_⟩
        conv => whnf
        refine ⟨by simp [List.length_map, List.length_append, List.length_take, List.length_drop, List.length_cons, List.length_nil, slC, dfC, netX, net0, List.map_nil, mix_len]; omega, ?_⟩
        conv => whnf
        refine IdxG.mk (mix_at hy) rfl ?_
        conv => whnf
        refine ⟨rfl, ?_⟩
        conv => whnf
        refine ⟨(k + 1), (by omega), (by omega), ?_⟩
        refine ⟨?_, ?_, ?_⟩
        · skip
          repeat ((conv => whnf); first | exact True.intro | refine ⟨.rfl, ?_⟩ | refine ⟨.any, ?_⟩ | refine ⟨.nil, ?_⟩ | refine ⟨.int (by first | rfl | omega | (simp only [wrs]; omega)), ?_⟩)
        · skip
          repeat (first | exact LeVs.nil | ((conv => whnf); first | exact True.intro | exact .none | exact .row rfl | exact .row (mix_0 _) | exact .row ((mix_0 _).symm) | exact .row (mix_set hy) | exact .row ((mix_set hy).symm) | refine .cells ?_ | refine ⟨_, _, rfl, .rfl, ?_⟩ | refine ⟨_, _, rfl, .any, ?_⟩ | refine ⟨_, _, rfl, .nil, ?_⟩ | refine ⟨_, _, rfl, .int (by first | rfl | omega | (simp only [wrs]; omega)), ?_⟩ | refine ⟨?_, ?_⟩))
        · skip
          repeat (first | exact LeFr.nil | ((conv => whnf); first | exact True.intro | refine ⟨.rfl, ?_⟩ | refine ⟨_, _, rfl, rfl, ?_, ?_⟩))
  · skip
    rw [hq] at hR
    subst hR
    conv => whnf
    refine InlG.mk (by kernel_rfl) Try.func38 rfl (Nat.le_of_ble_eq_true rfl) (XT.of tabX_ok ?_)
    conv => whnf
    refine InlG.mk (by kernel_rfl) Try.func44 rfl (Nat.le_of_ble_eq_true rfl) (XT.of tabX_ok ?_)
    conv => whnf
    refine .ct ?_
    conv => whnf
    refine CallG.mk (check_t (by assumption) _ _ _ ho) rfl ?_
    conv => whnf
    refine RegG.par 7 (by kernel_rfl) ?_
    conv => whnf
    refine .cl (nl_sl _ _) clone_slot rfl (sl_len _ _) (sl_one _ _) (by simp only [List.length_map]; omega) ?_
    conv => whnf
    refine .cl (nl_df _) clone_deaf rfl (df_len _) (df_one _) (by simp only [List.length_map]; omega) ?_
    conv => whnf
    refine XT.loop tabX_ok (Y := Nat) [7, 17, 24, 26, 27, 28, 29, 30, 31, 32, 33, 34, 35, 36, 37, 38, 39, 40, 41, 42, 43] (fun k => [(26, .p (.v (.int .i64 ((k : Int)))) (nlv _))]) (fun k => [(7, .cells 25 [.row 9, .p (.v (.int .i64 n.l)) (nlv _), .row 10]), (9, .row 65 4 (mixS n.s k) (nl_mix _ _))]) (fun k => k ≤ n.s.length) (fun k => n.s.length - k) 0 (Nat.zero_le _) ?_ ?_
    · skip
      refine ⟨?_, ?_, ?_⟩
      · skip
        repeat ((conv => whnf); first | exact True.intro | refine ⟨.rfl, ?_⟩ | refine ⟨.any, ?_⟩ | refine ⟨.nil, ?_⟩ | refine ⟨.int (by first | rfl | omega | (simp only [wrs]; omega)), ?_⟩)
      · skip
        repeat (first | exact LeVs.nil | ((conv => whnf); first | exact True.intro | exact .none | exact .row rfl | exact .row (mix_0 _) | exact .row ((mix_0 _).symm) | exact .row (mix_set hy) | exact .row ((mix_set hy).symm) | refine .cells ?_ | refine ⟨_, _, rfl, .rfl, ?_⟩ | refine ⟨_, _, rfl, .any, ?_⟩ | refine ⟨_, _, rfl, .nil, ?_⟩ | refine ⟨_, _, rfl, .int (by first | rfl | omega | (simp only [wrs]; omega)), ?_⟩ | refine ⟨?_, ?_⟩))
      · skip
        repeat (first | exact LeFr.nil | ((conv => whnf); first | exact True.intro | refine ⟨.rfl, ?_⟩ | refine ⟨_, _, rfl, rfl, ?_, ?_⟩))
    · skip
      rintro k hk
      conv => whnf
      cases hc2 : (decide ((↑k : Int) < (↑(List.map (slC false) n.s).length : Int)))
      · skip
        try simp only [bls] at hc2
        conv => whnf
        refine InlG.mk (by kernel_rfl) Try.func62 rfl (Nat.le_of_ble_eq_true rfl) (XT.of tabX_ok ?_)
        conv => whnf
        refine .ct ?_
        conv => whnf
        refine CallG.mk (packet0_X _ _ _) rfl ?_
        conv => whnf
        refine bF (by simp [hp]) ?_
        conv => whnf
        refine RegG.par 11 (by kernel_rfl) ?_
        conv => whnf
        refine CallG.mk (binD_X _ _ (_, _) (right_D (by assumption)) (by assumption)) rfl ?_
        conv => whnf
        refine .inl ?_
        conv => whnf
        refine InlG.mk (by kernel_rfl) Try.func39 rfl (Nat.le_of_ble_eq_true rfl) (XT.of tabX_ok ?_)
        conv => whnf
        refine bT (by simp [hm]) ?_
        conv => whnf
        refine ⟨.inr rfl, ?_⟩
        conv => whnf
        refine ⟨.inr rfl, ?_⟩
        conv => whnf
        refine ⟨.inr rfl, ?_⟩
        conv => whnf
        refine ⟨.inr rfl, ?_⟩
        conv => whnf
        refine FinG.mk none ?_ (by rintro _ ⟨⟩)
        simp only [outs, List.length_map, List.length_append, List.length_take, List.length_drop, List.length_cons, List.length_nil, slC, dfC, netX, net0, List.map_nil, mix_len]
      · skip
        try simp only [bls] at hc2
        conv => whnf
        refine RegG.par 14 (by kernel_rfl) ?_
        conv => whnf
        refine ⟨_, rfl, ?_⟩
        conv => whnf
        refine ⟨by simp [List.length_map, List.length_append, List.length_take, List.length_drop, List.length_cons, List.length_nil, slC, dfC, netX, net0, List.map_nil, mix_len]; omega, ?_⟩
        conv => whnf
        obtain ⟨y, hy⟩ : ∃ y, n.s[k]? = some y := ⟨_, List.getElem?_eq_getElem (by omega)⟩; have hyn := (ho.s y (List.mem_of_getElem? hy)).n; refine IdxG.mk (mix_at hy) rfl ?_
        conv => whnf
        refine .cl (nl_by1 _) clone_byte rfl (by_len _) (by_one _) (by simp only [List.length_map]; omega) ?_
        conv => whnf
        refine ⟨_, rfl, ?_⟩
        conv => whnf
        refine ⟨by simp [List.length_map, List.length_append, List.length_take, List.length_drop, List.length_cons, List.length_nil, slC, dfC, netX, net0, List.map_nil, mix_len]; omega, ?_⟩
        conv => whnf
        refine IdxG.mk (mix_at hy) rfl ?_
        conv => whnf
        refine ⟨rfl, ?_⟩
        conv => whnf
        refine ⟨(k + 1), (by omega), (by omega), ?_⟩
        refine ⟨?_, ?_, ?_⟩
        · skip
          repeat ((conv => whnf); first | exact True.intro | refine ⟨.rfl, ?_⟩ | refine ⟨.any, ?_⟩ | refine ⟨.nil, ?_⟩ | refine ⟨.int (by first | rfl | omega | (simp only [wrs]; omega)), ?_⟩)
        · skip
          repeat (first | exact LeVs.nil | ((conv => whnf); first | exact True.intro | exact .none | exact .row rfl | exact .row (mix_0 _) | exact .row ((mix_0 _).symm) | exact .row (mix_set hy) | exact .row ((mix_set hy).symm) | refine .cells ?_ | refine ⟨_, _, rfl, .rfl, ?_⟩ | refine ⟨_, _, rfl, .any, ?_⟩ | refine ⟨_, _, rfl, .nil, ?_⟩ | refine ⟨_, _, rfl, .int (by first | rfl | omega | (simp only [wrs]; omega)), ?_⟩ | refine ⟨?_, ?_⟩))
        · skip
          repeat (first | exact LeFr.nil | ((conv => whnf); first | exact True.intro | refine ⟨.rfl, ?_⟩ | refine ⟨_, _, rfl, rfl, ?_, ?_⟩))
  · skip
    rw [hq] at hR
    subst hR
    conv => whnf
    refine InlG.mk (by kernel_rfl) Try.func38 rfl (Nat.le_of_ble_eq_true rfl) (XT.of tabX_ok ?_)
    conv => whnf
    refine InlG.mk (by kernel_rfl) Try.func44 rfl (Nat.le_of_ble_eq_true rfl) (XT.of tabX_ok ?_)
    conv => whnf
    refine .ct ?_
    conv => whnf
    refine CallG.mk (check_t (by assumption) _ _ _ ho) rfl ?_
    conv => whnf
    refine RegG.par 7 (by kernel_rfl) ?_
    conv => whnf
    refine .cl (nl_sl _ _) clone_slot rfl (sl_len _ _) (sl_one _ _) (by simp only [List.length_map]; omega) ?_
    conv => whnf
    refine .cl (nl_df _) clone_deaf rfl (df_len _) (df_one _) (by simp only [List.length_map]; omega) ?_
    conv => whnf
    refine XT.loop tabX_ok (Y := Nat) [7, 17, 24, 26, 27, 28, 29, 30, 31, 32, 33, 34, 35, 36, 37, 38, 39, 40, 41, 42, 43] (fun k => [(26, .p (.v (.int .i64 ((k : Int)))) (nlv _))]) (fun k => [(7, .cells 25 [.row 9, .p (.v (.int .i64 n.l)) (nlv _), .row 10]), (9, .row 65 4 (mixS n.s k) (nl_mix _ _))]) (fun k => k ≤ n.s.length) (fun k => n.s.length - k) 0 (Nat.zero_le _) ?_ ?_
    · skip
      refine ⟨?_, ?_, ?_⟩
      · skip
        repeat ((conv => whnf); first | exact True.intro | refine ⟨.rfl, ?_⟩ | refine ⟨.any, ?_⟩ | refine ⟨.nil, ?_⟩ | refine ⟨.int (by first | rfl | omega | (simp only [wrs]; omega)), ?_⟩)
      · skip
        repeat (first | exact LeVs.nil | ((conv => whnf); first | exact True.intro | exact .none | exact .row rfl | exact .row (mix_0 _) | exact .row ((mix_0 _).symm) | exact .row (mix_set hy) | exact .row ((mix_set hy).symm) | refine .cells ?_ | refine ⟨_, _, rfl, .rfl, ?_⟩ | refine ⟨_, _, rfl, .any, ?_⟩ | refine ⟨_, _, rfl, .nil, ?_⟩ | refine ⟨_, _, rfl, .int (by first | rfl | omega | (simp only [wrs]; omega)), ?_⟩ | refine ⟨?_, ?_⟩))
      · skip
        repeat (first | exact LeFr.nil | ((conv => whnf); first | exact True.intro | refine ⟨.rfl, ?_⟩ | refine ⟨_, _, rfl, rfl, ?_, ?_⟩))
    · skip
      rintro k hk
      conv => whnf
      cases hc3 : (decide ((↑k : Int) < (↑(List.map (slC false) n.s).length : Int)))
      · skip
        try simp only [bls] at hc3
        conv => whnf
        refine InlG.mk (by kernel_rfl) Try.func62 rfl (Nat.le_of_ble_eq_true rfl) (XT.of tabX_ok ?_)
        conv => whnf
        refine .ct ?_
        conv => whnf
        refine CallG.mk (packet0_X _ _ _) rfl ?_
        conv => whnf
        refine bF (by simp [hp]) ?_
        conv => whnf
        refine RegG.par 11 (by kernel_rfl) ?_
        conv => whnf
        refine CallG.mk (binD_X _ _ (_, _) (right_D (by assumption)) (by assumption)) rfl ?_
        conv => whnf
        refine .inl ?_
        conv => whnf
        refine InlG.mk (by kernel_rfl) Try.func39 rfl (Nat.le_of_ble_eq_true rfl) (XT.of tabX_ok ?_)
        conv => whnf
        refine bF (by simp [hm]) ?_
        conv => whnf
        refine RegG.perm [1,2,3,4,5,6,7,8,0,9,10,11] (by kernel_rfl) ?_
        refine RegG.wr 7 3 17 10 (by kernel_rfl) rfl rfl ?_
        conv => whnf
        refine ⟨_, RowOp.ins insC_deaf (by kernel_rfl) rfl rfl rfl rfl rfl rfl rfl rfl rfl (by rw [List.length_map]; exact posD_le _ _) (by rw [List.length_map]; omega) (df_one _) rfl (els' := (n.d.take (posD n.d (dk (f, t))) ++ [(f, t)] ++ n.d.drop (posD n.d (dk (f, t)))).map dfC) (by simp [dfC, List.map_append, List.map_take, List.map_drop]) (nl_df _), ?_⟩
        conv => whnf
        refine ⟨.inr rfl, ?_⟩
        conv => whnf
        refine ⟨.inr rfl, ?_⟩
        conv => whnf
        refine ⟨.inr rfl, ?_⟩
        conv => whnf
        refine ⟨.inr rfl, ?_⟩
        conv => whnf
        refine FinG.mk none ?_ (by rintro _ ⟨⟩)
        simp only [outs, List.length_map, List.length_append, List.length_take, List.length_drop, List.length_cons, List.length_nil, slC, dfC, netX, net0, List.map_nil, mix_len]
        rw [mix_all (by omega)]
        exact ⟨⟨⟨_, _, rfl⟩, fr_sl _, by simp⟩, ⟨_, _, rfl⟩, fr_df _, by simp⟩
      · skip
        try simp only [bls] at hc3
        conv => whnf
        refine RegG.par 14 (by kernel_rfl) ?_
        conv => whnf
        refine ⟨_, rfl, ?_⟩
        conv => whnf
        refine ⟨by simp [List.length_map, List.length_append, List.length_take, List.length_drop, List.length_cons, List.length_nil, slC, dfC, netX, net0, List.map_nil, mix_len]; omega, ?_⟩
        conv => whnf
        obtain ⟨y, hy⟩ : ∃ y, n.s[k]? = some y := ⟨_, List.getElem?_eq_getElem (by omega)⟩; have hyn := (ho.s y (List.mem_of_getElem? hy)).n; refine IdxG.mk (mix_at hy) rfl ?_
        conv => whnf
        refine .cl (nl_by1 _) clone_byte rfl (by_len _) (by_one _) (by simp only [List.length_map]; omega) ?_
        conv => whnf
        refine ⟨_, rfl, ?_⟩
        conv => whnf
        refine ⟨by simp [List.length_map, List.length_append, List.length_take, List.length_drop, List.length_cons, List.length_nil, slC, dfC, netX, net0, List.map_nil, mix_len]; omega, ?_⟩
        conv => whnf
        refine IdxG.mk (mix_at hy) rfl ?_
        conv => whnf
        refine ⟨rfl, ?_⟩
        conv => whnf
        refine ⟨(k + 1), (by omega), (by omega), ?_⟩
        refine ⟨?_, ?_, ?_⟩
        · skip
          repeat ((conv => whnf); first | exact True.intro | refine ⟨.rfl, ?_⟩ | refine ⟨.any, ?_⟩ | refine ⟨.nil, ?_⟩ | refine ⟨.int (by first | rfl | omega | (simp only [wrs]; omega)), ?_⟩)
        · skip
          repeat (first | exact LeVs.nil | ((conv => whnf); first | exact True.intro | exact .none | exact .row rfl | exact .row (mix_0 _) | exact .row ((mix_0 _).symm) | exact .row (mix_set hy) | exact .row ((mix_set hy).symm) | refine .cells ?_ | refine ⟨_, _, rfl, .rfl, ?_⟩ | refine ⟨_, _, rfl, .any, ?_⟩ | refine ⟨_, _, rfl, .nil, ?_⟩ | refine ⟨_, _, rfl, .int (by first | rfl | omega | (simp only [wrs]; omega)), ?_⟩ | refine ⟨?_, ?_⟩))
        · skip
          repeat (first | exact LeFr.nil | ((conv => whnf); first | exact True.intro | refine ⟨.rfl, ?_⟩ | refine ⟨_, _, rfl, rfl, ?_, ?_⟩))
set_option maxHeartbeats 4000000 in
set_option maxRecDepth 20000 in
theorem mend_X (b c e : Bool) (n : NetA) (f t : Int) (ho : n.Ok) (R : NetA × Int) (hR : R = mendN n f t) : XMeets Try.prog 13 [netT b c e n, .v (.int .i64 f), .v (.int .i64 t)] (.tu [netX R.1, .p (.v (.int .i64 (R.2))) (nlv _)]) := by
  refine XMeets.of_X tabX_ok (avs := [.ag [.p (.sl false (n.s.map (slC false))) (nl_sl _ _).sl, .p (.v (.int .i64 n.l)) (nlv _), .p (.sl false (n.d.map dfC)) (nl_df _).sl], .p (.v (.int .i64 f)) (nlv _), .p (.v (.int .i64 t)) (nlv _)]) [(0, .ag [.p (.sl false (n.s.map (slC false))) (nl_sl _ _).sl, .p (.v (.int .i64 n.l)) (nlv _), .p (.sl false (n.d.map dfC)) (nl_df _).sl]), (1, .p (.v (.int .i64 f)) (nlv _)), (2, .p (.v (.int .i64 t)) (nlv _))] (by kernel_rfl) Try.func13 rfl (by simp [PuL, Pu, netT, slC, dfC, pu_by1, pu_sl, pu_df]) (by simp only [untagL, untag, netT, untag_by1, untag_sl, untag_df]; rfl) rfl rfl ?_
  intro B w0
  have hsn := ho.sn
  have hdn := ho.dn
  rcases mend_cases n f t with ⟨hr, hq⟩ | ⟨hr, hp, hq⟩ | ⟨hr, hp, hm, hq⟩ | ⟨hr, hp, hm, hq⟩
  · skip
    rw [hq] at hR
    subst hR
    conv => whnf
    refine .inl ?_
    conv => whnf
    refine InlG.mk (by kernel_rfl) Try.func38 rfl (Nat.le_of_ble_eq_true rfl) (XT.of tabX_ok ?_)
    conv => whnf
    refine InlG.mk (by kernel_rfl) Try.func44 rfl (Nat.le_of_ble_eq_true rfl) (XT.of tabX_ok ?_)
    conv => whnf
    refine .ct ?_
    conv => whnf
    refine CallG.mk (check_f (by assumption) _ _ _ ho) rfl ?_
    conv => whnf
    refine ⟨.inr rfl, ?_⟩
    conv => whnf
    refine ⟨.inr rfl, ?_⟩
    conv => whnf
    refine FinG.mk none ?_ (by rintro _ ⟨⟩)
    simp only [outs, List.length_map, List.length_append, List.length_take, List.length_drop, List.length_cons, List.length_nil, slC, dfC, netX, net0, List.map_nil, mix_len]
  · skip
    rw [hq] at hR
    subst hR
    conv => whnf
    refine .inl ?_
    conv => whnf
    refine InlG.mk (by kernel_rfl) Try.func38 rfl (Nat.le_of_ble_eq_true rfl) (XT.of tabX_ok ?_)
    conv => whnf
    refine InlG.mk (by kernel_rfl) Try.func44 rfl (Nat.le_of_ble_eq_true rfl) (XT.of tabX_ok ?_)
    conv => whnf
    refine .ct ?_
    conv => whnf
    refine CallG.mk (check_t (by assumption) _ _ _ ho) rfl ?_
    conv => whnf
    refine RegG.par 7 (by kernel_rfl) ?_
    conv => whnf
    refine .cl (nl_sl _ _) clone_slot rfl (sl_len _ _) (sl_one _ _) (by simp only [List.length_map]; omega) ?_
    conv => whnf
    refine .cl (nl_df _) clone_deaf rfl (df_len _) (df_one _) (by simp only [List.length_map]; omega) ?_
    conv => whnf
    refine XT.loop tabX_ok (Y := Nat) [7, 17, 24, 26, 27, 28, 29, 30, 31, 32, 33, 34, 35, 36, 37, 38, 39, 40, 41, 42, 43] (fun k => [(26, .p (.v (.int .i64 ((k : Int)))) (nlv _))]) (fun k => [(6, .cells 25 [.row 8, .p (.v (.int .i64 n.l)) (nlv _), .row 9]), (8, .row 65 4 (mixS n.s k) (nl_mix _ _))]) (fun k => k ≤ n.s.length) (fun k => n.s.length - k) 0 (Nat.zero_le _) ?_ ?_
    · skip
      refine ⟨?_, ?_, ?_⟩
      · skip
        repeat ((conv => whnf); first | exact True.intro | refine ⟨.rfl, ?_⟩ | refine ⟨.any, ?_⟩ | refine ⟨.nil, ?_⟩ | refine ⟨.int (by first | rfl | omega | (simp only [wrs]; omega)), ?_⟩)
      · skip
        repeat (first | exact LeVs.nil | ((conv => whnf); first | exact True.intro | exact .none | exact .row rfl | exact .row (mix_0 _) | exact .row ((mix_0 _).symm) | exact .row (mix_set hy) | exact .row ((mix_set hy).symm) | refine .cells ?_ | refine ⟨_, _, rfl, .rfl, ?_⟩ | refine ⟨_, _, rfl, .any, ?_⟩ | refine ⟨_, _, rfl, .nil, ?_⟩ | refine ⟨_, _, rfl, .int (by first | rfl | omega | (simp only [wrs]; omega)), ?_⟩ | refine ⟨?_, ?_⟩))
      · skip
        repeat (first | exact LeFr.nil | ((conv => whnf); first | exact True.intro | refine ⟨.rfl, ?_⟩ | refine ⟨_, _, rfl, rfl, ?_, ?_⟩))
    · skip
      rintro k hk
      conv => whnf
      cases hc1 : (decide ((↑k : Int) < (↑(List.map (slC false) n.s).length : Int)))
      · skip
        try simp only [bls] at hc1
        conv => whnf
        refine .inl ?_
        conv => whnf
        refine InlG.mk (by kernel_rfl) Try.func62 rfl (Nat.le_of_ble_eq_true rfl) (XT.of tabX_ok ?_)
        conv => whnf
        refine .ct ?_
        conv => whnf
        refine CallG.mk (packet0_X _ _ _) rfl ?_
        conv => whnf
        refine bT (by simp [hp]) ?_
        conv => whnf
        refine ⟨.inr rfl, ?_⟩
        conv => whnf
        refine ⟨.inr rfl, ?_⟩
        conv => whnf
        refine ⟨.inr rfl, ?_⟩
        conv => whnf
        refine FinG.mk none ?_ (by rintro _ ⟨⟩)
        simp only [outs, List.length_map, List.length_append, List.length_take, List.length_drop, List.length_cons, List.length_nil, slC, dfC, netX, net0, List.map_nil, mix_len]
      · skip
        try simp only [bls] at hc1
        conv => whnf
        refine RegG.par 14 (by kernel_rfl) ?_
        conv => whnf
        refine ⟨_, rfl, ?_⟩
        conv => whnf
        refine ⟨by simp [List.length_map, List.length_append, List.length_take, List.length_drop, List.length_cons, List.length_nil, slC, dfC, netX, net0, List.map_nil, mix_len]; omega, ?_⟩
        conv => whnf
        obtain ⟨y, hy⟩ : ∃ y, n.s[k]? = some y := ⟨_, List.getElem?_eq_getElem (by omega)⟩; have hyn := (ho.s y (List.mem_of_getElem? hy)).n; refine IdxG.mk (mix_at hy) rfl ?_
        conv => whnf
        refine .cl (nl_by1 _) clone_byte rfl (by_len _) (by_one _) (by simp only [List.length_map]; omega) ?_
        conv => whnf
        refine ⟨_, rfl, ?_⟩
        conv => whnf
        refine ⟨by simp [List.length_map, List.length_append, List.length_take, List.length_drop, List.length_cons, List.length_nil, slC, dfC, netX, net0, List.map_nil, mix_len]; omega, ?_⟩
        conv => whnf
        refine IdxG.mk (mix_at hy) rfl ?_
        conv => whnf
        refine ⟨rfl, ?_⟩
        conv => whnf
        refine ⟨(k + 1), (by omega), (by omega), ?_⟩
        refine ⟨?_, ?_, ?_⟩
        · skip
          repeat ((conv => whnf); first | exact True.intro | refine ⟨.rfl, ?_⟩ | refine ⟨.any, ?_⟩ | refine ⟨.nil, ?_⟩ | refine ⟨.int (by first | rfl | omega | (simp only [wrs]; omega)), ?_⟩)
        · skip
          repeat (first | exact LeVs.nil | ((conv => whnf); first | exact True.intro | exact .none | exact .row rfl | exact .row (mix_0 _) | exact .row ((mix_0 _).symm) | exact .row (mix_set hy) | exact .row ((mix_set hy).symm) | refine .cells ?_ | refine ⟨_, _, rfl, .rfl, ?_⟩ | refine ⟨_, _, rfl, .any, ?_⟩ | refine ⟨_, _, rfl, .nil, ?_⟩ | refine ⟨_, _, rfl, .int (by first | rfl | omega | (simp only [wrs]; omega)), ?_⟩ | refine ⟨?_, ?_⟩))
        · skip
          repeat (first | exact LeFr.nil | ((conv => whnf); first | exact True.intro | refine ⟨.rfl, ?_⟩ | refine ⟨_, _, rfl, rfl, ?_, ?_⟩))
  · skip
    rw [hq] at hR
    subst hR
    conv => whnf
    refine .inl ?_
    conv => whnf
    refine InlG.mk (by kernel_rfl) Try.func38 rfl (Nat.le_of_ble_eq_true rfl) (XT.of tabX_ok ?_)
    conv => whnf
    refine InlG.mk (by kernel_rfl) Try.func44 rfl (Nat.le_of_ble_eq_true rfl) (XT.of tabX_ok ?_)
    conv => whnf
    refine .ct ?_
    conv => whnf
    refine CallG.mk (check_t (by assumption) _ _ _ ho) rfl ?_
    conv => whnf
    refine RegG.par 7 (by kernel_rfl) ?_
    conv => whnf
    refine .cl (nl_sl _ _) clone_slot rfl (sl_len _ _) (sl_one _ _) (by simp only [List.length_map]; omega) ?_
    conv => whnf
    refine .cl (nl_df _) clone_deaf rfl (df_len _) (df_one _) (by simp only [List.length_map]; omega) ?_
    conv => whnf
    refine XT.loop tabX_ok (Y := Nat) [7, 17, 24, 26, 27, 28, 29, 30, 31, 32, 33, 34, 35, 36, 37, 38, 39, 40, 41, 42, 43] (fun k => [(26, .p (.v (.int .i64 ((k : Int)))) (nlv _))]) (fun k => [(6, .cells 25 [.row 8, .p (.v (.int .i64 n.l)) (nlv _), .row 9]), (8, .row 65 4 (mixS n.s k) (nl_mix _ _))]) (fun k => k ≤ n.s.length) (fun k => n.s.length - k) 0 (Nat.zero_le _) ?_ ?_
    · skip
      refine ⟨?_, ?_, ?_⟩
      · skip
        repeat ((conv => whnf); first | exact True.intro | refine ⟨.rfl, ?_⟩ | refine ⟨.any, ?_⟩ | refine ⟨.nil, ?_⟩ | refine ⟨.int (by first | rfl | omega | (simp only [wrs]; omega)), ?_⟩)
      · skip
        repeat (first | exact LeVs.nil | ((conv => whnf); first | exact True.intro | exact .none | exact .row rfl | exact .row (mix_0 _) | exact .row ((mix_0 _).symm) | exact .row (mix_set hy) | exact .row ((mix_set hy).symm) | refine .cells ?_ | refine ⟨_, _, rfl, .rfl, ?_⟩ | refine ⟨_, _, rfl, .any, ?_⟩ | refine ⟨_, _, rfl, .nil, ?_⟩ | refine ⟨_, _, rfl, .int (by first | rfl | omega | (simp only [wrs]; omega)), ?_⟩ | refine ⟨?_, ?_⟩))
      · skip
        repeat (first | exact LeFr.nil | ((conv => whnf); first | exact True.intro | refine ⟨.rfl, ?_⟩ | refine ⟨_, _, rfl, rfl, ?_, ?_⟩))
    · skip
      rintro k hk
      conv => whnf
      cases hc2 : (decide ((↑k : Int) < (↑(List.map (slC false) n.s).length : Int)))
      · skip
        try simp only [bls] at hc2
        conv => whnf
        refine .inl ?_
        conv => whnf
        refine InlG.mk (by kernel_rfl) Try.func62 rfl (Nat.le_of_ble_eq_true rfl) (XT.of tabX_ok ?_)
        conv => whnf
        refine .ct ?_
        conv => whnf
        refine CallG.mk (packet0_X _ _ _) rfl ?_
        conv => whnf
        refine bF (by simp [hp]) ?_
        conv => whnf
        refine RegG.par 11 (by kernel_rfl) ?_
        conv => whnf
        refine CallG.mk (binD_X _ _ (_, _) (right_D (by assumption)) (by assumption)) rfl ?_
        conv => whnf
        refine .inl ?_
        conv => whnf
        refine InlG.mk (by kernel_rfl) Try.func41 rfl (Nat.le_of_ble_eq_true rfl) (XT.of tabX_ok ?_)
        conv => whnf
        refine bF (by simp [hm]) ?_
        conv => whnf
        refine .wr (WCall.del delC_deaf (by kernel_rfl) (by have h8 := posD_lt (right_D hr) hm; have h9 := (right_D hr).n; rw [IntKind.wrap_i64]; omega) rfl (by rw [List.length_map]; exact posD_lt (right_D hr) hm) (by rw [List.length_map]; omega) (df_one _) (els' := (n.d.take (posD n.d (dk (f, t))) ++ n.d.drop (posD n.d (dk (f, t)) + 1)).map dfC) (by simp [dfC, List.map_append, List.map_take, List.map_drop]) (nl_df _) ?_)
        conv => whnf
        refine ⟨.inr rfl, ?_⟩
        conv => whnf
        refine ⟨.inr rfl, ?_⟩
        conv => whnf
        refine ⟨.inr rfl, ?_⟩
        conv => whnf
        refine ⟨.inr rfl, ?_⟩
        conv => whnf
        refine FinG.mk none ?_ (by rintro _ ⟨⟩)
        simp only [outs, List.length_map, List.length_append, List.length_take, List.length_drop, List.length_cons, List.length_nil, slC, dfC, netX, net0, List.map_nil, mix_len]
        rw [mix_all (by omega)]
        exact ⟨⟨⟨_, _, rfl⟩, fr_sl _, by simp⟩, ⟨_, _, rfl⟩, fr_df _, by simp⟩
      · skip
        try simp only [bls] at hc2
        conv => whnf
        refine RegG.par 14 (by kernel_rfl) ?_
        conv => whnf
        refine ⟨_, rfl, ?_⟩
        conv => whnf
        refine ⟨by simp [List.length_map, List.length_append, List.length_take, List.length_drop, List.length_cons, List.length_nil, slC, dfC, netX, net0, List.map_nil, mix_len]; omega, ?_⟩
        conv => whnf
        obtain ⟨y, hy⟩ : ∃ y, n.s[k]? = some y := ⟨_, List.getElem?_eq_getElem (by omega)⟩; have hyn := (ho.s y (List.mem_of_getElem? hy)).n; refine IdxG.mk (mix_at hy) rfl ?_
        conv => whnf
        refine .cl (nl_by1 _) clone_byte rfl (by_len _) (by_one _) (by simp only [List.length_map]; omega) ?_
        conv => whnf
        refine ⟨_, rfl, ?_⟩
        conv => whnf
        refine ⟨by simp [List.length_map, List.length_append, List.length_take, List.length_drop, List.length_cons, List.length_nil, slC, dfC, netX, net0, List.map_nil, mix_len]; omega, ?_⟩
        conv => whnf
        refine IdxG.mk (mix_at hy) rfl ?_
        conv => whnf
        refine ⟨rfl, ?_⟩
        conv => whnf
        refine ⟨(k + 1), (by omega), (by omega), ?_⟩
        refine ⟨?_, ?_, ?_⟩
        · skip
          repeat ((conv => whnf); first | exact True.intro | refine ⟨.rfl, ?_⟩ | refine ⟨.any, ?_⟩ | refine ⟨.nil, ?_⟩ | refine ⟨.int (by first | rfl | omega | (simp only [wrs]; omega)), ?_⟩)
        · skip
          repeat (first | exact LeVs.nil | ((conv => whnf); first | exact True.intro | exact .none | exact .row rfl | exact .row (mix_0 _) | exact .row ((mix_0 _).symm) | exact .row (mix_set hy) | exact .row ((mix_set hy).symm) | refine .cells ?_ | refine ⟨_, _, rfl, .rfl, ?_⟩ | refine ⟨_, _, rfl, .any, ?_⟩ | refine ⟨_, _, rfl, .nil, ?_⟩ | refine ⟨_, _, rfl, .int (by first | rfl | omega | (simp only [wrs]; omega)), ?_⟩ | refine ⟨?_, ?_⟩))
        · skip
          repeat (first | exact LeFr.nil | ((conv => whnf); first | exact True.intro | refine ⟨.rfl, ?_⟩ | refine ⟨_, _, rfl, rfl, ?_, ?_⟩))
  · skip
    rw [hq] at hR
    subst hR
    conv => whnf
    refine .inl ?_
    conv => whnf
    refine InlG.mk (by kernel_rfl) Try.func38 rfl (Nat.le_of_ble_eq_true rfl) (XT.of tabX_ok ?_)
    conv => whnf
    refine InlG.mk (by kernel_rfl) Try.func44 rfl (Nat.le_of_ble_eq_true rfl) (XT.of tabX_ok ?_)
    conv => whnf
    refine .ct ?_
    conv => whnf
    refine CallG.mk (check_t (by assumption) _ _ _ ho) rfl ?_
    conv => whnf
    refine RegG.par 7 (by kernel_rfl) ?_
    conv => whnf
    refine .cl (nl_sl _ _) clone_slot rfl (sl_len _ _) (sl_one _ _) (by simp only [List.length_map]; omega) ?_
    conv => whnf
    refine .cl (nl_df _) clone_deaf rfl (df_len _) (df_one _) (by simp only [List.length_map]; omega) ?_
    conv => whnf
    refine XT.loop tabX_ok (Y := Nat) [7, 17, 24, 26, 27, 28, 29, 30, 31, 32, 33, 34, 35, 36, 37, 38, 39, 40, 41, 42, 43] (fun k => [(26, .p (.v (.int .i64 ((k : Int)))) (nlv _))]) (fun k => [(6, .cells 25 [.row 8, .p (.v (.int .i64 n.l)) (nlv _), .row 9]), (8, .row 65 4 (mixS n.s k) (nl_mix _ _))]) (fun k => k ≤ n.s.length) (fun k => n.s.length - k) 0 (Nat.zero_le _) ?_ ?_
    · skip
      refine ⟨?_, ?_, ?_⟩
      · skip
        repeat ((conv => whnf); first | exact True.intro | refine ⟨.rfl, ?_⟩ | refine ⟨.any, ?_⟩ | refine ⟨.nil, ?_⟩ | refine ⟨.int (by first | rfl | omega | (simp only [wrs]; omega)), ?_⟩)
      · skip
        repeat (first | exact LeVs.nil | ((conv => whnf); first | exact True.intro | exact .none | exact .row rfl | exact .row (mix_0 _) | exact .row ((mix_0 _).symm) | exact .row (mix_set hy) | exact .row ((mix_set hy).symm) | refine .cells ?_ | refine ⟨_, _, rfl, .rfl, ?_⟩ | refine ⟨_, _, rfl, .any, ?_⟩ | refine ⟨_, _, rfl, .nil, ?_⟩ | refine ⟨_, _, rfl, .int (by first | rfl | omega | (simp only [wrs]; omega)), ?_⟩ | refine ⟨?_, ?_⟩))
      · skip
        repeat (first | exact LeFr.nil | ((conv => whnf); first | exact True.intro | refine ⟨.rfl, ?_⟩ | refine ⟨_, _, rfl, rfl, ?_, ?_⟩))
    · skip
      rintro k hk
      conv => whnf
      cases hc3 : (decide ((↑k : Int) < (↑(List.map (slC false) n.s).length : Int)))
      · skip
        try simp only [bls] at hc3
        conv => whnf
        refine .inl ?_
        conv => whnf
        refine InlG.mk (by kernel_rfl) Try.func62 rfl (Nat.le_of_ble_eq_true rfl) (XT.of tabX_ok ?_)
        conv => whnf
        refine .ct ?_
        conv => whnf
        refine CallG.mk (packet0_X _ _ _) rfl ?_
        conv => whnf
        refine bF (by simp [hp]) ?_
        conv => whnf
        refine RegG.par 11 (by kernel_rfl) ?_
        conv => whnf
        refine CallG.mk (binD_X _ _ (_, _) (right_D (by assumption)) (by assumption)) rfl ?_
        conv => whnf
        refine .inl ?_
        conv => whnf
        refine InlG.mk (by kernel_rfl) Try.func41 rfl (Nat.le_of_ble_eq_true rfl) (XT.of tabX_ok ?_)
        conv => whnf
        refine bT (by simp [hm]) ?_
        conv => whnf
        refine ⟨.inr rfl, ?_⟩
        conv => whnf
        refine ⟨.inr rfl, ?_⟩
        conv => whnf
        refine ⟨.inr rfl, ?_⟩
        conv => whnf
        refine ⟨.inr rfl, ?_⟩
        conv => whnf
        refine FinG.mk none ?_ (by rintro _ ⟨⟩)
        simp only [outs, List.length_map, List.length_append, List.length_take, List.length_drop, List.length_cons, List.length_nil, slC, dfC, netX, net0, List.map_nil, mix_len]
      · skip
        try simp only [bls] at hc3
        conv => whnf
        refine RegG.par 14 (by kernel_rfl) ?_
        conv => whnf
        refine ⟨_, rfl, ?_⟩
        conv => whnf
        refine ⟨by simp [List.length_map, List.length_append, List.length_take, List.length_drop, List.length_cons, List.length_nil, slC, dfC, netX, net0, List.map_nil, mix_len]; omega, ?_⟩
        conv => whnf
        obtain ⟨y, hy⟩ : ∃ y, n.s[k]? = some y := ⟨_, List.getElem?_eq_getElem (by omega)⟩; have hyn := (ho.s y (List.mem_of_getElem? hy)).n; refine IdxG.mk (mix_at hy) rfl ?_
        conv => whnf
        refine .cl (nl_by1 _) clone_byte rfl (by_len _) (by_one _) (by simp only [List.length_map]; omega) ?_
        conv => whnf
        refine ⟨_, rfl, ?_⟩
        conv => whnf
        refine ⟨by simp [List.length_map, List.length_append, List.length_take, List.length_drop, List.length_cons, List.length_nil, slC, dfC, netX, net0, List.map_nil, mix_len]; omega, ?_⟩
        conv => whnf
        refine IdxG.mk (mix_at hy) rfl ?_
        conv => whnf
        refine ⟨rfl, ?_⟩
        conv => whnf
        refine ⟨(k + 1), (by omega), (by omega), ?_⟩
        refine ⟨?_, ?_, ?_⟩
        · skip
          repeat ((conv => whnf); first | exact True.intro | refine ⟨.rfl, ?_⟩ | refine ⟨.any, ?_⟩ | refine ⟨.nil, ?_⟩ | refine ⟨.int (by first | rfl | omega | (simp only [wrs]; omega)), ?_⟩)
        · skip
          repeat (first | exact LeVs.nil | ((conv => whnf); first | exact True.intro | exact .none | exact .row rfl | exact .row (mix_0 _) | exact .row ((mix_0 _).symm) | exact .row (mix_set hy) | exact .row ((mix_set hy).symm) | refine .cells ?_ | refine ⟨_, _, rfl, .rfl, ?_⟩ | refine ⟨_, _, rfl, .any, ?_⟩ | refine ⟨_, _, rfl, .nil, ?_⟩ | refine ⟨_, _, rfl, .int (by first | rfl | omega | (simp only [wrs]; omega)), ?_⟩ | refine ⟨?_, ?_⟩))
        · skip
          repeat (first | exact LeFr.nil | ((conv => whnf); first | exact True.intro | refine ⟨.rfl, ?_⟩ | refine ⟨_, _, rfl, rfl, ?_, ?_⟩))
end Go.Proofs.Ytmhmldpccccjbaa
