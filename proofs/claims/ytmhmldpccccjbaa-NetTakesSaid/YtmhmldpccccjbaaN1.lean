/- What the net asks of packets and places. No condition. -/
import Derived.Test.YtmhmldpccccjbaaNB
namespace Go.Proofs.Ytmhmldpccccjbaa
open Go.RowKit
set_option linter.unusedVariables false
set_option linter.unusedSimpArgs false
set_option maxRecDepth 20000
set_option maxRecDepth 20000 in
theorem isNaN_X (a : Int) : XMeets Try.prog 82 [.v (.int .i64 a)] (.p (.v (.bool (false))) (nlv _)) := by
  refine XMeets.of_X tabX_ok (avs := [.p (.v (.int .i64 a)) (nlv _)]) [(0, .p (.v (.int .i64 a)) (nlv _))] (by kernel_rfl) Try.func82 rfl (by simp [PuL, Pu]) (rfl) rfl rfl ?_
  intro B w0
  conv => whnf
  refine FinG.mk none ?_ (by rintro _ ⟨⟩)
  simp only [outs, List.length_map, List.length_append, List.length_take, List.length_drop, List.length_cons, List.length_nil, slC, dfC]
  simp; done
set_option maxRecDepth 20000 in
theorem cmp_X (a b : Int) : XMeets Try.prog 71 [.v (.int .i64 a), .v (.int .i64 b)] (.p (.v (.int .i64 (cmpN a b))) (nlv _)) := by
  refine XMeets.of_X tabX_ok (avs := [.p (.v (.int .i64 a)) (nlv _), .p (.v (.int .i64 b)) (nlv _)]) [(0, .p (.v (.int .i64 a)) (nlv _)), (1, .p (.v (.int .i64 b)) (nlv _))] (by kernel_rfl) Try.func71 rfl (by simp [PuL, Pu]) (rfl) rfl rfl ?_
  intro B w0
  conv => whnf
  refine .ct ?_
  conv => whnf
  refine CallG.mk (isNaN_X _) rfl ?_
  conv => whnf
  refine .ct ?_
  conv => whnf
  refine CallG.mk (isNaN_X _) rfl ?_
  conv => whnf
  cases hc1 : (decide (a < b))
  · skip
    try simp only [bls] at hc1
    conv => whnf
    cases hc2 : (decide (b < a))
    · skip
      try simp only [bls] at hc2
      conv => whnf
      refine FinG.mk none ?_ (by rintro _ ⟨⟩)
      simp only [outs, List.length_map, List.length_append, List.length_take, List.length_drop, List.length_cons, List.length_nil, slC, dfC]
      unfold cmpN; split <;> first | rfl | omega | (split <;> first | rfl | omega)
    · skip
      try simp only [bls] at hc2
      conv => whnf
      refine FinG.mk none ?_ (by rintro _ ⟨⟩)
      simp only [outs, List.length_map, List.length_append, List.length_take, List.length_drop, List.length_cons, List.length_nil, slC, dfC]
      unfold cmpN; split <;> first | rfl | omega | (split <;> first | rfl | omega)
  · skip
    try simp only [bls] at hc1
    conv => whnf
    refine FinG.mk none ?_ (by rintro _ ⟨⟩)
    simp only [outs, List.length_map, List.length_append, List.length_take, List.length_drop, List.length_cons, List.length_nil, slC, dfC]
    unfold cmpN; split <;> first | rfl | omega | (split <;> first | rfl | omega)
set_option maxRecDepth 20000 in
theorem node_X (a : Int) : XMeets Try.prog 46 [.v (.int .i64 a)] (.p (.v (.bool (nodeB a))) (nlv _)) := by
  refine XMeets.of_X tabX_ok (avs := [.p (.v (.int .i64 a)) (nlv _)]) [(0, .p (.v (.int .i64 a)) (nlv _))] (by kernel_rfl) Try.func46 rfl (by simp [PuL, Pu]) (rfl) rfl rfl ?_
  intro B w0
  conv => whnf
  cases hc1 : (decide (1 ≤ a))
  · skip
    try simp only [bls] at hc1
    conv => whnf
    refine FinG.mk none ?_ (by rintro _ ⟨⟩)
    simp only [outs, List.length_map, List.length_append, List.length_take, List.length_drop, List.length_cons, List.length_nil, slC, dfC]
    simp [nodeB]; omega
  · skip
    try simp only [bls] at hc1
    conv => whnf
    refine FinG.mk none ?_ (by rintro _ ⟨⟩)
    simp only [outs, List.length_map, List.length_append, List.length_take, List.length_drop, List.length_cons, List.length_nil, slC, dfC]
    simp [nodeB]; omega
set_option maxRecDepth 20000 in
theorem packet_X (c : Bool) (f t : Int) (l : List Int) : XMeets Try.prog 47 [.agg [.v (.int .i64 f), .v (.int .i64 t), .sl c (l.map by1)]] (.p (.v (.bool (pkB f t l.length))) (nlv _)) := by
  refine XMeets.of_X tabX_ok (avs := [.ag [.p (.v (.int .i64 f)) (nlv _), .p (.v (.int .i64 t)) (nlv _), .p (.sl false (l.map by1)) (nl_by1 _).sl]]) [(0, .ag [.p (.v (.int .i64 f)) (nlv _), .p (.v (.int .i64 t)) (nlv _), .p (.sl false (l.map by1)) (nl_by1 _).sl])] (by kernel_rfl) Try.func47 rfl (by simp [PuL, Pu, netT, slC, dfC, pu_by1, pu_sl, pu_df]) (by simp only [untagL, untag, netT, untag_by1, untag_sl, untag_df]; rfl) rfl rfl ?_
  intro B w0
  conv => whnf
  refine .ct ?_
  conv => whnf
  refine CallG.mk (node_X _) rfl ?_
  conv => whnf
  cases hc1 : (nodeB f)
  · skip
    try simp only [bls] at hc1
    conv => whnf
    refine FinG.mk none ?_ (by rintro _ ⟨⟩)
    simp only [outs, List.length_map, List.length_append, List.length_take, List.length_drop, List.length_cons, List.length_nil, slC, dfC]
    simp_all [pkB]
  · skip
    try simp only [bls] at hc1
    conv => whnf
    refine .ct ?_
    conv => whnf
    refine CallG.mk (node_X _) rfl ?_
    conv => whnf
    cases hc2 : (nodeB t)
    · skip
      try simp only [bls] at hc2
      conv => whnf
      refine FinG.mk none ?_ (by rintro _ ⟨⟩)
      simp only [outs, List.length_map, List.length_append, List.length_take, List.length_drop, List.length_cons, List.length_nil, slC, dfC]
      simp_all [pkB]
    · skip
      try simp only [bls] at hc2
      conv => whnf
      cases hc3 : (decide (f = t))
      · skip
        try simp only [bls] at hc3
        conv => whnf
        refine FinG.mk none ?_ (by rintro _ ⟨⟩)
        simp only [outs, List.length_map, List.length_append, List.length_take, List.length_drop, List.length_cons, List.length_nil, slC, dfC]
        simp_all [pkB]; omega
      · skip
        try simp only [bls] at hc3
        conv => whnf
        refine FinG.mk none ?_ (by rintro _ ⟨⟩)
        simp only [outs, List.length_map, List.length_append, List.length_take, List.length_drop, List.length_cons, List.length_nil, slC, dfC]
        simp_all [pkB]
theorem packet0_X (c : Bool) (f t : Int) : XMeets Try.prog 47 [.agg [.v (.int .i64 f), .v (.int .i64 t), .sl c []]] (.p (.v (.bool (pkB f t 0))) (nlv _)) := packet_X c f t []
def two (x y : Int) : List (List TV) := [[.v (.int .i64 x)], [.v (.int .i64 y)]]
theorem two_at {x y : Int} {k : Nat} (h : (k : Int) < (([[.v (.int .i64 x)], [.v (.int .i64 y)]] : List (List TV)).length : Int)) : ([[.v (.int .i64 x)], [.v (.int .i64 y)]] : List (List TV))[k]? = some [.v (.int .i64 (if k = 0 then x else y))] := by
  simp only [List.length_cons, List.length_nil] at h
  rcases (show k = 0 ∨ k = 1 by omega) with rfl | rfl <;> rfl
theorem or_n {x y : Int} {k : Nat} (h : (k : Int) < (([[.v (.int .i64 x)], [.v (.int .i64 y)]] : List (List TV)).length : Int)) (h1 : 0 < k → x = 0) (h2 : 1 < k → y = 0) (h3 : (if k = 0 then x else y) = 0) : (k + 1 ≤ 2 ∧ (0 < k + 1 → x = 0) ∧ (1 < k + 1 → y = 0)) ∧ 2 - (k + 1) < 2 - k := by
  simp only [List.length_cons, List.length_nil] at h
  split at h3
  · subst_vars; exact ⟨⟨by omega, fun _ => rfl, by omega⟩, by omega⟩
  · exact ⟨⟨by omega, fun _ => h1 (by omega), fun _ => h3⟩, by omega⟩
theorem or_e1 {x y : Int} {k : Nat} (h1 : 0 < k → x = 0) (h3 : ¬ (if k = 0 then x else y) = 0) : (if k = 0 then x else y) = (if x = 0 then y else x) := by
  by_cases hk : k = 0
  · rw [if_pos hk] at h3 ⊢; rw [if_neg h3]
  · rw [if_neg hk, if_pos (h1 (by omega))]
set_option maxRecDepth 20000 in
theorem or_X (b : Bool) (x y : Int) : XMeets Try.prog 70 [.sl b [[.v (.int .i64 x)], [.v (.int .i64 y)]]] (.p (.v (.int .i64 (if x = 0 then y else x))) (nlv _)) := by
  refine XMeets.of_X tabX_ok (avs := [.p (.sl false [[.v (.int .i64 x)], [.v (.int .i64 y)]]) (NlLL.cons (.cons (nlv _) .nil) (NlLL.cons (.cons (nlv _) .nil) .nil)).sl]) [(0, .p (.sl false [[.v (.int .i64 x)], [.v (.int .i64 y)]]) (NlLL.cons (.cons (nlv _) .nil) (NlLL.cons (.cons (nlv _) .nil) .nil)).sl)] (by kernel_rfl) Try.func70 rfl (by simp [PuL, Pu, PuLL]) (rfl) rfl rfl ?_
  intro B w0
  conv => whnf
  refine XT.loop tabX_ok (Y := Nat) [5, 8, 9, 10, 11, 12, 13, 14, 15, 16] (fun k => [(8, .p (.v (.int .i64 ((k : Int)))) (nlv _))]) (fun k => []) (fun k => k ≤ 2 ∧ (0 < k → x = 0) ∧ (1 < k → y = 0)) (fun k => 2 - k) 0 ⟨by omega, by omega, by omega⟩ ?_ ?_
  · skip
    refine ⟨?_, ?_, ?_⟩
    · skip
      repeat ((conv => whnf); first | exact True.intro | refine ⟨.rfl, ?_⟩ | refine ⟨.any, ?_⟩ | refine ⟨.nil, ?_⟩ | refine ⟨.int (by first | rfl | omega | (simp only [wrs]; omega)), ?_⟩)
    · skip
      repeat (first | exact LeVs.nil | ((conv => whnf); first | exact True.intro | exact .none | exact .row rfl | refine .cells ?_ | refine ⟨_, _, rfl, .rfl, ?_⟩ | refine ⟨_, _, rfl, .any, ?_⟩ | refine ⟨_, _, rfl, .nil, ?_⟩ | refine ⟨_, _, rfl, .int (by first | rfl | omega | (simp only [wrs]; omega)), ?_⟩ | refine ⟨?_, ?_⟩))
    · skip
      repeat (first | exact LeFr.nil | ((conv => whnf); first | exact True.intro | refine ⟨.rfl, ?_⟩ | refine ⟨_, _, rfl, rfl, ?_, ?_⟩))
  · skip
    rintro k ⟨hk, h1, h2⟩
    conv => whnf
    cases hc1 : (decide ((↑k : Int) < (↑[[TV.v (Value.int IntKind.i64 x)], [TV.v (Value.int IntKind.i64 y)]].length : Int)))
    · skip
      try simp only [bls] at hc1
      conv => whnf
      refine FinG.mk none ?_ (by rintro _ ⟨⟩)
      simp only [outs, List.length_map, List.length_append, List.length_take, List.length_drop, List.length_cons, List.length_nil, slC, dfC]
      and_intros <;> first | rfl | (simp; done) | omega | (simp_all; done) | (simp_all; omega)
    · skip
      try simp only [bls] at hc1
      conv => whnf
      refine IdxG.mk (two_at hc1) rfl ?_
      conv => whnf
      refine ⟨rfl, ?_⟩
      conv => whnf
      cases hc2 : (decide ((if k = 0 then x else y) = 0))
      · skip
        try simp only [bls] at hc2
        conv => whnf
        refine FinG.mk none ?_ (by rintro _ ⟨⟩)
        simp only [outs, List.length_map, List.length_append, List.length_take, List.length_drop, List.length_cons, List.length_nil, slC, dfC]
        rw [← or_e1 h1 hc2]
      · skip
        try simp only [bls] at hc2
        conv => whnf
        refine ⟨(k + 1), (or_n hc1 h1 h2 hc2).1, (or_n hc1 h1 h2 hc2).2, ?_⟩
        refine ⟨?_, ?_, ?_⟩
        · skip
          repeat ((conv => whnf); first | exact True.intro | refine ⟨.rfl, ?_⟩ | refine ⟨.any, ?_⟩ | refine ⟨.nil, ?_⟩ | refine ⟨.int (by first | rfl | omega | (simp only [wrs]; omega)), ?_⟩)
        · skip
          repeat (first | exact LeVs.nil | ((conv => whnf); first | exact True.intro | exact .none | exact .row rfl | refine .cells ?_ | refine ⟨_, _, rfl, .rfl, ?_⟩ | refine ⟨_, _, rfl, .any, ?_⟩ | refine ⟨_, _, rfl, .nil, ?_⟩ | refine ⟨_, _, rfl, .int (by first | rfl | omega | (simp only [wrs]; omega)), ?_⟩ | refine ⟨?_, ?_⟩))
        · skip
          repeat (first | exact LeFr.nil | ((conv => whnf); first | exact True.intro | refine ⟨.rfl, ?_⟩ | refine ⟨_, _, rfl, rfl, ?_, ?_⟩))
set_option maxRecDepth 20000 in
theorem order_X (a b : Int × Int) : XMeets Try.prog 50 [.agg [.v (.int .i64 a.1), .v (.int .i64 a.2)], .agg [.v (.int .i64 b.1), .v (.int .i64 b.2)]] (.p (.v (.int .i64 (ordN a b))) (nlv _)) := by
  refine XMeets.of_X tabX_ok (avs := [.ag [.p (.v (.int .i64 a.1)) (nlv _), .p (.v (.int .i64 a.2)) (nlv _)], .ag [.p (.v (.int .i64 b.1)) (nlv _), .p (.v (.int .i64 b.2)) (nlv _)]]) [(0, .ag [.p (.v (.int .i64 a.1)) (nlv _), .p (.v (.int .i64 a.2)) (nlv _)]), (1, .ag [.p (.v (.int .i64 b.1)) (nlv _), .p (.v (.int .i64 b.2)) (nlv _)])] (by kernel_rfl) Try.func50 rfl (by simp [PuL, Pu, netT, slC, dfC, pu_by1, pu_sl, pu_df]) (by simp only [untagL, untag, netT, untag_by1, untag_sl, untag_df]; rfl) rfl rfl ?_
  intro B w0
  conv => whnf
  refine RegG.par 10 (by kernel_rfl) ?_
  conv => whnf
  refine CallG.mk (cmp_X _ _) rfl ?_
  conv => whnf
  refine CallG.mk (cmp_X _ _) rfl ?_
  conv => whnf
  refine .ct ?_
  conv => whnf
  refine CallG.mk (or_X _ _ _) rfl ?_
  conv => whnf
  refine FinG.mk none ?_ (by rintro _ ⟨⟩)
  simp only [outs, List.length_map, List.length_append, List.length_take, List.length_drop, List.length_cons, List.length_nil, slC, dfC]
  rfl
theorem eqDf_run (x y : Operand) (a b c d : Int) (w : World) : (do eqGuard .eql 77 x y (.agg #[.int .i64 a, .int .i64 b]) (.agg #[.int .i64 c, .int .i64 d]); binOp .eql 77 (.agg #[.int .i64 a, .int .i64 b]) (.agg #[.int .i64 c, .int .i64 d]) : Sem Value).run Try.prog w = .ok (.bool (decide (a = c) && decide (b = d))) w := by
  go_simp
  by_cases h1 : a = c <;> by_cases h2 : b = d <;> simp [h1, h2]
theorem neDf_run (x y : Operand) (a b c d : Int) (w : World) : (do eqGuard .neq 77 x y (.agg #[.int .i64 a, .int .i64 b]) (.agg #[.int .i64 c, .int .i64 d]); binOp .neq 77 (.agg #[.int .i64 a, .int .i64 b]) (.agg #[.int .i64 c, .int .i64 d]) : Sem Value).run Try.prog w = .ok (.bool (!(decide (a = c) && decide (b = d)))) w := by
  go_simp
  by_cases h1 : a = c <;> by_cases h2 : b = d <;> simp [h1, h2]
/-- Where a pair stands in a row; -1: nowhere. -/
def ixD (d : List (Int × Int)) (x : Int × Int) : Int := if x ∈ d then (d.idxOf x : Int) else -1
theorem idxOf_le' {x : Int × Int} : ∀ {d : List (Int × Int)} {k : Nat}, d[k]? = some x → d.idxOf x ≤ k
  | [], k, h => by simp at h
  | a :: d, 0, h => by simp at h; subst h; simp
  | a :: d, k + 1, h => by
    have h1 := idxOf_le' (x := x) (d := d) (k := k) (by simpa using h)
    rw [List.idxOf_cons]
    cases a == x <;> simp <;> omega
theorem ixD_at {d : List (Int × Int)} {x y : Int × Int} {k : Nat} (h : d[k]? = some y) (hq : (decide (x.1 = y.1) && decide (x.2 = y.2)) = true) (hn : ∀ j, j < k → d[j]? ≠ some x) : ixD d x = (k : Int) := by
  simp only [Bool.and_eq_true, decide_eq_true_eq] at hq
  obtain rfl : x = y := Prod.ext hq.1 hq.2
  have hm := List.mem_of_getElem? h
  unfold ixD
  rw [if_pos hm]
  have h1 := List.idxOf_lt_length_of_mem hm
  have h2 : d[d.idxOf x]? = some x := by rw [List.getElem?_eq_getElem h1]; simp
  have h4 := idxOf_le' h
  rcases Nat.eq_or_lt_of_le h4 with h3 | h3
  · rw [h3]
  · exact absurd h2 (hn _ h3)
theorem ixD_no {d : List (Int × Int)} {x : Int × Int} (hn : ∀ j, j < d.length → d[j]? ≠ some x) : ixD d x = -1 := by
  unfold ixD
  rw [if_neg fun hm => ?_]
  obtain ⟨j, hj, he⟩ := List.getElem_of_mem hm
  exact hn j hj (by rw [List.getElem?_eq_getElem hj, he])
theorem ixD_step {d : List (Int × Int)} {x y : Int × Int} {k : Nat} (h : d[k]? = some y) (hq : (decide (x.1 = y.1) && decide (x.2 = y.2)) = false) (hn : ∀ j, j < k → d[j]? ≠ some x) : ∀ j, j < k + 1 → d[j]? ≠ some x := fun j hj e => by
  rcases Nat.lt_or_ge j k with h1 | h1
  · exact hn j h1 e
  · obtain rfl : j = k := by omega
    rw [h] at e
    injection e with e
    subst e
    simp at hq
theorem ixD_mem (d : List (Int × Int)) (x : Int × Int) : decide (0 ≤ ixD d x) = decide (x ∈ d) := by
  unfold ixD
  split
  · rename_i h; simp [h]
  · rename_i h; simp [h]
set_option maxRecDepth 20000 in
theorem index_X (b : Bool) (d : List (Int × Int)) (x : Int × Int) (hd : d.length ≤ 100000) : XMeets Try.prog 77 [.sl b (d.map dfC), .agg [.v (.int .i64 x.1), .v (.int .i64 x.2)]] (.p (.v (.int .i64 (ixD d x))) (nlv _)) := by
  refine XMeets.of_X tabX_ok (avs := [.p (.sl false (d.map dfC)) (nl_df _).sl, .ag [.p (.v (.int .i64 x.1)) (nlv _), .p (.v (.int .i64 x.2)) (nlv _)]]) [(0, .p (.sl false (d.map dfC)) (nl_df _).sl), (1, .ag [.p (.v (.int .i64 x.1)) (nlv _), .p (.v (.int .i64 x.2)) (nlv _)])] (by kernel_rfl) Try.func77 rfl (by simp [PuL, Pu, netT, slC, dfC, pu_by1, pu_sl, pu_df]) (by simp only [untagL, untag, netT, untag_by1, untag_sl, untag_df]; rfl) rfl rfl ?_
  intro B w0
  conv => whnf
  refine XT.loop tabX_ok (Y := Nat) [4, 5, 8, 9, 10, 11, 12, 13, 14, 15, 16, 17, 18] (fun k => [(8, .p (.v (.int .i64 ((k : Int)))) (nlv _))]) (fun k => []) (fun k => k ≤ d.length ∧ ∀ j, j < k → d[j]? ≠ some x) (fun k => d.length - k) 0 ⟨Nat.zero_le _, fun j hj => by omega⟩ ?_ ?_
  · skip
    refine ⟨?_, ?_, ?_⟩
    · skip
      repeat ((conv => whnf); first | exact True.intro | refine ⟨.rfl, ?_⟩ | refine ⟨.any, ?_⟩ | refine ⟨.nil, ?_⟩ | refine ⟨.int (by first | rfl | omega | (simp only [wrs]; omega)), ?_⟩)
    · skip
      repeat (first | exact LeVs.nil | ((conv => whnf); first | exact True.intro | exact .none | exact .row rfl | refine .cells ?_ | refine ⟨_, _, rfl, .rfl, ?_⟩ | refine ⟨_, _, rfl, .any, ?_⟩ | refine ⟨_, _, rfl, .nil, ?_⟩ | refine ⟨_, _, rfl, .int (by first | rfl | omega | (simp only [wrs]; omega)), ?_⟩ | refine ⟨?_, ?_⟩))
    · skip
      repeat (first | exact LeFr.nil | ((conv => whnf); first | exact True.intro | refine ⟨.rfl, ?_⟩ | refine ⟨_, _, rfl, rfl, ?_, ?_⟩))
  · skip
    rintro k ⟨hk, hn⟩
    conv => whnf
    cases hc1 : (decide ((↑k : Int) < (↑(List.map dfC d).length : Int)))
    · skip
      try simp only [bls] at hc1
      conv => whnf
      refine FinG.mk none ?_ (by rintro _ ⟨⟩)
      simp only [outs, List.length_map, List.length_append, List.length_take, List.length_drop, List.length_cons, List.length_nil, slC, dfC]
      rw [ixD_no fun j hj => hn j (by omega)]
    · skip
      try simp only [bls] at hc1
      conv => whnf
      refine RegG.par 6 (by kernel_rfl) ?_
      conv => whnf
      refine IdxG.map _ rfl (by first | omega | (simp only [List.length_map] at *; omega)) ?_; intro y hy hny
      conv => whnf
      refine ⟨rfl, ?_⟩
      conv => whnf
      refine BinG.mk rfl rfl (eqDf_run _ _ _ _ _ _) ?_
      conv => whnf
      cases hc2 : (decide (x.fst = y.fst) && decide (x.snd = y.snd))
      · skip
        try simp only [bls] at hc2
        conv => whnf
        refine ⟨(k + 1), ⟨by omega, ixD_step hy (by assumption) hn⟩, (by omega), ?_⟩
        refine ⟨?_, ?_, ?_⟩
        · skip
          repeat ((conv => whnf); first | exact True.intro | refine ⟨.rfl, ?_⟩ | refine ⟨.any, ?_⟩ | refine ⟨.nil, ?_⟩ | refine ⟨.int (by first | rfl | omega | (simp only [wrs]; omega)), ?_⟩)
        · skip
          repeat (first | exact LeVs.nil | ((conv => whnf); first | exact True.intro | exact .none | exact .row rfl | refine .cells ?_ | refine ⟨_, _, rfl, .rfl, ?_⟩ | refine ⟨_, _, rfl, .any, ?_⟩ | refine ⟨_, _, rfl, .nil, ?_⟩ | refine ⟨_, _, rfl, .int (by first | rfl | omega | (simp only [wrs]; omega)), ?_⟩ | refine ⟨?_, ?_⟩))
        · skip
          repeat (first | exact LeFr.nil | ((conv => whnf); first | exact True.intro | refine ⟨.rfl, ?_⟩ | refine ⟨_, _, rfl, rfl, ?_, ?_⟩))
      · skip
        try simp only [bls] at hc2
        conv => whnf
        refine FinG.mk none ?_ (by rintro _ ⟨⟩)
        simp only [outs, List.length_map, List.length_append, List.length_take, List.length_drop, List.length_cons, List.length_nil, slC, dfC]
        rw [ixD_at hy (by simp [hc2]) hn]
set_option maxRecDepth 20000 in
theorem contains_X (b : Bool) (d : List (Int × Int)) (x : Int × Int) (hd : d.length ≤ 100000) : XMeets Try.prog 67 [.sl b (d.map dfC), .agg [.v (.int .i64 x.1), .v (.int .i64 x.2)]] (.p (.v (.bool (decide (x ∈ d)))) (nlv _)) := by
  refine XMeets.of_X tabX_ok (avs := [.p (.sl false (d.map dfC)) (nl_df _).sl, .ag [.p (.v (.int .i64 x.1)) (nlv _), .p (.v (.int .i64 x.2)) (nlv _)]]) [(0, .p (.sl false (d.map dfC)) (nl_df _).sl), (1, .ag [.p (.v (.int .i64 x.1)) (nlv _), .p (.v (.int .i64 x.2)) (nlv _)])] (by kernel_rfl) Try.func67 rfl (by simp [PuL, Pu, netT, slC, dfC, pu_by1, pu_sl, pu_df]) (by simp only [untagL, untag, netT, untag_by1, untag_sl, untag_df]; rfl) rfl rfl ?_
  intro B w0
  conv => whnf
  refine .ct ?_
  conv => whnf
  refine CallG.mk (index_X _ _ _ (by first | assumption | omega)) rfl ?_
  conv => whnf
  refine FinG.mk none ?_ (by rintro _ ⟨⟩)
  simp only [outs, List.length_map, List.length_append, List.length_take, List.length_drop, List.length_cons, List.length_nil, slC, dfC]
  rw [← ixD_mem]
set_option maxRecDepth 20000 in
theorem hears_X (b c e g : Bool) (n : NetA) (p : Sl) (hd : n.d.length ≤ 100000) : XMeets Try.prog 48 [netT b c e n, .agg [.v (.int .i64 p.f), .v (.int .i64 p.t), .sl g (p.b.map by1)]] (.p (.v (.bool (!decide ((p.f, p.t) ∈ n.d)))) (nlv _)) := by
  refine XMeets.of_X tabX_ok (avs := [.ag [.p (.sl false (n.s.map (slC false))) (nl_sl _ _).sl, .p (.v (.int .i64 n.l)) (nlv _), .p (.sl false (n.d.map dfC)) (nl_df _).sl], .ag [.p (.v (.int .i64 p.f)) (nlv _), .p (.v (.int .i64 p.t)) (nlv _), .p (.sl false (p.b.map by1)) (nl_by1 _).sl]]) [(0, .ag [.p (.sl false (n.s.map (slC false))) (nl_sl _ _).sl, .p (.v (.int .i64 n.l)) (nlv _), .p (.sl false (n.d.map dfC)) (nl_df _).sl]), (1, .ag [.p (.v (.int .i64 p.f)) (nlv _), .p (.v (.int .i64 p.t)) (nlv _), .p (.sl false (p.b.map by1)) (nl_by1 _).sl])] (by kernel_rfl) Try.func48 rfl (by simp [PuL, Pu, netT, slC, dfC, pu_by1, pu_sl, pu_df]) (by simp only [untagL, untag, netT, untag_by1, untag_sl, untag_df]; rfl) rfl rfl ?_
  intro B w0
  conv => whnf
  refine .ct ?_
  conv => whnf
  refine CallG.mk (contains_X _ _ (_, _) (by first | assumption | omega)) rfl ?_
  conv => whnf
  refine FinG.mk none ?_ (by rintro _ ⟨⟩)
  simp only [outs, List.length_map, List.length_append, List.length_take, List.length_drop, List.length_cons, List.length_nil, slC, dfC]
set_option maxRecDepth 20000 in
theorem at1_X (b : Bool) (s : Sl) (x : Int) : XMeets Try.prog 79 [.agg [.v (.int .i64 s.a), .v (.int .i64 s.f), .v (.int .i64 s.t), .sl b (s.b.map by1)], .v (.int .i64 x)] (.p (.v (.int .i64 (IntKind.i64.wrap (s.a - x)))) (nlv _)) := by
  refine XMeets.of_X tabX_ok (avs := [.ag [.p (.v (.int .i64 s.a)) (nlv _), .p (.v (.int .i64 s.f)) (nlv _), .p (.v (.int .i64 s.t)) (nlv _), .p (.sl false (s.b.map by1)) (nl_by1 _).sl], .p (.v (.int .i64 x)) (nlv _)]) [(0, .ag [.p (.v (.int .i64 s.a)) (nlv _), .p (.v (.int .i64 s.f)) (nlv _), .p (.v (.int .i64 s.t)) (nlv _), .p (.sl false (s.b.map by1)) (nl_by1 _).sl]), (1, .p (.v (.int .i64 x)) (nlv _))] (by kernel_rfl) Try.func79 rfl (by simp [PuL, Pu, netT, slC, dfC, pu_by1, pu_sl, pu_df]) (by simp only [untagL, untag, netT, untag_by1, untag_sl, untag_df]; rfl) rfl rfl ?_
  intro B w0
  conv => whnf
  refine FinG.mk none ?_ (by rintro _ ⟨⟩)
  simp only [outs, List.length_map, List.length_append, List.length_take, List.length_drop, List.length_cons, List.length_nil, slC, dfC]
def posS (s : List Sl) (x : Int) : Nat := (s.takeWhile fun y => decide (y.a < x)).length
def hasS (s : List Sl) (x : Int) : Bool := s.any fun y => decide (y.a = x)
def inWay (x : Int) : Prop := 0 ≤ x ∧ x < 80
structure WayS (s : List Sl) : Prop where
  n : s.length ≤ 80
  w : ∀ y ∈ s, inWay y.a
  o : s.Pairwise fun x y => x.a < y.a
theorem pos_is {s : List Sl} {x : Int} {i : Nat} (hi : i ≤ s.length) (h1 : ∀ m y, m < i → s[m]? = some y → y.a < x) (h2 : ∀ m y, i ≤ m → s[m]? = some y → x ≤ y.a) : posS s x = i := by
  induction s generalizing i with
  | nil => simp at hi; subst hi; rfl
  | cons a s ih =>
    unfold posS
    cases i with
    | zero =>
      have := h2 0 a (Nat.le_refl _) rfl
      rw [List.takeWhile_cons_of_neg (by simp; omega)]; rfl
    | succ i =>
      have h3 := h1 0 a (by omega) rfl
      rw [List.takeWhile_cons_of_pos (by simp; omega), List.length_cons]
      have := ih (i := i) (by simpa using hi) (fun m y hm hy => h1 (m + 1) y (by omega) (by simpa using hy)) (fun m y hm hy => h2 (m + 1) y (by omega) (by simpa using hy))
      unfold posS at this
      rw [this]
theorem has_is {s : List Sl} {x : Int} {i : Nat} (ho : s.Pairwise fun x y => x.a < y.a) (h1 : ∀ m y, m < i → s[m]? = some y → y.a < x) (h2 : ∀ m y, i ≤ m → s[m]? = some y → x ≤ y.a) : hasS s x = match s[i]? with | some y => decide (y.a = x) | none => false := by
  cases hi : s[i]? with
  | none =>
    simp only
    unfold hasS
    rw [List.any_eq_false]
    intro y hy
    obtain ⟨m, hm, rfl⟩ := List.getElem_of_mem hy
    have h3 : m < i := by
      rcases Nat.lt_or_ge m i with h | h
      · exact h
      · rw [List.getElem?_eq_none_iff] at hi; omega
    have := h1 m _ h3 (List.getElem?_eq_getElem hm)
    simp; omega
  | some y =>
    simp only
    by_cases hq : y.a = x
    · unfold hasS
      rw [decide_eq_true hq, List.any_eq_true]
      exact ⟨y, List.mem_of_getElem? hi, by simp [hq]⟩
    · rw [decide_eq_false hq]
      unfold hasS
      rw [List.any_eq_false]
      intro z hz
      obtain ⟨m, hm, rfl⟩ := List.getElem_of_mem hz
      have h4 := h2 i y (Nat.le_refl _) hi
      obtain ⟨hil, hie⟩ := List.getElem?_eq_some_iff.1 hi
      rcases Nat.lt_trichotomy m i with h | h | h
      · have := h1 m _ h (List.getElem?_eq_getElem hm); simp; omega
      · subst h; rw [hie]; simpa using hq
      · have := List.pairwise_iff_getElem.1 ho i m hil hm h
        rw [hie] at this
        simp; omega
theorem half_w {i j : Nat} (h : i + j ≤ 1000) : IntKind.i64.wrap ((IntKind.u64.wrap ((i : Int) + (j : Int))).fdiv (2 ^ min (Int.toNat 1) IntKind.u64.bits)) = (((i + j) / 2 : Nat) : Int) := by
  have h1 : IntKind.u64.wrap ((i : Int) + (j : Int)) = ((i + j : Nat) : Int) := by simp [IntKind.wrap, IntKind.bits, IntKind.signed]; omega
  rw [h1]
  have h2 : (((i + j : Nat) : Int)).fdiv (2 ^ min (Int.toNat 1) IntKind.u64.bits) = (((i + j) / 2 : Nat) : Int) := by
    rw [show (2 : Int) ^ min (Int.toNat 1) IntKind.u64.bits = 2 from rfl, Int.fdiv_eq_ediv_of_nonneg _ (by omega)]
    omega
  rw [h2]
  simp [IntKind.wrap, IntKind.bits, IntKind.signed]
  omega
theorem wrap_sub {a x : Int} (h1 : inWay a) (h2 : inWay x) : IntKind.i64.wrap (a - x) = a - x := by
  unfold inWay at h1 h2
  rw [IntKind.wrap_i64]; omega
theorem has_end {s : List Sl} {x : Int} {i j : Nat} {y : Sl} (hw : inWay y.a) (hx : inWay x) (ho : s.Pairwise fun x y => x.a < y.a) (hij : i = j) (h1 : ∀ m y, m < i → s[m]? = some y → y.a < x) (h2 : ∀ m y, j ≤ m → s[m]? = some y → x ≤ y.a) (hy : s[i]? = some y) : decide (IntKind.i64.wrap (y.a - x) = 0) = hasS s x := by
  subst hij
  rw [has_is ho h1 h2, hy, wrap_sub hw hx]
  simp only [decide_eq_decide]
  omega
theorem has_none {s : List Sl} {x : Int} {i j : Nat} (ho : s.Pairwise fun x y => x.a < y.a) (hij : i = j) (h1 : ∀ m y, m < i → s[m]? = some y → y.a < x) (h2 : ∀ m y, j ≤ m → s[m]? = some y → x ≤ y.a) (hl : s.length ≤ i) : false = hasS s x := by
  subst hij
  rw [has_is ho h1 h2, List.getElem?_eq_none hl]
theorem bs_lt {s : List Sl} {x : Int} {h : Nat} {y : Sl} (ho : s.Pairwise fun x y => x.a < y.a) (hy : s[h]? = some y) (hq : y.a < x) : ∀ m z, m < h + 1 → s[m]? = some z → z.a < x := fun m z hm hz => by
  obtain ⟨hil, hie⟩ := List.getElem?_eq_some_iff.1 hy
  obtain ⟨hml, hme⟩ := List.getElem?_eq_some_iff.1 hz
  rcases Nat.lt_or_ge m h with h1 | h1
  · have := List.pairwise_iff_getElem.1 ho m h hml hil h1
    rw [hie, hme] at this; omega
  · obtain rfl : m = h := by omega
    rw [hy] at hz
    injection hz with hz
    subst hz
    exact hq
theorem bs_ge {s : List Sl} {x : Int} {h : Nat} {y : Sl} (ho : s.Pairwise fun x y => x.a < y.a) (hy : s[h]? = some y) (hq : x ≤ y.a) : ∀ m z, h ≤ m → s[m]? = some z → x ≤ z.a := fun m z hm hz => by
  obtain ⟨hil, hie⟩ := List.getElem?_eq_some_iff.1 hy
  obtain ⟨hml, hme⟩ := List.getElem?_eq_some_iff.1 hz
  rcases Nat.eq_or_lt_of_le hm with h1 | h1
  · subst h1
    rw [hy] at hz
    injection hz with hz
    subst hz
    exact hq
  · have := List.pairwise_iff_getElem.1 ho h m hil hml h1
    rw [hie, hme] at this; omega
set_option maxRecDepth 20000 in
theorem binS_X (b c : Bool) (s : List Sl) (x : Int) (hs : WayS s) (hx : inWay x) : XMeets Try.prog 78 [.sl b (s.map (slC c)), .v (.int .i64 x), .fn (.func 79) []] (.tu [.p (.v (.int .i64 ((posS s x : Int)))) (nlv _), .p (.v (.bool (hasS s x))) (nlv _)]) := by
  refine XMeets.of_X tabX_ok (avs := [.p (.sl false (s.map (slC false))) (nl_sl _ _).sl, .p (.v (.int .i64 x)) (nlv _), .fu (.func 79) []]) [(0, .p (.sl false (s.map (slC false))) (nl_sl _ _).sl), (1, .p (.v (.int .i64 x)) (nlv _)), (2, .fu (.func 79) [])] (by kernel_rfl) Try.func78 rfl (by simp [PuL, Pu, netT, slC, dfC, pu_by1, pu_sl, pu_df]) (by simp only [untagL, untag, netT, untag_by1, untag_sl, untag_df]; rfl) rfl rfl ?_
  intro B w0
  have hsn := hs.n
  have hx0 := hx.1
  have hx1 := hx.2
  conv => whnf
  refine XT.loop tabX_ok (Y := Nat × Nat) [9, 10, 11, 15, 16, 17, 18, 19, 20, 21, 22, 23, 24, 25, 26, 27, 28, 29, 30, 31, 32, 33, 34] (fun (i, j) => [(9, .p (.v (.int .i64 ((i : Int)))) (nlv _)), (10, .p (.v (.int .i64 ((j : Int)))) (nlv _))]) (fun (i, j) => []) (fun (i, j) => i ≤ j ∧ j ≤ s.length ∧ (∀ m y, m < i → s[m]? = some y → y.a < x) ∧ (∀ m y, j ≤ m → s[m]? = some y → x ≤ y.a)) (fun (i, j) => j - i) (0, s.length) ⟨Nat.zero_le _, Nat.le_refl _, fun m y hm => by omega, fun m y hm hy => by have := (List.getElem?_eq_some_iff.1 hy).1; omega⟩ ?_ ?_
  · skip
    refine ⟨?_, ?_, ?_⟩
    · skip
      repeat ((conv => whnf); first | exact True.intro | refine ⟨.rfl, ?_⟩ | refine ⟨.any, ?_⟩ | refine ⟨.nil, ?_⟩ | refine ⟨.int (by first | rfl | omega | (simp only [wrs]; omega)), ?_⟩ | refine ⟨.int (by simp), ?_⟩)
    · skip
      repeat (first | exact LeVs.nil | ((conv => whnf); first | exact True.intro | exact .none | exact .row rfl | refine .cells ?_ | refine ⟨_, _, rfl, .rfl, ?_⟩ | refine ⟨_, _, rfl, .any, ?_⟩ | refine ⟨_, _, rfl, .nil, ?_⟩ | refine ⟨_, _, rfl, .int (by first | rfl | omega | (simp only [wrs]; omega)), ?_⟩ | refine ⟨_, _, rfl, .int (by simp), ?_⟩ | refine ⟨?_, ?_⟩))
    · skip
      repeat (first | exact LeFr.nil | ((conv => whnf); first | exact True.intro | refine ⟨.rfl, ?_⟩ | refine ⟨_, _, rfl, rfl, ?_, ?_⟩))
  · skip
    rintro ⟨i, j⟩ ⟨hij, hj, h1, h2⟩
    conv => whnf
    cases hc1 : (decide ((↑i : Int) < (↑j : Int)))
    · skip
      try simp only [bls] at hc1
      conv => whnf
      cases hc2 : (decide ((↑i : Int) < (↑(List.map (slC false) s).length : Int)))
      · skip
        try simp only [bls] at hc2
        conv => whnf
        refine FinG.mk none ?_ (by rintro _ ⟨⟩)
        simp only [outs, List.length_map, List.length_append, List.length_take, List.length_drop, List.length_cons, List.length_nil, slC, dfC]
        obtain rfl : i = j := by omega
        exact ⟨by rw [pos_is (by omega) h1 h2], by rw [← has_none hs.o rfl h1 h2 (by omega)]⟩
      · skip
        try simp only [bls] at hc2
        conv => whnf
        refine IdxG.map i rfl (by omega) ?_; intro y hy hny; have hyw := hs.w y (List.mem_of_getElem? hy); have hy0 := hyw.1; have hy1 := hyw.2
        conv => whnf
        refine ⟨rfl, ?_⟩
        conv => whnf
        refine .ct ?_
        conv => whnf
        refine CallG.mk (at1_X _ _ _) rfl ?_
        conv => whnf
        refine FinG.mk none ?_ (by rintro _ ⟨⟩)
        simp only [outs, List.length_map, List.length_append, List.length_take, List.length_drop, List.length_cons, List.length_nil, slC, dfC]
        obtain rfl : i = j := by omega
        exact ⟨by rw [pos_is (by omega) h1 h2], by rw [has_end hyw hx hs.o rfl h1 h2 hy]⟩
    · skip
      try simp only [bls] at hc1
      conv => whnf
      rw [show IntKind.i64.wrap ((↑i : Int) + (↑j : Int)) = ((↑i : Int) + (↑j : Int)) from wz.1 _ (by omega) (by omega)]
      simp only [half_w (i := i) (j := j) (show i + j ≤ 1000 by omega)]; refine IdxG.map ((i + j) / 2) rfl (by omega) ?_; intro y hy hny; have hyw := hs.w y (List.mem_of_getElem? hy); have hy0 := hyw.1; have hy1 := hyw.2
      conv => whnf
      refine ⟨rfl, ?_⟩
      conv => whnf
      refine .ct ?_
      conv => whnf
      refine CallG.mk (at1_X _ _ _) rfl ?_
      conv => whnf
      cases hc3 : (decide (IntKind.i64.wrap (y.a - x) < 0))
      · skip
        try simp only [bls] at hc3
        try simp (disch := omega) only [wz, Int.reduceAdd, Int.reduceSub, Int.reduceMul, Int.reduceNeg, Int.zero_add, Int.add_zero, Int.sub_zero, Int.sub_self] at hc3
        conv => whnf
        refine ⟨(i, (i + j) / 2), ⟨by omega, by omega, h1, bs_ge hs.o hy (by omega)⟩, (by show (i + j) / 2 - i < j - i; omega), ?_⟩
        refine ⟨?_, ?_, ?_⟩
        · skip
          repeat ((conv => whnf); first | exact True.intro | refine ⟨.rfl, ?_⟩ | refine ⟨.any, ?_⟩ | refine ⟨.nil, ?_⟩ | refine ⟨.int (by first | rfl | omega | (simp only [wrs]; omega)), ?_⟩ | refine ⟨.int (by simp), ?_⟩)
        · skip
          repeat (first | exact LeVs.nil | ((conv => whnf); first | exact True.intro | exact .none | exact .row rfl | refine .cells ?_ | refine ⟨_, _, rfl, .rfl, ?_⟩ | refine ⟨_, _, rfl, .any, ?_⟩ | refine ⟨_, _, rfl, .nil, ?_⟩ | refine ⟨_, _, rfl, .int (by first | rfl | omega | (simp only [wrs]; omega)), ?_⟩ | refine ⟨_, _, rfl, .int (by simp), ?_⟩ | refine ⟨?_, ?_⟩))
        · skip
          repeat (first | exact LeFr.nil | ((conv => whnf); first | exact True.intro | refine ⟨.rfl, ?_⟩ | refine ⟨_, _, rfl, rfl, ?_, ?_⟩))
      · skip
        try simp only [bls] at hc3
        try simp (disch := omega) only [wz, Int.reduceAdd, Int.reduceSub, Int.reduceMul, Int.reduceNeg, Int.zero_add, Int.add_zero, Int.sub_zero, Int.sub_self] at hc3
        conv => whnf
        refine ⟨((i + j) / 2 + 1, j), ⟨by omega, hj, bs_lt hs.o hy (by omega), h2⟩, (by show j - ((i + j) / 2 + 1) < j - i; omega), ?_⟩
        refine ⟨?_, ?_, ?_⟩
        · skip
          repeat ((conv => whnf); first | exact True.intro | refine ⟨.rfl, ?_⟩ | refine ⟨.any, ?_⟩ | refine ⟨.nil, ?_⟩ | refine ⟨.int (by first | rfl | omega | (simp only [wrs]; omega)), ?_⟩ | refine ⟨.int (by simp), ?_⟩)
        · skip
          repeat (first | exact LeVs.nil | ((conv => whnf); first | exact True.intro | exact .none | exact .row rfl | refine .cells ?_ | refine ⟨_, _, rfl, .rfl, ?_⟩ | refine ⟨_, _, rfl, .any, ?_⟩ | refine ⟨_, _, rfl, .nil, ?_⟩ | refine ⟨_, _, rfl, .int (by first | rfl | omega | (simp only [wrs]; omega)), ?_⟩ | refine ⟨_, _, rfl, .int (by simp), ?_⟩ | refine ⟨?_, ?_⟩))
        · skip
          repeat (first | exact LeFr.nil | ((conv => whnf); first | exact True.intro | refine ⟨.rfl, ?_⟩ | refine ⟨_, _, rfl, rfl, ?_, ?_⟩))
set_option maxRecDepth 20000 in
theorem at_X (b c e : Bool) (n : NetA) (x : Int) (hs : WayS n.s) (hx : inWay x) : XMeets Try.prog 68 [netT b c e n, .v (.int .i64 x)] (.tu [.p (.v (.int .i64 ((posS n.s x : Int)))) (nlv _), .p (.v (.bool (hasS n.s x))) (nlv _)]) := by
  refine XMeets.of_X tabX_ok (avs := [.ag [.p (.sl false (n.s.map (slC false))) (nl_sl _ _).sl, .p (.v (.int .i64 n.l)) (nlv _), .p (.sl false (n.d.map dfC)) (nl_df _).sl], .p (.v (.int .i64 x)) (nlv _)]) [(0, .ag [.p (.sl false (n.s.map (slC false))) (nl_sl _ _).sl, .p (.v (.int .i64 n.l)) (nlv _), .p (.sl false (n.d.map dfC)) (nl_df _).sl]), (1, .p (.v (.int .i64 x)) (nlv _))] (by kernel_rfl) Try.func68 rfl (by simp [PuL, Pu, netT, slC, dfC, pu_by1, pu_sl, pu_df]) (by simp only [untagL, untag, netT, untag_by1, untag_sl, untag_df]; rfl) rfl rfl ?_
  intro B w0
  conv => whnf
  refine .ct ?_
  conv => whnf
  refine CallG.mk (binS_X _ _ _ _ hs hx) rfl ?_
  conv => whnf
  refine FinG.mk none ?_ (by rintro _ ⟨⟩)
  simp only [outs, List.length_map, List.length_append, List.length_take, List.length_drop, List.length_cons, List.length_nil, slC, dfC]
def lastA (s : List Sl) : Nat → Int
  | 0 => -1
  | k + 1 => ((s[k]?).map (·.a)).getD 0
/-- May the first slots be, behind what was asked before? -/
def chkS (s : List Sl) (ok : Bool) : Nat → Bool
  | 0 => ok
  | k + 1 => chkS s ok k && match s[k]? with
    | some x => decide (lastA s k < x.a) && decide (x.a < 80) && pkB x.f x.t x.b.length
    | none => true
def prevOk (d : List (Int × Int)) (x : Int × Int) : Nat → Bool
  | 0 => true
  | k + 1 => match d[k]? with
    | some p => decide (ordN p x < 0)
    | none => true
def chkD (d : List (Int × Int)) (ok : Bool) : Nat → Bool
  | 0 => ok
  | k + 1 => chkD d ok k && match d[k]? with
    | some x => pkB x.1 x.2 0 && prevOk d x k
    | none => true
def lastB (l : Int) : Bool := decide (0 ≤ l) && decide (l < 80)
/-- May a net be? -/
def rightB (n : NetA) : Bool := chkD n.d (chkS n.s (lastB n.l) n.s.length) n.d.length
theorem chkS_s {s : List Sl} {ok : Bool} {k : Nat} {x : Sl} (h : s[k]? = some x) : chkS s ok (k + 1) = (chkS s ok k && (decide (lastA s k < x.a) && decide (x.a < 80) && pkB x.f x.t x.b.length)) := by
  simp [chkS, h]
theorem lastA_s {s : List Sl} {k : Nat} {x : Sl} (h : s[k]? = some x) : lastA s (k + 1) = x.a := by simp [lastA, h]
theorem chkD_s {d : List (Int × Int)} {ok : Bool} {k : Nat} {x : Int × Int} (h : d[k]? = some x) : chkD d ok (k + 1) = (chkD d ok k && (pkB x.1 x.2 0 && prevOk d x k)) := by
  simp [chkD, h]
theorem prev_0 {d : List (Int × Int)} {x : Int × Int} {k : Nat} (h : k = 0) : prevOk d x k = true := by subst h; rfl
theorem prev_s {d : List (Int × Int)} {x p : Int × Int} {k : Nat} (h0 : k ≠ 0) (h : d[k - 1]? = some p) : prevOk d x k = decide (ordN p x < 0) := by
  obtain ⟨j, rfl⟩ : ∃ j, k = j + 1 := ⟨k - 1, by omega⟩
  simp only [Nat.add_sub_cancel] at h
  simp [prevOk, h]
set_option maxHeartbeats 4000000 in
set_option maxRecDepth 20000 in
theorem check_X (b c e : Bool) (n : NetA) (ho : n.Ok) : XMeets Try.prog 22 [netT b c e n] (.p (.v (.int .i64 (if rightB n = true then 0 else 330))) (nlv _)) := by
  refine XMeets.of_X tabX_ok (avs := [.ag [.p (.sl false (n.s.map (slC false))) (nl_sl _ _).sl, .p (.v (.int .i64 n.l)) (nlv _), .p (.sl false (n.d.map dfC)) (nl_df _).sl]]) [(0, .ag [.p (.sl false (n.s.map (slC false))) (nl_sl _ _).sl, .p (.v (.int .i64 n.l)) (nlv _), .p (.sl false (n.d.map dfC)) (nl_df _).sl])] (by kernel_rfl) Try.func22 rfl (by simp [PuL, Pu, netT, slC, dfC, pu_by1, pu_sl, pu_df]) (by simp only [untagL, untag, netT, untag_by1, untag_sl, untag_df]; rfl) rfl rfl ?_
  intro B w0
  have hsn := ho.sn
  have hdn := ho.dn
  have hl := ho.l
  have hl0 := hl.1
  have hl1 := hl.2
  conv => whnf
  cases hc1 : (decide (0 ≤ n.l))
  · skip
    try simp only [bls] at hc1
    conv => whnf
    refine XT.loop tabX_ok (Y := Nat × Bool × Int) [3, 4, 6, 20, 21, 22, 23, 24, 25, 26, 27, 28, 29, 30, 31, 32, 33, 34, 35, 36, 37, 38, 39, 40, 41, 42, 43] (fun (k, ok, la) => [(20, .p (.v (.int .i64 ((k : Int)))) (nlv _)), (3, .p (.v (.bool (ok))) (nlv _)), (4, .p (.v (.int .i64 (la))) (nlv _))]) (fun (k, ok, la) => []) (fun (k, ok, la) => k ≤ n.s.length ∧ ok = chkS n.s (lastB n.l) k ∧ la = lastA n.s k) (fun (k, ok, la) => n.s.length - k) (0, false, -1) ⟨Nat.zero_le _, by simp [chkS, lastB]; omega, rfl⟩ ?_ ?_
    · skip
      refine ⟨?_, ?_, ?_⟩
      · skip
        repeat ((conv => whnf); first | exact True.intro | refine ⟨.rfl, ?_⟩ | refine ⟨.any, ?_⟩ | refine ⟨.nil, ?_⟩ | refine ⟨.int (by first | rfl | omega | (simp only [wrs]; omega)), ?_⟩)
      · skip
        repeat (first | exact LeVs.nil | ((conv => whnf); first | exact True.intro | exact .none | exact .row rfl | refine .cells ?_ | refine ⟨_, _, rfl, .rfl, ?_⟩ | refine ⟨_, _, rfl, .any, ?_⟩ | refine ⟨_, _, rfl, .nil, ?_⟩ | refine ⟨_, _, rfl, .int (by first | rfl | omega | (simp only [wrs]; omega)), ?_⟩ | refine ⟨?_, ?_⟩))
      · skip
        repeat (first | exact LeFr.nil | ((conv => whnf); first | exact True.intro | refine ⟨.rfl, ?_⟩ | refine ⟨_, _, rfl, rfl, ?_, ?_⟩))
    · skip
      rintro ⟨k, ok, la⟩ ⟨hk, hok, hla⟩
      conv => whnf
      cases hc2 : (decide ((↑k : Int) < (↑(List.map (slC false) n.s).length : Int)))
      · skip
        try simp only [bls] at hc2
        conv => whnf
        refine XT.loop tabX_ok (Y := Nat × Bool) [3, 7, 8, 47, 48, 49, 50, 51, 52, 53, 54, 55, 56, 57, 58, 59, 60, 61, 62, 63, 64, 65, 66, 67, 68, 69, 70, 71, 72, 73, 74, 75, 76] (fun (k2, ok2) => [(47, .p (.v (.int .i64 ((k2 : Int)))) (nlv _)), (3, .p (.v (.bool (ok2))) (nlv _))]) (fun (k2, ok2) => []) (fun (k2, ok2) => k2 ≤ n.d.length ∧ ok2 = chkD n.d ok k2) (fun (k2, ok2) => n.d.length - k2) (0, ok) ⟨Nat.zero_le _, rfl⟩ ?_ ?_
        · skip
          refine ⟨?_, ?_, ?_⟩
          · skip
            repeat ((conv => whnf); first | exact True.intro | refine ⟨.rfl, ?_⟩ | refine ⟨.any, ?_⟩ | refine ⟨.nil, ?_⟩ | refine ⟨.int (by first | rfl | omega | (simp only [wrs]; omega)), ?_⟩)
          · skip
            repeat (first | exact LeVs.nil | ((conv => whnf); first | exact True.intro | exact .none | exact .row rfl | refine .cells ?_ | refine ⟨_, _, rfl, .rfl, ?_⟩ | refine ⟨_, _, rfl, .any, ?_⟩ | refine ⟨_, _, rfl, .nil, ?_⟩ | refine ⟨_, _, rfl, .int (by first | rfl | omega | (simp only [wrs]; omega)), ?_⟩ | refine ⟨?_, ?_⟩))
          · skip
            repeat (first | exact LeFr.nil | ((conv => whnf); first | exact True.intro | refine ⟨.rfl, ?_⟩ | refine ⟨_, _, rfl, rfl, ?_, ?_⟩))
        · skip
          rintro ⟨k2, ok2⟩ ⟨hk2, hok2⟩
          conv => whnf
          cases hc3 : (decide ((↑k2 : Int) < (↑(List.map dfC n.d).length : Int)))
          · skip
            try simp only [bls] at hc3
            conv => whnf
            cases hc4 : (ok2)
            · skip
              try simp only [bls] at hc4
              conv => whnf
              refine FinG.mk none ?_ (by rintro _ ⟨⟩)
              simp only [outs, List.length_map, List.length_append, List.length_take, List.length_drop, List.length_cons, List.length_nil, slC, dfC]
              obtain rfl : k = n.s.length := by omega
              obtain rfl : k2 = n.d.length := by omega
              have hr : rightB n = ok2 := by rw [hok2, hok]; rfl
              rw [hr]
              simp [*]
            · skip
              try simp only [bls] at hc4
              conv => whnf
              refine FinG.mk none ?_ (by rintro _ ⟨⟩)
              simp only [outs, List.length_map, List.length_append, List.length_take, List.length_drop, List.length_cons, List.length_nil, slC, dfC]
              obtain rfl : k = n.s.length := by omega
              obtain rfl : k2 = n.d.length := by omega
              have hr : rightB n = ok2 := by rw [hok2, hok]; rfl
              rw [hr]
              simp [*]
          · skip
            try simp only [bls] at hc3
            conv => whnf
            refine IdxG.map _ rfl (by first | omega | (simp only [List.length_map] at *; omega)) ?_; intro z hz hnz; have hzd := hk2
            conv => whnf
            refine ⟨rfl, ?_⟩
            conv => whnf
            refine RegG.par 24 (by kernel_rfl) ?_
            conv => whnf
            cases hc5 : (ok2)
            · skip
              try simp only [bls] at hc5
              conv => whnf
              refine ⟨(k2 + 1, false), ⟨by omega, by rw [chkD_s hz, ← hok2]; simp_all⟩, (by show n.d.length - (k2 + 1) < n.d.length - k2; omega), ?_⟩
              refine ⟨?_, ?_, ?_⟩
              · skip
                repeat ((conv => whnf); first | exact True.intro | refine ⟨.rfl, ?_⟩ | refine ⟨.any, ?_⟩ | refine ⟨.nil, ?_⟩ | refine ⟨.int (by first | rfl | omega | (simp only [wrs]; omega)), ?_⟩)
              · skip
                repeat (first | exact LeVs.nil | ((conv => whnf); first | exact True.intro | exact .none | exact .row rfl | refine .cells ?_ | refine ⟨_, _, rfl, .rfl, ?_⟩ | refine ⟨_, _, rfl, .any, ?_⟩ | refine ⟨_, _, rfl, .nil, ?_⟩ | refine ⟨_, _, rfl, .int (by first | rfl | omega | (simp only [wrs]; omega)), ?_⟩ | refine ⟨?_, ?_⟩))
              · skip
                repeat (first | exact LeFr.nil | ((conv => whnf); first | exact True.intro | refine ⟨.rfl, ?_⟩ | refine ⟨_, _, rfl, rfl, ?_, ?_⟩))
            · skip
              try simp only [bls] at hc5
              conv => whnf
              refine CallG.mk (packet0_X _ _ _) rfl ?_
              conv => whnf
              cases hc6 : (pkB z.fst z.snd 0)
              · skip
                try simp only [bls] at hc6
                conv => whnf
                refine ⟨(k2 + 1, false), ⟨by omega, by rw [chkD_s hz, ← hok2]; simp_all⟩, (by show n.d.length - (k2 + 1) < n.d.length - k2; omega), ?_⟩
                refine ⟨?_, ?_, ?_⟩
                · skip
                  repeat ((conv => whnf); first | exact True.intro | refine ⟨.rfl, ?_⟩ | refine ⟨.any, ?_⟩ | refine ⟨.nil, ?_⟩ | refine ⟨.int (by first | rfl | omega | (simp only [wrs]; omega)), ?_⟩)
                · skip
                  repeat (first | exact LeVs.nil | ((conv => whnf); first | exact True.intro | exact .none | exact .row rfl | refine .cells ?_ | refine ⟨_, _, rfl, .rfl, ?_⟩ | refine ⟨_, _, rfl, .any, ?_⟩ | refine ⟨_, _, rfl, .nil, ?_⟩ | refine ⟨_, _, rfl, .int (by first | rfl | omega | (simp only [wrs]; omega)), ?_⟩ | refine ⟨?_, ?_⟩))
                · skip
                  repeat (first | exact LeFr.nil | ((conv => whnf); first | exact True.intro | refine ⟨.rfl, ?_⟩ | refine ⟨_, _, rfl, rfl, ?_, ?_⟩))
              · skip
                try simp only [bls] at hc6
                conv => whnf
                cases hc7 : (decide ((↑k2 : Int) = 0))
                · skip
                  try simp only [bls] at hc7
                  conv => whnf
                  rw [show IntKind.i64.wrap ((↑k2 : Int) - 1) = ((↑k2 : Int) - 1) from wz.1 _ (by omega) (by omega)]
                  refine IdxG.map (k2 - 1) (by omega) (by omega) ?_; intro p hp hnp
                  conv => whnf
                  refine ⟨rfl, ?_⟩
                  conv => whnf
                  refine CallG.mk (order_X _ _) rfl ?_
                  conv => whnf
                  refine ⟨(k2 + 1, decide (ordN p z < 0)), ⟨by omega, by rw [chkD_s hz, ← hok2, prev_s (by omega) hp]; simp_all⟩, (by show n.d.length - (k2 + 1) < n.d.length - k2; omega), ?_⟩
                  refine ⟨?_, ?_, ?_⟩
                  · skip
                    repeat ((conv => whnf); first | exact True.intro | refine ⟨.rfl, ?_⟩ | refine ⟨.any, ?_⟩ | refine ⟨.nil, ?_⟩ | refine ⟨.int (by first | rfl | omega | (simp only [wrs]; omega)), ?_⟩)
                  · skip
                    repeat (first | exact LeVs.nil | ((conv => whnf); first | exact True.intro | exact .none | exact .row rfl | refine .cells ?_ | refine ⟨_, _, rfl, .rfl, ?_⟩ | refine ⟨_, _, rfl, .any, ?_⟩ | refine ⟨_, _, rfl, .nil, ?_⟩ | refine ⟨_, _, rfl, .int (by first | rfl | omega | (simp only [wrs]; omega)), ?_⟩ | refine ⟨?_, ?_⟩))
                  · skip
                    repeat (first | exact LeFr.nil | ((conv => whnf); first | exact True.intro | refine ⟨.rfl, ?_⟩ | refine ⟨_, _, rfl, rfl, ?_, ?_⟩))
                · skip
                  try simp only [bls] at hc7
                  conv => whnf
                  refine ⟨(k2 + 1, true), ⟨by omega, by rw [chkD_s hz, ← hok2, prev_0 (by omega)]; simp_all⟩, (by show n.d.length - (k2 + 1) < n.d.length - k2; omega), ?_⟩
                  refine ⟨?_, ?_, ?_⟩
                  · skip
                    repeat ((conv => whnf); first | exact True.intro | refine ⟨.rfl, ?_⟩ | refine ⟨.any, ?_⟩ | refine ⟨.nil, ?_⟩ | refine ⟨.int (by first | rfl | omega | (simp only [wrs]; omega)), ?_⟩)
                  · skip
                    repeat (first | exact LeVs.nil | ((conv => whnf); first | exact True.intro | exact .none | exact .row rfl | refine .cells ?_ | refine ⟨_, _, rfl, .rfl, ?_⟩ | refine ⟨_, _, rfl, .any, ?_⟩ | refine ⟨_, _, rfl, .nil, ?_⟩ | refine ⟨_, _, rfl, .int (by first | rfl | omega | (simp only [wrs]; omega)), ?_⟩ | refine ⟨?_, ?_⟩))
                  · skip
                    repeat (first | exact LeFr.nil | ((conv => whnf); first | exact True.intro | refine ⟨.rfl, ?_⟩ | refine ⟨_, _, rfl, rfl, ?_, ?_⟩))
      · skip
        try simp only [bls] at hc2
        conv => whnf
        refine IdxG.map _ rfl (by first | omega | (simp only [List.length_map] at *; omega)) ?_; intro y hy hny; have hyo := ho.s y (List.mem_of_getElem? hy); have hya := hyo.a; have hya0 := hya.1; have hya1 := hya.2
        conv => whnf
        refine ⟨rfl, ?_⟩
        conv => whnf
        cases hc8 : (ok)
        · skip
          try simp only [bls] at hc8
          conv => whnf
          refine ⟨(k + 1, false, y.a), ⟨by omega, by rw [chkS_s hy, ← hok, ← hla]; simp_all; done, (lastA_s hy).symm⟩, (by show n.s.length - (k + 1) < n.s.length - k; omega), ?_⟩
          refine ⟨?_, ?_, ?_⟩
          · skip
            repeat ((conv => whnf); first | exact True.intro | refine ⟨.rfl, ?_⟩ | refine ⟨.any, ?_⟩ | refine ⟨.nil, ?_⟩ | refine ⟨.int (by first | rfl | omega | (simp only [wrs]; omega)), ?_⟩)
          · skip
            repeat (first | exact LeVs.nil | ((conv => whnf); first | exact True.intro | exact .none | exact .row rfl | refine .cells ?_ | refine ⟨_, _, rfl, .rfl, ?_⟩ | refine ⟨_, _, rfl, .any, ?_⟩ | refine ⟨_, _, rfl, .nil, ?_⟩ | refine ⟨_, _, rfl, .int (by first | rfl | omega | (simp only [wrs]; omega)), ?_⟩ | refine ⟨?_, ?_⟩))
          · skip
            repeat (first | exact LeFr.nil | ((conv => whnf); first | exact True.intro | refine ⟨.rfl, ?_⟩ | refine ⟨_, _, rfl, rfl, ?_, ?_⟩))
        · skip
          try simp only [bls] at hc8
          conv => whnf
          cases hc9 : (decide (la < y.a))
          · skip
            try simp only [bls] at hc9
            conv => whnf
            refine ⟨(k + 1, false, y.a), ⟨by omega, by rw [chkS_s hy, ← hok, ← hla]; simp_all; omega, (lastA_s hy).symm⟩, (by show n.s.length - (k + 1) < n.s.length - k; omega), ?_⟩
            refine ⟨?_, ?_, ?_⟩
            · skip
              repeat ((conv => whnf); first | exact True.intro | refine ⟨.rfl, ?_⟩ | refine ⟨.any, ?_⟩ | refine ⟨.nil, ?_⟩ | refine ⟨.int (by first | rfl | omega | (simp only [wrs]; omega)), ?_⟩)
            · skip
              repeat (first | exact LeVs.nil | ((conv => whnf); first | exact True.intro | exact .none | exact .row rfl | refine .cells ?_ | refine ⟨_, _, rfl, .rfl, ?_⟩ | refine ⟨_, _, rfl, .any, ?_⟩ | refine ⟨_, _, rfl, .nil, ?_⟩ | refine ⟨_, _, rfl, .int (by first | rfl | omega | (simp only [wrs]; omega)), ?_⟩ | refine ⟨?_, ?_⟩))
            · skip
              repeat (first | exact LeFr.nil | ((conv => whnf); first | exact True.intro | refine ⟨.rfl, ?_⟩ | refine ⟨_, _, rfl, rfl, ?_, ?_⟩))
          · skip
            try simp only [bls] at hc9
            conv => whnf
            cases hc10 : (decide (y.a < 80))
            · skip
              try simp only [bls] at hc10
              conv => whnf
              refine ⟨(k + 1, false, y.a), ⟨by omega, by rw [chkS_s hy, ← hok, ← hla]; simp_all; omega, (lastA_s hy).symm⟩, (by show n.s.length - (k + 1) < n.s.length - k; omega), ?_⟩
              refine ⟨?_, ?_, ?_⟩
              · skip
                repeat ((conv => whnf); first | exact True.intro | refine ⟨.rfl, ?_⟩ | refine ⟨.any, ?_⟩ | refine ⟨.nil, ?_⟩ | refine ⟨.int (by first | rfl | omega | (simp only [wrs]; omega)), ?_⟩)
              · skip
                repeat (first | exact LeVs.nil | ((conv => whnf); first | exact True.intro | exact .none | exact .row rfl | refine .cells ?_ | refine ⟨_, _, rfl, .rfl, ?_⟩ | refine ⟨_, _, rfl, .any, ?_⟩ | refine ⟨_, _, rfl, .nil, ?_⟩ | refine ⟨_, _, rfl, .int (by first | rfl | omega | (simp only [wrs]; omega)), ?_⟩ | refine ⟨?_, ?_⟩))
              · skip
                repeat (first | exact LeFr.nil | ((conv => whnf); first | exact True.intro | refine ⟨.rfl, ?_⟩ | refine ⟨_, _, rfl, rfl, ?_, ?_⟩))
            · skip
              try simp only [bls] at hc10
              conv => whnf
              refine .ct ?_
              conv => whnf
              refine CallG.mk (packet_X _ _ _ _) rfl ?_
              conv => whnf
              refine ⟨(k + 1, pkB y.f y.t y.b.length, y.a), ⟨by omega, by rw [chkS_s hy, ← hok, ← hla]; simp_all; done, (lastA_s hy).symm⟩, (by show n.s.length - (k + 1) < n.s.length - k; omega), ?_⟩
              refine ⟨?_, ?_, ?_⟩
              · skip
                repeat ((conv => whnf); first | exact True.intro | refine ⟨.rfl, ?_⟩ | refine ⟨.any, ?_⟩ | refine ⟨.nil, ?_⟩ | refine ⟨.int (by first | rfl | omega | (simp only [wrs]; omega)), ?_⟩)
              · skip
                repeat (first | exact LeVs.nil | ((conv => whnf); first | exact True.intro | exact .none | exact .row rfl | refine .cells ?_ | refine ⟨_, _, rfl, .rfl, ?_⟩ | refine ⟨_, _, rfl, .any, ?_⟩ | refine ⟨_, _, rfl, .nil, ?_⟩ | refine ⟨_, _, rfl, .int (by first | rfl | omega | (simp only [wrs]; omega)), ?_⟩ | refine ⟨?_, ?_⟩))
              · skip
                repeat (first | exact LeFr.nil | ((conv => whnf); first | exact True.intro | refine ⟨.rfl, ?_⟩ | refine ⟨_, _, rfl, rfl, ?_, ?_⟩))
  · skip
    try simp only [bls] at hc1
    conv => whnf
    refine XT.loop tabX_ok (Y := Nat × Bool × Int) [3, 4, 6, 20, 21, 22, 23, 24, 25, 26, 27, 28, 29, 30, 31, 32, 33, 34, 35, 36, 37, 38, 39, 40, 41, 42, 43] (fun (k, ok, la) => [(20, .p (.v (.int .i64 ((k : Int)))) (nlv _)), (3, .p (.v (.bool (ok))) (nlv _)), (4, .p (.v (.int .i64 (la))) (nlv _))]) (fun (k, ok, la) => []) (fun (k, ok, la) => k ≤ n.s.length ∧ ok = chkS n.s (lastB n.l) k ∧ la = lastA n.s k) (fun (k, ok, la) => n.s.length - k) (0, decide (n.l < 80), -1) ⟨Nat.zero_le _, by simp [chkS, lastB]; omega, rfl⟩ ?_ ?_
    · skip
      refine ⟨?_, ?_, ?_⟩
      · skip
        repeat ((conv => whnf); first | exact True.intro | refine ⟨.rfl, ?_⟩ | refine ⟨.any, ?_⟩ | refine ⟨.nil, ?_⟩ | refine ⟨.int (by first | rfl | omega | (simp only [wrs]; omega)), ?_⟩)
      · skip
        repeat (first | exact LeVs.nil | ((conv => whnf); first | exact True.intro | exact .none | exact .row rfl | refine .cells ?_ | refine ⟨_, _, rfl, .rfl, ?_⟩ | refine ⟨_, _, rfl, .any, ?_⟩ | refine ⟨_, _, rfl, .nil, ?_⟩ | refine ⟨_, _, rfl, .int (by first | rfl | omega | (simp only [wrs]; omega)), ?_⟩ | refine ⟨?_, ?_⟩))
      · skip
        repeat (first | exact LeFr.nil | ((conv => whnf); first | exact True.intro | refine ⟨.rfl, ?_⟩ | refine ⟨_, _, rfl, rfl, ?_, ?_⟩))
    · skip
      rintro ⟨k, ok, la⟩ ⟨hk, hok, hla⟩
      conv => whnf
      cases hc11 : (decide ((↑k : Int) < (↑(List.map (slC false) n.s).length : Int)))
      · skip
        try simp only [bls] at hc11
        conv => whnf
        refine XT.loop tabX_ok (Y := Nat × Bool) [3, 7, 8, 47, 48, 49, 50, 51, 52, 53, 54, 55, 56, 57, 58, 59, 60, 61, 62, 63, 64, 65, 66, 67, 68, 69, 70, 71, 72, 73, 74, 75, 76] (fun (k2, ok2) => [(47, .p (.v (.int .i64 ((k2 : Int)))) (nlv _)), (3, .p (.v (.bool (ok2))) (nlv _))]) (fun (k2, ok2) => []) (fun (k2, ok2) => k2 ≤ n.d.length ∧ ok2 = chkD n.d ok k2) (fun (k2, ok2) => n.d.length - k2) (0, ok) ⟨Nat.zero_le _, rfl⟩ ?_ ?_
        · skip
          refine ⟨?_, ?_, ?_⟩
          · skip
            repeat ((conv => whnf); first | exact True.intro | refine ⟨.rfl, ?_⟩ | refine ⟨.any, ?_⟩ | refine ⟨.nil, ?_⟩ | refine ⟨.int (by first | rfl | omega | (simp only [wrs]; omega)), ?_⟩)
          · skip
            repeat (first | exact LeVs.nil | ((conv => whnf); first | exact True.intro | exact .none | exact .row rfl | refine .cells ?_ | refine ⟨_, _, rfl, .rfl, ?_⟩ | refine ⟨_, _, rfl, .any, ?_⟩ | refine ⟨_, _, rfl, .nil, ?_⟩ | refine ⟨_, _, rfl, .int (by first | rfl | omega | (simp only [wrs]; omega)), ?_⟩ | refine ⟨?_, ?_⟩))
          · skip
            repeat (first | exact LeFr.nil | ((conv => whnf); first | exact True.intro | refine ⟨.rfl, ?_⟩ | refine ⟨_, _, rfl, rfl, ?_, ?_⟩))
        · skip
          rintro ⟨k2, ok2⟩ ⟨hk2, hok2⟩
          conv => whnf
          cases hc12 : (decide ((↑k2 : Int) < (↑(List.map dfC n.d).length : Int)))
          · skip
            try simp only [bls] at hc12
            conv => whnf
            cases hc13 : (ok2)
            · skip
              try simp only [bls] at hc13
              conv => whnf
              refine FinG.mk none ?_ (by rintro _ ⟨⟩)
              simp only [outs, List.length_map, List.length_append, List.length_take, List.length_drop, List.length_cons, List.length_nil, slC, dfC]
              obtain rfl : k = n.s.length := by omega
              obtain rfl : k2 = n.d.length := by omega
              have hr : rightB n = ok2 := by rw [hok2, hok]; rfl
              rw [hr]
              simp [*]
            · skip
              try simp only [bls] at hc13
              conv => whnf
              refine FinG.mk none ?_ (by rintro _ ⟨⟩)
              simp only [outs, List.length_map, List.length_append, List.length_take, List.length_drop, List.length_cons, List.length_nil, slC, dfC]
              obtain rfl : k = n.s.length := by omega
              obtain rfl : k2 = n.d.length := by omega
              have hr : rightB n = ok2 := by rw [hok2, hok]; rfl
              rw [hr]
              simp [*]
          · skip
            try simp only [bls] at hc12
            conv => whnf
            refine IdxG.map _ rfl (by first | omega | (simp only [List.length_map] at *; omega)) ?_; intro z hz hnz; have hzd := hk2
            conv => whnf
            refine ⟨rfl, ?_⟩
            conv => whnf
            refine RegG.par 24 (by kernel_rfl) ?_
            conv => whnf
            cases hc14 : (ok2)
            · skip
              try simp only [bls] at hc14
              conv => whnf
              refine ⟨(k2 + 1, false), ⟨by omega, by rw [chkD_s hz, ← hok2]; simp_all⟩, (by show n.d.length - (k2 + 1) < n.d.length - k2; omega), ?_⟩
              refine ⟨?_, ?_, ?_⟩
              · skip
                repeat ((conv => whnf); first | exact True.intro | refine ⟨.rfl, ?_⟩ | refine ⟨.any, ?_⟩ | refine ⟨.nil, ?_⟩ | refine ⟨.int (by first | rfl | omega | (simp only [wrs]; omega)), ?_⟩)
              · skip
                repeat (first | exact LeVs.nil | ((conv => whnf); first | exact True.intro | exact .none | exact .row rfl | refine .cells ?_ | refine ⟨_, _, rfl, .rfl, ?_⟩ | refine ⟨_, _, rfl, .any, ?_⟩ | refine ⟨_, _, rfl, .nil, ?_⟩ | refine ⟨_, _, rfl, .int (by first | rfl | omega | (simp only [wrs]; omega)), ?_⟩ | refine ⟨?_, ?_⟩))
              · skip
                repeat (first | exact LeFr.nil | ((conv => whnf); first | exact True.intro | refine ⟨.rfl, ?_⟩ | refine ⟨_, _, rfl, rfl, ?_, ?_⟩))
            · skip
              try simp only [bls] at hc14
              conv => whnf
              refine CallG.mk (packet0_X _ _ _) rfl ?_
              conv => whnf
              cases hc15 : (pkB z.fst z.snd 0)
              · skip
                try simp only [bls] at hc15
                conv => whnf
                refine ⟨(k2 + 1, false), ⟨by omega, by rw [chkD_s hz, ← hok2]; simp_all⟩, (by show n.d.length - (k2 + 1) < n.d.length - k2; omega), ?_⟩
                refine ⟨?_, ?_, ?_⟩
                · skip
                  repeat ((conv => whnf); first | exact True.intro | refine ⟨.rfl, ?_⟩ | refine ⟨.any, ?_⟩ | refine ⟨.nil, ?_⟩ | refine ⟨.int (by first | rfl | omega | (simp only [wrs]; omega)), ?_⟩)
                · skip
                  repeat (first | exact LeVs.nil | ((conv => whnf); first | exact True.intro | exact .none | exact .row rfl | refine .cells ?_ | refine ⟨_, _, rfl, .rfl, ?_⟩ | refine ⟨_, _, rfl, .any, ?_⟩ | refine ⟨_, _, rfl, .nil, ?_⟩ | refine ⟨_, _, rfl, .int (by first | rfl | omega | (simp only [wrs]; omega)), ?_⟩ | refine ⟨?_, ?_⟩))
                · skip
                  repeat (first | exact LeFr.nil | ((conv => whnf); first | exact True.intro | refine ⟨.rfl, ?_⟩ | refine ⟨_, _, rfl, rfl, ?_, ?_⟩))
              · skip
                try simp only [bls] at hc15
                conv => whnf
                cases hc16 : (decide ((↑k2 : Int) = 0))
                · skip
                  try simp only [bls] at hc16
                  conv => whnf
                  rw [show IntKind.i64.wrap ((↑k2 : Int) - 1) = ((↑k2 : Int) - 1) from wz.1 _ (by omega) (by omega)]
                  refine IdxG.map (k2 - 1) (by omega) (by omega) ?_; intro p hp hnp
                  conv => whnf
                  refine ⟨rfl, ?_⟩
                  conv => whnf
                  refine CallG.mk (order_X _ _) rfl ?_
                  conv => whnf
                  refine ⟨(k2 + 1, decide (ordN p z < 0)), ⟨by omega, by rw [chkD_s hz, ← hok2, prev_s (by omega) hp]; simp_all⟩, (by show n.d.length - (k2 + 1) < n.d.length - k2; omega), ?_⟩
                  refine ⟨?_, ?_, ?_⟩
                  · skip
                    repeat ((conv => whnf); first | exact True.intro | refine ⟨.rfl, ?_⟩ | refine ⟨.any, ?_⟩ | refine ⟨.nil, ?_⟩ | refine ⟨.int (by first | rfl | omega | (simp only [wrs]; omega)), ?_⟩)
                  · skip
                    repeat (first | exact LeVs.nil | ((conv => whnf); first | exact True.intro | exact .none | exact .row rfl | refine .cells ?_ | refine ⟨_, _, rfl, .rfl, ?_⟩ | refine ⟨_, _, rfl, .any, ?_⟩ | refine ⟨_, _, rfl, .nil, ?_⟩ | refine ⟨_, _, rfl, .int (by first | rfl | omega | (simp only [wrs]; omega)), ?_⟩ | refine ⟨?_, ?_⟩))
                  · skip
                    repeat (first | exact LeFr.nil | ((conv => whnf); first | exact True.intro | refine ⟨.rfl, ?_⟩ | refine ⟨_, _, rfl, rfl, ?_, ?_⟩))
                · skip
                  try simp only [bls] at hc16
                  conv => whnf
                  refine ⟨(k2 + 1, true), ⟨by omega, by rw [chkD_s hz, ← hok2, prev_0 (by omega)]; simp_all⟩, (by show n.d.length - (k2 + 1) < n.d.length - k2; omega), ?_⟩
                  refine ⟨?_, ?_, ?_⟩
                  · skip
                    repeat ((conv => whnf); first | exact True.intro | refine ⟨.rfl, ?_⟩ | refine ⟨.any, ?_⟩ | refine ⟨.nil, ?_⟩ | refine ⟨.int (by first | rfl | omega | (simp only [wrs]; omega)), ?_⟩)
                  · skip
                    repeat (first | exact LeVs.nil | ((conv => whnf); first | exact True.intro | exact .none | exact .row rfl | refine .cells ?_ | refine ⟨_, _, rfl, .rfl, ?_⟩ | refine ⟨_, _, rfl, .any, ?_⟩ | refine ⟨_, _, rfl, .nil, ?_⟩ | refine ⟨_, _, rfl, .int (by first | rfl | omega | (simp only [wrs]; omega)), ?_⟩ | refine ⟨?_, ?_⟩))
                  · skip
                    repeat (first | exact LeFr.nil | ((conv => whnf); first | exact True.intro | refine ⟨.rfl, ?_⟩ | refine ⟨_, _, rfl, rfl, ?_, ?_⟩))
      · skip
        try simp only [bls] at hc11
        conv => whnf
        refine IdxG.map _ rfl (by first | omega | (simp only [List.length_map] at *; omega)) ?_; intro y hy hny; have hyo := ho.s y (List.mem_of_getElem? hy); have hya := hyo.a; have hya0 := hya.1; have hya1 := hya.2
        conv => whnf
        refine ⟨rfl, ?_⟩
        conv => whnf
        cases hc17 : (ok)
        · skip
          try simp only [bls] at hc17
          conv => whnf
          refine ⟨(k + 1, false, y.a), ⟨by omega, by rw [chkS_s hy, ← hok, ← hla]; simp_all; done, (lastA_s hy).symm⟩, (by show n.s.length - (k + 1) < n.s.length - k; omega), ?_⟩
          refine ⟨?_, ?_, ?_⟩
          · skip
            repeat ((conv => whnf); first | exact True.intro | refine ⟨.rfl, ?_⟩ | refine ⟨.any, ?_⟩ | refine ⟨.nil, ?_⟩ | refine ⟨.int (by first | rfl | omega | (simp only [wrs]; omega)), ?_⟩)
          · skip
            repeat (first | exact LeVs.nil | ((conv => whnf); first | exact True.intro | exact .none | exact .row rfl | refine .cells ?_ | refine ⟨_, _, rfl, .rfl, ?_⟩ | refine ⟨_, _, rfl, .any, ?_⟩ | refine ⟨_, _, rfl, .nil, ?_⟩ | refine ⟨_, _, rfl, .int (by first | rfl | omega | (simp only [wrs]; omega)), ?_⟩ | refine ⟨?_, ?_⟩))
          · skip
            repeat (first | exact LeFr.nil | ((conv => whnf); first | exact True.intro | refine ⟨.rfl, ?_⟩ | refine ⟨_, _, rfl, rfl, ?_, ?_⟩))
        · skip
          try simp only [bls] at hc17
          conv => whnf
          cases hc18 : (decide (la < y.a))
          · skip
            try simp only [bls] at hc18
            conv => whnf
            refine ⟨(k + 1, false, y.a), ⟨by omega, by rw [chkS_s hy, ← hok, ← hla]; simp_all; omega, (lastA_s hy).symm⟩, (by show n.s.length - (k + 1) < n.s.length - k; omega), ?_⟩
            refine ⟨?_, ?_, ?_⟩
            · skip
              repeat ((conv => whnf); first | exact True.intro | refine ⟨.rfl, ?_⟩ | refine ⟨.any, ?_⟩ | refine ⟨.nil, ?_⟩ | refine ⟨.int (by first | rfl | omega | (simp only [wrs]; omega)), ?_⟩)
            · skip
              repeat (first | exact LeVs.nil | ((conv => whnf); first | exact True.intro | exact .none | exact .row rfl | refine .cells ?_ | refine ⟨_, _, rfl, .rfl, ?_⟩ | refine ⟨_, _, rfl, .any, ?_⟩ | refine ⟨_, _, rfl, .nil, ?_⟩ | refine ⟨_, _, rfl, .int (by first | rfl | omega | (simp only [wrs]; omega)), ?_⟩ | refine ⟨?_, ?_⟩))
            · skip
              repeat (first | exact LeFr.nil | ((conv => whnf); first | exact True.intro | refine ⟨.rfl, ?_⟩ | refine ⟨_, _, rfl, rfl, ?_, ?_⟩))
          · skip
            try simp only [bls] at hc18
            conv => whnf
            cases hc19 : (decide (y.a < 80))
            · skip
              try simp only [bls] at hc19
              conv => whnf
              refine ⟨(k + 1, false, y.a), ⟨by omega, by rw [chkS_s hy, ← hok, ← hla]; simp_all; omega, (lastA_s hy).symm⟩, (by show n.s.length - (k + 1) < n.s.length - k; omega), ?_⟩
              refine ⟨?_, ?_, ?_⟩
              · skip
                repeat ((conv => whnf); first | exact True.intro | refine ⟨.rfl, ?_⟩ | refine ⟨.any, ?_⟩ | refine ⟨.nil, ?_⟩ | refine ⟨.int (by first | rfl | omega | (simp only [wrs]; omega)), ?_⟩)
              · skip
                repeat (first | exact LeVs.nil | ((conv => whnf); first | exact True.intro | exact .none | exact .row rfl | refine .cells ?_ | refine ⟨_, _, rfl, .rfl, ?_⟩ | refine ⟨_, _, rfl, .any, ?_⟩ | refine ⟨_, _, rfl, .nil, ?_⟩ | refine ⟨_, _, rfl, .int (by first | rfl | omega | (simp only [wrs]; omega)), ?_⟩ | refine ⟨?_, ?_⟩))
              · skip
                repeat (first | exact LeFr.nil | ((conv => whnf); first | exact True.intro | refine ⟨.rfl, ?_⟩ | refine ⟨_, _, rfl, rfl, ?_, ?_⟩))
            · skip
              try simp only [bls] at hc19
              conv => whnf
              refine .ct ?_
              conv => whnf
              refine CallG.mk (packet_X _ _ _ _) rfl ?_
              conv => whnf
              refine ⟨(k + 1, pkB y.f y.t y.b.length, y.a), ⟨by omega, by rw [chkS_s hy, ← hok, ← hla]; simp_all; done, (lastA_s hy).symm⟩, (by show n.s.length - (k + 1) < n.s.length - k; omega), ?_⟩
              refine ⟨?_, ?_, ?_⟩
              · skip
                repeat ((conv => whnf); first | exact True.intro | refine ⟨.rfl, ?_⟩ | refine ⟨.any, ?_⟩ | refine ⟨.nil, ?_⟩ | refine ⟨.int (by first | rfl | omega | (simp only [wrs]; omega)), ?_⟩)
              · skip
                repeat (first | exact LeVs.nil | ((conv => whnf); first | exact True.intro | exact .none | exact .row rfl | refine .cells ?_ | refine ⟨_, _, rfl, .rfl, ?_⟩ | refine ⟨_, _, rfl, .any, ?_⟩ | refine ⟨_, _, rfl, .nil, ?_⟩ | refine ⟨_, _, rfl, .int (by first | rfl | omega | (simp only [wrs]; omega)), ?_⟩ | refine ⟨?_, ?_⟩))
              · skip
                repeat (first | exact LeFr.nil | ((conv => whnf); first | exact True.intro | refine ⟨.rfl, ?_⟩ | refine ⟨_, _, rfl, rfl, ?_, ?_⟩))
end Go.Proofs.Ytmhmldpccccjbaa
