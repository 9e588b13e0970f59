/- Which nets are the same, and what the document says of one. No condition. -/
import Derived.Test.YtmhmldpccccjbaaN3
namespace Go.Proofs.Ytmhmldpccccjbaa
open Go.RowKit
set_option linter.unusedVariables false
set_option linter.unusedSimpArgs false
set_option maxRecDepth 20000
deriving instance DecidableEq for Sl
deriving instance DecidableEq for NetA
theorem eq_of_at {α : Type} {a b : List α} {k : Nat} (hl : a.length = b.length) (hk : a.length ≤ k) (h : ∀ j, j < k → a[j]? = b[j]?) : a = b := by
  apply List.ext_getElem?
  intro j
  rcases Nat.lt_or_ge j k with h1 | h1
  · exact h j h1
  · rw [List.getElem?_eq_none (by omega), List.getElem?_eq_none (by omega)]
theorem at_step {α : Type} {a b : List α} {k : Nat} {x y : α} (hx : a[k]? = some x) (hy : b[k]? = some y) (e : x = y) (h : ∀ j, j < k → a[j]? = b[j]?) : ∀ j, j < k + 1 → a[j]? = b[j]? := fun j hj => by
  rcases Nat.lt_or_ge j k with h1 | h1
  · exact h j h1
  · obtain rfl : j = k := by omega
    rw [hx, hy, e]
theorem ne_at {α : Type} {a b : List α} {k : Nat} {x y : α} (hx : a[k]? = some x) (hy : b[k]? = some y) (e : x ≠ y) : a ≠ b := fun h => by
  subst h; rw [hx] at hy; exact e (Option.some.inj hy)
theorem ne_len {α : Type} {a b : List α} (e : ¬ a.length = b.length) : a ≠ b := fun h => e (h ▸ rfl)
theorem sl_eq {x y : Sl} : x = y ↔ x.a = y.a ∧ x.f = y.f ∧ x.t = y.t ∧ x.b = y.b := by cases x; cases y; simp
theorem net_eq {x y : NetA} : x = y ↔ x.l = y.l ∧ x.d = y.d ∧ x.s = y.s := by cases x; cases y; simp; exact ⟨fun h => ⟨h.2.1, h.2.2, h.1⟩, fun h => ⟨h.2.2, h.1, h.2.1⟩⟩
theorem pair_ne {x y : Int × Int} (h : (decide (x.1 = y.1) && decide (x.2 = y.2)) = false) : x ≠ y := fun e => by subst e; simp at h
theorem pair_eq {x y : Int × Int} (h : (decide (x.1 = y.1) && decide (x.2 = y.2)) = true) : x = y := by
  simp only [Bool.and_eq_true, decide_eq_true_eq] at h; exact Prod.ext h.1 h.2
set_option maxRecDepth 20000 in
theorem eqb_X (c e : Bool) (a b : List Int) (hna : a.length ≤ 100000) (hnb : b.length ≤ 100000) : XMeets Try.prog 72 [.sl c (a.map by1), .sl e (b.map by1)] (.p (.v (.bool (decide (a = b)))) (nlv _)) := by
  refine XMeets.of_X tabX_ok (avs := [.p (.sl false (a.map by1)) (nl_by1 _).sl, .p (.sl false (b.map by1)) (nl_by1 _).sl]) [(0, .p (.sl false (a.map by1)) (nl_by1 _).sl), (1, .p (.sl false (b.map by1)) (nl_by1 _).sl)] (by kernel_rfl) Try.func72 rfl (by simp [PuL, Pu, netT, slC, dfC, pu_by1, pu_sl, pu_df]) (by simp only [untagL, untag, netT, untag_by1, untag_sl, untag_df]; rfl) rfl rfl ?_
  intro B w0
  conv => whnf
  cases hc1 : (decide ((↑(List.map by1 a).length : Int) = (↑(List.map by1 b).length : Int)))
  · skip
    try simp only [bls] at hc1
    conv => whnf
    refine FinG.mk none ?_ (by rintro _ ⟨⟩)
    simp only [outs, List.length_map, List.length_append, List.length_take, List.length_drop, List.length_cons, List.length_nil, slC, dfC, netX, net0, List.map_nil, mix_len, pkX, slX, sl0, delS]
    rw [decide_eq_false (ne_len (by omega))]
  · skip
    try simp only [bls] at hc1
    conv => whnf
    refine XT.loop tabX_ok (Y := Nat) [4, 5, 13, 14, 15, 16, 17, 18, 19, 20, 21, 22, 23, 24, 25] (fun k => [(13, .p (.v (.int .i64 ((k : Int)))) (nlv _))]) (fun k => []) (fun k => k ≤ a.length ∧ ∀ j, j < k → a[j]? = b[j]?) (fun k => a.length - k) 0 ⟨Nat.zero_le _, fun j hj => by omega⟩ ?_ ?_
    · skip
      refine ⟨?_, ?_, ?_⟩
      · skip
        repeat ((conv => whnf); first | exact True.intro | refine ⟨.rfl, ?_⟩ | refine ⟨.any, ?_⟩ | refine ⟨.nil, ?_⟩ | refine ⟨.int (by first | rfl | omega | (simp only [wrs]; omega)), ?_⟩)
      · skip
        repeat (first | exact LeVs.nil | ((conv => whnf); first | exact True.intro | exact .none | exact .row rfl | refine .cells ?_ | refine ⟨_, _, rfl, .rfl, ?_⟩ | refine ⟨_, _, rfl, .any, ?_⟩ | refine ⟨_, _, rfl, .nil, ?_⟩ | refine ⟨_, _, rfl, .int (by first | rfl | omega | (simp only [wrs]; omega)), ?_⟩ | refine ⟨?_, ?_⟩))
      · skip
        repeat (first | exact LeFr.nil | ((conv => whnf); first | exact True.intro | refine ⟨.rfl, ?_⟩ | refine ⟨_, _, rfl, rfl, ?_, ?_⟩))
    · skip
      rintro k ⟨hk, h1⟩
      conv => whnf
      cases hc2 : (decide ((↑k : Int) < (↑(List.map by1 a).length : Int)))
      · skip
        try simp only [bls] at hc2
        conv => whnf
        refine FinG.mk none ?_ (by rintro _ ⟨⟩)
        simp only [outs, List.length_map, List.length_append, List.length_take, List.length_drop, List.length_cons, List.length_nil, slC, dfC, netX, net0, List.map_nil, mix_len, pkX, slX, sl0, delS]
        rw [decide_eq_true (eq_of_at (by omega) (by omega) h1)]
      · skip
        try simp only [bls] at hc2
        conv => whnf
        refine RegG.par 9 (by kernel_rfl) ?_
        conv => whnf
        refine IdxG.map _ rfl (by first | omega | (simp only [bls] at *; omega)) ?_; intro x_ hx_ hk_
        conv => whnf
        refine ⟨rfl, ?_⟩
        conv => whnf
        refine IdxG.map _ rfl (by first | omega | (simp only [bls] at *; omega)) ?_; intro x_2 hx_2 hk_2
        conv => whnf
        refine ⟨rfl, ?_⟩
        conv => whnf
        cases hc3 : (decide (x_ = x_2))
        · skip
          try simp only [bls] at hc3
          conv => whnf
          refine FinG.mk none ?_ (by rintro _ ⟨⟩)
          simp only [outs, List.length_map, List.length_append, List.length_take, List.length_drop, List.length_cons, List.length_nil, slC, dfC, netX, net0, List.map_nil, mix_len, pkX, slX, sl0, delS]
          rw [decide_eq_false (ne_at hx_ hx_2 (by assumption))]
        · skip
          try simp only [bls] at hc3
          conv => whnf
          refine ⟨(k + 1), ⟨by omega, at_step hx_ hx_2 (by assumption) h1⟩, (by omega), ?_⟩
          refine ⟨?_, ?_, ?_⟩
          · skip
            repeat ((conv => whnf); first | exact True.intro | refine ⟨.rfl, ?_⟩ | refine ⟨.any, ?_⟩ | refine ⟨.nil, ?_⟩ | refine ⟨.int (by first | rfl | omega | (simp only [wrs]; omega)), ?_⟩)
          · skip
            repeat (first | exact LeVs.nil | ((conv => whnf); first | exact True.intro | exact .none | exact .row rfl | refine .cells ?_ | refine ⟨_, _, rfl, .rfl, ?_⟩ | refine ⟨_, _, rfl, .any, ?_⟩ | refine ⟨_, _, rfl, .nil, ?_⟩ | refine ⟨_, _, rfl, .int (by first | rfl | omega | (simp only [wrs]; omega)), ?_⟩ | refine ⟨?_, ?_⟩))
          · skip
            repeat (first | exact LeFr.nil | ((conv => whnf); first | exact True.intro | refine ⟨.rfl, ?_⟩ | refine ⟨_, _, rfl, rfl, ?_, ?_⟩))
set_option maxRecDepth 20000 in
theorem eqb1_X (c e : Bool) (a b : List Int) (hna : a.length ≤ 100000) (hnb : b.length ≤ 100000) : XMeets Try.prog 61 [.sl c (a.map by1), .sl e (b.map by1)] (.p (.v (.bool (decide (a = b)))) (nlv _)) := by
  refine XMeets.of_X tabX_ok (avs := [.p (.sl false (a.map by1)) (nl_by1 _).sl, .p (.sl false (b.map by1)) (nl_by1 _).sl]) [(0, .p (.sl false (a.map by1)) (nl_by1 _).sl), (1, .p (.sl false (b.map by1)) (nl_by1 _).sl)] (by kernel_rfl) Try.func61 rfl (by simp [PuL, Pu, netT, slC, dfC, pu_by1, pu_sl, pu_df]) (by simp only [untagL, untag, netT, untag_by1, untag_sl, untag_df]; rfl) rfl rfl ?_
  intro B w0
  conv => whnf
  cases hc1 : (decide ((↑(List.map by1 a).length : Int) = (↑(List.map by1 b).length : Int)))
  · skip
    try simp only [bls] at hc1
    conv => whnf
    refine FinG.mk none ?_ (by rintro _ ⟨⟩)
    simp only [outs, List.length_map, List.length_append, List.length_take, List.length_drop, List.length_cons, List.length_nil, slC, dfC, netX, net0, List.map_nil, mix_len, pkX, slX, sl0, delS]
    rw [decide_eq_false (ne_len (by omega))]
  · skip
    try simp only [bls] at hc1
    conv => whnf
    refine XT.loop tabX_ok (Y := Nat) [4, 5, 13, 14, 15, 16, 17, 18, 19, 20, 21, 22, 23, 24, 25] (fun k => [(13, .p (.v (.int .i64 ((k : Int)))) (nlv _))]) (fun k => []) (fun k => k ≤ a.length ∧ ∀ j, j < k → a[j]? = b[j]?) (fun k => a.length - k) 0 ⟨Nat.zero_le _, fun j hj => by omega⟩ ?_ ?_
    · skip
      refine ⟨?_, ?_, ?_⟩
      · skip
        repeat ((conv => whnf); first | exact True.intro | refine ⟨.rfl, ?_⟩ | refine ⟨.any, ?_⟩ | refine ⟨.nil, ?_⟩ | refine ⟨.int (by first | rfl | omega | (simp only [wrs]; omega)), ?_⟩)
      · skip
        repeat (first | exact LeVs.nil | ((conv => whnf); first | exact True.intro | exact .none | exact .row rfl | refine .cells ?_ | refine ⟨_, _, rfl, .rfl, ?_⟩ | refine ⟨_, _, rfl, .any, ?_⟩ | refine ⟨_, _, rfl, .nil, ?_⟩ | refine ⟨_, _, rfl, .int (by first | rfl | omega | (simp only [wrs]; omega)), ?_⟩ | refine ⟨?_, ?_⟩))
      · skip
        repeat (first | exact LeFr.nil | ((conv => whnf); first | exact True.intro | refine ⟨.rfl, ?_⟩ | refine ⟨_, _, rfl, rfl, ?_, ?_⟩))
    · skip
      rintro k ⟨hk, h1⟩
      conv => whnf
      cases hc2 : (decide ((↑k : Int) < (↑(List.map by1 a).length : Int)))
      · skip
        try simp only [bls] at hc2
        conv => whnf
        refine FinG.mk none ?_ (by rintro _ ⟨⟩)
        simp only [outs, List.length_map, List.length_append, List.length_take, List.length_drop, List.length_cons, List.length_nil, slC, dfC, netX, net0, List.map_nil, mix_len, pkX, slX, sl0, delS]
        rw [decide_eq_true (eq_of_at (by omega) (by omega) h1)]
      · skip
        try simp only [bls] at hc2
        conv => whnf
        refine RegG.par 9 (by kernel_rfl) ?_
        conv => whnf
        refine IdxG.map _ rfl (by first | omega | (simp only [bls] at *; omega)) ?_; intro x_ hx_ hk_
        conv => whnf
        refine ⟨rfl, ?_⟩
        conv => whnf
        refine IdxG.map _ rfl (by first | omega | (simp only [bls] at *; omega)) ?_; intro x_2 hx_2 hk_2
        conv => whnf
        refine ⟨rfl, ?_⟩
        conv => whnf
        cases hc3 : (decide (x_ = x_2))
        · skip
          try simp only [bls] at hc3
          conv => whnf
          refine FinG.mk none ?_ (by rintro _ ⟨⟩)
          simp only [outs, List.length_map, List.length_append, List.length_take, List.length_drop, List.length_cons, List.length_nil, slC, dfC, netX, net0, List.map_nil, mix_len, pkX, slX, sl0, delS]
          rw [decide_eq_false (ne_at hx_ hx_2 (by assumption))]
        · skip
          try simp only [bls] at hc3
          conv => whnf
          refine ⟨(k + 1), ⟨by omega, at_step hx_ hx_2 (by assumption) h1⟩, (by omega), ?_⟩
          refine ⟨?_, ?_, ?_⟩
          · skip
            repeat ((conv => whnf); first | exact True.intro | refine ⟨.rfl, ?_⟩ | refine ⟨.any, ?_⟩ | refine ⟨.nil, ?_⟩ | refine ⟨.int (by first | rfl | omega | (simp only [wrs]; omega)), ?_⟩)
          · skip
            repeat (first | exact LeVs.nil | ((conv => whnf); first | exact True.intro | exact .none | exact .row rfl | refine .cells ?_ | refine ⟨_, _, rfl, .rfl, ?_⟩ | refine ⟨_, _, rfl, .any, ?_⟩ | refine ⟨_, _, rfl, .nil, ?_⟩ | refine ⟨_, _, rfl, .int (by first | rfl | omega | (simp only [wrs]; omega)), ?_⟩ | refine ⟨?_, ?_⟩))
          · skip
            repeat (first | exact LeFr.nil | ((conv => whnf); first | exact True.intro | refine ⟨.rfl, ?_⟩ | refine ⟨_, _, rfl, rfl, ?_, ?_⟩))
set_option maxRecDepth 20000 in
theorem oeq_X (c e : Bool) (a b : List Int) (hna : a.length ≤ 100000) (hnb : b.length ≤ 100000) : XMeets Try.prog 54 [.sl c (a.map by1), .sl e (b.map by1)] (.p (.v (.bool (decide (a = b)))) (nlv _)) := by
  refine XMeets.of_X tabX_ok (avs := [.p (.sl false (a.map by1)) (nl_by1 _).sl, .p (.sl false (b.map by1)) (nl_by1 _).sl]) [(0, .p (.sl false (a.map by1)) (nl_by1 _).sl), (1, .p (.sl false (b.map by1)) (nl_by1 _).sl)] (by kernel_rfl) Try.func54 rfl (by simp [PuL, Pu, netT, slC, dfC, pu_by1, pu_sl, pu_df]) (by simp only [untagL, untag, netT, untag_by1, untag_sl, untag_df]; rfl) rfl rfl ?_
  intro B w0
  conv => whnf
  refine .ct ?_
  conv => whnf
  refine CallG.mk (eqb_X _ _ _ _ (by first | assumption | omega) (by first | assumption | omega)) rfl ?_
  conv => whnf
  refine FinG.mk none ?_ (by rintro _ ⟨⟩)
  simp only [outs, List.length_map, List.length_append, List.length_take, List.length_drop, List.length_cons, List.length_nil, slC, dfC, netX, net0, List.map_nil, mix_len, pkX, slX, sl0, delS]
set_option maxRecDepth 20000 in
theorem eqd_X (c e : Bool) (a b : List (Int × Int)) (hna : a.length ≤ 100000) (hnb : b.length ≤ 100000) : XMeets Try.prog 51 [.sl c (a.map dfC), .sl e (b.map dfC)] (.p (.v (.bool (decide (a = b)))) (nlv _)) := by
  refine XMeets.of_X tabX_ok (avs := [.p (.sl false (a.map dfC)) (nl_df _).sl, .p (.sl false (b.map dfC)) (nl_df _).sl]) [(0, .p (.sl false (a.map dfC)) (nl_df _).sl), (1, .p (.sl false (b.map dfC)) (nl_df _).sl)] (by kernel_rfl) Try.func51 rfl (by simp [PuL, Pu, netT, slC, dfC, pu_by1, pu_sl, pu_df]) (by simp only [untagL, untag, netT, untag_by1, untag_sl, untag_df]; rfl) rfl rfl ?_
  intro B w0
  conv => whnf
  cases hc1 : (decide ((↑(List.map dfC a).length : Int) = (↑(List.map dfC b).length : Int)))
  · skip
    try simp only [bls] at hc1
    conv => whnf
    refine FinG.mk none ?_ (by rintro _ ⟨⟩)
    simp only [outs, List.length_map, List.length_append, List.length_take, List.length_drop, List.length_cons, List.length_nil, slC, dfC, netX, net0, List.map_nil, mix_len, pkX, slX, sl0, delS]
    rw [decide_eq_false (ne_len (by omega))]
  · skip
    try simp only [bls] at hc1
    conv => whnf
    refine XT.loop tabX_ok (Y := Nat) [4, 5, 13, 14, 15, 16, 17, 18, 19, 20, 21, 22, 23, 24, 25] (fun k => [(13, .p (.v (.int .i64 ((k : Int)))) (nlv _))]) (fun k => []) (fun k => k ≤ a.length ∧ ∀ j, j < k → a[j]? = b[j]?) (fun k => a.length - k) 0 ⟨Nat.zero_le _, fun j hj => by omega⟩ ?_ ?_
    · skip
      refine ⟨?_, ?_, ?_⟩
      · skip
        repeat ((conv => whnf); first | exact True.intro | refine ⟨.rfl, ?_⟩ | refine ⟨.any, ?_⟩ | refine ⟨.nil, ?_⟩ | refine ⟨.int (by first | rfl | omega | (simp only [wrs]; omega)), ?_⟩)
      · skip
        repeat (first | exact LeVs.nil | ((conv => whnf); first | exact True.intro | exact .none | exact .row rfl | refine .cells ?_ | refine ⟨_, _, rfl, .rfl, ?_⟩ | refine ⟨_, _, rfl, .any, ?_⟩ | refine ⟨_, _, rfl, .nil, ?_⟩ | refine ⟨_, _, rfl, .int (by first | rfl | omega | (simp only [wrs]; omega)), ?_⟩ | refine ⟨?_, ?_⟩))
      · skip
        repeat (first | exact LeFr.nil | ((conv => whnf); first | exact True.intro | refine ⟨.rfl, ?_⟩ | refine ⟨_, _, rfl, rfl, ?_, ?_⟩))
    · skip
      rintro k ⟨hk, h1⟩
      conv => whnf
      cases hc2 : (decide ((↑k : Int) < (↑(List.map dfC a).length : Int)))
      · skip
        try simp only [bls] at hc2
        conv => whnf
        refine FinG.mk none ?_ (by rintro _ ⟨⟩)
        simp only [outs, List.length_map, List.length_append, List.length_take, List.length_drop, List.length_cons, List.length_nil, slC, dfC, netX, net0, List.map_nil, mix_len, pkX, slX, sl0, delS]
        rw [decide_eq_true (eq_of_at (by omega) (by omega) h1)]
      · skip
        try simp only [bls] at hc2
        conv => whnf
        refine RegG.par 9 (by kernel_rfl) ?_
        conv => whnf
        refine IdxG.map _ rfl (by first | omega | (simp only [bls] at *; omega)) ?_; intro x_ hx_ hk_
        conv => whnf
        refine ⟨rfl, ?_⟩
        conv => whnf
        refine IdxG.map _ rfl (by first | omega | (simp only [bls] at *; omega)) ?_; intro x_2 hx_2 hk_2
        conv => whnf
        refine ⟨rfl, ?_⟩
        conv => whnf
        refine BinG.mk rfl rfl (neDf_run _ _ _ _ _ _) ?_
        conv => whnf
        cases hc3 : ((decide (x_.fst = x_2.fst) && decide (x_.snd = x_2.snd)))
        · skip
          try simp only [bls] at hc3
          conv => whnf
          refine FinG.mk none ?_ (by rintro _ ⟨⟩)
          simp only [outs, List.length_map, List.length_append, List.length_take, List.length_drop, List.length_cons, List.length_nil, slC, dfC, netX, net0, List.map_nil, mix_len, pkX, slX, sl0, delS]
          rw [decide_eq_false (ne_at hx_ hx_2 (pair_ne (by simp_all; done)))]
        · skip
          try simp only [bls] at hc3
          conv => whnf
          refine ⟨(k + 1), ⟨by omega, at_step hx_ hx_2 (pair_eq (by simp_all; done)) h1⟩, (by omega), ?_⟩
          refine ⟨?_, ?_, ?_⟩
          · skip
            repeat ((conv => whnf); first | exact True.intro | refine ⟨.rfl, ?_⟩ | refine ⟨.any, ?_⟩ | refine ⟨.nil, ?_⟩ | refine ⟨.int (by first | rfl | omega | (simp only [wrs]; omega)), ?_⟩)
          · skip
            repeat (first | exact LeVs.nil | ((conv => whnf); first | exact True.intro | exact .none | exact .row rfl | refine .cells ?_ | refine ⟨_, _, rfl, .rfl, ?_⟩ | refine ⟨_, _, rfl, .any, ?_⟩ | refine ⟨_, _, rfl, .nil, ?_⟩ | refine ⟨_, _, rfl, .int (by first | rfl | omega | (simp only [wrs]; omega)), ?_⟩ | refine ⟨?_, ?_⟩))
          · skip
            repeat (first | exact LeFr.nil | ((conv => whnf); first | exact True.intro | refine ⟨.rfl, ?_⟩ | refine ⟨_, _, rfl, rfl, ?_, ?_⟩))
set_option maxRecDepth 20000 in
theorem same1_X (c e : Bool) (x y : Sl) (hna : x.b.length ≤ 100000) (hnb : y.b.length ≤ 100000) : XMeets Try.prog 53 [.agg [.v (.int .i64 x.a), .v (.int .i64 x.f), .v (.int .i64 x.t), .sl c (x.b.map by1)], .agg [.v (.int .i64 y.a), .v (.int .i64 y.f), .v (.int .i64 y.t), .sl e (y.b.map by1)]] (.p (.v (.bool (decide (x = y)))) (nlv _)) := by
  refine XMeets.of_X tabX_ok (avs := [.ag [.p (.v (.int .i64 x.a)) (nlv _), .p (.v (.int .i64 x.f)) (nlv _), .p (.v (.int .i64 x.t)) (nlv _), .p (.sl false (x.b.map by1)) (nl_by1 _).sl], .ag [.p (.v (.int .i64 y.a)) (nlv _), .p (.v (.int .i64 y.f)) (nlv _), .p (.v (.int .i64 y.t)) (nlv _), .p (.sl false (y.b.map by1)) (nl_by1 _).sl]]) [(0, .ag [.p (.v (.int .i64 x.a)) (nlv _), .p (.v (.int .i64 x.f)) (nlv _), .p (.v (.int .i64 x.t)) (nlv _), .p (.sl false (x.b.map by1)) (nl_by1 _).sl]), (1, .ag [.p (.v (.int .i64 y.a)) (nlv _), .p (.v (.int .i64 y.f)) (nlv _), .p (.v (.int .i64 y.t)) (nlv _), .p (.sl false (y.b.map by1)) (nl_by1 _).sl])] (by kernel_rfl) Try.func53 rfl (by simp [PuL, Pu, netT, slC, dfC, pu_by1, pu_sl, pu_df]) (by simp only [untagL, untag, netT, untag_by1, untag_sl, untag_df]; rfl) rfl rfl ?_
  intro B w0
  conv => whnf
  cases hc1 : (decide (x.a = y.a))
  · skip
    try simp only [bls] at hc1
    conv => whnf
    refine FinG.mk none ?_ (by rintro _ ⟨⟩)
    simp only [outs, List.length_map, List.length_append, List.length_take, List.length_drop, List.length_cons, List.length_nil, slC, dfC, netX, net0, List.map_nil, mix_len, pkX, slX, sl0, delS]
    simp_all [sl_eq]
  · skip
    try simp only [bls] at hc1
    conv => whnf
    cases hc2 : (decide (x.f = y.f))
    · skip
      try simp only [bls] at hc2
      conv => whnf
      refine FinG.mk none ?_ (by rintro _ ⟨⟩)
      simp only [outs, List.length_map, List.length_append, List.length_take, List.length_drop, List.length_cons, List.length_nil, slC, dfC, netX, net0, List.map_nil, mix_len, pkX, slX, sl0, delS]
      simp_all [sl_eq]
    · skip
      try simp only [bls] at hc2
      conv => whnf
      cases hc3 : (decide (x.t = y.t))
      · skip
        try simp only [bls] at hc3
        conv => whnf
        refine FinG.mk none ?_ (by rintro _ ⟨⟩)
        simp only [outs, List.length_map, List.length_append, List.length_take, List.length_drop, List.length_cons, List.length_nil, slC, dfC, netX, net0, List.map_nil, mix_len, pkX, slX, sl0, delS]
        simp_all [sl_eq]
      · skip
        try simp only [bls] at hc3
        conv => whnf
        refine .ct ?_
        conv => whnf
        refine CallG.mk (oeq_X _ _ _ _ (by first | assumption | omega) (by first | assumption | omega)) rfl ?_
        conv => whnf
        refine FinG.mk none ?_ (by rintro _ ⟨⟩)
        simp only [outs, List.length_map, List.length_append, List.length_take, List.length_drop, List.length_cons, List.length_nil, slC, dfC, netX, net0, List.map_nil, mix_len, pkX, slX, sl0, delS]
        simp_all [sl_eq]
set_option maxRecDepth 20000 in
theorem sameSlot_X (c e : Bool) (x y : Sl) (hna : x.b.length ≤ 100000) (hnb : y.b.length ≤ 100000) : XMeets Try.prog 37 [.agg [.v (.int .i64 x.a), .v (.int .i64 x.f), .v (.int .i64 x.t), .sl c (x.b.map by1)], .agg [.v (.int .i64 y.a), .v (.int .i64 y.f), .v (.int .i64 y.t), .sl e (y.b.map by1)]] (.p (.v (.bool (decide (x = y)))) (nlv _)) := by
  refine XMeets.of_X tabX_ok (avs := [.ag [.p (.v (.int .i64 x.a)) (nlv _), .p (.v (.int .i64 x.f)) (nlv _), .p (.v (.int .i64 x.t)) (nlv _), .p (.sl false (x.b.map by1)) (nl_by1 _).sl], .ag [.p (.v (.int .i64 y.a)) (nlv _), .p (.v (.int .i64 y.f)) (nlv _), .p (.v (.int .i64 y.t)) (nlv _), .p (.sl false (y.b.map by1)) (nl_by1 _).sl]]) [(0, .ag [.p (.v (.int .i64 x.a)) (nlv _), .p (.v (.int .i64 x.f)) (nlv _), .p (.v (.int .i64 x.t)) (nlv _), .p (.sl false (x.b.map by1)) (nl_by1 _).sl]), (1, .ag [.p (.v (.int .i64 y.a)) (nlv _), .p (.v (.int .i64 y.f)) (nlv _), .p (.v (.int .i64 y.t)) (nlv _), .p (.sl false (y.b.map by1)) (nl_by1 _).sl])] (by kernel_rfl) Try.func37 rfl (by simp [PuL, Pu, netT, slC, dfC, pu_by1, pu_sl, pu_df]) (by simp only [untagL, untag, netT, untag_by1, untag_sl, untag_df]; rfl) rfl rfl ?_
  intro B w0
  conv => whnf
  cases hc1 : (decide (x.a = y.a))
  · skip
    try simp only [bls] at hc1
    conv => whnf
    refine FinG.mk none ?_ (by rintro _ ⟨⟩)
    simp only [outs, List.length_map, List.length_append, List.length_take, List.length_drop, List.length_cons, List.length_nil, slC, dfC, netX, net0, List.map_nil, mix_len, pkX, slX, sl0, delS]
    simp_all [sl_eq]
  · skip
    try simp only [bls] at hc1
    conv => whnf
    cases hc2 : (decide (x.f = y.f))
    · skip
      try simp only [bls] at hc2
      conv => whnf
      refine FinG.mk none ?_ (by rintro _ ⟨⟩)
      simp only [outs, List.length_map, List.length_append, List.length_take, List.length_drop, List.length_cons, List.length_nil, slC, dfC, netX, net0, List.map_nil, mix_len, pkX, slX, sl0, delS]
      simp_all [sl_eq]
    · skip
      try simp only [bls] at hc2
      conv => whnf
      cases hc3 : (decide (x.t = y.t))
      · skip
        try simp only [bls] at hc3
        conv => whnf
        refine FinG.mk none ?_ (by rintro _ ⟨⟩)
        simp only [outs, List.length_map, List.length_append, List.length_take, List.length_drop, List.length_cons, List.length_nil, slC, dfC, netX, net0, List.map_nil, mix_len, pkX, slX, sl0, delS]
        simp_all [sl_eq]
      · skip
        try simp only [bls] at hc3
        conv => whnf
        refine .ct ?_
        conv => whnf
        refine CallG.mk (eqb1_X _ _ _ _ (by first | assumption | omega) (by first | assumption | omega)) rfl ?_
        conv => whnf
        refine FinG.mk none ?_ (by rintro _ ⟨⟩)
        simp only [outs, List.length_map, List.length_append, List.length_take, List.length_drop, List.length_cons, List.length_nil, slC, dfC, netX, net0, List.map_nil, mix_len, pkX, slX, sl0, delS]
        simp_all [sl_eq]
set_option maxRecDepth 20000 in
theorem eqf_X (c c2 e e2 : Bool) (a b : List Sl) (hna : a.length ≤ 100000) (hnb : b.length ≤ 100000) (hba : ∀ x ∈ a, x.b.length ≤ 100000) (hbb : ∀ x ∈ b, x.b.length ≤ 100000) : XMeets Try.prog 52 [.sl c (a.map (slC c2)), .sl e (b.map (slC e2)), .fn (.func 53) []] (.p (.v (.bool (decide (a = b)))) (nlv _)) := by
  refine XMeets.of_X tabX_ok (avs := [.p (.sl false (a.map (slC false))) (nl_sl _ _).sl, .p (.sl false (b.map (slC false))) (nl_sl _ _).sl, .fu (.func 53) []]) [(0, .p (.sl false (a.map (slC false))) (nl_sl _ _).sl), (1, .p (.sl false (b.map (slC false))) (nl_sl _ _).sl), (2, .fu (.func 53) [])] (by kernel_rfl) Try.func52 rfl (by simp [PuL, Pu, netT, slC, dfC, pu_by1, pu_sl, pu_df]) (by simp only [untagL, untag, netT, untag_by1, untag_sl, untag_df]; rfl) rfl rfl ?_
  intro B w0
  conv => whnf
  cases hc1 : (decide ((↑(List.map (slC false) a).length : Int) = (↑(List.map (slC false) b).length : Int)))
  · skip
    try simp only [bls] at hc1
    conv => whnf
    refine FinG.mk none ?_ (by rintro _ ⟨⟩)
    simp only [outs, List.length_map, List.length_append, List.length_take, List.length_drop, List.length_cons, List.length_nil, slC, dfC, netX, net0, List.map_nil, mix_len, pkX, slX, sl0, delS]
    rw [decide_eq_false (ne_len (by omega))]
  · skip
    try simp only [bls] at hc1
    conv => whnf
    refine XT.loop tabX_ok (Y := Nat) [6, 7, 8, 9, 17, 18, 19, 20, 21, 22, 23, 24, 25, 26, 27, 28, 29, 30, 31] (fun k => [(17, .p (.v (.int .i64 ((k : Int)))) (nlv _))]) (fun k => []) (fun k => k ≤ a.length ∧ ∀ j, j < k → a[j]? = b[j]?) (fun k => a.length - k) 0 ⟨Nat.zero_le _, fun j hj => by omega⟩ ?_ ?_
    · skip
      refine ⟨?_, ?_, ?_⟩
      · skip
        repeat ((conv => whnf); first | exact True.intro | refine ⟨.rfl, ?_⟩ | refine ⟨.any, ?_⟩ | refine ⟨.nil, ?_⟩ | refine ⟨.int (by first | rfl | omega | (simp only [wrs]; omega)), ?_⟩)
      · skip
        repeat (first | exact LeVs.nil | ((conv => whnf); first | exact True.intro | exact .none | exact .row rfl | refine .cells ?_ | refine ⟨_, _, rfl, .rfl, ?_⟩ | refine ⟨_, _, rfl, .any, ?_⟩ | refine ⟨_, _, rfl, .nil, ?_⟩ | refine ⟨_, _, rfl, .int (by first | rfl | omega | (simp only [wrs]; omega)), ?_⟩ | refine ⟨?_, ?_⟩))
      · skip
        repeat (first | exact LeFr.nil | ((conv => whnf); first | exact True.intro | refine ⟨.rfl, ?_⟩ | refine ⟨_, _, rfl, rfl, ?_, ?_⟩))
    · skip
      rintro k ⟨hk, h1⟩
      conv => whnf
      cases hc2 : (decide ((↑k : Int) < (↑(List.map (slC false) a).length : Int)))
      · skip
        try simp only [bls] at hc2
        conv => whnf
        refine FinG.mk none ?_ (by rintro _ ⟨⟩)
        simp only [outs, List.length_map, List.length_append, List.length_take, List.length_drop, List.length_cons, List.length_nil, slC, dfC, netX, net0, List.map_nil, mix_len, pkX, slX, sl0, delS]
        rw [decide_eq_true (eq_of_at (by omega) (by omega) h1)]
      · skip
        try simp only [bls] at hc2
        conv => whnf
        refine IdxG.map _ rfl (by first | omega | (simp only [List.length_map] at *; omega)) ?_; intro x_ hx_ hk_
        conv => whnf
        refine ⟨rfl, ?_⟩
        conv => whnf
        refine IdxG.map _ rfl (by first | omega | (simp only [List.length_map] at *; omega)) ?_; intro x_2 hx_2 hk_2; have hb_ := hba x_ (List.mem_of_getElem? hx_); have hb_2 := hbb x_2 (List.mem_of_getElem? hx_2)
        conv => whnf
        refine ⟨rfl, ?_⟩
        conv => whnf
        refine .ct ?_
        conv => whnf
        refine CallG.mk (same1_X _ _ _ _ (by first | assumption | omega) (by first | assumption | omega)) rfl ?_
        conv => whnf
        cases hc3 : (decide (x_ = x_2))
        · skip
          try simp only [bls] at hc3
          conv => whnf
          refine FinG.mk none ?_ (by rintro _ ⟨⟩)
          simp only [outs, List.length_map, List.length_append, List.length_take, List.length_drop, List.length_cons, List.length_nil, slC, dfC, netX, net0, List.map_nil, mix_len, pkX, slX, sl0, delS]
          rw [decide_eq_false (ne_at hx_ hx_2 (by assumption))]
        · skip
          try simp only [bls] at hc3
          conv => whnf
          refine ⟨(k + 1), ⟨by omega, at_step hx_ hx_2 (by assumption) h1⟩, (by omega), ?_⟩
          refine ⟨?_, ?_, ?_⟩
          · skip
            repeat ((conv => whnf); first | exact True.intro | refine ⟨.rfl, ?_⟩ | refine ⟨.any, ?_⟩ | refine ⟨.nil, ?_⟩ | refine ⟨.int (by first | rfl | omega | (simp only [wrs]; omega)), ?_⟩)
          · skip
            repeat (first | exact LeVs.nil | ((conv => whnf); first | exact True.intro | exact .none | exact .row rfl | refine .cells ?_ | refine ⟨_, _, rfl, .rfl, ?_⟩ | refine ⟨_, _, rfl, .any, ?_⟩ | refine ⟨_, _, rfl, .nil, ?_⟩ | refine ⟨_, _, rfl, .int (by first | rfl | omega | (simp only [wrs]; omega)), ?_⟩ | refine ⟨?_, ?_⟩))
          · skip
            repeat (first | exact LeFr.nil | ((conv => whnf); first | exact True.intro | refine ⟨.rfl, ?_⟩ | refine ⟨_, _, rfl, rfl, ?_, ?_⟩))
structure NetA.Sz (n : NetA) : Prop where
  s : n.s.length ≤ 100000
  d : n.d.length ≤ 100000
  b : ∀ x ∈ n.s, x.b.length ≤ 100000
theorem NetA.Ok.sz {n : NetA} (h : n.Ok) : n.Sz := ⟨by have := h.sn; omega, by have := h.dn; omega, fun x hx => (h.s x hx).n⟩
/-- A net that can be gone through. -/
def fewS (s : Sl) : Sl := ⟨s.a, s.f, s.t, s.b.take 70001⟩
def fewN (n : NetA) : NetA := ⟨(n.s.take 81).map fewS, n.l, n.d.take 70⟩
/-- What comes in. -/
structure NetA.In (n : NetA) : Prop where
  s : ∀ x ∈ n.s, I64 x.a ∧ I64 x.f ∧ I64 x.t ∧ x.b.length ≤ 9223372036854775807
  sn : n.s.length ≤ 9223372036854775807
  l : I64 n.l
  d : ∀ x ∈ n.d, I64 x.1 ∧ I64 x.2
  dn : n.d.length ≤ 9223372036854775807
theorem few_ok {n : NetA} (h : n.In) : (fewN n).Ok := by
  refine ⟨fun x hx => ?_, by simp [fewN]; omega, h.l, fun x hx => h.d x (List.mem_of_mem_take hx), by simp [fewN]; omega⟩
  obtain ⟨y, hy, rfl⟩ := List.mem_map.1 hx
  have := h.s y (List.mem_of_mem_take hy)
  exact ⟨this.1, this.2.1, this.2.2.1, by simp [fewS]; omega⟩
theorem take_min {α : Type} (g : α → List TV) (l : List α) (k : Nat) {m : Int} (hm : m = (k : Int)) : List.take (min ((l.map g).length : Int) m).toNat (l.map g) = (l.take k).map g := by
  subst hm
  rw [List.map_take]
  rcases Nat.le_total (l.map g).length k with h | h
  · rw [Int.min_eq_left (by omega), List.take_of_length_le (by simp), List.take_of_length_le h]
  · rw [Int.min_eq_right (by omega)]
    simp
def fewR (s : List Sl) (k : Nat) : List Sl := (s.take (min k 81)).map fewS
theorem fewR_s {s : List Sl} {k : Nat} {y : Sl} (hy : s[k]? = some y) (hk : k ≤ 80) : fewR s (k + 1) = fewR s k ++ [fewS y] := by
  obtain ⟨hl, rfl⟩ := List.getElem?_eq_some_iff.1 hy
  unfold fewR
  rw [Nat.min_eq_left (by omega), Nat.min_eq_left (by omega), List.take_succ_eq_append_getElem hl, List.map_append]
  rfl
theorem fewR_n {s : List Sl} {k : Nat} (hk : 80 < k) : fewR s (k + 1) = fewR s k := by
  unfold fewR
  rw [Nat.min_eq_right (by omega), Nat.min_eq_right (by omega)]
theorem fewR_len (s : List Sl) (k : Nat) : (fewR s k).length ≤ 81 := by simp [fewR]; omega
theorem fewR_e {s : List Sl} {k : Nat} (hk : s.length ≤ k) : fewR s k = (s.take 81).map fewS := by
  unfold fewR
  rcases Nat.lt_or_ge k 81 with h | h
  · rw [Nat.min_eq_left (by omega), List.take_of_length_le hk, List.take_of_length_le (by omega)]
  · rw [Nat.min_eq_right (by omega)]
section
variable {P : Program} {B : Nat} {w0 : World} {T : Tab} {n : Nat} {e : Env} {h : List XLB} {gs : Frames} {K : XQ} {c : Code}
theorem XT.nilc (i j : Nat) (ty : TypeId) (sz : Nat) {t : TypeId} {cs : List XV} {hp : Nl .nil_} (hi : hget h i = .cells t cs) (hj : cs[j]? = some (.p .nil_ hp)) (hx : XT P B w0 n c e ((h ++ [XLB.row ty sz [] .nil]).set i (XLB.cells t (cs.set j (XV.row h.length)))) gs K) : XT P B w0 n c e h gs K := ⟨fun gh Q hq => by
  refine TW.le (hx.ok gh Q hq) ?_
  have h1 : hf (h.map XLB.den) i = .cells t (XV.denL cs) := by rw [← hget_den, hi]; rfl
  have h2 : (XV.denL cs)[j]? = some .nil_ := by rw [denL_map, List.getElem?_map, hj]; rfl
  have := SLe.nilrow_in (B := B) (w0 := w0) (gh := gh) (σ := xst n e h gs) (i := i) (j := j) ty sz h1 h2
  have e1 : ((h ++ [XLB.row ty sz [] .nil]).set i (.cells t (cs.set j (.row h.length)))).map XLB.den = (h.map XLB.den ++ [LB.row ty sz []]).set i (.cells t ((XV.denL cs).set j (.row (h.map XLB.den).length))) := by
    rw [List.map_set, List.map_append, List.length_map]
    simp only [XLB.den, denL_map, List.map_set, XV.den, List.map_cons, List.map_nil]
  simp only [xst, e1] at this ⊢
  exact this⟩
end
set_option maxRecDepth 20000 in
theorem same_X (c c2 c3 e e2 e3 : Bool) (n m : NetA) (hn : n.Sz) (hm : m.Sz) : XMeets Try.prog 24 [netT c c2 c3 n, netT e e2 e3 m] (.p (.v (.bool (decide (n = m)))) (nlv _)) := by
  refine XMeets.of_X tabX_ok (avs := [.ag [.p (.sl false (n.s.map (slC false))) (nl_sl _ _).sl, .p (.v (.int .i64 n.l)) (nlv _), .p (.sl false (n.d.map dfC)) (nl_df _).sl], .ag [.p (.sl false (m.s.map (slC false))) (nl_sl _ _).sl, .p (.v (.int .i64 m.l)) (nlv _), .p (.sl false (m.d.map dfC)) (nl_df _).sl]]) [(0, .ag [.p (.sl false (n.s.map (slC false))) (nl_sl _ _).sl, .p (.v (.int .i64 n.l)) (nlv _), .p (.sl false (n.d.map dfC)) (nl_df _).sl]), (1, .ag [.p (.sl false (m.s.map (slC false))) (nl_sl _ _).sl, .p (.v (.int .i64 m.l)) (nlv _), .p (.sl false (m.d.map dfC)) (nl_df _).sl])] (by kernel_rfl) Try.func24 rfl (by simp [PuL, Pu, netT, slC, dfC, pu_by1, pu_sl, pu_df]) (by simp only [untagL, untag, netT, untag_by1, untag_sl, untag_df]; rfl) rfl rfl ?_
  intro B w0
  have hn1 := hn.s
  have hn2 := hn.d
  have hn3 := hn.b
  have hm1 := hm.s
  have hm2 := hm.d
  have hm3 := hm.b
  conv => whnf
  cases hc1 : (decide (n.l = m.l))
  · skip
    try simp only [bls] at hc1
    conv => whnf
    refine FinG.mk none ?_ (by rintro _ ⟨⟩)
    simp only [outs, List.length_map, List.length_append, List.length_take, List.length_drop, List.length_cons, List.length_nil, slC, dfC, netX, net0, List.map_nil, mix_len, pkX, slX, sl0, delS]
    simp_all [net_eq]
  · skip
    try simp only [bls] at hc1
    conv => whnf
    refine .ct ?_
    conv => whnf
    refine CallG.mk (eqd_X _ _ _ _ (by first | assumption | omega) (by first | assumption | omega)) rfl ?_
    conv => whnf
    cases hc2 : (decide (n.d = m.d))
    · skip
      try simp only [bls] at hc2
      conv => whnf
      refine FinG.mk none ?_ (by rintro _ ⟨⟩)
      simp only [outs, List.length_map, List.length_append, List.length_take, List.length_drop, List.length_cons, List.length_nil, slC, dfC, netX, net0, List.map_nil, mix_len, pkX, slX, sl0, delS]
      simp_all [net_eq]
    · skip
      try simp only [bls] at hc2
      conv => whnf
      refine .ct ?_
      conv => whnf
      refine CallG.mk (eqf_X _ _ _ _ _ _ (by first | assumption | omega) (by first | assumption | omega) (by assumption) (by assumption)) rfl ?_
      conv => whnf
      refine FinG.mk none ?_ (by rintro _ ⟨⟩)
      simp only [outs, List.length_map, List.length_append, List.length_take, List.length_drop, List.length_cons, List.length_nil, slC, dfC, netX, net0, List.map_nil, mix_len, pkX, slX, sl0, delS]
      simp_all [net_eq]
set_option maxRecDepth 20000 in
theorem few_X (b c e : Bool) (n : NetA) (hn : n.In) : XMeets Try.prog 10 [netT b c e n] (netX (fewN n)) := by
  refine XMeets.of_X tabX_ok (avs := [.ag [.p (.sl false (n.s.map (slC false))) (nl_sl _ _).sl, .p (.v (.int .i64 n.l)) (nlv _), .p (.sl false (n.d.map dfC)) (nl_df _).sl]]) [(0, .ag [.p (.sl false (n.s.map (slC false))) (nl_sl _ _).sl, .p (.v (.int .i64 n.l)) (nlv _), .p (.sl false (n.d.map dfC)) (nl_df _).sl])] (by kernel_rfl) Try.func10 rfl (by simp [PuL, Pu, netT, slC, dfC, pu_by1, pu_sl, pu_df]) (by simp only [untagL, untag, netT, untag_by1, untag_sl, untag_df]; rfl) rfl rfl ?_
  intro B w0
  have hn1 := hn.sn
  have hn2 := hn.dn
  conv => whnf
  refine RegG.par 12 (by kernel_rfl) ?_
  conv => whnf
  refine ⟨_, (Int.toNat_of_nonneg (by omega)).symm, ?_⟩
  conv => whnf
  refine ⟨by omega, ?_⟩
  conv => whnf
  refine ⟨by omega, ?_⟩
  conv => whnf
  refine ⟨df_len _, ?_⟩
  conv => whnf
  refine .cl (els := (n.d.take 70).map dfC) (nl_df _) clone_deaf (by rw [take_min dfC n.d 70 (m := 70) rfl]) (df_len _) (df_one _) (by simp; omega) ?_
  conv => whnf
  refine XT.nilc 3 0 65 4 rfl rfl ?_
  refine XT.loop tabX_ok (Y := Nat) [4, 5, 20, 21, 22, 23, 24, 25, 26, 27, 28, 29, 30, 31, 32, 33, 34, 35, 36, 37, 38, 39, 40, 41, 42, 43, 44, 45] (fun k => [(20, .p (.v (.int .i64 ((k : Int)))) (nlv _))]) (fun k => [(3, .cells 25 [.row 4, .p (.v (.int .i64 n.l)) (nlv _), .row 2]), (4, .row 65 4 ((fewR n.s k).map (slC true)) (nl_sl _ _))]) (fun k => k ≤ n.s.length) (fun k => n.s.length - k) 0 (Nat.zero_le _) ?_ ?_
  · skip
    refine ⟨?_, ?_, ?_⟩
    · skip
      repeat ((conv => whnf); first | exact True.intro | refine ⟨.rfl, ?_⟩ | refine ⟨.any, ?_⟩ | refine ⟨.nil, ?_⟩ | refine ⟨.int (by first | rfl | omega | (simp only [wrs]; omega)), ?_⟩)
    · skip
      repeat (first | exact LeVs.nil | ((conv => whnf); first | exact True.intro | exact .none | exact .row rfl | exact .row (by rw [fewR_s hy (by omega), List.map_append]; rfl) | exact .row ((by rw [fewR_s hy (by omega), List.map_append]; rfl : _ = _).symm) | exact .row (by rw [fewR_n (by omega)]) | exact .row ((by simp [fewR])) | refine .cells ?_ | refine ⟨_, _, rfl, .rfl, ?_⟩ | refine ⟨_, _, rfl, .any, ?_⟩ | refine ⟨_, _, rfl, .nil, ?_⟩ | refine ⟨_, _, rfl, .int (by first | rfl | omega | (simp only [wrs]; omega)), ?_⟩ | refine ⟨?_, ?_⟩))
    · skip
      repeat (first | exact LeFr.nil | ((conv => whnf); first | exact True.intro | refine ⟨.rfl, ?_⟩ | refine ⟨_, _, rfl, rfl, ?_, ?_⟩))
  · skip
    rintro k hk
    conv => whnf
    cases hc1 : (decide ((↑k : Int) < (↑(List.map (slC false) n.s).length : Int)))
    · skip
      try simp only [bls] at hc1
      conv => whnf
      refine FinG.mk none ?_ (by rintro _ ⟨⟩)
      simp only [outs, List.length_map, List.length_append, List.length_take, List.length_drop, List.length_cons, List.length_nil, slC, dfC, netX, net0, List.map_nil, mix_len, pkX, slX, sl0, delS]
      rw [fewR_e (by omega)]
      exact ⟨⟨⟨_, _, rfl⟩, fr_sl _, by simp⟩, rfl, ⟨_, _, rfl⟩, fr_df _, by simp⟩
    · skip
      try simp only [bls] at hc1
      conv => whnf
      refine IdxG.map _ rfl (by first | omega | (simp only [List.length_map] at *; omega)) ?_; intro y hy hny; have hyb := (hn.s y (List.mem_of_getElem? hy)).2.2.2
      conv => whnf
      refine ⟨rfl, ?_⟩
      conv => whnf
      cases hc2 : (decide ((↑k : Int) ≤ 80))
      · skip
        try simp only [bls] at hc2
        conv => whnf
        refine ⟨(k + 1), (by omega), (by omega), ?_⟩
        refine ⟨?_, ?_, ?_⟩
        · skip
          repeat ((conv => whnf); first | exact True.intro | refine ⟨.rfl, ?_⟩ | refine ⟨.any, ?_⟩ | refine ⟨.nil, ?_⟩ | refine ⟨.int (by first | rfl | omega | (simp only [wrs]; omega)), ?_⟩)
        · skip
          repeat (first | exact LeVs.nil | ((conv => whnf); first | exact True.intro | exact .none | exact .row rfl | exact .row (by rw [fewR_s hy (by omega), List.map_append]; rfl) | exact .row ((by rw [fewR_s hy (by omega), List.map_append]; rfl : _ = _).symm) | exact .row (by rw [fewR_n (by omega)]) | exact .row ((by simp [fewR])) | refine .cells ?_ | refine ⟨_, _, rfl, .rfl, ?_⟩ | refine ⟨_, _, rfl, .any, ?_⟩ | refine ⟨_, _, rfl, .nil, ?_⟩ | refine ⟨_, _, rfl, .int (by first | rfl | omega | (simp only [wrs]; omega)), ?_⟩ | refine ⟨?_, ?_⟩))
        · skip
          repeat (first | exact LeFr.nil | ((conv => whnf); first | exact True.intro | refine ⟨.rfl, ?_⟩ | refine ⟨_, _, rfl, rfl, ?_, ?_⟩))
      · skip
        try simp only [bls] at hc2
        conv => whnf
        refine ⟨_, (Int.toNat_of_nonneg (by omega)).symm, ?_⟩
        conv => whnf
        refine ⟨by have h8 := fewR_len n.s k; simp only [List.length_map, List.length_cons, List.length_nil]; omega, ?_⟩
        conv => whnf
        refine ⟨by have h8 := fewR_len n.s k; simp only [List.length_map, List.length_cons, List.length_nil]; omega, ?_⟩
        conv => whnf
        refine ⟨by_len _, ?_⟩
        conv => whnf
        refine .ct ?_
        conv => whnf
        refine .cl (els := (y.b.take 70001).map by1) (nl_by1 _) clone_byte (by rw [take_min by1 y.b 70001 (m := 70001) rfl]) (by_len _) (by_one _) (by simp; omega) ?_
        conv => whnf
        refine ⟨ApOk.lit rfl, ?_⟩
        conv => whnf
        refine ⟨by have h8 := fewR_len n.s k; simp only [List.length_map, List.length_cons, List.length_nil]; omega, ?_⟩
        conv => whnf
        refine ⟨(k + 1), (by omega), (by omega), ?_⟩
        refine ⟨?_, ?_, ?_⟩
        · skip
          repeat ((conv => whnf); first | exact True.intro | refine ⟨.rfl, ?_⟩ | refine ⟨.any, ?_⟩ | refine ⟨.nil, ?_⟩ | refine ⟨.int (by first | rfl | omega | (simp only [wrs]; omega)), ?_⟩)
        · skip
          repeat (first | exact LeVs.nil | ((conv => whnf); first | exact True.intro | exact .none | exact .row rfl | exact .row (by rw [fewR_s hy (by omega), List.map_append]; rfl) | exact .row ((by rw [fewR_s hy (by omega), List.map_append]; rfl : _ = _).symm) | exact .row (by rw [fewR_n (by omega)]) | exact .row ((by simp [fewR])) | refine .cells ?_ | refine ⟨_, _, rfl, .rfl, ?_⟩ | refine ⟨_, _, rfl, .any, ?_⟩ | refine ⟨_, _, rfl, .nil, ?_⟩ | refine ⟨_, _, rfl, .int (by first | rfl | omega | (simp only [wrs]; omega)), ?_⟩ | refine ⟨?_, ?_⟩))
        · skip
          repeat (first | exact LeFr.nil | ((conv => whnf); first | exact True.intro | refine ⟨.rfl, ?_⟩ | refine ⟨_, _, rfl, rfl, ?_, ?_⟩))
theorem k0_ok : (⟨[], 79, []⟩ : NetA).Ok := ⟨by simp, by simp, by simp [I64], by simp, by simp⟩
theorem k1_ok : (⟨[⟨0, 1, 2, [7]⟩, ⟨1, 1, 3, [8]⟩], 1, []⟩ : NetA).Ok := ⟨by intro x hx; simp only [List.mem_cons, List.not_mem_nil, or_false] at hx; rcases hx with rfl | rfl <;> exact ⟨by simp [I64], by simp [I64], by simp [I64], by simp⟩, by simp, by simp [I64], by simp, by simp⟩
theorem k2_ok : (⟨[⟨0, 1, 2, [7]⟩, ⟨1, 1, 3, [8]⟩, ⟨2, 1, 2, [7]⟩], 2, []⟩ : NetA).Ok := ⟨by intro x hx; simp only [List.mem_cons, List.not_mem_nil, or_false] at hx; rcases hx with rfl | rfl | rfl <;> exact ⟨by simp [I64], by simp [I64], by simp [I64], by simp⟩, by simp, by simp [I64], by simp, by simp⟩
set_option maxRecDepth 20000 in
theorem wakes_X  : XMeets Try.prog 9 [] (.p (.v (.bool (true))) (nlv _)) := by
  refine XMeets.of_X tabX_ok (avs := []) [] (by kernel_rfl) Try.func9 rfl (by simp [PuL, Pu]) (rfl) rfl rfl ?_
  intro B w0
  conv => whnf
  refine .ct ?_
  conv => whnf
  refine CallG.mk (send_X true true true true true (⟨[], 79, []⟩ : NetA) 1 [(2, [7]), (3, [8])] k0_ok (by intro m hm; simp only [List.mem_cons, List.not_mem_nil, or_false] at hm; rcases hm with rfl | rfl <;> simp) (by simp) ((⟨[⟨0, 1, 2, [7]⟩, ⟨1, 1, 3, [8]⟩], 1, []⟩ : NetA), 0) (by kernel_rfl)) rfl ?_
  conv => whnf
  refine .ct ?_
  conv => whnf
  refine CallG.mk (double_X true true true (⟨[⟨0, 1, 2, [7]⟩, ⟨1, 1, 3, [8]⟩], 1, []⟩ : NetA) 0 k1_ok (by omega) ((⟨[⟨0, 1, 2, [7]⟩, ⟨1, 1, 3, [8]⟩, ⟨2, 1, 2, [7]⟩], 2, []⟩ : NetA), 0) (by kernel_rfl)) rfl ?_
  conv => whnf
  refine .ct ?_
  conv => whnf
  refine CallG.mk (deliver_X true true true (⟨[⟨0, 1, 2, [7]⟩, ⟨1, 1, 3, [8]⟩, ⟨2, 1, 2, [7]⟩], 2, []⟩ : NetA) 1 k2_ok (by omega) ((⟨[⟨0, 1, 2, [7]⟩, ⟨2, 1, 2, [7]⟩], 2, []⟩ : NetA), ⟨1, 1, 3, [8]⟩, 0) (by kernel_rfl)) rfl ?_
  conv => whnf
  refine IdxG.mk rfl rfl ?_
  conv => whnf
  refine ⟨rfl, ?_⟩
  conv => whnf
  refine IdxG.mk rfl rfl ?_
  conv => whnf
  refine ⟨rfl, ?_⟩
  conv => whnf
  refine FinG.mk none ?_ (by rintro _ ⟨⟩)
  simp only [outs, List.length_map, List.length_append, List.length_take, List.length_drop, List.length_cons, List.length_nil, slC, dfC, netX, net0, List.map_nil, mix_len, pkX, slX, sl0, delS]
  simp; done
end Go.Proofs.Ytmhmldpccccjbaa
