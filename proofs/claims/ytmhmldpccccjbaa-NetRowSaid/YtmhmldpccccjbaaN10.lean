/- What is meant by 0 comes in the order in which it was sent: the walk. No condition. -/
import Derived.Test.YtmhmldpccccjbaaNR
import Derived.Test.YtmhmldpccccjbaaU24
namespace Go.Proofs.Ytmhmldpccccjbaa
open Go.RowKit
set_option linter.unusedVariables false
set_option linter.unusedSimpArgs false
set_option maxRecDepth 20000
theorem neLt_run (x y : Operand) (a1 a2 a3 b1 b2 b3 : Int) (w : World) : (do eqGuard .neq 59 x y (.agg #[.int .i64 a1, .int .i64 a2, .int .u8 a3]) (.agg #[.int .i64 b1, .int .i64 b2, .int .u8 b3]); binOp .neq 59 (.agg #[.int .i64 a1, .int .i64 a2, .int .u8 a3]) (.agg #[.int .i64 b1, .int .i64 b2, .int .u8 b3]) : Sem Value).run Try.prog w = .ok (.bool (!(decide (a1 = b1) && decide (a2 = b2) && decide (a3 = b3)))) w := by
  go_simp
  by_cases h1 : a1 = b1 <;> by_cases h2 : a2 = b2 <;> by_cases h3 : a3 = b3 <;> simp [h1, h2, h3]
theorem head_at {l : List Int} {y : Int} (h : l[0]? = some y) : l.headD 0 = y := by cases l <;> simp_all
def lofV (x : Int) (l : List Int) : Int := if l.length = 1 then x else 0
theorem lofV_t {x : Int} {l : List Int} (h : l.length = 1) : lofV x l = x := if_pos h
set_option maxRecDepth 20000 in
theorem of_X (c : Bool) (f t : Int) (l : List Int) : XMeets Try.prog 26 [.agg [.v (.int .i64 f), .v (.int .i64 t), .sl c (l.map by1)]] (.tu [.ag [.p (.v (.int .i64 (lofV f l))) (nlv _), .p (.v (.int .i64 (lofV t l))) (nlv _), .p (.v (.int .u8 (lofV (l.headD 0) l))) (nlv _)], .p (.v (.bool (decide (l.length = 1)))) (nlv _)]) := by
  refine XMeets.of_X tabX_ok (avs := [.ag [.p (.v (.int .i64 f)) (nlv _), .p (.v (.int .i64 t)) (nlv _), .p (.sl false (l.map by1)) (nl_by1 _).sl]]) [(0, .ag [.p (.v (.int .i64 f)) (nlv _), .p (.v (.int .i64 t)) (nlv _), .p (.sl false (l.map by1)) (nl_by1 _).sl])] (by kernel_rfl) Try.func26 rfl (by simp [PuL, Pu, netT, slC, dfC, sdC, pu_by1, pu_sl, pu_df, pu_sd]) (by simp only [untagL, untag, netT, untag_by1, untag_sl, untag_df, untag_sd]; rfl) rfl rfl ?_
  intro B w0
  conv => whnf
  refine bS (fun hc1 => ?_) (fun hc1 => ?_)
  · skip
    try simp only [bls] at hc1
    conv => whnf
    refine FinG.mk none ?_ (by rintro _ ⟨⟩)
    simp only [outs, List.length_map, List.length_append, List.length_take, List.length_drop, List.length_cons, List.length_nil, slC, dfC, netX, net0, List.map_nil, mix_len, pkX, slX, sl0, delS]
    have h9 : ¬ l.length = 1 := by omega
    simp [lofV, h9]
  · skip
    try simp only [bls] at hc1
    conv => whnf
    refine RegG.par 9 (by kernel_rfl) ?_
    conv => whnf
    refine IdxG.map (l := l) _ rfl (by simp only [List.length_map] at *; omega) ?_; intro y hy hny; have hhd := head_at hy
    conv => whnf
    refine ⟨rfl, ?_⟩
    conv => whnf
    refine FinG.mk none ?_ (by rintro _ ⟨⟩)
    simp only [outs, List.length_map, List.length_append, List.length_take, List.length_drop, List.length_cons, List.length_nil, slC, dfC, netX, net0, List.map_nil, mix_len, pkX, slX, sl0, delS]
    have h9 : l.length = 1 := by omega
    simp only [lofV, h9, if_true, hhd, decide_true, and_self]
set_option maxHeartbeats 4000000 in
set_option maxRecDepth 20000 in
theorem lRow_X (b c b2 : Bool) (ms : List Msg) (tk : List Bool) (hmn : ms.length ≤ 9223372036854775807) (htn : tk.length ≤ 9223372036854775807) : XMeets Try.prog 7 [.sl b (ms.map (sdC c)), .sl b2 (tk.map bo1)] (.p (.v (.bool (true))) (nlv _)) := by
  refine XMeets.of_XM [(9, .row 0)] tabX_ok (avs := [.p (.sl false (ms.map (sdC false))) (nl_sd _ _).sl, .p (.sl false (tk.map bo1)) (nl_bo _).sl]) [(0, .p (.sl false (ms.map (sdC false))) (nl_sd _ _).sl), (1, .p (.sl false (tk.map bo1)) (nl_bo _).sl)] (by kernel_rfl) Try.func7 rfl (by simp [PuL, Pu, netT, slC, dfC, sdC, pu_by1, pu_sl, pu_df, pu_sd, bo1, pu_bo]) (by simp only [untagL, untag, netT, untag_by1, untag_sl, untag_df, untag_sd, untag_bo]; rfl) rfl rfl ?_
  intro B w0
  conv => whnf
  refine .ct ?_
  conv => whnf
  refine CallG.mk (wakes_X) rfl ?_
  conv => whnf
  refine XT.nilr 6 59 3 rfl rfl ?_
  conv => whnf
  refine XT.towin 6 1 rfl rfl rfl ?_
  conv => whnf
  refine XT.loop tabX_ok (Y := Nat × Nat × Nat × Pre × NetA) [4, 6, 7, 8, 9, 10, 11, 12, 13, 14, 15, 16, 17, 18, 28, 29, 30, 31, 32, 33, 34, 35, 36, 37, 38, 39, 40, 41, 42, 43, 44, 45, 46, 47, 48, 49, 50, 51, 52, 53, 54, 55, 56, 57, 58, 59, 60, 61, 62, 63, 64, 65, 66, 67, 68, 69, 70, 71, 72, 73, 74, 75, 76, 77, 78, 79, 80, 81, 82, 83, 84, 85, 86, 87, 88, 89, 90, 91, 92, 93, 94, 95, 96, 97, 98, 99, 100, 101, 102, 103, 104, 105, 106, 107, 108, 109, 110] (fun (i, sent, k, p, n) => [(28, .p (.v (.int .i64 ((i : Int)))) (nlv _)), (6, .win 1 k 3), (7, .p (.v (.int .i64 ((sent : Int)))) (nlv _))]) (fun (i, sent, k, p, n) => [(0, .cells 25 [.p (.sl true (n.s.map (slC true))) (nl_sl _ _).sl, .p (.v (.int .i64 n.l)) (nlv _), .p (.sl true (n.d.map dfC)) (nl_df _).sl]), (1, .row 59 3 ((p).1 ++ (n.s).map ltC) ((p).2.append (nl_lt _)))]) (fun (i, sent, k, p, n) => i ≤ 200 ∧ k = p.1.length ∧ k ≤ i ∧ RowI i sent n) (fun (i, sent, k, p, n) => 200 - i) (0, 0, 0, Pre.nil, ⟨[], 79, []⟩) ⟨by omega, rfl, Nat.le_refl _, row0⟩ ?_ ?_
  · skip
    refine ⟨?_, ?_, ?_⟩
    · skip
      refine leEnv_app (by kernel_rfl) (by kernel_rfl) ?_
      repeat ((conv => whnf); first | exact True.intro | refine ⟨.rfl, ?_⟩ | refine ⟨.any, ?_⟩ | refine ⟨.nil, ?_⟩ | refine ⟨.int (by first | rfl | omega | (simp only [wrs]; omega)), ?_⟩)
    · skip
      repeat (first | exact LeVs.nil | ((conv => whnf); first | exact True.intro | exact .none | exact .ext | exact .row rfl | refine .cells ?_ | refine ⟨_, _, rfl, .rfl, ?_⟩ | refine ⟨_, _, rfl, .any, ?_⟩ | refine ⟨_, _, rfl, .nil, ?_⟩ | refine ⟨_, _, rfl, .int (by first | rfl | omega | (simp only [wrs]; omega)), ?_⟩ | refine ⟨?_, ?_⟩))
      done
    · skip
      exact LeFr.same (by kernel_rfl)
  · skip
    rintro ⟨i, sent, k, p, n⟩ ⟨hi, hk, hki, hR⟩
    have ho := hR.ok
    have hr := hR.right
    have hsl := hR.sl
    have hss := hR.si
    have hs7 := hR.s70
    conv => whnf
    refine bS (fun hc1 => ?_) (fun hc1 => ?_)
    · skip
      try simp only [bls] at hc1
      conv => whnf
      refine XT.pass tabX_ok ?_
      conv => whnf
      refine XT.cut tabX_ok (Y := Nat × Nat × Pre × NetA) [6, 7, 9, 10, 11, 12, 13, 31, 32, 33, 34, 35, 36, 37, 38, 39, 40, 41, 42, 43, 44, 45, 46, 47, 48, 49, 50, 51, 52, 53, 54, 55, 56, 57, 58, 59, 60, 61, 62, 63, 64, 65, 66, 67] (fun (sent2, k2, p2, m) => [(7, .p (.v (.int .i64 ((sent2 : Int)))) (nlv _)), (6, .win 1 k2 3)]) (fun (sent2, k2, p2, m) => [(0, .cells 25 [.p (.sl true (m.s.map (slC true))) (nl_sl _ _).sl, .p (.v (.int .i64 m.l)) (nlv _), .p (.sl true (m.d.map dfC)) (nl_df _).sl]), (1, .row 59 3 ((p2).1 ++ (m.s).map ltC) ((p2).2.append (nl_lt _)))]) (fun (sent2, k2, p2, m) => k2 = p2.1.length ∧ k2 ≤ i ∧ RowI (i + 1) sent2 m) ?_ ?_
      · skip
        conv => whnf
        refine XT.pass tabX_ok ?_
        conv => whnf
        refine bS (fun hc2 => ?_) (fun hc2 => ?_)
        · skip
          try simp only [bls] at hc2
          conv => whnf
          refine bT (decide_eq_true (by simp only [List.length_append, anyE_len, List.length_map, List.length_cons, List.length_nil]; omega)) ?_
          conv => whnf
          refine bT (decide_eq_true (by simp only [List.length_append, anyE_len, List.length_map, List.length_cons, List.length_nil]; omega)) ?_
          conv => whnf
          refine bS (fun hc3 => ?_) (fun hc3 => ?_)
          · skip
            try simp only [bls] at hc3
            conv => whnf
            refine bT (by simp only [bls]; assumption) ?_
            conv => whnf
            refine bT (by simp only [bls]; assumption) ?_
            conv => whnf
            refine bT (decide_eq_true (by omega)) ?_
            conv => whnf
            refine IdxG.map (l := ms) _ rfl (by first | omega | (simp only [List.length_map] at *; omega)) ?_; intro q1 hq1 hnq
            conv => whnf
            refine ⟨rfl, ?_⟩
            conv => whnf
            refine .inl ?_
            conv => whnf
            refine InlG.mk (by kernel_rfl) Try.func25 rfl (Nat.le_of_ble_eq_true rfl) (XT.of tabX_ok ?_)
            conv => whnf
            refine .ct ?_
            conv => whnf
            refine CallG.mk (meantX_X true true true n 1 ho (by decide) _ rfl) rfl ?_
            conv => whnf
            refine .ct ?_
            conv => whnf
            refine CallG.mk (of_X _ _ _ _) rfl ?_
            conv => whnf
            cases hpk : pkB 1 q1.1 1
            · skip
              conv => whnf
              refine .ct ?_
              conv => whnf
              refine CallG.mk (send_X true true true true true n 1 [(q1.1, [IntKind.u8.wrap (i : Int)])] ho (by intro m hm; simp only [List.mem_cons, List.not_mem_nil, or_false] at hm; subst hm; simp) (by simp) (n, 0) (hR.send_f hpk).symm) rfl ?_
              conv => whnf
              refine bF (decide_eq_false (by simp only [List.length_append, anyE_len, List.length_map, List.length_cons, List.length_nil]; omega)) ?_
              conv => whnf
              refine ⟨.inr rfl, ?_⟩
              conv => whnf
              refine ⟨(sent, k, p, n), ⟨hk, hki, hR.next⟩, [], ?_⟩
              refine ⟨?_, ?_, ?_⟩
              · skip
                refine leEnv_app (by kernel_rfl) (by kernel_rfl) ?_
                repeat ((conv => whnf); first | exact True.intro | refine ⟨.rfl, ?_⟩ | refine ⟨.any, ?_⟩ | refine ⟨.nil, ?_⟩ | refine ⟨.int (by first | rfl | omega | (simp only [wrs]; omega)), ?_⟩)
              · skip
                repeat (first | exact LeVs.nil | ((conv => whnf); first | exact True.intro | exact .none | exact .ext | exact .row rfl | refine .cells ?_ | refine ⟨_, _, rfl, .rfl, ?_⟩ | refine ⟨_, _, rfl, .any, ?_⟩ | refine ⟨_, _, rfl, .nil, ?_⟩ | refine ⟨_, _, rfl, .int (by first | rfl | omega | (simp only [wrs]; omega)), ?_⟩ | refine ⟨?_, ?_⟩))
                done
              · skip
                exact LeFr.same (by kernel_rfl)
            · skip
              conv => whnf
              refine .ct ?_
              conv => whnf
              refine CallG.mk (send_X true true true true true n 1 [(q1.1, [IntKind.u8.wrap (i : Int)])] ho (by intro m hm; simp only [List.mem_cons, List.not_mem_nil, or_false] at hm; subst hm; simp) (by simp) (⟨n.s ++ [⟨sent, 1, q1.1, [IntKind.u8.wrap (i : Int)]⟩], sent, []⟩, 0) (hR.send_t (by omega) hpk).symm) rfl ?_
              conv => whnf
              refine bT (decide_eq_true (by simp only [List.length_append, anyE_len, List.length_map, List.length_cons, List.length_nil]; omega)) ?_
              conv => whnf
              refine RegG.know 12 [⟨8, 5, 0, 3, true⟩, ⟨9, 6, 0, 3, false⟩] (by kernel_rfl) (by kernel_rfl) ?_
              conv => whnf
              refine ⟨rfl, ?_⟩
              conv => whnf
              refine ⟨rfl, ?_⟩
              conv => whnf
              refine ⟨.inr rfl, ?_⟩
              conv => whnf
              simp (disch := omega) only [wz, Int.reduceAdd, Int.reduceSub, Int.reduceMul, Int.reduceNeg, Int.zero_add, Int.add_zero, Int.sub_zero, Int.sub_self]
              conv => whnf
              refine ⟨ApOk.lit rfl, ?_⟩
              conv => whnf
              refine ⟨by simp only [List.length_append, anyE_len, List.length_map, List.length_cons, List.length_nil]; omega, ?_⟩
              conv => whnf
              refine .mk fun qw hqw => ?_
              conv => whnf
              refine ⟨(sent + 1, qw, ⟨anyE qw 3, NlLL.anyE qw 3⟩, ⟨n.s ++ [⟨sent, 1, q1.1, [(i : Int)]⟩], sent, []⟩), ⟨(anyE_len qw 3).symm, Nat.le_trans hqw hki, hR.send_I (by omega) hpk⟩, [], ?_⟩
              refine ⟨?_, ?_, ?_⟩
              · skip
                refine leEnv_app (by kernel_rfl) (by kernel_rfl) ?_
                repeat ((conv => whnf); first | exact True.intro | refine ⟨.rfl, ?_⟩ | refine ⟨.any, ?_⟩ | refine ⟨.nil, ?_⟩ | refine ⟨.int (by first | rfl | omega | (simp only [wrs]; omega)), ?_⟩)
              · skip
                repeat (first | exact LeVs.nil | ((conv => whnf); first | exact True.intro | exact .none | exact .ext | exact .row rfl | exact .row ((by rw [win_drop hk, List.map_append]; rfl : _ = _)) | refine .cells ?_ | refine ⟨_, _, rfl, .rfl, ?_⟩ | refine ⟨_, _, rfl, .any, ?_⟩ | refine ⟨_, _, rfl, .nil, ?_⟩ | refine ⟨_, _, rfl, .int (by first | rfl | omega | (simp only [wrs]; omega)), ?_⟩ | refine ⟨?_, ?_⟩))
                done
              · skip
                exact LeFr.same (by kernel_rfl)
          · skip
            try simp only [bls] at hc3
            conv => whnf
            refine bF (by simp only [bls]; assumption) ?_
            conv => whnf
            refine bF (by simp only [bls]; assumption) ?_
            conv => whnf
            refine ⟨(sent, k, p, n), ⟨hk, hki, hR.next⟩, [], ?_⟩
            refine ⟨?_, ?_, ?_⟩
            · skip
              refine leEnv_app (by kernel_rfl) (by kernel_rfl) ?_
              repeat ((conv => whnf); first | exact True.intro | refine ⟨.rfl, ?_⟩ | refine ⟨.any, ?_⟩ | refine ⟨.nil, ?_⟩ | refine ⟨.int (by first | rfl | omega | (simp only [wrs]; omega)), ?_⟩)
            · skip
              repeat (first | exact LeVs.nil | ((conv => whnf); first | exact True.intro | exact .none | exact .ext | exact .row rfl | refine .cells ?_ | refine ⟨_, _, rfl, .rfl, ?_⟩ | refine ⟨_, _, rfl, .any, ?_⟩ | refine ⟨_, _, rfl, .nil, ?_⟩ | refine ⟨_, _, rfl, .int (by first | rfl | omega | (simp only [wrs]; omega)), ?_⟩ | refine ⟨?_, ?_⟩))
              done
            · skip
              exact LeFr.same (by kernel_rfl)
        · skip
          try simp only [bls] at hc2
          conv => whnf
          refine bF (decide_eq_false (by simp only [List.length_append, anyE_len, List.length_map, List.length_cons, List.length_nil]; omega)) ?_
          conv => whnf
          refine bF (decide_eq_false (by simp only [List.length_append, anyE_len, List.length_map, List.length_cons, List.length_nil]; omega)) ?_
          conv => whnf
          refine ⟨(sent, k, p, n), ⟨hk, hki, hR.next⟩, [], ?_⟩
          refine ⟨?_, ?_, ?_⟩
          · skip
            refine leEnv_app (by kernel_rfl) (by kernel_rfl) ?_
            repeat ((conv => whnf); first | exact True.intro | refine ⟨.rfl, ?_⟩ | refine ⟨.any, ?_⟩ | refine ⟨.nil, ?_⟩ | refine ⟨.int (by first | rfl | omega | (simp only [wrs]; omega)), ?_⟩)
          · skip
            repeat (first | exact LeVs.nil | ((conv => whnf); first | exact True.intro | exact .none | exact .ext | exact .row rfl | refine .cells ?_ | refine ⟨_, _, rfl, .rfl, ?_⟩ | refine ⟨_, _, rfl, .any, ?_⟩ | refine ⟨_, _, rfl, .nil, ?_⟩ | refine ⟨_, _, rfl, .int (by first | rfl | omega | (simp only [wrs]; omega)), ?_⟩ | refine ⟨?_, ?_⟩))
            done
          · skip
            exact LeFr.same (by kernel_rfl)
      · skip
        rintro ⟨sent2, k2, p2, m⟩ ⟨hk2, hk2i, hR2⟩
        have ho2 := hR2.ok
        have hr2 := hR2.right
        have hsl2 := hR2.sl
        have hs72 := hR2.s70
        have hi1 : i + 1 ≤ 200 := by omega
        conv => whnf
        refine bS (fun hc4 => ?_) (fun hc4 => ?_)
        · skip
          try simp only [bls] at hc4
          conv => whnf
          refine bT (decide_eq_true (by simp only [List.length_append, anyE_len, List.length_map, List.length_cons, List.length_nil]; omega)) ?_
          conv => whnf
          refine bT (decide_eq_true (by simp only [List.length_append, anyE_len, List.length_map, List.length_cons, List.length_nil]; omega)) ?_
          conv => whnf
          refine IdxG.map (l := tk) _ rfl (by first | omega | (simp only [List.length_map] at *; omega)) ?_; intro tb htb hntb
          conv => whnf
          refine ⟨rfl, ?_⟩
          conv => whnf
          refine bT (decide_eq_true (by simp only [List.length_append, anyE_len, List.length_map, List.length_cons, List.length_nil]; omega)) ?_
          conv => whnf
          refine bT (decide_eq_true (by simp only [List.length_append, anyE_len, List.length_map, List.length_cons, List.length_nil]; omega)) ?_
          conv => whnf
          refine bS (fun hc5 => ?_) (fun hc5 => ?_)
          · skip
            try simp only [bls] at hc5
            conv => whnf
            obtain ⟨_ | ⟨x, s⟩, ml, md⟩ := m
            · skip
              conv => whnf
              refine .ct ?_
              conv => whnf
              refine CallG.mk (deliver_X true true true ⟨[], ml, md⟩ 0 ho2 (by decide) (net0, sl0, 4) (hR2.none rfl).symm) rfl ?_
              conv => whnf
              refine bT (decide_eq_true (by simp only [List.length_append, anyE_len, List.length_map, List.length_cons, List.length_nil]; omega)) ?_
              conv => whnf
              refine ⟨(i + 1, sent2, k2, p2, ⟨[], ml, md⟩), ⟨hi1, hk2, Nat.le_succ_of_le hk2i, hR2⟩, (by show 200 - (i + 1) < 200 - i; omega), ?_⟩
              refine ⟨?_, ?_, ?_⟩
              · skip
                refine leEnv_app (by kernel_rfl) (by kernel_rfl) ?_
                repeat ((conv => whnf); first | exact True.intro | refine ⟨.rfl, ?_⟩ | refine ⟨.any, ?_⟩ | refine ⟨.nil, ?_⟩ | refine ⟨.int (by first | rfl | omega | (simp only [wrs]; omega)), ?_⟩)
              · skip
                repeat (first | exact LeVs.nil | ((conv => whnf); first | exact True.intro | exact .none | exact .ext | exact .row rfl | refine .cells ?_ | refine ⟨_, _, rfl, .rfl, ?_⟩ | refine ⟨_, _, rfl, .any, ?_⟩ | refine ⟨_, _, rfl, .nil, ?_⟩ | refine ⟨_, _, rfl, .int (by first | rfl | omega | (simp only [wrs]; omega)), ?_⟩ | refine ⟨?_, ?_⟩))
                done
              · skip
                exact LeFr.same (by kernel_rfl)
            · skip
              have hx1 : x.b.length = 1 := (hR2.mem (x := x) (by simp)).2.2.2.2.2
              conv => whnf
              refine .ct ?_
              conv => whnf
              refine CallG.mk (deliver_X true true true ⟨x :: s, ml, md⟩ 0 ho2 (by decide) (⟨s, ml, []⟩, x, 0) (hR2.del rfl).symm) rfl ?_
              conv => whnf
              refine bF (decide_eq_false (by simp only [List.length_append, anyE_len, List.length_map, List.length_cons, List.length_nil]; omega)) ?_
              conv => whnf
              refine .ct ?_
              conv => whnf
              refine CallG.mk (of_X _ _ _ _) rfl ?_
              conv => whnf
              refine RegG.par 13 (by kernel_rfl) ?_
              conv => whnf
              refine bF (by simp only [bls]; assumption) ?_
              conv => whnf
              refine bF (by simp only [bls]; assumption) ?_
              conv => whnf
              refine bF (by simp only [bls]; assumption) ?_
              conv => whnf
              refine ⟨0, rfl, ?_⟩
              conv => whnf
              refine ⟨by simp only [List.length_append, anyE_len, List.length_map, List.length_cons, List.length_nil]; omega, ?_⟩
              conv => whnf
              refine bF (by simp only [bls]; assumption) ?_
              conv => whnf
              refine IdxG.mk (j := k2) (c := ltC x) (win_at hk2 x s) rfl ?_
              conv => whnf
              refine bF (by simp only [bls]; assumption) ?_
              conv => whnf
              refine BinG.mk rfl rfl (neLt_run _ _ _ _ _ _ _ _) ?_
              conv => whnf
              refine bF (by simp only [bls]; assumption) ?_
              conv => whnf
              refine bF (by simp [lofV_t hx1]; done) ?_
              conv => whnf
              refine RegG.late 4 [(0, 0, 3)] (by kernel_rfl) ?_
              conv => whnf
              refine ⟨1, rfl, ?_⟩
              conv => whnf
              refine ⟨by simp only [List.length_append, anyE_len, List.length_map, List.length_cons, List.length_nil]; omega, ?_⟩
              conv => whnf
              refine ⟨rfl, ?_⟩
              conv => whnf
              refine ⟨(i + 1, sent2, k2 + 1, p2.snoc x, ⟨s, ml, []⟩), ⟨hi1, Pre.snoc_len hk2 x, Nat.succ_le_succ hk2i, hR2.del_I rfl⟩, (by show 200 - (i + 1) < 200 - i; omega), ?_⟩
              refine ⟨?_, ?_, ?_⟩
              · skip
                refine leEnv_app (by kernel_rfl) (by kernel_rfl) ?_
                repeat ((conv => whnf); first | exact True.intro | refine ⟨.rfl, ?_⟩ | refine ⟨.any, ?_⟩ | refine ⟨.nil, ?_⟩ | refine ⟨.int (by first | rfl | omega | (simp only [wrs]; omega)), ?_⟩)
              · skip
                repeat (first | exact LeVs.nil | ((conv => whnf); first | exact True.intro | exact .none | exact .ext | exact .row rfl | exact .row ((win_next p2 x s)) | refine .cells ?_ | refine ⟨_, _, rfl, .rfl, ?_⟩ | refine ⟨_, _, rfl, .any, ?_⟩ | refine ⟨_, _, rfl, .nil, ?_⟩ | refine ⟨_, _, rfl, .int (by first | rfl | omega | (simp only [wrs]; omega)), ?_⟩ | refine ⟨?_, ?_⟩))
                done
              · skip
                exact LeFr.same (by kernel_rfl)
          · skip
            try simp only [bls] at hc5
            conv => whnf
            refine ⟨(i + 1, sent2, k2, p2, m), ⟨hi1, hk2, Nat.le_succ_of_le hk2i, hR2⟩, (by show 200 - (i + 1) < 200 - i; omega), ?_⟩
            refine ⟨?_, ?_, ?_⟩
            · skip
              refine leEnv_app (by kernel_rfl) (by kernel_rfl) ?_
              repeat ((conv => whnf); first | exact True.intro | refine ⟨.rfl, ?_⟩ | refine ⟨.any, ?_⟩ | refine ⟨.nil, ?_⟩ | refine ⟨.int (by first | rfl | omega | (simp only [wrs]; omega)), ?_⟩)
            · skip
              repeat (first | exact LeVs.nil | ((conv => whnf); first | exact True.intro | exact .none | exact .ext | exact .row rfl | refine .cells ?_ | refine ⟨_, _, rfl, .rfl, ?_⟩ | refine ⟨_, _, rfl, .any, ?_⟩ | refine ⟨_, _, rfl, .nil, ?_⟩ | refine ⟨_, _, rfl, .int (by first | rfl | omega | (simp only [wrs]; omega)), ?_⟩ | refine ⟨?_, ?_⟩))
              done
            · skip
              exact LeFr.same (by kernel_rfl)
        · skip
          try simp only [bls] at hc4
          conv => whnf
          refine bF (decide_eq_false (by simp only [List.length_append, anyE_len, List.length_map, List.length_cons, List.length_nil]; omega)) ?_
          conv => whnf
          refine bF (decide_eq_false (by simp only [List.length_append, anyE_len, List.length_map, List.length_cons, List.length_nil]; omega)) ?_
          conv => whnf
          refine bF (decide_eq_false (by simp only [List.length_append, anyE_len, List.length_map, List.length_cons, List.length_nil]; omega)) ?_
          conv => whnf
          refine bF (decide_eq_false (by simp only [List.length_append, anyE_len, List.length_map, List.length_cons, List.length_nil]; omega)) ?_
          conv => whnf
          refine ⟨(i + 1, sent2, k2, p2, m), ⟨hi1, hk2, Nat.le_succ_of_le hk2i, hR2⟩, (by show 200 - (i + 1) < 200 - i; omega), ?_⟩
          refine ⟨?_, ?_, ?_⟩
          · skip
            refine leEnv_app (by kernel_rfl) (by kernel_rfl) ?_
            repeat ((conv => whnf); first | exact True.intro | refine ⟨.rfl, ?_⟩ | refine ⟨.any, ?_⟩ | refine ⟨.nil, ?_⟩ | refine ⟨.int (by first | rfl | omega | (simp only [wrs]; omega)), ?_⟩)
          · skip
            repeat (first | exact LeVs.nil | ((conv => whnf); first | exact True.intro | exact .none | exact .ext | exact .row rfl | refine .cells ?_ | refine ⟨_, _, rfl, .rfl, ?_⟩ | refine ⟨_, _, rfl, .any, ?_⟩ | refine ⟨_, _, rfl, .nil, ?_⟩ | refine ⟨_, _, rfl, .int (by first | rfl | omega | (simp only [wrs]; omega)), ?_⟩ | refine ⟨?_, ?_⟩))
            done
          · skip
            exact LeFr.same (by kernel_rfl)
    · skip
      try simp only [bls] at hc1
      conv => whnf
      refine FinG.mk none ?_ (by rintro _ ⟨⟩)
      simp only [outs, List.length_map, List.length_append, List.length_take, List.length_drop, List.length_cons, List.length_nil, slC, dfC, netX, net0, List.map_nil, mix_len, pkX, slX, sl0, delS]
      exact congrArg Value.bool (decide_eq_true (by omega))
end Go.Proofs.Ytmhmldpccccjbaa
