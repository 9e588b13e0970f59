/- What a log meets of offers, and what it is then: the walk. No condition. -/
import Derived.Test.YtpckkajodpiiaaaLR
import Derived.Test.YtpckkajodpiiaaaU10
import Derived.Test.YtpckkajodpiiaaaLS
import Derived.Test.YtpckkajodpiiaaaTEA
namespace Go.Proofs.Ytpckkajodpiiaaa
open Go.RowKit
set_option linter.unusedVariables false
set_option linter.unusedSimpArgs false
set_option maxRecDepth 20000
def take6X (i t : Int) (es : List Ent) (p : Int × Int) (more : List Ent) : Int := (spotN p.1 p.2 more (meet6N i t es p.1 more + 1)).1
def take6E (i t : Int) (es : List Ent) (p : Int × Int) (more : List Ent) : Int :=
  if meet6E i t es p more = 0 then (if meet6N i t es p.1 more = more.length then 0 else if cut6E i es (take6X i t es p more) = 0 then extE i t (cut6L i es (take6X i t es p more)) (more.drop (meet6N i t es p.1 more)) else cut6E i es (take6X i t es p more)) else meet6E i t es p more
def take6L (i t : Int) (es : List Ent) (p : Int × Int) (more : List Ent) : List Ent := if meet6N i t es p.1 more = more.length then es else cut6L i es (take6X i t es p more) ++ more.drop (meet6N i t es p.1 more)
def take6A (i t : Int) (es : List Ent) (p : Int × Int) (more : List Ent) : Int := if take6E i t es p more = 0 then p.1 + more.length else 0
theorem meet6N_le (i t : Int) (es : List Ent) (p : Int) (more : List Ent) : meet6N i t es p more ≤ more.length := by
  unfold meet6N
  have := (List.takeWhile_sublist (met6B i t es p more) (l := List.range more.length)).length_le
  simpa using this
theorem meet6_room {i t : Int} {es : List Ent} {p : Int × Int} {more : List Ent} (h : meet6E i t es p more = 0) : roomB p.1 more.length = true := by
  unfold meet6E at h
  split at h
  · rename_i h1; exact h1.2
  · cases h
theorem cut6L_len (i : Int) (es : List Ent) (x : Int) : (cut6L i es x).length ≤ es.length := by unfold cut6L; simp; omega
theorem meet6_R {i t : Int} {es : List Ent} {p : Int × Int} {more : List Ent} (h : meet6E i t es p more = 0) : meet6R i t es p more = (meet6N i t es p.1 more : Int) := by simp [meet6R, h]
theorem dOk.cut {es : List Ent} (h : dOk es) (i x : Int) : dOk (cut6L i es x) := h.take _
set_option maxRecDepth 20000 in
theorem take6_X (b b' : Bool) (i t : Int) (es : List Ent) (hi0 : 0 ≤ i) (hi1 : i < 18446744073709551616) (hn : es.length ≤ 250) (hd : dOk es) (b2 b2' : Bool) (more : List Ent) (hm : okE more) (hnm : more.length ≤ 250) (p : Int × Int) (hp0 : 0 ≤ p.1) (hp1 : p.1 < 18446744073709551616) : XMeets Try.prog 27 [logT i t (.sl b (es.map (entC b'))), .agg [.v (.int .u64 p.1), .v (.int .u64 p.2)], .sl b2 (more.map (entC b2'))] (.tu [lgX (take6E i t es p more) i t (take6L i t es p more), .p (.v (.int .u64 (take6A i t es p more))) (nlv _), .p (.v (.int .i64 (take6E i t es p more))) (nlv _)]) := by
  refine XMeets.of_X tabX_ok (avs := [.ag [.p (.v (.int .u64 i)) (nlv _), .p (.v (.int .u64 t)) (nlv _), .p (.sl false (es.map (entC false))) (nl_ents _ _).sl], .ag [.p (.v (.int .u64 p.1)) (nlv _), .p (.v (.int .u64 p.2)) (nlv _)], .p (.sl false (more.map (entC false))) (nl_ents _ _).sl]) [(0, .ag [.p (.v (.int .u64 i)) (nlv _), .p (.v (.int .u64 t)) (nlv _), .p (.sl false (es.map (entC false))) (nl_ents _ _).sl]), (1, .ag [.p (.v (.int .u64 p.1)) (nlv _), .p (.v (.int .u64 p.2)) (nlv _)]), (2, .p (.sl false (more.map (entC false))) (nl_ents _ _).sl)] (by kernel_rfl) Try.func27 rfl (by simp [PuL, Pu, logT, atT, pu_ents, pu_bytes]) (by simp only [untagL, untag, logT, atT, untag_ents, untag_bytes]; rfl) rfl rfl ?_
  intro B w0
  have hsl := spotsL_len p.1 p.2 more more.length
  have hml := meet6N_le i t es p.1 more
  have hcl := cut6L_len i es (take6X i t es p more)
  conv => whnf
  refine .ct ?_
  conv => whnf
  refine CallG.mk (meet6_X _ _ i t es hi0 hi1 (by omega) _ _ more (by assumption) (by omega) p hp0 hp1) rfl ?_
  conv => whnf
  cases hc1 : (decide (meet6E i t es p more = 0))
  · skip
    try simp only [bls] at hc1
    conv => whnf
    refine FinG.mk none ?_ (by rintro _ ⟨⟩)
    simp only [outs, List.length_map, List.length_append, List.length_take, List.length_drop, List.length_cons, List.length_nil, atC, entC, byC, spotsL_len]
    have he : take6E i t es p more = meet6E i t es p more := by unfold take6E; rw [if_neg hc1]
    have hA : take6A i t es p more = 0 := by unfold take6A; rw [he, if_neg hc1]
    rw [he, hA]
    simp only [lgX, if_neg hc1, lgC, outs, List.map_nil]
    try simp [FrLL]
  · skip
    try simp only [bls] at hc1
    conv => whnf
    refine .ct ?_
    conv => whnf
    refine CallG.mk (spots6_X _ _ p.1 p.2 more hp0 hp1 (by omega)) rfl ?_
    conv => whnf
    simp (disch := omega) only [wz, Int.reduceAdd, Int.reduceSub, Int.reduceMul, Int.reduceNeg, Int.zero_add, Int.add_zero, Int.sub_zero, Int.sub_self]
    conv => whnf
    refine ⟨more.length, by simp only [wrs, List.length_map]; omega, ?_⟩
    conv => whnf
    refine ⟨by simp only [List.length_map]; omega, ?_⟩
    conv => whnf
    refine IdxG.mk (j := more.length) (c := atC (spotN p.1 p.2 more (more.length))) (by rw [List.getElem?_map, spotsL_at (by omega)]; rfl) (by omega) ?_
    conv => whnf
    cases hc2 : (decide (meet6R i t es p more = (↑(List.map (entC false) more).length : Int)))
    · skip
      try simp only [bls] at hc2
      conv => whnf
      refine RegG.latea 14 [] (by kernel_rfl) ?_
      conv => whnf
      simp (disch := omega) only [wz, Int.reduceAdd, Int.reduceSub, Int.reduceMul, Int.reduceNeg, Int.zero_add, Int.add_zero, Int.sub_zero, Int.sub_self]
      conv => whnf
      refine ⟨meet6N i t es p.1 more + 1, by rw [meet6_R hc1]; simp only [wrs]; omega, ?_⟩
      conv => whnf
      refine ⟨by have hmr := meet6_R hc1; simp only [List.length_map]; omega, ?_⟩
      conv => whnf
      refine IdxG.mk (j := meet6N i t es p.1 more + 1) (c := atC (spotN p.1 p.2 more (meet6N i t es p.1 more + 1))) (by rw [List.getElem?_map, spotsL_at (by have hmr := meet6_R hc1; omega)]; rfl) (by have hmr := meet6_R hc1; omega) ?_
      conv => whnf
      refine CallG.mk (cut6_X _ _ i t es (take6X i t es p more) hi0 hi1 (by omega) hd (spot_r _ _ _ _).1 (spot_r _ _ _ _).2) rfl ?_
      conv => whnf
      refine ⟨rfl, ?_⟩
      conv => whnf
      cases hc3 : (decide (cut6E i es (take6X i t es p more) = 0))
      · skip
        try simp only [bls] at hc3
        conv => whnf
        refine FinG.mk none ?_ (by rintro _ ⟨⟩)
        simp only [outs, List.length_map, List.length_append, List.length_take, List.length_drop, List.length_cons, List.length_nil, atC, entC, byC, spotsL_len]
        have hmr := meet6_R hc1
        have hmn : ¬ meet6N i t es p.1 more = more.length := by omega
        have he : take6E i t es p more = cut6E i es (take6X i t es p more) := by unfold take6E; rw [if_pos hc1, if_neg hmn, if_neg hc3]
        have hA : take6A i t es p more = 0 := by unfold take6A; rw [he, if_neg hc3]
        rw [he, hA]
        simp only [lgX, if_neg hc3, lgC, outs, List.map_nil]
        try simp [FrLL]
      · skip
        try simp only [bls] at hc3
        conv => whnf
        refine RegG.know 11 [⟨9, 4, 0, 3, true⟩] (by kernel_rfl) (by kernel_rfl) ?_
        conv => whnf
        refine ⟨meet6N i t es p.1 more, by rw [meet6_R hc1], ?_⟩
        conv => whnf
        refine ⟨by simp only [List.length_map]; omega, ?_⟩
        conv => whnf
        refine ⟨by simp only [List.length_map]; omega, ?_⟩
        conv => whnf
        refine ⟨fun c hc => by obtain ⟨y, _, rfl⟩ := List.mem_map.1 hc; rfl, ?_⟩
        conv => whnf
        simp only [if_pos hc3, ← List.map_take, ← List.map_drop]
        conv => whnf
        refine CallG.mk (extend6_X _ _ i t (cut6L i es (take6X i t es p more)) hi0 hi1 (by omega) (hd.cut _ _) _ _ (more.drop (meet6N i t es p.1 more)) (hm.drop6 _) (by simp; omega)) rfl ?_
        conv => whnf
        refine ⟨rfl, ?_⟩
        conv => whnf
        cases hc4 : (decide (extE i t (cut6L i es (take6X i t es p more)) (List.drop (meet6N i t es p.fst more) more) = 0))
        · skip
          try simp only [bls] at hc4
          conv => whnf
          refine FinG.mk none ?_ (by rintro _ ⟨⟩)
          simp only [outs, List.length_map, List.length_append, List.length_take, List.length_drop, List.length_cons, List.length_nil, atC, entC, byC, spotsL_len]
          have hmr := meet6_R hc1
          have hmn : ¬ meet6N i t es p.1 more = more.length := by omega
          have he : take6E i t es p more = extE i t (cut6L i es (take6X i t es p more)) (more.drop (meet6N i t es p.1 more)) := by unfold take6E; rw [if_pos hc1, if_neg hmn, if_pos hc3]
          have hA : take6A i t es p more = 0 := by unfold take6A; rw [he, if_neg hc4]
          rw [he, hA]
          simp only [lgX, if_neg hc4, lgC, outs, List.map_nil]
          try simp [FrLL]
        · skip
          try simp only [bls] at hc4
          conv => whnf
          refine FinG.mk none ?_ (by rintro _ ⟨⟩)
          simp only [outs, List.length_map, List.length_append, List.length_take, List.length_drop, List.length_cons, List.length_nil, atC, entC, byC, spotsL_len]
          have hmr := meet6_R hc1
          have hmn : ¬ meet6N i t es p.1 more = more.length := by omega
          have he : take6E i t es p more = extE i t (cut6L i es (take6X i t es p more)) (more.drop (meet6N i t es p.1 more)) := by unfold take6E; rw [if_pos hc1, if_neg hmn, if_pos hc3]
          have hL : take6L i t es p more = cut6L i es (take6X i t es p more) ++ more.drop (meet6N i t es p.1 more) := by unfold take6L; rw [if_neg hmn]
          have hA : take6A i t es p more = p.1 + more.length := by unfold take6A; rw [he, hc4, if_pos rfl]
          rw [he, hL, hA, hc4, spot_in hp0 (meet6_room hc1) (Nat.le_refl _)]
          simp only [lgX, if_pos, lgC, outs]
          simp [fr_ents, -List.map_append, -List.map_drop]
    · skip
      try simp only [bls] at hc2
      conv => whnf
      refine .ct ?_
      conv => whnf
      refine CallG.mk (copy6_X _ _ _ _ es hd (by omega)) rfl ?_
      conv => whnf
      refine FinG.mk none ?_ (by rintro _ ⟨⟩)
      simp only [outs, List.length_map, List.length_append, List.length_take, List.length_drop, List.length_cons, List.length_nil, atC, entC, byC, spotsL_len]
      have hmr := meet6_R hc1
      have hmn : meet6N i t es p.1 more = more.length := by omega
      have he : take6E i t es p more = 0 := by unfold take6E; rw [if_pos hc1, if_pos hmn]
      have hL : take6L i t es p more = es := by unfold take6L; rw [if_pos hmn]
      have hA : take6A i t es p more = p.1 + more.length := by unfold take6A; rw [he, if_pos rfl]
      rw [he, hL, hA, spot_in hp0 (meet6_room hc1) (Nat.le_refl _)]
      simp only [lgX, if_pos, lgC, outs]
      simp [fr_ents]
end Go.Proofs.Ytpckkajodpiiaaa

namespace Go.Proofs.Ytpckkajodpiiaaa
open Go.RowKit
set_option linter.unusedVariables false
set_option linter.unusedSimpArgs false
set_option maxRecDepth 20000
theorem wakes_X : XMeets Try.prog 10 [] (.p (.v (.bool true)) (nlv _)) := ⟨by kernel_rfl, wakes_T⟩
theorem own_X (b b' : Bool) (i t : Int) (es : List Ent) (hn : es.length ≤ 9223372036854775807) {F : List Ent} (hF : fewL es = F) : XMeets Try.prog 11 [logT i t (.sl b (es.map (entC b')))] (.ag [.p (.v (.int .u64 i)) (nlv _), .p (.v (.int .u64 t)) (nlv _), .p (.sl true (F.map (entC true))) (nl_ents _ _).sl]) := by
  subst hF
  exact .of_shr (by kernel_rfl) (own_T b b' i t es hn) ⟨trivial, trivial, fr_ents _, trivial⟩ rfl
theorem fewX (b b' : Bool) (es : List Ent) (hn : es.length ≤ 9223372036854775807) {F : List Ent} (hF : fewL es = F) : XMeets Try.prog 12 [.sl b (es.map (entC b'))] (.p (.sl true (F.map (entC true))) (nl_ents _ _).sl) := by
  subst hF
  exact .of_shr (by kernel_rfl) (few_T b b' es hn) (fr_ents _) rfl
theorem right_X (b b' : Bool) (i t : Int) (es : List Ent) (h : okE es) (hi0 : 0 ≤ i) (hi1 : i < 18446744073709551616) (ht0 : 0 ≤ t) : XMeets Try.prog 19 [logT i t (.sl b (es.map (entC b')))] (.p (.v (.bool (mayB i t es))) (nlv _)) := ⟨by kernel_rfl, right_T b b' i t es h.w h.n9 hi0 hi1 ht0⟩
theorem meet_X (b b' : Bool) (i t : Int) (es : List Ent) (h : okE es) (hi0 : 0 ≤ i) (hi1 : i < 18446744073709551616) (b2 b2' : Bool) (more : List Ent) (h2 : okE more) (p : Int × Int) (hp0 : 0 ≤ p.1) (hp1 : p.1 < 18446744073709551616) : XMeets Try.prog 24 [logT i t (.sl b (es.map (entC b'))), .agg [.v (.int .u64 p.1), .v (.int .u64 p.2)], .sl b2 (more.map (entC b2'))] (.tu [.p (.v (.int .i64 (meetR i t es p more))) (nlv _), .p (.v (.int .i64 (meetE i t es p more))) (nlv _)]) := ⟨by kernel_rfl, meet_T b b' i t es h hi0 hi1 b2 b2' more h2 p hp0 hp1⟩
theorem take_X (b b' : Bool) (i t : Int) (es : List Ent) (h : okE es) (hi0 : 0 ≤ i) (hi1 : i < 18446744073709551616) (b2 b2' : Bool) (more : List Ent) (h2 : okE more) (p : Int × Int) (hp0 : 0 ≤ p.1) (hp1 : p.1 < 18446744073709551616) : XMeets Try.prog 26 [logT i t (.sl b (es.map (entC b'))), .agg [.v (.int .u64 p.1), .v (.int .u64 p.2)], .sl b2 (more.map (entC b2'))] (.tu [lgX (takeE i t es p more) i t (takeL i t es p more), .p (.v (.int .u64 (takeA i t es p more))) (nlv _), .p (.v (.int .i64 (takeE i t es p more))) (nlv _)]) := by
  obtain ⟨e1, e2⟩ := shr_lgE (takeE i t es p more) i t (takeL i t es p more)
  exact .of_shr (by kernel_rfl) (take_T b b' i t es h hi0 hi1 b2 b2' more h2 p hp0 hp1) ⟨e2, trivial, trivial, trivial⟩ (by simp only [shr, shrL]; exact congrArg (fun z => TV.tup [z, _, _]) e1)
theorem num6_ofN {i x : Int} {N : Nat} (h0 : 0 ≤ i) (hr : roomB i N = true) : num6 i x N = ofN i x N := by
  simp only [roomB, Bool.and_eq_true, decide_eq_true_eq] at hr
  rcases ofN_cases i x N with ⟨k, h1, h2, h3, h4⟩ | ⟨h1, h2⟩
  · rw [h2]
    exact num6_at h1 h3 fun j hj e => by omega
  · rw [h1]
    exact num6_no h2
theorem may_room6 {i t : Int} {es : List Ent} (h : mayB i t es = true) : roomB i es.length = true := by
  simp only [mayB, Bool.and_eq_true] at h; exact h.1.2
theorem has_6 {i t : Int} {es : List Ent} (h0 : 0 ≤ i) (h : mayB i t es = true) (a b : Int) : has6B i t es a b = hasB i t es a b := by
  unfold has6B hasB
  rw [num6_ofN h0 (may_room6 h)]
theorem met_6 {i t : Int} {es : List Ent} (h0 : 0 ≤ i) (h : mayB i t es = true) (p : Int) (more : List Ent) : met6B i t es p more = metB i t es p more := by
  funext n
  unfold met6B metB
  rw [has_6 h0 h]
theorem meetN_6 {i t : Int} {es : List Ent} (h0 : 0 ≤ i) (h : mayB i t es = true) (p : Int) (more : List Ent) : meetN i t es p more = meet6N i t es p more := by
  unfold meetN meet6N
  rw [met_6 h0 h]
theorem meetE_6 {i t : Int} {es : List Ent} (h0 : 0 ≤ i) (h : mayB i t es = true) (p : Int × Int) (more : List Ent) : meetE i t es p more = meet6E i t es p more := by
  unfold meetE meet6E
  rw [if_pos h, has_6 h0 h]
theorem meetR_6 {i t : Int} {es : List Ent} (h0 : 0 ≤ i) (h : mayB i t es = true) (p : Int × Int) (more : List Ent) : meetR i t es p more = meet6R i t es p more := by
  unfold meetR meet6R
  rw [meetE_6 h0 h, meetN_6 h0 h]
theorem meetE_f {i t : Int} {es : List Ent} (h : mayB i t es = false) (p : Int × Int) (more : List Ent) : meetE i t es p more = 160 := by
  unfold meetE; rw [h]; rfl
theorem meetR_f {i t : Int} {es : List Ent} (h : mayB i t es = false) (p : Int × Int) (more : List Ent) : meetR i t es p more = 0 := by
  unfold meetR; rw [meetE_f h]; rfl
theorem takeE_f {i t : Int} {es : List Ent} (h : mayB i t es = false) (p : Int × Int) (more : List Ent) : takeE i t es p more = 160 := by
  unfold takeE; rw [meetE_f h]; rfl
theorem takeA_f {i t : Int} {es : List Ent} (h : mayB i t es = false) (p : Int × Int) (more : List Ent) : takeA i t es p more = 0 := by
  unfold takeA; rw [takeE_f h]; rfl
/-- Where the offer parts from the log, there the log is cut. -/
theorem cut_at {i t : Int} {es : List Ent} {p : Int × Int} {more : List Ent} (h0 : 0 ≤ i) (hp0 : 0 ≤ p.1) (h : mayB i t es = true) (hE : meetE i t es p more = 0) (hN : meetN i t es p.1 more < more.length) : cut6E i es (take6X i t es p more) = 0 ∧ cut6L i es (take6X i t es p more) = es.take (takeQ i t es p more) := by
  have hE6 := hE
  rw [meetE_6 h0 h] at hE6
  have hr := meet6_room hE6
  have hr2 := hr
  simp only [roomB, Bool.and_eq_true, decide_eq_true_eq] at hr2
  have hX : take6X i t es p more = p.1 + meetN i t es p.1 more + 1 := by
    unfold take6X
    rw [← meetN_6 h0 h, spot_in hp0 hr (by omega)]
    omega
  obtain ⟨_, k, k1, k2, k3⟩ := take_at hE hN h0 hp0
  have hm := may_room6 h
  simp only [roomB, Bool.and_eq_true, decide_eq_true_eq] at hm
  have hn : num6 i (take6X i t es p more - 1) es.length = (k : Int) := by
    refine num6_at k1 ?_ fun j hj e => ?_ <;> omega
  have hQ : takeQ i t es p more = k := by unfold takeQ; omega
  unfold cut6E cut6L
  rw [hn]
  exact ⟨if_neg (by omega), by rw [hQ]; rfl⟩
theorem takeE_6 {i t : Int} {es : List Ent} {p : Int × Int} {more : List Ent} (h0 : 0 ≤ i) (hp0 : 0 ≤ p.1) (h : mayB i t es = true) : takeE i t es p more = take6E i t es p more ∧ (takeE i t es p more = 0 → takeL i t es p more = take6L i t es p more) := by
  have hNl : meetN i t es p.1 more ≤ more.length := by rw [meetN_6 h0 h]; exact meet6N_le ..
  unfold takeE take6E takeL take6L
  rw [← meetE_6 h0 h, ← meetN_6 h0 h]
  by_cases hE : meetE i t es p more = 0
  · rw [if_pos hE, if_pos hE]
    by_cases hN : meetN i t es p.1 more < more.length
    · obtain ⟨c1, c2⟩ := cut_at h0 hp0 h hE hN
      rw [if_pos hN, if_neg (by omega), if_pos c1, c2, if_pos hN, if_neg (by omega)]
      exact ⟨rfl, fun _ => rfl⟩
    · rw [if_neg hN, if_pos (by omega), if_neg hN, if_pos (by omega)]
      exact ⟨rfl, fun _ => rfl⟩
  · rw [if_neg hE, if_neg hE]
    exact ⟨rfl, fun e => (hE e).elim⟩
theorem takeA_6 {i t : Int} {es : List Ent} {p : Int × Int} {more : List Ent} (h0 : 0 ≤ i) (hp0 : 0 ≤ p.1) (h : mayB i t es = true) : takeA i t es p more = take6A i t es p more := by
  unfold takeA take6A; rw [(takeE_6 h0 hp0 h).1]
theorem sm_take {i t : Int} {es : List Ent} {p : Int × Int} {more : List Ent} (h0 : 0 ≤ i) (hp0 : 0 ≤ p.1) (h : mayB i t es = true) : sameL (if takeE i t es p more = 0 then i else 0) (if takeE i t es p more = 0 then t else 0) (if takeE i t es p more = 0 then takeL i t es p more else []) (if take6E i t es p more = 0 then i else 0) (if take6E i t es p more = 0 then t else 0) (if take6E i t es p more = 0 then take6L i t es p more else []) = true := by
  obtain ⟨h1, h2⟩ := takeE_6 (p := p) (more := more) h0 hp0 h
  rw [← h1]
  by_cases he : takeE i t es p more = 0
  · rw [h2 he]; exact sameL_self _ _ _
  · simp only [he, if_false]; exact sameL_self _ _ _
theorem sm_takef {i t : Int} {es : List Ent} {p : Int × Int} {more : List Ent} (h : mayB i t es = false) : sameL (if takeE i t es p more = 0 then i else 0) (if takeE i t es p more = 0 then t else 0) (if takeE i t es p more = 0 then takeL i t es p more else []) 0 0 [] = true := by
  rw [takeE_f h]; exact sameL_self _ _ _
/-- Entries that can be written over. -/
def Wo (x : List Ent) : Prop := x.length ≤ 1000 ∧ ∀ e ∈ x, e.D.length ≤ 1000000
theorem Wo.nil : Wo [] := ⟨by simp, by simp⟩
theorem Wo.few (es : List Ent) : Wo (fewL es) := ⟨by simp [fewL]; omega, fun e he => by
  obtain ⟨x, hx, rfl⟩ := List.mem_map.1 he
  simp [cutE]; omega⟩
theorem Wo.app {a b c d : List Ent} (h1 : a = fewL c) (h2 : b = fewL d) : Wo (a ++ b) := by
  subst h1 h2
  refine ⟨by simp [fewL]; omega, fun e he => ?_⟩
  rcases List.mem_append.1 he with he | he
  · exact (Wo.few _).2 e he
  · exact (Wo.few _).2 e he
theorem Wo.sub {a b : List Ent} (h : Wo a) (hl : b.length ≤ a.length) (hs : ∀ e ∈ b, e ∈ a) : Wo b := ⟨by have := h.1; omega, fun e he => h.2 e (hs e he)⟩
theorem Wo.take {a : List Ent} (h : Wo a) (k : Nat) : Wo (a.take k) := h.sub (by simp; omega) fun e he => List.mem_of_mem_take he
theorem Wo.drop {a : List Ent} (h : Wo a) (k : Nat) : Wo (a.drop k) := h.sub (by simp) fun e he => List.mem_of_mem_drop he
theorem Wo.ite {a : List Ent} (h : Wo a) (c : Prop) [Decidable c] : Wo (if c then a else []) := by split; exact h; exact Wo.nil
theorem Wo.S {x : List Ent} (h : Wo x) {i t : Int} : SpB Try.prog 21 [logT i t (.sl true (x.map (entC true)))] := over_S (by have := h.1; omega) fun e he => by have := h.2 e he; omega
theorem pin_nl (i t : Int) (F : List Ent) : NlL [TV.v (.int .u64 i), .v (.int .u64 t), .sl false (F.map (entC false))] := .cons (nlv _) (.cons (nlv _) (.cons (nl_ents _ _).sl .nil))
theorem notF {b : Bool} (h : b = true) : (!b) = false := by rw [h]; rfl
theorem Wo.tk {F G c d : List Ent} (h1 : fewL c = F) (h2 : fewL d = G) (i t : Int) (p : Int × Int) : Wo (takeL i t F p G) := by
  have hA := Wo.app (a := F) (b := G) h1.symm h2.symm
  unfold takeL
  split
  · refine hA.sub (by simp; omega) fun z hz => ?_
    rcases List.mem_append.1 hz with hz | hz
    · exact List.mem_append_left _ (List.mem_of_mem_take hz)
    · exact List.mem_append_right _ (List.mem_of_mem_drop hz)
  · exact hA.sub (by simp) fun z hz => List.mem_append_left _ hz
theorem nl_logs (b : Bool) (l : List LogA) : NlLL (l.map (logC b)) := .map fun e _ => .cons (nlv _) (.cons (nlv _) (.cons (nl_ents _ _).sl .nil))
theorem Wo.d {x : List Ent} (h : Wo x) : dOk x := h.2
theorem Wo.n {x : List Ent} (h : Wo x) : x.length ≤ 1000000 := by have := h.1; omega
theorem same6_W (b b' c c' : Bool) (i t i2 t2 : Int) {x : List Ent} (y : List Ent) (h : Wo x) : XMeets Try.prog 20 [logT i t (.sl b (x.map (entC b'))), logT i2 t2 (.sl c (y.map (entC c')))] (.p (.v (.bool (sameL i t x i2 t2 y))) (nlv _)) := same6_X b b' c c' i t i2 t2 x y h.d h.n
set_option maxRecDepth 20000 in
theorem lMeets_X (b b' c c' : Bool) {i t : Int} (es : List Ent) (offs : List LogA) (hi0 : 0 ≤ i) (hi1 : i < 18446744073709551616) (ht0 : 0 ≤ t) (hw : wfE es) (hn : es.length ≤ 9223372036854775807) (hoff : ∀ o ∈ offs, o.Ok) (hno : offs.length ≤ 9223372036854775807) : XMeets Try.prog 4 [logT i t (.sl b (es.map (entC b'))), .sl c (offs.map (logC c'))] (.p (.v (.bool true)) (nlv _)) := by
  refine XMeets.of_XM [(11, .row 0)] tabX_ok (avs := [.ag [.p (.v (.int .u64 i)) (nlv _), .p (.v (.int .u64 t)) (nlv _), .p (.sl false (es.map (entC false))) (nl_ents _ _).sl], .p (.sl false (offs.map (logC false))) (nl_logs _ _).sl]) [(0, .ag [.p (.v (.int .u64 i)) (nlv _), .p (.v (.int .u64 t)) (nlv _), .p (.sl false (es.map (entC false))) (nl_ents _ _).sl]), (1, .p (.sl false (offs.map (logC false))) (nl_logs _ _).sl)] (by kernel_rfl) Try.func4 rfl (by simp [PuL, Pu, logT, atT, pu_ents, pu_bytes, pu_logs]) (by simp only [untagL, untag, logT, atT, untag_ents, untag_bytes, untag_logs]; rfl) rfl rfl ?_
  intro B w0
  obtain ⟨F, hF⟩ : ∃ F, fewL es = F := ⟨_, rfl⟩
  have hokF : okE F := hF ▸ few_ok hw
  have hFF : fewL F = F := by rw [← hF]; exact few_few _
  have hlF : F.length ≤ 32 := by rw [← hF]; simp [fewL]; omega
  have hWF : Wo F := hF ▸ Wo.few es
  conv => whnf
  refine .ct ?_
  conv => whnf
  refine CallG.mk (wakes_X) rfl ?_
  conv => whnf
  refine .ct ?_
  conv => whnf
  refine CallG.mk (own_X _ _ _ _ es hn hF) rfl ?_
  conv => whnf
  refine .ct ?_
  conv => whnf
  refine CallG.mk (own_X _ _ _ _ F (by omega) hFF) rfl ?_
  conv => whnf
  refine .ct ?_
  conv => whnf
  refine CallG.mk (right_X _ _ _ _ F hokF hi0 hi1 ht0) rfl ?_
  conv => whnf
  refine XT.loop tabX_ok (Y := Nat) [0, 1, 4, 7, 8, 9, 10, 11, 12, 13, 14, 15, 16, 17, 18, 19, 20, 23, 24, 25, 26, 27, 31, 32, 33, 34, 35, 36, 37, 38, 39, 40, 41, 42, 43, 44, 45, 46, 47, 48, 49, 50, 51, 52, 53, 54, 55, 56, 57, 58, 59, 60, 61, 62, 63, 64, 65, 66, 67, 68, 69, 70, 71, 72, 73, 74, 75, 76, 77, 78, 79, 80, 81, 82, 83, 84, 85, 86, 87, 88, 89, 90, 91, 92, 93, 94, 95, 96, 97, 98, 99, 100, 101, 102, 103, 104, 105, 106, 107, 108, 109, 110, 111, 112, 113, 114, 115, 116, 117] (fun k => [(31, .p (.v (.int .i64 (k : Int))) (nlv _))]) (fun k => []) (fun k => k ≤ offs.length) (fun k => offs.length - k) 0 (Nat.zero_le _) ?_ ?_
  · skip
    refine ⟨?_, ?_, ?_⟩
    · skip
      repeat ((conv => whnf); first | exact True.intro | refine ⟨.rfl, ?_⟩ | refine ⟨.any, ?_⟩ | refine ⟨.nil, ?_⟩ | refine ⟨.int (by first | rfl | omega | (simp only [wrs]; omega)), ?_⟩)
    · skip
      repeat (first | exact LeVs.nil | ((conv => whnf); first | exact True.intro | exact .none | exact .row rfl | refine .cells ?_ | refine ⟨_, _, rfl, .rfl, ?_⟩ | refine ⟨_, _, rfl, .any, ?_⟩ | refine ⟨_, _, rfl, .nil, ?_⟩ | refine ⟨_, _, rfl, .int (by first | rfl | omega | (simp only [wrs]; omega)), ?_⟩ | refine ⟨?_, ?_⟩))
    · skip
      repeat (first | exact LeFr.nil | ((conv => whnf); first | exact True.intro | refine ⟨.rfl, ?_⟩ | refine ⟨_, _, rfl, rfl, ?_, ?_⟩))
  · skip
    rintro k hk
    conv => whnf
    cases hc1 : (decide ((↑k : Int) < (↑(List.map (logC false) offs).length : Int)))
    · skip
      try simp only [bls] at hc1
      conv => whnf
      refine FinG.mk none ?_ (by rintro _ ⟨⟩)
      simp only [outs, List.length_map, List.length_append, List.length_take, List.length_drop, List.length_cons, List.length_nil, atC, entC, byC, atX, at6, logC]
    · skip
      try simp only [bls] at hc1
      conv => whnf
      refine IdxG.map _ rfl (by first | omega | (simp only [List.length_map] at *; omega)) ?_; intro o ho hko
      have hoo := hoff o (List.mem_of_getElem? ho)
      have ho0 := hoo.i0
      have ho1 := hoo.i1
      obtain ⟨G, hG⟩ : ∃ G, fewL o.es = G := ⟨_, rfl⟩
      have hokG : okE G := hG ▸ few_ok hoo.w
      have hlG : G.length ≤ 32 := by rw [← hG]; simp [fewL]; omega
      have hWG : Wo G := hG ▸ Wo.few o.es
      have hWT : Wo (takeL i t F (o.i, o.t) G) := Wo.tk hF hG _ _ _
      conv => whnf
      refine ⟨rfl, ?_⟩
      conv => whnf
      cases hc2 : (decide ((↑k : Int) = 8))
      · skip
        try simp only [bls] at hc2
        conv => whnf
        refine RegG.par 8 (by kernel_rfl) ?_
        conv => whnf
        refine CallG.mk (fewX _ _ o.es hoo.n hG) rfl ?_
        conv => whnf
        refine CallG.mk (fewX _ _ o.es hoo.n hG) rfl ?_
        conv => whnf
        refine XT.mark tabX_ok 6 [2, 5, 8, 9, 10, 29] ?_
        intro M w1 us
        refine ⟨[(2, .pin (us 2) (.eptr [.v (.int .u64 i), .v (.int .u64 t), .sl false (F.map (entC false))]) ((pin_nl _ _ _).eptr)), (5, .pin (us 5) (.eptr [.v (.int .u64 i), .v (.int .u64 t), .sl false (F.map (entC false))]) ((pin_nl _ _ _).eptr)), (8, .pin (us 8) (.eptr [.v (.int .u64 o.i), .v (.int .u64 o.t), .sl false (o.es.map (entC false))]) ((pin_nl _ _ _).eptr)), (9, .pin (us 9) (.sl false (G.map (entC false))) ((nl_ents _ _).sl)), (10, .pin (us 10) (.sl false (G.map (entC false))) ((nl_ents _ _).sl)), (29, .pin (us 29) (.sl false (offs.map (logC false))) ((nl_logs _ _).sl))], ?_, ?_⟩
        · skip
          refine ⟨.pin rfl rfl (by simp [Pu, PuL, pu_ents, pu_logs]) (by simp only [untag, untagL, untag_ents, untag_logs]), ?_⟩
          refine ⟨.pin rfl rfl (by simp [Pu, PuL, pu_ents, pu_logs]) (by simp only [untag, untagL, untag_ents, untag_logs]), ?_⟩
          refine ⟨.pin rfl rfl (by simp [Pu, PuL, pu_ents, pu_logs]) (by simp only [untag, untagL, untag_ents, untag_logs]), ?_⟩
          refine ⟨.pin rfl rfl (by simp [Pu, PuL, pu_ents, pu_logs]) (by simp only [untag, untagL, untag_ents, untag_logs]), ?_⟩
          refine ⟨.pin rfl rfl (by simp [Pu, PuL, pu_ents, pu_logs]) (by simp only [untag, untagL, untag_ents, untag_logs]), ?_⟩
          refine ⟨.pin rfl rfl (by simp [Pu, PuL, pu_ents, pu_logs]) (by simp only [untag, untagL, untag_ents, untag_logs]), ?_⟩
          exact True.intro
        · skip
          intro hpins
          obtain ⟨hp2, hp5, hp8, hp9, hp10, hp29, -⟩ : PinOk M w1 (us 2) (.eptr [.v (.int .u64 i), .v (.int .u64 t), .sl false (F.map (entC false))]) ∧ PinOk M w1 (us 5) (.eptr [.v (.int .u64 i), .v (.int .u64 t), .sl false (F.map (entC false))]) ∧ PinOk M w1 (us 8) (.eptr [.v (.int .u64 o.i), .v (.int .u64 o.t), .sl false (o.es.map (entC false))]) ∧ PinOk M w1 (us 9) (.sl false (G.map (entC false))) ∧ PinOk M w1 (us 10) (.sl false (G.map (entC false))) ∧ PinOk M w1 (us 29) (.sl false (offs.map (logC false))) ∧ True := hpins
          conv => whnf
          refine ⟨by assumption, ?_⟩
          conv => whnf
          refine ⟨by assumption, ?_⟩
          conv => whnf
          refine ⟨by assumption, ?_⟩
          conv => whnf
          refine .ct ?_
          conv => whnf
          refine CallG.mk (meet_X _ _ i t F hokF hi0 hi1 _ _ G hokG (o.i, o.t) ho0 ho1) rfl ?_
          conv => whnf
          refine ⟨by assumption, ?_⟩
          conv => whnf
          refine ⟨by assumption, ?_⟩
          conv => whnf
          refine ⟨by assumption, ?_⟩
          conv => whnf
          refine .ct ?_
          conv => whnf
          refine CallG.mk (meet6_X _ _ i t F hi0 hi1 (by omega) _ _ G hokG (by omega) (o.i, o.t) ho0 ho1) rfl ?_
          conv => whnf
          refine ⟨by assumption, ?_⟩
          conv => whnf
          refine ⟨by assumption, ?_⟩
          conv => whnf
          refine ⟨by assumption, ?_⟩
          conv => whnf
          refine .ct ?_
          conv => whnf
          refine CallG.mk (take_X _ _ i t F hokF hi0 hi1 _ _ G hokG (o.i, o.t) ho0 ho1) rfl ?_
          conv => whnf
          refine ⟨by assumption, ?_⟩
          conv => whnf
          refine ⟨by assumption, ?_⟩
          conv => whnf
          refine ⟨by assumption, ?_⟩
          conv => whnf
          refine .ct ?_
          conv => whnf
          refine CallG.mk (take6_X _ _ i t F hi0 hi1 (by omega) hokF.dok _ _ G hokG (by omega) (o.i, o.t) ho0 ho1) rfl ?_
          conv => whnf
          cases hc3 : (mayB i t F)
          · skip
            try simp only [bls] at hc3
            conv => whnf
            refine bF (by have hm : mayB i t F = false := (by assumption); simp [meetR_f hm]; done) ?_
            conv => whnf
            refine bF (by have hm : mayB i t F = false := (by assumption); simp [meetR_f hm]; done) ?_
            conv => whnf
            refine bF (by have hm : mayB i t F = false := (by assumption); simp [meetR_f hm]; done) ?_
            conv => whnf
            refine bF (by have hm : mayB i t F = false := (by assumption); simp [meetR_f hm]; done) ?_
            conv => whnf
            refine bF (by have hm : mayB i t F = false := (by assumption); simp [meetE_f hm]; done) ?_
            conv => whnf
            refine bF (by have hm : mayB i t F = false := (by assumption); simp [meetE_f hm]; done) ?_
            conv => whnf
            refine bF (by have hm : mayB i t F = false := (by assumption); simp [meetE_f hm]; done) ?_
            conv => whnf
            refine bF (by have hm : mayB i t F = false := (by assumption); simp [meetE_f hm]; done) ?_
            conv => whnf
            refine bF (by have hm : mayB i t F = false := (by assumption); simp [takeA_f hm]; done) ?_
            conv => whnf
            refine bF (by have hm : mayB i t F = false := (by assumption); simp [takeA_f hm]; done) ?_
            conv => whnf
            refine bF (by have hm : mayB i t F = false := (by assumption); simp [takeA_f hm]; done) ?_
            conv => whnf
            refine bF (by have hm : mayB i t F = false := (by assumption); simp [takeA_f hm]; done) ?_
            conv => whnf
            refine bF (by have hm : mayB i t F = false := (by assumption); simp [takeE_f hm]; done) ?_
            conv => whnf
            refine bF (by have hm : mayB i t F = false := (by assumption); simp [takeE_f hm]; done) ?_
            conv => whnf
            refine bF (by have hm : mayB i t F = false := (by assumption); simp [takeE_f hm]; done) ?_
            conv => whnf
            refine .ct ?_
            conv => whnf
            refine CallG.mk (same6_W _ _ true true _ _ _ _ [] (Wo.ite hWT _)) rfl ?_
            conv => whnf
            refine bF (by have hm : mayB i t F = false := (by assumption); simp [takeE_f hm]; done) ?_
            conv => whnf
            refine bF (by have hm : mayB i t F = false := (by assumption); simp [takeE_f hm]; done) ?_
            conv => whnf
            refine bF (notF (sm_takef (by assumption))) ?_
            conv => whnf
            refine .wr (WCall.spoil (hWT.ite _).S.sp rfl ?_)
            conv => whnf
            refine ⟨⟨⟨_, _, rfl⟩, rfl, ⟨_, _, rfl⟩, rfl, ⟨_, _, rfl⟩, rfl, ⟨_, _, rfl⟩, rfl, ⟨_, _, rfl⟩, rfl, ⟨_, _, rfl⟩, rfl, True.intro⟩, ?_⟩
            conv => whnf
            refine XT.of tabX_ok ?_
            conv => whnf
            refine .ct ?_
            conv => whnf
            refine CallG.mk (same6_W _ _ _ _ _ _ _ _ _ hWF) rfl ?_
            conv => whnf
            refine bF (notF (sameL_self _ _ _)) ?_
            conv => whnf
            refine bF (notF (sameL_self _ _ _)) ?_
            conv => whnf
            refine bF (notF (sameL_self _ _ _)) ?_
            conv => whnf
            refine .ct ?_
            conv => whnf
            refine CallG.mk (sameE6_X _ _ _ _ G G hokG.dok (by omega)) rfl ?_
            conv => whnf
            refine bF (notF (sameL_self _ _ _)) ?_
            conv => whnf
            refine bF (notF (sameL_self _ _ _)) ?_
            conv => whnf
            refine bF (notF (sameE_t rfl)) ?_
            conv => whnf
            refine ⟨(k + 1), (by first | omega | (simp only [List.length_map] at *; omega)), (by first | omega | (simp only [List.length_map] at *; omega)), ?_⟩
            refine ⟨?_, ?_, ?_⟩
            · skip
              repeat ((conv => whnf); first | exact True.intro | refine ⟨.rfl, ?_⟩ | refine ⟨.any, ?_⟩ | refine ⟨.nil, ?_⟩ | refine ⟨.int (by first | rfl | omega | (simp only [wrs]; omega)), ?_⟩)
            · skip
              repeat (first | exact LeVs.nil | ((conv => whnf); first | exact True.intro | exact .none | exact .row rfl | refine .cells ?_ | refine ⟨_, _, rfl, .rfl, ?_⟩ | refine ⟨_, _, rfl, .any, ?_⟩ | refine ⟨_, _, rfl, .nil, ?_⟩ | refine ⟨_, _, rfl, .int (by first | rfl | omega | (simp only [wrs]; omega)), ?_⟩ | refine ⟨?_, ?_⟩))
            · skip
              repeat (first | exact LeFr.nil | ((conv => whnf); first | exact True.intro | refine ⟨.rfl, ?_⟩ | refine ⟨_, _, rfl, rfl, ?_, ?_⟩))
          · skip
            try simp only [bls] at hc3
            conv => whnf
            refine bF (by have hm : mayB i t F = true := (by assumption); simp [meetR_6 hi0 hm]; done) ?_
            conv => whnf
            refine bF (by have hm : mayB i t F = true := (by assumption); simp [meetR_6 hi0 hm]; done) ?_
            conv => whnf
            refine bF (by have hm : mayB i t F = true := (by assumption); simp [meetR_6 hi0 hm]; done) ?_
            conv => whnf
            refine bF (by have hm : mayB i t F = true := (by assumption); simp [meetR_6 hi0 hm]; done) ?_
            conv => whnf
            refine bF (by have hm : mayB i t F = true := (by assumption); simp [meetE_6 hi0 hm]; done) ?_
            conv => whnf
            refine bF (by have hm : mayB i t F = true := (by assumption); simp [meetE_6 hi0 hm]; done) ?_
            conv => whnf
            refine bF (by have hm : mayB i t F = true := (by assumption); simp [meetE_6 hi0 hm]; done) ?_
            conv => whnf
            refine bF (by have hm : mayB i t F = true := (by assumption); simp [meetE_6 hi0 hm]; done) ?_
            conv => whnf
            refine bF (by have hm : mayB i t F = true := (by assumption); simp [takeA_6 (p := (o.i, o.t)) hi0 ho0 hm]; done) ?_
            conv => whnf
            refine bF (by have hm : mayB i t F = true := (by assumption); simp [takeA_6 (p := (o.i, o.t)) hi0 ho0 hm]; done) ?_
            conv => whnf
            refine bF (by have hm : mayB i t F = true := (by assumption); simp [takeA_6 (p := (o.i, o.t)) hi0 ho0 hm]; done) ?_
            conv => whnf
            refine bF (by have hm : mayB i t F = true := (by assumption); simp [takeA_6 (p := (o.i, o.t)) hi0 ho0 hm]; done) ?_
            conv => whnf
            refine bF (by have hm : mayB i t F = true := (by assumption); simp [(takeE_6 (p := (o.i, o.t)) (more := G) hi0 ho0 hm).1]; done) ?_
            conv => whnf
            refine bF (by have hm : mayB i t F = true := (by assumption); simp [(takeE_6 (p := (o.i, o.t)) (more := G) hi0 ho0 hm).1]; done) ?_
            conv => whnf
            refine bF (by have hm : mayB i t F = true := (by assumption); simp [(takeE_6 (p := (o.i, o.t)) (more := G) hi0 ho0 hm).1]; done) ?_
            conv => whnf
            refine .ct ?_
            conv => whnf
            refine CallG.mk (same6_W _ _ _ _ _ _ _ _ _ (Wo.ite hWT _)) rfl ?_
            conv => whnf
            refine bF (by have hm : mayB i t F = true := (by assumption); simp [(takeE_6 (p := (o.i, o.t)) (more := G) hi0 ho0 hm).1]; done) ?_
            conv => whnf
            refine bF (by have hm : mayB i t F = true := (by assumption); simp [(takeE_6 (p := (o.i, o.t)) (more := G) hi0 ho0 hm).1]; done) ?_
            conv => whnf
            refine bF (notF (sm_take (p := (o.i, o.t)) hi0 ho0 (by assumption))) ?_
            conv => whnf
            refine .wr (WCall.spoil (hWT.ite _).S.sp rfl ?_)
            conv => whnf
            refine ⟨⟨⟨_, _, rfl⟩, rfl, ⟨_, _, rfl⟩, rfl, ⟨_, _, rfl⟩, rfl, ⟨_, _, rfl⟩, rfl, ⟨_, _, rfl⟩, rfl, ⟨_, _, rfl⟩, rfl, True.intro⟩, ?_⟩
            conv => whnf
            refine XT.of tabX_ok ?_
            conv => whnf
            refine .ct ?_
            conv => whnf
            refine CallG.mk (same6_W _ _ _ _ _ _ _ _ _ hWF) rfl ?_
            conv => whnf
            refine bF (notF (sameL_self _ _ _)) ?_
            conv => whnf
            refine bF (notF (sameL_self _ _ _)) ?_
            conv => whnf
            refine bF (notF (sameL_self _ _ _)) ?_
            conv => whnf
            refine .ct ?_
            conv => whnf
            refine CallG.mk (sameE6_X _ _ _ _ G G hokG.dok (by omega)) rfl ?_
            conv => whnf
            refine bF (notF (sameL_self _ _ _)) ?_
            conv => whnf
            refine bF (notF (sameL_self _ _ _)) ?_
            conv => whnf
            refine bF (notF (sameE_t rfl)) ?_
            conv => whnf
            refine ⟨(k + 1), (by first | omega | (simp only [List.length_map] at *; omega)), (by first | omega | (simp only [List.length_map] at *; omega)), ?_⟩
            refine ⟨?_, ?_, ?_⟩
            · skip
              repeat ((conv => whnf); first | exact True.intro | refine ⟨.rfl, ?_⟩ | refine ⟨.any, ?_⟩ | refine ⟨.nil, ?_⟩ | refine ⟨.int (by first | rfl | omega | (simp only [wrs]; omega)), ?_⟩)
            · skip
              repeat (first | exact LeVs.nil | ((conv => whnf); first | exact True.intro | exact .none | exact .row rfl | refine .cells ?_ | refine ⟨_, _, rfl, .rfl, ?_⟩ | refine ⟨_, _, rfl, .any, ?_⟩ | refine ⟨_, _, rfl, .nil, ?_⟩ | refine ⟨_, _, rfl, .int (by first | rfl | omega | (simp only [wrs]; omega)), ?_⟩ | refine ⟨?_, ?_⟩))
            · skip
              repeat (first | exact LeFr.nil | ((conv => whnf); first | exact True.intro | refine ⟨.rfl, ?_⟩ | refine ⟨_, _, rfl, rfl, ?_, ?_⟩))
      · skip
        try simp only [bls] at hc2
        conv => whnf
        refine FinG.mk none ?_ (by rintro _ ⟨⟩)
        simp only [outs, List.length_map, List.length_append, List.length_take, List.length_drop, List.length_cons, List.length_nil, atC, entC, byC, atX, at6, logC]
end Go.Proofs.Ytpckkajodpiiaaa
