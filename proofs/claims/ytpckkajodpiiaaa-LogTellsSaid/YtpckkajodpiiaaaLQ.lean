/- What the document's functions tell of logs. No condition. -/
import Derived.Test.YtpckkajodpiiaaaLR
import Derived.Test.YtpckkajodpiiaaaU10
namespace Go.Proofs.Ytpckkajodpiiaaa
open Go.RowKit
set_option linter.unusedVariables false
set_option linter.unusedSimpArgs false
set_option maxRecDepth 20000
set_option maxRecDepth 20000 in
theorem newer6_X (x y : Int × Int) : XMeets Try.prog 41 [.agg [.v (.int .u64 x.1), .v (.int .u64 x.2)], .agg [.v (.int .u64 y.1), .v (.int .u64 y.2)]] (.p (.v (.bool (newerB x y))) (nlv _)) := by
  refine XMeets.of_X tabX_ok (avs := [.ag [.p (.v (.int .u64 x.1)) (nlv _), .p (.v (.int .u64 x.2)) (nlv _)], .ag [.p (.v (.int .u64 y.1)) (nlv _), .p (.v (.int .u64 y.2)) (nlv _)]]) [(0, .ag [.p (.v (.int .u64 x.1)) (nlv _), .p (.v (.int .u64 x.2)) (nlv _)]), (1, .ag [.p (.v (.int .u64 y.1)) (nlv _), .p (.v (.int .u64 y.2)) (nlv _)])] (by kernel_rfl) Try.func41 rfl (by simp [PuL, Pu, logT, atT, pu_ents, pu_bytes]) (by simp only [untagL, untag, logT, atT, untag_ents, untag_bytes]; rfl) rfl rfl ?_
  intro B w0
  conv => whnf
  cases hc1 : (decide (x.snd = y.snd))
  · skip
    try simp only [bls] at hc1
    conv => whnf
    refine FinG.mk none ?_ (by rintro _ ⟨⟩)
    simp only [outs, List.length_map, List.length_append, List.length_take, List.length_drop, List.length_cons, List.length_nil, atC, entC, byC, spotsL_len]
    simp_all [newerB]
  · skip
    try simp only [bls] at hc1
    conv => whnf
    refine FinG.mk none ?_ (by rintro _ ⟨⟩)
    simp only [outs, List.length_map, List.length_append, List.length_take, List.length_drop, List.length_cons, List.length_nil, atC, entC, byC, spotsL_len]
    simp_all [newerB]
set_option maxRecDepth 20000 in
theorem term6_X (b b' : Bool) (i t : Int) (es : List Ent) (x : Int) (hi0 : 0 ≤ i) (hi1 : i < 18446744073709551616) (hn : es.length ≤ 500) : XMeets Try.prog 33 [logT i t (.sl b (es.map (entC b'))), .v (.int .u64 x)] (.tu [.p (.v (.int .u64 (term6N i t es x).1)) (nlv _), .p (.v (.bool ((term6N i t es x).2))) (nlv _)]) := by
  refine XMeets.of_X tabX_ok (avs := [.ag [.p (.v (.int .u64 i)) (nlv _), .p (.v (.int .u64 t)) (nlv _), .p (.sl false (es.map (entC false))) (nl_ents _ _).sl], .p (.v (.int .u64 x)) (nlv _)]) [(0, .ag [.p (.v (.int .u64 i)) (nlv _), .p (.v (.int .u64 t)) (nlv _), .p (.sl false (es.map (entC false))) (nl_ents _ _).sl]), (1, .p (.v (.int .u64 x)) (nlv _))] (by kernel_rfl) Try.func33 rfl (by simp [PuL, Pu, logT, atT, pu_ents, pu_bytes]) (by simp only [untagL, untag, logT, atT, untag_ents, untag_bytes]; rfl) rfl rfl ?_
  intro B w0
  conv => whnf
  refine .ct ?_
  conv => whnf
  refine CallG.mk (number6_X _ _ _ _ _ _ (by first | assumption | omega) (by first | assumption | omega) (by first | assumption | omega)) rfl ?_
  conv => whnf
  cases hc1 : (decide (num6 i x es.length < 0))
  · skip
    try simp only [bls] at hc1
    conv => whnf
    refine .ct ?_
    conv => whnf
    refine CallG.mk (spots6_X _ _ _ _ _ (by first | assumption | omega) (by first | assumption | omega) (by first | assumption | omega)) rfl ?_
    conv => whnf
    refine ⟨(num6 i x es.length).toNat, (Int.toNat_of_nonneg (by omega)).symm, ?_⟩
    conv => whnf
    refine ⟨by have := num6_le i x es.length; simp only [List.length_map, spotsL_len] at *; omega, ?_⟩
    conv => whnf
    refine IdxG.mk (j := (num6 i x es.length).toNat) (c := atC (spotN i t es (num6 i x es.length).toNat)) (by have := num6_le i x es.length; rw [List.getElem?_map, spotsL_at (by omega)]; rfl) (by have := num6_le i x es.length; omega) ?_
    conv => whnf
    refine FinG.mk none ?_ (by rintro _ ⟨⟩)
    simp only [outs, List.length_map, List.length_append, List.length_take, List.length_drop, List.length_cons, List.length_nil, atC, entC, byC, spotsL_len]
    have h1 : ¬ num6 i x es.length < 0 := by omega
    simp [term6N, h1]
  · skip
    try simp only [bls] at hc1
    conv => whnf
    refine FinG.mk none ?_ (by rintro _ ⟨⟩)
    simp only [outs, List.length_map, List.length_append, List.length_take, List.length_drop, List.length_cons, List.length_nil, atC, entC, byC, spotsL_len]
    have h1 : num6 i x es.length < 0 := by omega
    simp [term6N, h1]
def from6K (i : Int) (es : List Ent) (x : Int) : Nat := (num6 i (x - 1) es.length).toNat
def from6E (i : Int) (es : List Ent) (x n : Int) : Int := if x = 0 ∨ num6 i (x - 1) es.length < 0 then 4 else if n < 0 then 2 else 0
def from6A (i t : Int) (es : List Ent) (x n : Int) : Int × Int := if from6E i es x n = 0 then spotN i t es (from6K i es x) else (0, 0)
def from6L (i : Int) (es : List Ent) (x n : Int) : List Ent := if from6E i es x n = 0 then (es.drop (from6K i es x)).take n.toNat else []
/-- Config entries among the first, the last of them at or ahead of a place. -/
def cf6 (i t x : Int) (es : List Ent) : Nat → Int × List Int × Bool
  | 0 => (0, [], false)
  | k + 1 => match es[k]? with
    | some e => if e.K = 3 ∧ (spotN i t es (k + 1)).1 ≤ x then ((spotN i t es (k + 1)).1, e.D, true) else cf6 i t x es k
    | none => cf6 i t x es k
theorem cf6_s {i t x : Int} {es : List Ent} {k : Nat} {e : Ent} (h : es[k]? = some e) (h1 : e.K = 3) (h2 : (spotN i t es (k + 1)).1 ≤ x) : cf6 i t x es (k + 1) = ((spotN i t es (k + 1)).1, e.D, true) := by
  simp [cf6, h, h1, h2]
theorem cf6_n {i t x : Int} {es : List Ent} {k : Nat} {e : Ent} (h : es[k]? = some e) (h1 : ¬ (e.K = 3 ∧ (spotN i t es (k + 1)).1 ≤ x)) : cf6 i t x es (k + 1) = cf6 i t x es k := by
  simp [cf6, h, h1]
set_option maxRecDepth 20000 in
theorem from6_X (b b' : Bool) (i t : Int) (es : List Ent) (x n : Int) (hd : dOk es) (hx0 : 0 ≤ x) (hx1 : x < 18446744073709551616) (hi0 : 0 ≤ i) (hi1 : i < 18446744073709551616) (hn : es.length ≤ 500) : XMeets Try.prog 35 [logT i t (.sl b (es.map (entC b'))), .v (.int .u64 x), .v (.int .i64 n)] (.tu [atX (from6A i t es x n), .p (.sl true ((from6L i es x n).map (entC true))) (nl_ents _ _).sl, .p (.v (.int .i64 (from6E i es x n))) (nlv _)]) := by
  refine XMeets.of_X tabX_ok (avs := [.ag [.p (.v (.int .u64 i)) (nlv _), .p (.v (.int .u64 t)) (nlv _), .p (.sl false (es.map (entC false))) (nl_ents _ _).sl], .p (.v (.int .u64 x)) (nlv _), .p (.v (.int .i64 n)) (nlv _)]) [(0, .ag [.p (.v (.int .u64 i)) (nlv _), .p (.v (.int .u64 t)) (nlv _), .p (.sl false (es.map (entC false))) (nl_ents _ _).sl]), (1, .p (.v (.int .u64 x)) (nlv _)), (2, .p (.v (.int .i64 n)) (nlv _))] (by kernel_rfl) Try.func35 rfl (by simp [PuL, Pu, logT, atT, pu_ents, pu_bytes]) (by simp only [untagL, untag, logT, atT, untag_ents, untag_bytes]; rfl) rfl rfl ?_
  intro B w0
  conv => whnf
  cases hc1 : (decide (x = 0))
  · skip
    try simp only [bls] at hc1
    conv => whnf
    refine .ct ?_
    conv => whnf
    refine CallG.mk (number6_X _ _ _ _ _ _ (by first | assumption | omega) (by first | assumption | omega) (by first | assumption | omega)) rfl ?_
    conv => whnf
    cases hc2 : (decide (num6 i (IntKind.u64.wrap (x - 1)) es.length < 0))
    · skip
      try simp only [bls] at hc2
      try simp (disch := omega) only [wz, Int.reduceAdd, Int.reduceSub, Int.reduceMul, Int.reduceNeg, Int.zero_add, Int.add_zero, Int.sub_zero, Int.sub_self] at hc2
      conv => whnf
      cases hc3 : (decide (n < 0))
      · skip
        try simp only [bls] at hc3
        conv => whnf
        refine .ct ?_
        conv => whnf
        refine CallG.mk (number6_X _ _ _ _ _ _ (by first | assumption | omega) (by first | assumption | omega) (by first | assumption | omega)) rfl ?_
        conv => whnf
        rw [show IntKind.u64.wrap (x - 1) = (x - 1) from wz.2.1 _ (by omega) (by omega)]
        conv => whnf
        refine ⟨(num6 i (x - 1) es.length).toNat, (Int.toNat_of_nonneg (by omega)).symm, ?_⟩
        conv => whnf
        refine ⟨by have := num6_le i (x - 1) es.length; simp only [List.length_map, spotsL_len] at *; omega, ?_⟩
        conv => whnf
        refine ⟨by have := num6_le i (x - 1) es.length; simp only [List.length_map, spotsL_len] at *; omega, ?_⟩
        conv => whnf
        refine ⟨fun c hc => by obtain ⟨y, _, rfl⟩ := List.mem_map.1 hc; rfl, ?_⟩
        conv => whnf
        refine .ct ?_
        conv => whnf
        simp only [← List.map_take, ← List.map_drop]
        conv => whnf
        refine CallG.mk (entries6_X _ _ _ (hd.drop _) (by simp; omega)) rfl ?_
        conv => whnf
        cases hc4 : (decide (n < (↑(List.map (entC true) (List.drop (num6 i (x - 1) es.length).toNat es)).length : Int)))
        · skip
          try simp only [bls] at hc4
          conv => whnf
          refine .ct ?_
          conv => whnf
          refine CallG.mk (spots6_X _ _ _ _ _ (by first | assumption | omega) (by first | assumption | omega) (by first | assumption | omega)) rfl ?_
          conv => whnf
          refine ⟨(num6 i (x - 1) es.length).toNat, (Int.toNat_of_nonneg (by omega)).symm, ?_⟩
          conv => whnf
          refine ⟨by have := num6_le i (x - 1) es.length; simp only [List.length_map, spotsL_len] at *; omega, ?_⟩
          conv => whnf
          refine IdxG.mk (j := (num6 i (x - 1) es.length).toNat) (c := atC (spotN i t es (num6 i (x - 1) es.length).toNat)) (by have := num6_le i (x - 1) es.length; rw [List.getElem?_map, spotsL_at (by omega)]; rfl) (by have := num6_le i (x - 1) es.length; omega) ?_
          conv => whnf
          refine FinG.mk none ?_ (by rintro _ ⟨⟩)
          simp only [outs, List.length_map, List.length_append, List.length_take, List.length_drop, List.length_cons, List.length_nil, atC, entC, byC, spotsL_len, atX]
          have he : from6E i es x n = 0 := by unfold from6E; rw [if_neg (by omega), if_neg (by omega)]
          have hA : from6A i t es x n = spotN i t es (num6 i (x - 1) es.length).toNat := by unfold from6A from6K; rw [if_pos he]
          have hL : from6L i es x n = es.drop (num6 i (x - 1) es.length).toNat := by unfold from6L from6K; rw [if_pos he, List.take_of_length_le (by simp; omega)]
          rw [he, hA, hL]
          exact ⟨⟨rfl, rfl⟩, ⟨⟨_, _, rfl⟩, fr_ents _, by simp⟩, rfl⟩
        · skip
          try simp only [bls] at hc4
          conv => whnf
          refine ⟨n.toNat, (Int.toNat_of_nonneg (by omega)).symm, ?_⟩
          conv => whnf
          refine ⟨by omega, ?_⟩
          conv => whnf
          refine ⟨by simp only [bls]; omega, ?_⟩
          conv => whnf
          refine ⟨fun c hc => by obtain ⟨y, _, rfl⟩ := List.mem_map.1 hc; rfl, ?_⟩
          conv => whnf
          refine .ct ?_
          conv => whnf
          refine CallG.mk (spots6_X _ _ _ _ _ (by first | assumption | omega) (by first | assumption | omega) (by first | assumption | omega)) rfl ?_
          conv => whnf
          refine ⟨(num6 i (x - 1) es.length).toNat, (Int.toNat_of_nonneg (by omega)).symm, ?_⟩
          conv => whnf
          refine ⟨by have := num6_le i (x - 1) es.length; simp only [List.length_map, spotsL_len] at *; omega, ?_⟩
          conv => whnf
          refine IdxG.mk (j := (num6 i (x - 1) es.length).toNat) (c := atC (spotN i t es (num6 i (x - 1) es.length).toNat)) (by have := num6_le i (x - 1) es.length; rw [List.getElem?_map, spotsL_at (by omega)]; rfl) (by have := num6_le i (x - 1) es.length; omega) ?_
          conv => whnf
          refine FinG.mk none ?_ (by rintro _ ⟨⟩)
          simp only [outs, List.length_map, List.length_append, List.length_take, List.length_drop, List.length_cons, List.length_nil, atC, entC, byC, spotsL_len, atX]
          have he : from6E i es x n = 0 := by unfold from6E; rw [if_neg (by omega), if_neg (by omega)]
          have hA : from6A i t es x n = spotN i t es (num6 i (x - 1) es.length).toNat := by unfold from6A from6K; rw [if_pos he]
          have hL : from6L i es x n = (es.drop (num6 i (x - 1) es.length).toNat).take n.toNat := by unfold from6L from6K; rw [if_pos he]
          rw [he, hA, hL]
          simp only [← List.map_take]
          refine ⟨?_, ⟨fr_ents _, ?_⟩, ?_⟩ <;> simp
      · skip
        try simp only [bls] at hc3
        conv => whnf
        refine FinG.mk none ?_ (by rintro _ ⟨⟩)
        simp only [outs, List.length_map, List.length_append, List.length_take, List.length_drop, List.length_cons, List.length_nil, atC, entC, byC, spotsL_len, atX]
        have he : from6E i es x n = 2 := by unfold from6E; rw [if_neg (by omega), if_pos (by omega)]
        simp [from6A, from6L, he, FrLL]
    · skip
      try simp only [bls] at hc2
      try simp (disch := omega) only [wz, Int.reduceAdd, Int.reduceSub, Int.reduceMul, Int.reduceNeg, Int.zero_add, Int.add_zero, Int.sub_zero, Int.sub_self] at hc2
      conv => whnf
      refine FinG.mk none ?_ (by rintro _ ⟨⟩)
      simp only [outs, List.length_map, List.length_append, List.length_take, List.length_drop, List.length_cons, List.length_nil, atC, entC, byC, spotsL_len, atX]
      have he : from6E i es x n = 4 := by unfold from6E; rw [if_pos (by omega)]
      simp [from6A, from6L, he, FrLL]
  · skip
    try simp only [bls] at hc1
    conv => whnf
    refine FinG.mk none ?_ (by rintro _ ⟨⟩)
    simp only [outs, List.length_map, List.length_append, List.length_take, List.length_drop, List.length_cons, List.length_nil, atC, entC, byC, spotsL_len, atX]
    have he : from6E i es x n = 4 := by unfold from6E; rw [if_pos (by omega)]
    simp [from6A, from6L, he, FrLL]
set_option maxRecDepth 20000 in
theorem conf6_X (b b' : Bool) (i t : Int) (es : List Ent) (x : Int) (hd : dOk es) (hi0 : 0 ≤ i) (hi1 : i < 18446744073709551616) (hn : es.length ≤ 500) : XMeets Try.prog 37 [logT i t (.sl b (es.map (entC b'))), .v (.int .u64 x)] (.tu [.p (.v (.int .u64 (cf6 i t x es es.length).1)) (nlv _), .p (.sl true ((cf6 i t x es es.length).2.1.map byC)) (nl_byc _).sl, .p (.v (.bool ((cf6 i t x es es.length).2.2))) (nlv _)]) := by
  refine XMeets.of_X tabX_ok (avs := [.ag [.p (.v (.int .u64 i)) (nlv _), .p (.v (.int .u64 t)) (nlv _), .p (.sl false (es.map (entC false))) (nl_ents _ _).sl], .p (.v (.int .u64 x)) (nlv _)]) [(0, .ag [.p (.v (.int .u64 i)) (nlv _), .p (.v (.int .u64 t)) (nlv _), .p (.sl false (es.map (entC false))) (nl_ents _ _).sl]), (1, .p (.v (.int .u64 x)) (nlv _))] (by kernel_rfl) Try.func37 rfl (by simp [PuL, Pu, logT, atT, pu_ents, pu_bytes]) (by simp only [untagL, untag, logT, atT, untag_ents, untag_bytes]; rfl) rfl rfl ?_
  intro B w0
  conv => whnf
  refine .ct ?_
  conv => whnf
  refine CallG.mk (spots6_X _ _ _ _ _ (by first | assumption | omega) (by first | assumption | omega) (by first | assumption | omega)) rfl ?_
  conv => whnf
  refine .ct ?_
  conv => whnf
  refine CallG.mk (entries6_X _ _ _ hd (by omega)) rfl ?_
  conv => whnf
  refine XT.loop tabX_ok (Y := Nat × Int × List Int × Bool) [7, 8, 9, 11, 12, 22, 23, 24, 25, 26, 27, 28, 29, 30, 31, 32, 33, 34, 35, 36, 37, 38, 39, 40, 41, 42, 43, 44, 45, 46, 47, 48] (fun (k, a, D, f) => [(22, .p (.v (.int .i64 (k : Int))) (nlv _)), (7, .p (.v (.int .u64 a)) (nlv _)), (8, .p (.sl true (D.map byC)) (nl_byc _).sl), (9, .p (.v (.bool (f))) (nlv _))]) (fun (k, a, D, f) => []) (fun (k, a, D, f) => k ≤ es.length ∧ (a, D, f) = cf6 i t x es k) (fun (k, a, D, f) => es.length - k) (0, 0, [], false) ⟨Nat.zero_le _, rfl⟩ ?_ ?_
  · skip
    refine ⟨?_, ?_, ?_⟩
    · skip
      repeat ((conv => whnf); first | exact True.intro | refine ⟨.rfl, ?_⟩ | refine ⟨.any, ?_⟩ | refine ⟨.nil, ?_⟩ | refine ⟨.int (by first | rfl | omega | (simp only [wrs]; omega)), ?_⟩)
    · skip
      repeat (first | exact LeVs.nil | ((conv => whnf); first | exact True.intro | exact .none | exact .row rfl | refine .cells ?_ | refine ⟨_, _, rfl, .rfl, ?_⟩ | refine ⟨_, _, rfl, .any, ?_⟩ | refine ⟨_, _, rfl, .nil, ?_⟩ | refine ⟨_, _, rfl, .int (by first | rfl | omega | (simp only [wrs]; omega)), ?_⟩ | refine ⟨?_, ?_⟩))
    · skip
      repeat (first | exact LeFr.nil | ((conv => whnf); first | exact True.intro | refine ⟨.rfl, ?_⟩ | refine ⟨_, _, rfl, rfl, ?_, ?_⟩))
  · skip
    rintro ⟨k, a, D, f⟩ ⟨hk, hq⟩
    conv => whnf
    cases hc1 : (decide ((↑k : Int) < (↑(List.map (entC true) es).length : Int)))
    · skip
      try simp only [bls] at hc1
      conv => whnf
      refine FinG.mk none ?_ (by rintro _ ⟨⟩)
      simp only [outs, List.length_map, List.length_append, List.length_take, List.length_drop, List.length_cons, List.length_nil, atC, entC, byC, spotsL_len]
      obtain rfl : k = es.length := by omega
      rw [← hq]
      exact ⟨rfl, ⟨fr_byc _, rfl⟩, rfl⟩
    · skip
      try simp only [bls] at hc1
      conv => whnf
      refine ⟨_, rfl, ?_⟩
      conv => whnf
      refine ⟨by simp only [List.length_map, spotsL_len]; omega, ?_⟩
      conv => whnf
      refine IdxG.map _ rfl (by first | omega | (simp only [List.length_map] at *; omega)) ?_; intro e he hke
      conv => whnf
      cases hc2 : (decide (e.K = 3))
      · skip
        try simp only [bls] at hc2
        conv => whnf
        refine ⟨(k + 1, a, D, f), ⟨by omega, hq.trans (cf6_n he (by omega)).symm⟩, (by show es.length - (k + 1) < es.length - k; omega), ?_⟩
        refine ⟨?_, ?_, ?_⟩
        · skip
          repeat ((conv => whnf); first | exact True.intro | refine ⟨.rfl, ?_⟩ | refine ⟨.any, ?_⟩ | refine ⟨.nil, ?_⟩ | refine ⟨.int (by first | rfl | omega | (simp only [wrs]; omega)), ?_⟩)
        · skip
          repeat (first | exact LeVs.nil | ((conv => whnf); first | exact True.intro | exact .none | exact .row rfl | refine .cells ?_ | refine ⟨_, _, rfl, .rfl, ?_⟩ | refine ⟨_, _, rfl, .any, ?_⟩ | refine ⟨_, _, rfl, .nil, ?_⟩ | refine ⟨_, _, rfl, .int (by first | rfl | omega | (simp only [wrs]; omega)), ?_⟩ | refine ⟨?_, ?_⟩))
        · skip
          repeat (first | exact LeFr.nil | ((conv => whnf); first | exact True.intro | refine ⟨.rfl, ?_⟩ | refine ⟨_, _, rfl, rfl, ?_, ?_⟩))
      · skip
        try simp only [bls] at hc2
        conv => whnf
        rw [show IntKind.i64.wrap ((↑k : Int) + 1) = ((↑k : Int) + 1) from wz.1 _ (by omega) (by omega)]
        conv => whnf
        refine ⟨_, rfl, ?_⟩
        conv => whnf
        refine ⟨by simp only [List.length_map, spotsL_len]; omega, ?_⟩
        conv => whnf
        refine IdxG.mk (j := k + 1) (c := atC (spotN i t es (k + 1))) (by rw [List.getElem?_map, spotsL_at (show k + 1 ≤ es.length by omega)]; rfl) rfl ?_
        conv => whnf
        cases hc3 : (decide ((spotN i t es (k + 1)).fst ≤ x))
        · skip
          try simp only [bls] at hc3
          conv => whnf
          refine ⟨(k + 1, a, D, f), ⟨by omega, hq.trans (cf6_n he (by omega)).symm⟩, (by show es.length - (k + 1) < es.length - k; omega), ?_⟩
          refine ⟨?_, ?_, ?_⟩
          · skip
            repeat ((conv => whnf); first | exact True.intro | refine ⟨.rfl, ?_⟩ | refine ⟨.any, ?_⟩ | refine ⟨.nil, ?_⟩ | refine ⟨.int (by first | rfl | omega | (simp only [wrs]; omega)), ?_⟩)
          · skip
            repeat (first | exact LeVs.nil | ((conv => whnf); first | exact True.intro | exact .none | exact .row rfl | refine .cells ?_ | refine ⟨_, _, rfl, .rfl, ?_⟩ | refine ⟨_, _, rfl, .any, ?_⟩ | refine ⟨_, _, rfl, .nil, ?_⟩ | refine ⟨_, _, rfl, .int (by first | rfl | omega | (simp only [wrs]; omega)), ?_⟩ | refine ⟨?_, ?_⟩))
          · skip
            repeat (first | exact LeFr.nil | ((conv => whnf); first | exact True.intro | refine ⟨.rfl, ?_⟩ | refine ⟨_, _, rfl, rfl, ?_, ?_⟩))
        · skip
          try simp only [bls] at hc3
          conv => whnf
          refine RegG.par 11 (by kernel_rfl) ?_
          conv => whnf
          rw [show IntKind.i64.wrap ((↑k : Int) + 1) = ((↑k : Int) + 1) from wz.1 _ (by omega) (by omega)]
          conv => whnf
          refine ⟨_, rfl, ?_⟩
          conv => whnf
          refine ⟨by simp only [List.length_map, spotsL_len]; omega, ?_⟩
          conv => whnf
          refine IdxG.mk (j := k + 1) (c := atC (spotN i t es (k + 1))) (by rw [List.getElem?_map, spotsL_at (show k + 1 ≤ es.length by omega)]; rfl) rfl ?_
          conv => whnf
          refine ⟨(k + 1, (spotN i t es (k + 1)).1, e.D, true), ⟨by omega, (cf6_s he (by omega) (by omega)).symm⟩, (by show es.length - (k + 1) < es.length - k; omega), ?_⟩
          refine ⟨?_, ?_, ?_⟩
          · skip
            repeat ((conv => whnf); first | exact True.intro | refine ⟨.rfl, ?_⟩ | refine ⟨.any, ?_⟩ | refine ⟨.nil, ?_⟩ | refine ⟨.int (by first | rfl | omega | (simp only [wrs]; omega)), ?_⟩)
          · skip
            repeat (first | exact LeVs.nil | ((conv => whnf); first | exact True.intro | exact .none | exact .row rfl | refine .cells ?_ | refine ⟨_, _, rfl, .rfl, ?_⟩ | refine ⟨_, _, rfl, .any, ?_⟩ | refine ⟨_, _, rfl, .nil, ?_⟩ | refine ⟨_, _, rfl, .int (by first | rfl | omega | (simp only [wrs]; omega)), ?_⟩ | refine ⟨?_, ?_⟩))
          · skip
            repeat (first | exact LeFr.nil | ((conv => whnf); first | exact True.intro | refine ⟨.rfl, ?_⟩ | refine ⟨_, _, rfl, rfl, ?_, ?_⟩))
end Go.Proofs.Ytpckkajodpiiaaa
