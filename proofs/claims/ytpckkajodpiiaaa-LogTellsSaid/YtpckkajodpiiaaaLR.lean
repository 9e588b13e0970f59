/- The document's functions on logs. No condition. -/
import Derived.Test.YtpckkajodpiiaaaU5
import Derived.Test.YtpckkajodpiiaaaU6
import Derived.Test.YtpckkajodpiiaaaU7
import Derived.Test.YtpckkajodpiiaaaU12
import Derived.Test.YtpckkajodpiiaaaTE6
import Derived.Test.YtpckkajodpiiaaaTE8
namespace Go.Proofs.Ytpckkajodpiiaaa
open Go.RowKit
set_option linter.unusedVariables false
set_option linter.unusedSimpArgs false
set_option maxRecDepth 20000
theorem nl_byc (l : List Int) : NlLL (l.map byC) := .map fun x _ => .cons (nlv _) .nil
theorem nl_ents (b : Bool) (l : List Ent) : NlLL (l.map (entC b)) := .map fun e _ => .cons (nlv _) (.cons (nlv _) (.cons (nl_byc _).sl .nil))
def atC (p : Int × Int) : List TV := [.v (.int .u64 p.1), .v (.int .u64 p.2)]
theorem nl_at (l : List (Int × Int)) : NlLL (l.map atC) := .map fun x _ => .cons (nlv _) (.cons (nlv _) .nil)
def atX (p : Int × Int) : XV := .ag [.p (.v (.int .u64 p.1)) (nlv _), .p (.v (.int .u64 p.2)) (nlv _)]
/-- Spots, the first so many behind the base. -/
def spotsL (i t : Int) (es : List Ent) (k : Nat) : List (Int × Int) := (List.range (k + 1)).map (spotN i t es)
theorem spotsL_len (i t : Int) (es : List Ent) (k : Nat) : (spotsL i t es k).length = k + 1 := by simp [spotsL]
theorem spotsL_at {i t : Int} {es : List Ent} {k j : Nat} (h : j ≤ k) : (spotsL i t es k)[j]? = some (spotN i t es j) := by
  simp [spotsL, List.getElem?_map, List.getElem?_range (show j < k + 1 by omega)]
theorem spotsL_0 {i t : Int} {es : List Ent} (h0 : 0 ≤ i) (h1 : i < 18446744073709551616) : [[TV.v (.int .u64 i), .v (.int .u64 t)]] = (spotsL i t es 0).map atC := by
  simp only [spotsL, atC, spotN, List.range_succ, List.range_zero, List.nil_append, List.map_cons, List.map_nil]
  rw [show (i + ((0 : Nat) : Int)) % 18446744073709551616 = i by omega]
theorem spotsL_s {i t : Int} {es : List Ent} {k : Nat} {x : Ent} (hx : es[k]? = some x) {y : Int} (hy : y = (i + ((k : Int) + 1)) % 18446744073709551616) : (spotsL i t es k).map atC ++ [[.v (.int .u64 y), .v (.int .u64 x.T)]] = (spotsL i t es (k + 1)).map atC := by
  subst hy
  unfold spotsL
  rw [List.range_succ (n := k + 1), List.map_append, List.map_append]
  simp [atC, spotN, hx]
theorem fr_at (l : List (Int × Int)) : FrLL (l.map atC) := FrLL_map _ _ fun x _ => by simp [atC, FrL, Fr]
theorem fr_byc (l : List Int) : FrLL (l.map byC) := FrLL_map _ _ fun x _ => by simp [byC, FrL, Fr]
theorem ap_byc (l : List Int) : ApOk 1 (l.map byC) := fun c hc => by
  obtain ⟨x, _, rfl⟩ := List.mem_map.1 hc
  exact ⟨rfl, rfl⟩
set_option maxRecDepth 20000 in
theorem spots6_X (b b' : Bool) (i t : Int) (es : List Ent) (hi0 : 0 ≤ i) (hi1 : i < 18446744073709551616) (hn : es.length ≤ 1000) : XMeets Try.prog 56 [.agg [.v (.int .u64 i), .v (.int .u64 t)], .sl b (es.map (entC b'))] (.ow 24 2 ((spotsL i t es es.length).map atC) (nl_at _)) := by
  refine XMeets.of_X tabX_ok (avs := [.ag [.p (.v (.int .u64 i)) (nlv _), .p (.v (.int .u64 t)) (nlv _)], .p (.sl false (es.map (entC false))) (nl_ents _ _).sl]) [(0, .ag [.p (.v (.int .u64 i)) (nlv _), .p (.v (.int .u64 t)) (nlv _)]), (1, .p (.sl false (es.map (entC false))) (nl_ents _ _).sl)] (by kernel_rfl) Try.func56 rfl (by simp [PuL, Pu, logT, atT, pu_ents, pu_bytes]) (by simp only [untagL, untag, logT, atT, untag_ents, untag_bytes]; rfl) rfl rfl ?_
  intro B w0
  conv => whnf
  refine XT.loop tabX_ok (Y := Nat) [5, 6, 8, 11, 12, 13, 14, 15, 16, 17, 18, 19, 20, 21, 22, 23, 24, 25, 26, 27, 28, 29] (fun k => [(5, .row 1), (11, .p (.v (.int .i64 (k : Int))) (nlv _))]) (fun k => [(1, .row 24 2 ((spotsL i t es k).map atC) (nl_at _))]) (fun k => k ≤ es.length) (fun k => es.length - k) 0 (Nat.zero_le _) ?_ ?_
  · skip
    refine ⟨?_, ?_, ?_⟩
    · skip
      repeat ((conv => whnf); first | exact True.intro | refine ⟨.rfl, ?_⟩ | refine ⟨.any, ?_⟩ | refine ⟨.nil, ?_⟩ | refine ⟨.int (by first | rfl | omega | (simp only [wrs]; omega)), ?_⟩)
    · skip
      repeat (first | exact LeVs.nil | ((conv => whnf); first | exact True.intro | exact .none | exact .row rfl | exact .row (spotsL_0 hi0 hi1) | exact .row (spotsL_s (by assumption) (by simp only [spotN, wrs]; omega)) | refine .cells ?_ | refine ⟨_, _, rfl, .rfl, ?_⟩ | refine ⟨_, _, rfl, .any, ?_⟩ | refine ⟨_, _, rfl, .nil, ?_⟩ | refine ⟨_, _, rfl, .int (by first | rfl | omega | (simp only [wrs]; omega)), ?_⟩ | refine ⟨?_, ?_⟩))
    · skip
      repeat (first | exact LeFr.nil | ((conv => whnf); first | exact True.intro | refine ⟨.rfl, ?_⟩ | refine ⟨_, _, rfl, rfl, ?_, ?_⟩))
  · skip
    rintro k hk
    conv => whnf
    cases hc1 : (decide ((↑k : Int) < (↑(List.map (entC false) es).length : Int)))
    · skip
      try simp only [bls] at hc1
      conv => whnf
      refine FinG.mk (some 1) ?_ (by rintro _ ⟨⟩; trivial)
      simp only [outs, List.length_map, List.length_append, List.length_take, List.length_drop, List.length_cons, List.length_nil, atC, entC, byC, spotsL_len]
      obtain rfl : k = es.length := by omega
      exact ⟨rfl, fr_at _⟩
    · skip
      try simp only [bls] at hc1
      conv => whnf
      refine RegG.par 14 (by kernel_rfl) ?_
      conv => whnf
      refine ⟨_, rfl, ?_⟩
      conv => whnf
      refine ⟨by simp only [List.length_map, spotsL_len]; omega, ?_⟩
      conv => whnf
      refine IdxG.mk (j := k) (c := atC (spotN i t es k)) (by rw [List.getElem?_map, spotsL_at (Nat.le_refl k)]; rfl) (by omega) ?_
      conv => whnf
      refine IdxG.map _ rfl (by first | omega | (simp only [bls] at *; omega)) ?_; intro x_2 hx_2 hk_2
      conv => whnf
      refine ⟨rfl, ?_⟩
      conv => whnf
      simp (disch := omega) only [wz, Int.reduceAdd, Int.reduceSub, Int.reduceMul, Int.reduceNeg, Int.zero_add, Int.add_zero, Int.sub_zero, Int.sub_self]
      conv => whnf
      refine ⟨ApOk.lit rfl, ?_⟩
      conv => whnf
      refine ⟨by simp only [List.length_map, spotsL_len, List.length_cons, List.length_nil]; omega, ?_⟩
      conv => whnf
      refine ⟨(k + 1), by omega, by omega, ?_⟩
      refine ⟨?_, ?_, ?_⟩
      · skip
        repeat ((conv => whnf); first | exact True.intro | refine ⟨.rfl, ?_⟩ | refine ⟨.any, ?_⟩ | refine ⟨.nil, ?_⟩ | refine ⟨.int (by first | rfl | omega | (simp only [wrs]; omega)), ?_⟩)
      · skip
        repeat (first | exact LeVs.nil | ((conv => whnf); first | exact True.intro | exact .none | exact .row rfl | exact .row (spotsL_0 hi0 hi1) | exact .row (spotsL_s (by assumption) (by simp only [spotN, wrs]; omega)) | refine .cells ?_ | refine ⟨_, _, rfl, .rfl, ?_⟩ | refine ⟨_, _, rfl, .any, ?_⟩ | refine ⟨_, _, rfl, .nil, ?_⟩ | refine ⟨_, _, rfl, .int (by first | rfl | omega | (simp only [wrs]; omega)), ?_⟩ | refine ⟨?_, ?_⟩))
      · skip
        repeat (first | exact LeFr.nil | ((conv => whnf); first | exact True.intro | refine ⟨.rfl, ?_⟩ | refine ⟨_, _, rfl, rfl, ?_, ?_⟩))
def num6 (i x : Int) (N : Nat) : Int := match (List.range (N + 1)).find? (fun k : Nat => decide ((i + k) % 18446744073709551616 = x)) with
  | some k => k
  | none => -1
theorem num6_at {i x : Int} {N k : Nat} (hk : k ≤ N) (h1 : (i + k) % 18446744073709551616 = x) (h2 : ∀ j : Nat, j < k → (i + j) % 18446744073709551616 ≠ x) : num6 i x N = k := by
  unfold num6
  have : (List.range (N + 1)).find? (fun k : Nat => decide ((i + k) % 18446744073709551616 = x)) = some k := by
    rw [List.find?_range_eq_some]
    exact ⟨by simp [h1], by simp; omega, fun j hj => by simpa using h2 j hj⟩
  rw [this]
theorem num6_no {i x : Int} {N : Nat} (h : ∀ j : Nat, j ≤ N → (i + j) % 18446744073709551616 ≠ x) : num6 i x N = -1 := by
  unfold num6
  have : (List.range (N + 1)).find? (fun k : Nat => decide ((i + k) % 18446744073709551616 = x)) = none := by
    rw [List.find?_eq_none]
    intro k hk
    simpa using h k (by have := List.mem_range.1 hk; omega)
  rw [this]
theorem num6_cases (i x : Int) (N : Nat) : (∃ k : Nat, k ≤ N ∧ num6 i x N = k ∧ (i + k) % 18446744073709551616 = x) ∨ (num6 i x N = -1 ∧ ∀ j : Nat, j ≤ N → (i + j) % 18446744073709551616 ≠ x) := by
  by_cases h : ∃ k : Nat, k ≤ N ∧ (i + k) % 18446744073709551616 = x
  · obtain ⟨k, h1, h2⟩ := h
    induction k using Nat.strongRecOn with
    | _ k ih =>
      by_cases h3 : ∃ j : Nat, j < k ∧ (i + j) % 18446744073709551616 = x
      · obtain ⟨j, h4, h5⟩ := h3
        exact ih j h4 (by omega) h5
      · exact .inl ⟨k, h1, num6_at h1 h2 fun j hj e => h3 ⟨j, hj, e⟩, h2⟩
  · exact .inr ⟨num6_no fun j hj e => h ⟨j, hj, e⟩, fun j hj e => h ⟨j, hj, e⟩⟩
set_option maxRecDepth 20000 in
theorem number6_X (b b' : Bool) (i t : Int) (es : List Ent) (x : Int) (hi0 : 0 ≤ i) (hi1 : i < 18446744073709551616) (hn : es.length ≤ 1000) : XMeets Try.prog 55 [logT i t (.sl b (es.map (entC b'))), .v (.int .u64 x)] (.p (.v (.int .i64 (num6 i x es.length))) (nlv _)) := by
  refine XMeets.of_X tabX_ok (avs := [.ag [.p (.v (.int .u64 i)) (nlv _), .p (.v (.int .u64 t)) (nlv _), .p (.sl false (es.map (entC false))) (nl_ents _ _).sl], .p (.v (.int .u64 x)) (nlv _)]) [(0, .ag [.p (.v (.int .u64 i)) (nlv _), .p (.v (.int .u64 t)) (nlv _), .p (.sl false (es.map (entC false))) (nl_ents _ _).sl]), (1, .p (.v (.int .u64 x)) (nlv _))] (by kernel_rfl) Try.func55 rfl (by simp [PuL, Pu, logT, atT, pu_ents, pu_bytes]) (by simp only [untagL, untag, logT, atT, untag_ents, untag_bytes]; rfl) rfl rfl ?_
  intro B w0
  conv => whnf
  refine .ct ?_
  conv => whnf
  refine CallG.mk (spots6_X _ _ _ _ _ (by first | assumption | omega) (by first | assumption | omega) (by first | assumption | omega)) rfl ?_
  conv => whnf
  refine XT.loop tabX_ok (Y := Nat) [4, 5, 6, 13, 14, 15, 16, 17, 18, 19, 20, 21, 22, 23] (fun k => [(13, .p (.v (.int .i64 (k : Int))) (nlv _))]) (fun k => []) (fun k => k ≤ es.length + 1 ∧ ∀ j : Nat, j < k → (i + j) % 18446744073709551616 ≠ x) (fun k => es.length + 1 - k) 0 ⟨Nat.zero_le _, by omega⟩ ?_ ?_
  · skip
    refine ⟨?_, ?_, ?_⟩
    · skip
      repeat ((conv => whnf); first | exact True.intro | refine ⟨.rfl, ?_⟩ | refine ⟨.any, ?_⟩ | refine ⟨.nil, ?_⟩ | refine ⟨.int (by first | rfl | omega | (simp only [wrs]; omega)), ?_⟩)
    · skip
      repeat (first | exact LeVs.nil | ((conv => whnf); first | exact True.intro | exact .none | exact .row rfl | refine .cells ?_ | refine ⟨_, _, rfl, .rfl, ?_⟩ | refine ⟨_, _, rfl, .any, ?_⟩ | refine ⟨_, _, rfl, .nil, ?_⟩ | refine ⟨_, _, rfl, .int (by first | rfl | omega | (simp only [wrs]; omega)), ?_⟩ | refine ⟨?_, ?_⟩))
    · skip
      repeat (first | exact LeFr.nil | ((conv => whnf); first | exact True.intro | refine ⟨.rfl, ?_⟩ | refine ⟨_, _, rfl, rfl, ?_, ?_⟩))
  · skip
    rintro k ⟨hk, hj⟩
    conv => whnf
    cases hc1 : (decide ((↑k : Int) < (↑(List.map atC (spotsL i t es es.length)).length : Int)))
    · skip
      try simp only [bls] at hc1
      conv => whnf
      refine FinG.mk none ?_ (by rintro _ ⟨⟩)
      simp only [outs, List.length_map, List.length_append, List.length_take, List.length_drop, List.length_cons, List.length_nil, atC, entC, byC, spotsL_len]
      rw [num6_no fun j h => hj j (by simp only [spotsL_len, List.length_map] at *; omega)]
    · skip
      try simp only [bls] at hc1
      conv => whnf
      refine ⟨_, rfl, ?_⟩
      conv => whnf
      refine ⟨by simp only [List.length_map, spotsL_len] at *; omega, ?_⟩
      conv => whnf
      refine IdxG.mk (j := k) (c := atC (spotN i t es k)) (by rw [List.getElem?_map, spotsL_at (by first | omega | (simp only [spotsL_len] at *; omega))]; rfl) (by omega) ?_
      conv => whnf
      cases hc2 : (decide ((spotN i t es k).fst = x))
      · skip
        try simp only [bls] at hc2
        conv => whnf
        refine ⟨(k + 1), ⟨by simp only [spotsL_len, List.length_map] at *; omega, fun j h => by rcases Nat.lt_succ_iff_lt_or_eq.1 h with h | rfl; exact hj j h; assumption⟩, by simp only [spotsL_len, List.length_map] at *; omega, ?_⟩
        refine ⟨?_, ?_, ?_⟩
        · skip
          repeat ((conv => whnf); first | exact True.intro | refine ⟨.rfl, ?_⟩ | refine ⟨.any, ?_⟩ | refine ⟨.nil, ?_⟩ | refine ⟨.int (by first | rfl | omega | (simp only [wrs]; omega)), ?_⟩)
        · skip
          repeat (first | exact LeVs.nil | ((conv => whnf); first | exact True.intro | exact .none | exact .row rfl | refine .cells ?_ | refine ⟨_, _, rfl, .rfl, ?_⟩ | refine ⟨_, _, rfl, .any, ?_⟩ | refine ⟨_, _, rfl, .nil, ?_⟩ | refine ⟨_, _, rfl, .int (by first | rfl | omega | (simp only [wrs]; omega)), ?_⟩ | refine ⟨?_, ?_⟩))
        · skip
          repeat (first | exact LeFr.nil | ((conv => whnf); first | exact True.intro | refine ⟨.rfl, ?_⟩ | refine ⟨_, _, rfl, rfl, ?_, ?_⟩))
      · skip
        try simp only [bls] at hc2
        conv => whnf
        refine FinG.mk none ?_ (by rintro _ ⟨⟩)
        simp only [outs, List.length_map, List.length_append, List.length_take, List.length_drop, List.length_cons, List.length_nil, atC, entC, byC, spotsL_len]
        rw [num6_at (by simp only [spotsL_len, List.length_map] at *; omega) (by assumption) hj]
theorem eqAt6_run (x y : Operand) (a b c d : Int) (w : World) : (do eqGuard .eql 24 x y (.agg #[.int .u64 a, .int .u64 b]) (.agg #[.int .u64 c, .int .u64 d]); binOp .eql 24 (.agg #[.int .u64 a, .int .u64 b]) (.agg #[.int .u64 c, .int .u64 d]) : Sem Value).run Try.prog w = .ok (.bool (decide (a = c) && decide (b = d))) w := by
  go_simp
  by_cases h1 : a = c <;> by_cases h2 : b = d <;> simp [h1, h2]
theorem neAt6_run (x y : Operand) (a b c d : Int) (w : World) : (do eqGuard .neq 24 x y (.agg #[.int .u64 a, .int .u64 b]) (.agg #[.int .u64 c, .int .u64 d]); binOp .neq 24 (.agg #[.int .u64 a, .int .u64 b]) (.agg #[.int .u64 c, .int .u64 d]) : Sem Value).run Try.prog w = .ok (.bool (!(decide (a = c) && decide (b = d)))) w := by
  go_simp
  by_cases h1 : a = c <;> by_cases h2 : b = d <;> simp [h1, h2]
def has6B (i t : Int) (es : List Ent) (a b : Int) : Bool := decide (0 ≤ num6 i a es.length) && (decide ((spotN i t es (num6 i a es.length).toNat).1 = a) && decide ((spotN i t es (num6 i a es.length).toNat).2 = b))
def term6N (i t : Int) (es : List Ent) (x : Int) : Int × Bool := if num6 i x es.length < 0 then (0, false) else ((spotN i t es (num6 i x es.length).toNat).2, true)
theorem num6_le (i x : Int) (N : Nat) : -1 ≤ num6 i x N ∧ num6 i x N ≤ N := by
  rcases num6_cases i x N with ⟨k, h1, h2, _⟩ | ⟨h2, _⟩ <;> omega
set_option maxRecDepth 20000 in
theorem both_X (b b2 : Bool) (l l2 : List Int) (hl : l.length ≤ 1000000) (hl2 : l2.length ≤ 1000000) : XMeets Try.prog 70 [.sl b (l.map byC), .sl b2 (l2.map byC)] (.ow 5 1 ((l ++ l2).map byC) (nl_byc _)) := by
  refine XMeets.of_X tabX_ok (avs := [.p (.sl false (l.map byC)) (nl_byc _).sl, .p (.sl false (l2.map byC)) (nl_byc _).sl]) [(0, .p (.sl false (l.map byC)) (nl_byc _).sl), (1, .p (.sl false (l2.map byC)) (nl_byc _).sl)] (by kernel_rfl) Try.func70 rfl (by simp [PuL, Pu, pu_bytes]) (by simp only [untagL, untag, untag_bytes]; rfl) rfl rfl ?_
  intro B w0
  conv => whnf
  simp (disch := omega) only [wz, Int.reduceAdd, Int.reduceSub, Int.reduceMul, Int.reduceNeg, Int.zero_add, Int.add_zero, Int.sub_zero, Int.sub_self]
  conv => whnf
  refine ⟨0, l.length + l2.length, rfl, by simp only [wrs, List.length_map]; omega, by omega, (by show (l.length + l2.length) * 1 ≤ 140737488355328; omega), by omega, ?_⟩
  conv => whnf
  refine ⟨ap_byc _, ?_⟩
  conv => whnf
  refine ⟨by simp [List.length_map, List.length_append, List.length_take, List.length_drop, List.length_cons, List.length_nil, atC, entC, byC, spotsL_len]; omega, ?_⟩
  conv => whnf
  refine ⟨ap_byc _, ?_⟩
  conv => whnf
  refine ⟨by simp [List.length_map, List.length_append, List.length_take, List.length_drop, List.length_cons, List.length_nil, atC, entC, byC, spotsL_len]; omega, ?_⟩
  conv => whnf
  refine FinG.mk (some 0) ?_ (by rintro _ ⟨⟩; trivial)
  simp only [outs, List.length_map, List.length_append, List.length_take, List.length_drop, List.length_cons, List.length_nil, atC, entC, byC, spotsL_len]
  exact ⟨by simp, by simpa using fr_byc (l ++ l2)⟩
set_option maxRecDepth 20000 in
theorem has6_X (b b' : Bool) (i t : Int) (es : List Ent) (x y : Int) (hi0 : 0 ≤ i) (hi1 : i < 18446744073709551616) (hn : es.length ≤ 1000) : XMeets Try.prog 38 [logT i t (.sl b (es.map (entC b'))), .agg [.v (.int .u64 x), .v (.int .u64 y)]] (.p (.v (.bool (has6B i t es x y))) (nlv _)) := by
  refine XMeets.of_X tabX_ok (avs := [.ag [.p (.v (.int .u64 i)) (nlv _), .p (.v (.int .u64 t)) (nlv _), .p (.sl false (es.map (entC false))) (nl_ents _ _).sl], .ag [.p (.v (.int .u64 x)) (nlv _), .p (.v (.int .u64 y)) (nlv _)]]) [(0, .ag [.p (.v (.int .u64 i)) (nlv _), .p (.v (.int .u64 t)) (nlv _), .p (.sl false (es.map (entC false))) (nl_ents _ _).sl]), (1, .ag [.p (.v (.int .u64 x)) (nlv _), .p (.v (.int .u64 y)) (nlv _)])] (by kernel_rfl) Try.func38 rfl (by simp [PuL, Pu, logT, atT, pu_ents, pu_bytes]) (by simp only [untagL, untag, logT, atT, untag_ents, untag_bytes]; rfl) rfl rfl ?_
  intro B w0
  conv => whnf
  refine .ct ?_
  conv => whnf
  refine CallG.mk (number6_X _ _ _ _ _ _ (by first | assumption | omega) (by first | assumption | omega) (by first | assumption | omega)) rfl ?_
  conv => whnf
  refine RegG.par 15 (by kernel_rfl) ?_
  conv => whnf
  cases hc1 : (decide (0 ≤ num6 i x es.length))
  · skip
    try simp only [bls] at hc1
    conv => whnf
    refine FinG.mk none ?_ (by rintro _ ⟨⟩)
    simp only [outs, List.length_map, List.length_append, List.length_take, List.length_drop, List.length_cons, List.length_nil, atC, entC, byC, spotsL_len]
    simp [has6B]; omega
  · skip
    try simp only [bls] at hc1
    conv => whnf
    refine CallG.mk (spots6_X _ _ _ _ _ (by first | assumption | omega) (by first | assumption | omega) (by first | assumption | omega)) rfl ?_
    conv => whnf
    refine ⟨(num6 i x es.length).toNat, (Int.toNat_of_nonneg (by omega)).symm, ?_⟩
    conv => whnf
    refine ⟨by have := num6_le i x es.length; simp only [List.length_map, spotsL_len] at *; omega, ?_⟩
    conv => whnf
    refine IdxG.mk (j := (num6 i x es.length).toNat) (c := atC (spotN i t es (num6 i x es.length).toNat)) (by have := num6_le i x es.length; rw [List.getElem?_map, spotsL_at (by omega)]; rfl) (by have := num6_le i x es.length; omega) ?_
    conv => whnf
    refine BinG.mk rfl rfl (eqAt6_run _ _ _ _ _ _) ?_
    conv => whnf
    refine FinG.mk none ?_ (by rintro _ ⟨⟩)
    simp only [outs, List.length_map, List.length_append, List.length_take, List.length_drop, List.length_cons, List.length_nil, atC, entC, byC, spotsL_len]
    simp_all [has6B]
set_option maxRecDepth 20000 in
theorem last6_X (b b' : Bool) (i t : Int) (es : List Ent) (hi0 : 0 ≤ i) (hi1 : i < 18446744073709551616) (hn : es.length ≤ 1000) : XMeets Try.prog 28 [logT i t (.sl b (es.map (entC b')))] (atX (spotN i t es es.length)) := by
  refine XMeets.of_X tabX_ok (avs := [.ag [.p (.v (.int .u64 i)) (nlv _), .p (.v (.int .u64 t)) (nlv _), .p (.sl false (es.map (entC false))) (nl_ents _ _).sl]]) [(0, .ag [.p (.v (.int .u64 i)) (nlv _), .p (.v (.int .u64 t)) (nlv _), .p (.sl false (es.map (entC false))) (nl_ents _ _).sl])] (by kernel_rfl) Try.func28 rfl (by simp [PuL, Pu, logT, atT, pu_ents, pu_bytes]) (by simp only [untagL, untag, logT, atT, untag_ents, untag_bytes]; rfl) rfl rfl ?_
  intro B w0
  conv => whnf
  refine .ct ?_
  conv => whnf
  refine CallG.mk (spots6_X _ _ _ _ _ (by first | assumption | omega) (by first | assumption | omega) (by first | assumption | omega)) rfl ?_
  conv => whnf
  simp (disch := omega) only [wz, Int.reduceAdd, Int.reduceSub, Int.reduceMul, Int.reduceNeg, Int.zero_add, Int.add_zero, Int.sub_zero, Int.sub_self]
  conv => whnf
  refine ⟨es.length, by simp only [wrs, List.length_map, spotsL_len]; omega, ?_⟩
  conv => whnf
  refine ⟨by simp only [List.length_map, spotsL_len]; omega, ?_⟩
  conv => whnf
  refine IdxG.mk (j := es.length) (c := atC (spotN i t es es.length)) (by rw [List.getElem?_map, spotsL_at (by first | omega | (simp only [spotsL_len] at *; omega))]; rfl) (by omega) ?_
  conv => whnf
  refine FinG.mk none ?_ (by rintro _ ⟨⟩)
  simp only [outs, List.length_map, List.length_append, List.length_take, List.length_drop, List.length_cons, List.length_nil, atC, entC, byC, spotsL_len, atX]
theorem ents_s {es : List Ent} {k : Nat} {x : Ent} (h : es[k]? = some x) : (es.take k).map (entC true) ++ [[TV.v (.int .u64 x.T), .v (.int .i64 x.K), .sl true ((x.D ++ []).map byC)]] = (es.take (k + 1)).map (entC true) := by
  rw [List.append_nil, take_snoc h, List.map_append]
  rfl
def dOk (es : List Ent) : Prop := ∀ e ∈ es, e.D.length ≤ 1000000
theorem dOk.at_ {es : List Ent} (h : dOk es) {k : Nat} {x : Ent} (hx : es[k]? = some x) : x.D.length ≤ 1000000 := h x (List.mem_of_getElem? hx)
set_option maxRecDepth 20000 in
theorem entries6_X (b b' : Bool) (es : List Ent) (hd : dOk es) (hn : es.length ≤ 1000) : XMeets Try.prog 54 [.sl b (es.map (entC b'))] (.ow 46 3 (es.map (entC true)) (nl_ents _ _)) := by
  refine XMeets.of_X tabX_ok (avs := [.p (.sl false (es.map (entC false))) (nl_ents _ _).sl]) [(0, .p (.sl false (es.map (entC false))) (nl_ents _ _).sl)] (by kernel_rfl) Try.func54 rfl (by simp [PuL, Pu, logT, atT, pu_ents, pu_bytes]) (by simp only [untagL, untag, logT, atT, untag_ents, untag_bytes]; rfl) rfl rfl ?_
  intro B w0
  conv => whnf
  refine XT.nilr 3 46 3 rfl rfl ?_
  refine XT.loop tabX_ok (Y := Nat) [3, 5, 8, 9, 10, 11, 12, 13, 14, 15, 16, 17, 18, 19, 20, 21, 22, 23] (fun k => [(3, .row 0), (8, .p (.v (.int .i64 (k : Int))) (nlv _))]) (fun k => [(0, .row 46 3 ((es.take k).map (entC true)) (nl_ents _ _))]) (fun k => k ≤ es.length) (fun k => es.length - k) 0 (Nat.zero_le _) ?_ ?_
  · skip
    refine ⟨?_, ?_, ?_⟩
    · skip
      repeat ((conv => whnf); first | exact True.intro | refine ⟨.rfl, ?_⟩ | refine ⟨.any, ?_⟩ | refine ⟨.nil, ?_⟩ | refine ⟨.int (by first | rfl | omega | (simp only [wrs]; omega)), ?_⟩)
    · skip
      repeat (first | exact LeVs.nil | ((conv => whnf); first | exact True.intro | exact .none | exact .row rfl | exact .row (ents_s (by assumption)) | refine .cells ?_ | refine ⟨_, _, rfl, .rfl, ?_⟩ | refine ⟨_, _, rfl, .any, ?_⟩ | refine ⟨_, _, rfl, .nil, ?_⟩ | refine ⟨_, _, rfl, .int (by first | rfl | omega | (simp only [wrs]; omega)), ?_⟩ | refine ⟨?_, ?_⟩))
    · skip
      repeat (first | exact LeFr.nil | ((conv => whnf); first | exact True.intro | refine ⟨.rfl, ?_⟩ | refine ⟨_, _, rfl, rfl, ?_, ?_⟩))
  · skip
    rintro k hk
    conv => whnf
    cases hc1 : (decide ((↑k : Int) < (↑(List.map (entC false) es).length : Int)))
    · skip
      try simp only [bls] at hc1
      conv => whnf
      refine FinG.mk (some 0) ?_ (by rintro _ ⟨⟩; trivial)
      simp only [outs, List.length_map, List.length_append, List.length_take, List.length_drop, List.length_cons, List.length_nil, atC, entC, byC, spotsL_len]
      obtain rfl : k = es.length := by omega
      rw [List.take_length]
      exact ⟨rfl, fr_ents _⟩
    · skip
      try simp only [bls] at hc1
      conv => whnf
      refine IdxG.map _ rfl (by first | omega | (simp only [bls] at *; omega)) ?_; intro x_ hx_ hk_
      conv => whnf
      refine ⟨rfl, ?_⟩
      conv => whnf
      refine RegG.par 10 (by kernel_rfl) ?_
      conv => whnf
      refine CallG.mk ((both_X _ _ _ [] (hd.at_ (by assumption)) (by simp)).shared (fr_byc _)) rfl ?_
      conv => whnf
      refine ⟨ApOk.lit rfl, ?_⟩
      conv => whnf
      refine ⟨by simp [List.length_map, List.length_append, List.length_take, List.length_drop, List.length_cons, List.length_nil, atC, entC, byC, spotsL_len]; omega, ?_⟩
      conv => whnf
      refine ⟨(k + 1), by omega, by omega, ?_⟩
      refine ⟨?_, ?_, ?_⟩
      · skip
        repeat ((conv => whnf); first | exact True.intro | refine ⟨.rfl, ?_⟩ | refine ⟨.any, ?_⟩ | refine ⟨.nil, ?_⟩ | refine ⟨.int (by first | rfl | omega | (simp only [wrs]; omega)), ?_⟩)
      · skip
        repeat (first | exact LeVs.nil | ((conv => whnf); first | exact True.intro | exact .none | exact .row rfl | exact .row (ents_s (by assumption)) | refine .cells ?_ | refine ⟨_, _, rfl, .rfl, ?_⟩ | refine ⟨_, _, rfl, .any, ?_⟩ | refine ⟨_, _, rfl, .nil, ?_⟩ | refine ⟨_, _, rfl, .int (by first | rfl | omega | (simp only [wrs]; omega)), ?_⟩ | refine ⟨?_, ?_⟩))
      · skip
        repeat (first | exact LeFr.nil | ((conv => whnf); first | exact True.intro | refine ⟨.rfl, ?_⟩ | refine ⟨_, _, rfl, rfl, ?_, ?_⟩))
def lgC (i t : Int) (x : List Ent) : List XV := [.p (.v (.int .u64 i)) (nlv _), .p (.v (.int .u64 t)) (nlv _), .p (.sl true (x.map (entC true))) (nl_ents _ _).sl]
/-- A log that is handed out, or none. -/
def lgX (e i t : Int) (x : List Ent) : XV := .ag (lgC (if e = 0 then i else 0) (if e = 0 then t else 0) (if e = 0 then x else []))
def at6 (e i t : Int) (x : List Ent) : Int × Int := if e = 0 then spotN i t x x.length else (0, 0)
theorem okE.dok {es : List Ent} (h : okE es) : dOk es := fun e he => by have := h.d e he; omega
def cut6E (i : Int) (es : List Ent) (x : Int) : Int := if x = 0 ∨ num6 i (x - 1) es.length < 0 then 4 else 0
def cut6L (i : Int) (es : List Ent) (x : Int) : List Ent := es.take (num6 i (x - 1) es.length).toNat
theorem dOk.take {es : List Ent} (h : dOk es) (k : Nat) : dOk (es.take k) := fun e he => h e (List.mem_of_mem_take he)
theorem dOk.drop {es : List Ent} (h : dOk es) (k : Nat) : dOk (es.drop k) := fun e he => h e (List.mem_of_mem_drop he)
def met6B (i t : Int) (es : List Ent) (p : Int) (more : List Ent) (n : Nat) : Bool := !(decide (i < p + n + 1) && !has6B i t es (p + n + 1) ((more[n]?.map (·.T)).getD 0))
def meet6N (i t : Int) (es : List Ent) (p : Int) (more : List Ent) : Nat := ((List.range more.length).takeWhile (met6B i t es p more)).length
def meet6E (i t : Int) (es : List Ent) (p : Int × Int) (more : List Ent) : Int :=
  if standB more p.2 = true ∧ roomB p.1 more.length = true then (if i ≤ p.1 ∧ has6B i t es p.1 p.2 = false then 4 else 0) else 2
def meet6R (i t : Int) (es : List Ent) (p : Int × Int) (more : List Ent) : Int := if meet6E i t es p more = 0 then (meet6N i t es p.1 more : Int) else 0
theorem take_step {α : Type} {l m : List α} {k : Nat} {x y : α} (ht : l.take k = m.take k) (h1 : l[k]? = some x) (h2 : m[k]? = some y) (hxy : x = y) : l.take (k + 1) = m.take (k + 1) := by
  subst hxy; rw [take_snoc h1, take_snoc h2, ht]
theorem take_ne {α : Type} {l m : List α} {k : Nat} {x y : α} (h1 : l[k]? = some x) (h2 : m[k]? = some y) (hxy : ¬ x = y) : ¬ l = m := fun e => by
  subst e; rw [h1] at h2; exact hxy (Option.some.inj h2)
theorem ent_eq {x y : Ent} (h1 : x.T = y.T) (h2 : x.K = y.K) (h3 : x.D = y.D) : x = y := by
  cases x; cases y; simp_all
theorem sameE_iff6 {a b : List Ent} : a.map entU = b.map entU ↔ a = b := ⟨fun h => List.map_inj_right (fun x y h => by
    simp only [entU, Prod.mk.injEq] at h
    exact ent_eq h.1 h.2.1 h.2.2) |>.1 h, fun h => by rw [h]⟩
theorem sameE_f {a b : List Ent} (h : ¬ a = b) : sameE a b = false := by unfold sameE; simp [sameE_iff6, h]
theorem sameE_t {a b : List Ent} (h : a = b) : sameE a b = true := by unfold sameE; simp [sameE_iff6, h]
set_option maxRecDepth 20000 in
theorem sameb_X (b b2 : Bool) (l l2 : List Int) (hl : l.length ≤ 1000000) : XMeets Try.prog 57 [.sl b (l.map byC), .sl b2 (l2.map byC)] (.p (.v (.bool (decide (l = l2)))) (nlv _)) := by
  refine XMeets.of_X tabX_ok (avs := [.p (.sl false (l.map byC)) (nl_byc _).sl, .p (.sl false (l2.map byC)) (nl_byc _).sl]) [(0, .p (.sl false (l.map byC)) (nl_byc _).sl), (1, .p (.sl false (l2.map byC)) (nl_byc _).sl)] (by kernel_rfl) Try.func57 rfl (by simp [PuL, Pu, pu_bytes]) (by simp only [untagL, untag, untag_bytes]; rfl) rfl rfl ?_
  intro B w0
  conv => whnf
  cases hc1 : (decide ((↑(List.map byC l).length : Int) = (↑(List.map byC l2).length : Int)))
  · skip
    try simp only [bls] at hc1
    conv => whnf
    refine FinG.mk none ?_ (by rintro _ ⟨⟩)
    simp only [outs, List.length_map, List.length_append, List.length_take, List.length_drop, List.length_cons, List.length_nil, atC, entC, byC, spotsL_len]
    have h1 : ¬ l = l2 := fun e => by subst e; omega
    simp [h1]
  · skip
    try simp only [bls] at hc1
    conv => whnf
    refine XT.loop tabX_ok (Y := Nat) [4, 5, 13, 14, 15, 16, 17, 18, 19, 20, 21, 22, 23, 24, 25] (fun k => [(13, .p (.v (.int .i64 (k : Int))) (nlv _))]) (fun k => []) (fun k => k ≤ l.length ∧ l.take k = l2.take k) (fun k => l.length - k) 0 ⟨Nat.zero_le _, rfl⟩ ?_ ?_
    · skip
      refine ⟨?_, ?_, ?_⟩
      · skip
        repeat ((conv => whnf); first | exact True.intro | refine ⟨.rfl, ?_⟩ | refine ⟨.any, ?_⟩ | refine ⟨.nil, ?_⟩ | refine ⟨.int (by first | rfl | omega | (simp only [wrs]; omega)), ?_⟩)
      · skip
        repeat (first | exact LeVs.nil | ((conv => whnf); first | exact True.intro | exact .none | exact .row rfl | refine .cells ?_ | refine ⟨_, _, rfl, .rfl, ?_⟩ | refine ⟨_, _, rfl, .any, ?_⟩ | refine ⟨_, _, rfl, .nil, ?_⟩ | refine ⟨_, _, rfl, .int (by first | rfl | omega | (simp only [wrs]; omega)), ?_⟩ | refine ⟨?_, ?_⟩))
      · skip
        repeat (first | exact LeFr.nil | ((conv => whnf); first | exact True.intro | refine ⟨.rfl, ?_⟩ | refine ⟨_, _, rfl, rfl, ?_, ?_⟩))
    · skip
      rintro k ⟨hk, ht⟩
      conv => whnf
      cases hc2 : (decide ((↑k : Int) < (↑(List.map byC l).length : Int)))
      · skip
        try simp only [bls] at hc2
        conv => whnf
        refine FinG.mk none ?_ (by rintro _ ⟨⟩)
        simp only [outs, List.length_map, List.length_append, List.length_take, List.length_drop, List.length_cons, List.length_nil, atC, entC, byC, spotsL_len]
        have h1 : l = l2 := by
          rw [List.take_of_length_le (by omega), List.take_of_length_le (by omega)] at ht; exact ht
        simp [h1]
      · skip
        try simp only [bls] at hc2
        conv => whnf
        refine RegG.par 9 (by kernel_rfl) ?_
        conv => whnf
        refine IdxG.map _ rfl (by first | omega | (simp only [bls] at *; omega)) ?_; intro x_ hx_ hk_
        conv => whnf
        refine ⟨rfl, ?_⟩
        conv => whnf
        refine IdxG.map _ rfl (by first | omega | (simp only [bls] at *; omega)) ?_; intro x_2 hx_2 hk_2
        conv => whnf
        refine ⟨rfl, ?_⟩
        conv => whnf
        cases hc3 : (decide (x_ = x_2))
        · skip
          try simp only [bls] at hc3
          conv => whnf
          refine FinG.mk none ?_ (by rintro _ ⟨⟩)
          simp only [outs, List.length_map, List.length_append, List.length_take, List.length_drop, List.length_cons, List.length_nil, atC, entC, byC, spotsL_len]
          have h1 : ¬ l = l2 := take_ne (by assumption) (by assumption) (by assumption)
          simp [h1]
        · skip
          try simp only [bls] at hc3
          conv => whnf
          refine ⟨(k + 1), ⟨by omega, take_step ht (by assumption) (by assumption) (by assumption)⟩, by omega, ?_⟩
          refine ⟨?_, ?_, ?_⟩
          · skip
            repeat ((conv => whnf); first | exact True.intro | refine ⟨.rfl, ?_⟩ | refine ⟨.any, ?_⟩ | refine ⟨.nil, ?_⟩ | refine ⟨.int (by first | rfl | omega | (simp only [wrs]; omega)), ?_⟩)
          · skip
            repeat (first | exact LeVs.nil | ((conv => whnf); first | exact True.intro | exact .none | exact .row rfl | refine .cells ?_ | refine ⟨_, _, rfl, .rfl, ?_⟩ | refine ⟨_, _, rfl, .any, ?_⟩ | refine ⟨_, _, rfl, .nil, ?_⟩ | refine ⟨_, _, rfl, .int (by first | rfl | omega | (simp only [wrs]; omega)), ?_⟩ | refine ⟨?_, ?_⟩))
          · skip
            repeat (first | exact LeFr.nil | ((conv => whnf); first | exact True.intro | refine ⟨.rfl, ?_⟩ | refine ⟨_, _, rfl, rfl, ?_, ?_⟩))
set_option maxRecDepth 20000 in
theorem sameE6_X (b b' c c' : Bool) (x y : List Ent) (hd : dOk x) (hn : x.length ≤ 1000000) : XMeets Try.prog 22 [.sl b (x.map (entC b')), .sl c (y.map (entC c'))] (.p (.v (.bool (sameE x y))) (nlv _)) := by
  refine XMeets.of_X tabX_ok (avs := [.p (.sl false (x.map (entC false))) (nl_ents _ _).sl, .p (.sl false (y.map (entC false))) (nl_ents _ _).sl]) [(0, .p (.sl false (x.map (entC false))) (nl_ents _ _).sl), (1, .p (.sl false (y.map (entC false))) (nl_ents _ _).sl)] (by kernel_rfl) Try.func22 rfl (by simp [PuL, Pu, logT, atT, pu_ents, pu_bytes]) (by simp only [untagL, untag, logT, atT, untag_ents, untag_bytes]; rfl) rfl rfl ?_
  intro B w0
  conv => whnf
  cases hc1 : (decide ((↑(List.map (entC false) x).length : Int) = (↑(List.map (entC false) y).length : Int)))
  · skip
    try simp only [bls] at hc1
    conv => whnf
    refine FinG.mk none ?_ (by rintro _ ⟨⟩)
    simp only [outs, List.length_map, List.length_append, List.length_take, List.length_drop, List.length_cons, List.length_nil, atC, entC, byC, spotsL_len]
    have h1 : ¬ x = y := fun e => by subst e; omega
    rw [sameE_f h1]
  · skip
    try simp only [bls] at hc1
    conv => whnf
    refine XT.loop tabX_ok (Y := Nat) [4, 5, 6, 7, 15, 16, 17, 18, 19, 20, 21, 22, 23, 24, 25, 26, 27, 28, 29, 30, 31, 32, 33, 34, 35, 36, 37, 38, 39, 40, 41, 42, 43, 44] (fun k => [(15, .p (.v (.int .i64 (k : Int))) (nlv _))]) (fun k => []) (fun k => k ≤ x.length ∧ x.take k = y.take k) (fun k => x.length - k) 0 ⟨Nat.zero_le _, rfl⟩ ?_ ?_
    · skip
      refine ⟨?_, ?_, ?_⟩
      · skip
        repeat ((conv => whnf); first | exact True.intro | refine ⟨.rfl, ?_⟩ | refine ⟨.any, ?_⟩ | refine ⟨.nil, ?_⟩ | refine ⟨.int (by first | rfl | omega | (simp only [wrs]; omega)), ?_⟩)
      · skip
        repeat (first | exact LeVs.nil | ((conv => whnf); first | exact True.intro | exact .none | exact .row rfl | refine .cells ?_ | refine ⟨_, _, rfl, .rfl, ?_⟩ | refine ⟨_, _, rfl, .any, ?_⟩ | refine ⟨_, _, rfl, .nil, ?_⟩ | refine ⟨_, _, rfl, .int (by first | rfl | omega | (simp only [wrs]; omega)), ?_⟩ | refine ⟨?_, ?_⟩))
      · skip
        repeat (first | exact LeFr.nil | ((conv => whnf); first | exact True.intro | refine ⟨.rfl, ?_⟩ | refine ⟨_, _, rfl, rfl, ?_, ?_⟩))
    · skip
      rintro k ⟨hk, ht⟩
      conv => whnf
      cases hc2 : (decide ((↑k : Int) < (↑(List.map (entC false) x).length : Int)))
      · skip
        try simp only [bls] at hc2
        conv => whnf
        refine FinG.mk none ?_ (by rintro _ ⟨⟩)
        simp only [outs, List.length_map, List.length_append, List.length_take, List.length_drop, List.length_cons, List.length_nil, atC, entC, byC, spotsL_len]
        have h1 : x = y := by
          rw [List.take_of_length_le (by omega), List.take_of_length_le (by omega)] at ht; exact ht
        rw [sameE_t h1]
      · skip
        try simp only [bls] at hc2
        conv => whnf
        refine IdxG.map _ rfl (by first | omega | (simp only [bls] at *; omega)) ?_; intro x_ hx_ hk_
        conv => whnf
        refine ⟨rfl, ?_⟩
        conv => whnf
        refine IdxG.map _ rfl (by first | omega | (simp only [bls] at *; omega)) ?_; intro x_2 hx_2 hk_2
        conv => whnf
        refine ⟨rfl, ?_⟩
        conv => whnf
        cases hc3 : (decide (x_.T = x_2.T))
        · skip
          try simp only [bls] at hc3
          conv => whnf
          refine FinG.mk none ?_ (by rintro _ ⟨⟩)
          simp only [outs, List.length_map, List.length_append, List.length_take, List.length_drop, List.length_cons, List.length_nil, atC, entC, byC, spotsL_len]
          have h1 : ¬ x = y := take_ne (by assumption) (by assumption) (by rintro rfl; contradiction)
          rw [sameE_f h1]
        · skip
          try simp only [bls] at hc3
          conv => whnf
          cases hc4 : (decide (x_.K = x_2.K))
          · skip
            try simp only [bls] at hc4
            conv => whnf
            refine FinG.mk none ?_ (by rintro _ ⟨⟩)
            simp only [outs, List.length_map, List.length_append, List.length_take, List.length_drop, List.length_cons, List.length_nil, atC, entC, byC, spotsL_len]
            have h1 : ¬ x = y := take_ne (by assumption) (by assumption) (by rintro rfl; contradiction)
            rw [sameE_f h1]
          · skip
            try simp only [bls] at hc4
            conv => whnf
            refine .ct ?_
            conv => whnf
            refine CallG.mk (sameb_X _ _ _ _ (hd.at_ (by assumption))) rfl ?_
            conv => whnf
            cases hc5 : (decide (x_.D = x_2.D))
            · skip
              try simp only [bls] at hc5
              conv => whnf
              refine FinG.mk none ?_ (by rintro _ ⟨⟩)
              simp only [outs, List.length_map, List.length_append, List.length_take, List.length_drop, List.length_cons, List.length_nil, atC, entC, byC, spotsL_len]
              have h1 : ¬ x = y := take_ne (by assumption) (by assumption) (by rintro rfl; contradiction)
              rw [sameE_f h1]
            · skip
              try simp only [bls] at hc5
              conv => whnf
              refine ⟨(k + 1), ⟨by omega, take_step ht (by assumption) (by assumption) (ent_eq (by assumption) (by assumption) (by assumption))⟩, by omega, ?_⟩
              refine ⟨?_, ?_, ?_⟩
              · skip
                repeat ((conv => whnf); first | exact True.intro | refine ⟨.rfl, ?_⟩ | refine ⟨.any, ?_⟩ | refine ⟨.nil, ?_⟩ | refine ⟨.int (by first | rfl | omega | (simp only [wrs]; omega)), ?_⟩)
              · skip
                repeat (first | exact LeVs.nil | ((conv => whnf); first | exact True.intro | exact .none | exact .row rfl | refine .cells ?_ | refine ⟨_, _, rfl, .rfl, ?_⟩ | refine ⟨_, _, rfl, .any, ?_⟩ | refine ⟨_, _, rfl, .nil, ?_⟩ | refine ⟨_, _, rfl, .int (by first | rfl | omega | (simp only [wrs]; omega)), ?_⟩ | refine ⟨?_, ?_⟩))
              · skip
                repeat (first | exact LeFr.nil | ((conv => whnf); first | exact True.intro | refine ⟨.rfl, ?_⟩ | refine ⟨_, _, rfl, rfl, ?_, ?_⟩))
set_option maxRecDepth 20000 in
theorem same6_X (b b' c c' : Bool) (i t i2 t2 : Int) (x y : List Ent) (hd : dOk x) (hn : x.length ≤ 1000000) : XMeets Try.prog 20 [logT i t (.sl b (x.map (entC b'))), logT i2 t2 (.sl c (y.map (entC c')))] (.p (.v (.bool (sameL i t x i2 t2 y))) (nlv _)) := by
  refine XMeets.of_X tabX_ok (avs := [.ag [.p (.v (.int .u64 i)) (nlv _), .p (.v (.int .u64 t)) (nlv _), .p (.sl false (x.map (entC false))) (nl_ents _ _).sl], .ag [.p (.v (.int .u64 i2)) (nlv _), .p (.v (.int .u64 t2)) (nlv _), .p (.sl false (y.map (entC false))) (nl_ents _ _).sl]]) [(0, .ag [.p (.v (.int .u64 i)) (nlv _), .p (.v (.int .u64 t)) (nlv _), .p (.sl false (x.map (entC false))) (nl_ents _ _).sl]), (1, .ag [.p (.v (.int .u64 i2)) (nlv _), .p (.v (.int .u64 t2)) (nlv _), .p (.sl false (y.map (entC false))) (nl_ents _ _).sl])] (by kernel_rfl) Try.func20 rfl (by simp [PuL, Pu, logT, atT, pu_ents, pu_bytes]) (by simp only [untagL, untag, logT, atT, untag_ents, untag_bytes]; rfl) rfl rfl ?_
  intro B w0
  conv => whnf
  refine BinG.mk rfl rfl (eqAt6_run _ _ _ _ _ _) ?_
  conv => whnf
  cases hc1 : (decide (i = i2) && decide (t = t2))
  · skip
    try simp only [bls] at hc1
    conv => whnf
    refine FinG.mk none ?_ (by rintro _ ⟨⟩)
    simp only [outs, List.length_map, List.length_append, List.length_take, List.length_drop, List.length_cons, List.length_nil, atC, entC, byC, spotsL_len]
    simp_all [sameL]; done
  · skip
    try simp only [bls] at hc1
    conv => whnf
    refine .ct ?_
    conv => whnf
    refine CallG.mk (sameE6_X _ _ _ _ _ _ (by assumption) (by first | assumption | omega)) rfl ?_
    conv => whnf
    refine FinG.mk none ?_ (by rintro _ ⟨⟩)
    simp only [outs, List.length_map, List.length_append, List.length_take, List.length_drop, List.length_cons, List.length_nil, atC, entC, byC, spotsL_len]
    simp_all [sameL]; done
def comp6B (i : Int) (es : List Ent) (x : Int) : Int := if num6 i x es.length < 0 then 1 else 0
end Go.Proofs.Ytpckkajodpiiaaa
