/- What a log tells of its spots. No condition. -/
import Derived.Test.YtpckkajodpiiaaaTE1
import Derived.Test.YtpckkajodpiiaaaT15
namespace Go.Proofs.Ytpckkajodpiiaaa
open Go.RowKit
set_option linter.unusedVariables false
set_option linter.unusedSimpArgs false

theorem eqAt_run (x y : Operand) (a b c d : Int) (w : World) : (do eqGuard .eql 24 x y (.agg #[.int .u64 a, .int .u64 b]) (.agg #[.int .u64 c, .int .u64 d]); binOp .eql 24 (.agg #[.int .u64 a, .int .u64 b]) (.agg #[.int .u64 c, .int .u64 d]) : Sem Value).run Try.prog w = .ok (.bool (decide (a = c) && decide (b = d))) w := by
  go_simp
  by_cases h1 : a = c <;> by_cases h2 : b = d <;> simp [h1, h2]
theorem ofN_cases (i x : Int) (N : Nat) : (∃ k : Nat, k ≤ N ∧ ofN i x N = k ∧ (i + k) % 18446744073709551616 = x ∧ ∀ j : Nat, k < j → j ≤ N → (i + j) % 18446744073709551616 ≠ x) ∨ (ofN i x N = -1 ∧ ∀ j : Nat, j ≤ N → (i + j) % 18446744073709551616 ≠ x) := by
  unfold ofN
  cases hf : (List.range (N + 1)).find? (hitB i x N) with
  | none =>
    right
    refine ⟨rfl, fun j hj he => ?_⟩
    have := List.find?_eq_none.1 hf (N - j) (List.mem_range.2 (by omega))
    simp only [hitB, show N - (N - j) = j by omega, decide_eq_true_eq] at this
    exact this he
  | some m =>
    left
    obtain ⟨h1, la, lb, h2, h3⟩ := List.find?_eq_some_iff_append.1 hf
    have hm := List.mem_range.1 (List.mem_of_find?_eq_some hf)
    have has : la.length = m := by
      have h4 : (List.range (N + 1))[la.length]? = some m := by rw [h2]; simp
      have h5 := (List.getElem?_eq_some_iff.1 h4).2
      simpa using h5
    simp only [hitB, decide_eq_true_eq] at h1
    refine ⟨N - m, by omega, by simp only; omega, h1, fun j hj hjN he => ?_⟩
    have h4 : N - j ∈ la := by
      have h5 : (List.range (N + 1))[N - j]? = some (N - j) := by rw [List.getElem?_range (by omega)]
      rw [h2, List.getElem?_append_left (by omega)] at h5
      exact List.mem_of_getElem? h5
    have := h3 _ h4
    simp only [hitB, show N - (N - j) = j by omega, Bool.not_eq_true', decide_eq_false_iff_not] at this
    exact this he
/-- Is a pair of an index and a term a spot? -/
def hasB (i t : Int) (es : List Ent) (a b : Int) : Bool := decide (0 ≤ ofN i a es.length) && (decide ((spotN i t es (ofN i a es.length).toNat).1 = a) && decide ((spotN i t es (ofN i a es.length).toNat).2 = b))
/-- What Last says. -/
def lastN (i t : Int) (es : List Ent) : Int × Int := if mayB i t es = true then spotN i t es es.length else (0, 0)
/-- What Term says. -/
def termN (i t : Int) (es : List Ent) (x : Int) : Int × Bool := if mayB i t es = true ∧ 0 ≤ ofN i x es.length then ((spotN i t es (ofN i x es.length).toNat).2, true) else (0, false)
def newerB (a b : Int × Int) : Bool := decide (b.2 < a.2) || (decide (a.2 = b.2) && decide (b.1 < a.1))
/-- The number of the spot right ahead of an index; the error. -/
def aheadN (i t : Int) (es : List Ent) (x : Int) : Int × Int := if mayB i t es = true then (if 0 < x ∧ 0 ≤ ofN i (x - 1) es.length then (ofN i (x - 1) es.length, 0) else (-1, 4)) else (-1, 160)

set_option maxRecDepth 20000 in
set_option maxHeartbeats 1000000 in
theorem has_T (b b' : Bool) (i t : Int) (es : List Ent) (hw : wfE es) (hn : es.length ≤ 1000000000) (hi0 : 0 ≤ i) (hi1 : i < 18446744073709551616) (x : Int × Int) :
    TMeets Try.prog 65 [logT i t (.sl b (es.map (entC b'))), atT x] (.v (.bool (hasB i t es x.1 x.2))) := by
  refine TMeets.of_TW Try.func65 rfl (by simp [PuL, Pu, logT, atT, pu_ents]) ?_
  intro B w0
  rw [Try.ntmps65]
  simp only [untagL, untag, List.length_cons, List.length_nil, List.replicate_succ, List.replicate_zero, Nat.reduceAdd, Nat.reduceSub, List.cons_append, List.nil_append, logT, atT, untag_ents]
  refine TW.seq_k ?_
  intro K1_ hK1_
  refine TW.reg ?_
  refine TL.st rfl (S_box rfl rfl) ?_
  intro σ_ hσ_; simp only [nrm, tev, St.step, putO, setsV, addO, ↓reduceIte, Nat.reduceAdd, logT, atT] at hσ_; subst hσ_
  refine TL.st rfl (S_box rfl rfl) ?_
  intro σ_ hσ_; simp only [nrm, tev, St.step, putO, setsV, addO, ↓reduceIte, Nat.reduceAdd, logT, atT] at hσ_; subst hσ_
  refine TL.st rfl (S_assign rfl) ?_
  intro σ_ hσ_; simp only [nrm, tev, St.step, putO, setsV, addO, ↓reduceIte, Nat.reduceAdd, logT, atT] at hσ_; subst hσ_
  refine TL.nil ?_
  try simp (decide := true) only [thenT, inBlockT, noGotoT, jumpT, ↓reduceIte, true_and]
  refine hK1_ _ ?_
  refine TW.seq_k ?_
  intro K2_ hK2_
  refine TW.reg ?_
  first | refine TL.st rfl (S_load rfl rfl rfl (tT rfl) rfl) ?_ | refine TL.st rfl (S_load_eptr rfl rfl (tT rfl) rfl) ?_ | refine TL.st rfl (S_load_row rfl rfl rfl rfl (by assumption) (tT rfl) rfl) ?_ | refine TL.st rfl (S_load_row (j := 0) rfl rfl rfl rfl (by assumption) (tT rfl) rfl) ?_
  intro σ_ hσ_; simp only [nrm, tev, St.step, putO, setsV, addO, ↓reduceIte, Nat.reduceAdd, logT, atT] at hσ_; subst hσ_
  first | refine TL.st rfl (S_fieldAddr rfl rfl (tT rfl) rfl rfl (tT rfl) (by decide)) ?_ | refine TL.st rfl (S_fieldAddr_eptr rfl rfl (tT rfl) rfl rfl (tT rfl) (by decide)) ?_
  intro σ_ hσ_; simp only [nrm, tev, St.step, putO, setsV, addO, ↓reduceIte, Nat.reduceAdd, logT, atT] at hσ_; subst hσ_
  first | refine TL.st rfl (S_load rfl rfl rfl (tT rfl) rfl) ?_ | refine TL.st rfl (S_load_eptr rfl rfl (tT rfl) rfl) ?_ | refine TL.st rfl (S_load_row rfl rfl rfl rfl (by assumption) (tT rfl) rfl) ?_ | refine TL.st rfl (S_load_row (j := 0) rfl rfl rfl rfl (by assumption) (tT rfl) rfl) ?_
  intro σ_ hσ_; simp only [nrm, tev, St.step, putO, setsV, addO, ↓reduceIte, Nat.reduceAdd, logT, atT] at hσ_; subst hσ_
  rcases ofN_cases i x.1 es.length with ⟨k, hkn, hk, hk1, hk2⟩ | ⟨hk, hk1⟩
  · skip
    first | refine TL.st rfl (S_call_row rfl rfl rfl (by kernel_rfl) rfl ((of_T _ _ _ _ _ hw hn hi0 hi1 _).eq rfl (by rw [hk])) rfl) ?_ | refine TL.st rfl (S_call rfl rfl rfl (by kernel_rfl) rfl ((of_T _ _ _ _ _ hw hn hi0 hi1 _).eq rfl (by rw [hk]))) ?_
    intro σ_ hσ_; simp only [nrm, tev, St.step, putO, setsV, addO, ↓reduceIte, Nat.reduceAdd, logT, atT] at hσ_; subst hσ_
    refine TL.st rfl (S_assign rfl) ?_
    intro σ_ hσ_; simp only [nrm, tev, St.step, putO, setsV, addO, ↓reduceIte, Nat.reduceAdd, logT, atT] at hσ_; subst hσ_
    refine TL.nil ?_
    try simp (decide := true) only [thenT, inBlockT, noGotoT, jumpT, ↓reduceIte, true_and]
    refine hK2_ _ ?_
    refine TW.seq_k ?_
    intro K3_ hK3_
    refine TW.region_par 10 (by kernel_rfl) (by kernel_rfl) ?_
    simp only [List.take_succ_cons, List.take_zero, List.drop_succ_cons, List.drop_zero, List.take_nil, List.drop_nil]
    refine TPar.st rfl (S_move rfl) ?_
    intro s_ h_ hs_ hh_; simp only [nrm, tev, St.step, putO, setsV, addO, ↓reduceIte, Nat.reduceAdd, logT, atT] at hs_ hh_; subst hs_; subst hh_
    first | refine TPar.st rfl (S_int rfl rfl rfl rfl (vbt (by omega))) ?_ | refine TPar.st rfl (S_int rfl rfl rfl rfl (vbf (by omega))) ?_ | refine TPar.st rfl (S_int rfl rfl rfl rfl rfl) ?_
    intro s_ h_ hs_ hh_; simp only [nrm, tev, St.step, putO, setsV, addO, ↓reduceIte, Nat.reduceAdd, logT, atT] at hs_ hh_; subst hs_; subst hh_
    refine TPar.st rfl (S_move rfl) ?_
    intro s_ h_ hs_ hh_; simp only [nrm, tev, St.step, putO, setsV, addO, ↓reduceIte, Nat.reduceAdd, logT, atT] at hs_ hh_; subst hs_; subst hh_
    first | refine TPar.st_g rfl rfl rfl (Nat.le_of_ble_eq_true rfl) rfl (S_load rfl rfl rfl (tT rfl) rfl) ?_ | refine TPar.st_g rfl rfl rfl (Nat.le_of_ble_eq_true rfl) rfl (S_load_eptr rfl rfl (tT rfl) rfl) ?_ | refine TPar.st_g rfl rfl rfl (Nat.le_of_ble_eq_true rfl) rfl (S_load_row rfl rfl rfl rfl (by assumption) (tT rfl) rfl) ?_ | refine TPar.st_g rfl rfl rfl (Nat.le_of_ble_eq_true rfl) rfl (S_load_row (j := 0) rfl rfl rfl rfl (by assumption) (tT rfl) rfl) ?_ | refine TPar.sk_g rfl rfl rfl (Nat.le_of_ble_eq_true rfl) rfl rfl ?_
    intro s_ h_ hs_ hh_; simp only [nrm, tev, St.step, putO, setsV, addO, ↓reduceIte, Nat.reduceAdd, logT, atT] at hs_ hh_; subst hs_; subst hh_
    first | refine TPar.st_g rfl rfl rfl (Nat.le_of_ble_eq_true rfl) rfl (S_move rfl) ?_ | refine TPar.sk_g rfl rfl rfl (Nat.le_of_ble_eq_true rfl) rfl rfl ?_
    intro s_ h_ hs_ hh_; simp only [nrm, tev, St.step, putO, setsV, addO, ↓reduceIte, Nat.reduceAdd, logT, atT] at hs_ hh_; subst hs_; subst hh_
    first | refine TPar.st_g rfl rfl rfl (Nat.le_of_ble_eq_true rfl) rfl (S_call_row rfl rfl rfl (by kernel_rfl) rfl (spot_T _ _ _ _ _ hw hn hi0 hi1 _ hkn) rfl) ?_ | refine TPar.st_g rfl rfl rfl (Nat.le_of_ble_eq_true rfl) rfl (S_call rfl rfl rfl (by kernel_rfl) rfl (spot_T _ _ _ _ _ hw hn hi0 hi1 _ hkn)) ?_ | refine TPar.sk_g rfl rfl rfl (Nat.le_of_ble_eq_true rfl) rfl rfl ?_
    intro s_ h_ hs_ hh_; simp only [nrm, tev, St.step, putO, setsV, addO, ↓reduceIte, Nat.reduceAdd, logT, atT] at hs_ hh_; subst hs_; subst hh_
    first | refine TPar.st_g rfl rfl rfl (Nat.le_of_ble_eq_true rfl) rfl (S_load rfl rfl rfl (tT rfl) rfl) ?_ | refine TPar.st_g rfl rfl rfl (Nat.le_of_ble_eq_true rfl) rfl (S_load_eptr rfl rfl (tT rfl) rfl) ?_ | refine TPar.st_g rfl rfl rfl (Nat.le_of_ble_eq_true rfl) rfl (S_load_row rfl rfl rfl rfl (by assumption) (tT rfl) rfl) ?_ | refine TPar.st_g rfl rfl rfl (Nat.le_of_ble_eq_true rfl) rfl (S_load_row (j := 0) rfl rfl rfl rfl (by assumption) (tT rfl) rfl) ?_ | refine TPar.sk_g rfl rfl rfl (Nat.le_of_ble_eq_true rfl) rfl rfl ?_
    intro s_ h_ hs_ hh_; simp only [nrm, tev, St.step, putO, setsV, addO, ↓reduceIte, Nat.reduceAdd, logT, atT] at hs_ hh_; subst hs_; subst hh_
    first | refine TPar.st_g rfl rfl rfl (Nat.le_of_ble_eq_true rfl) rfl (S_int rfl rfl rfl rfl (vbt (by omega))) ?_ | refine TPar.st_g rfl rfl rfl (Nat.le_of_ble_eq_true rfl) rfl (S_int rfl rfl rfl rfl (vbf (by omega))) ?_ | refine TPar.st_g rfl rfl rfl (Nat.le_of_ble_eq_true rfl) rfl (S_int rfl rfl rfl rfl rfl) ?_ | refine TPar.st_g rfl rfl rfl (Nat.le_of_ble_eq_true rfl) rfl (S_boolop rfl rfl rfl rfl (tT rfl) rfl) ?_ | refine TPar.st_g rfl rfl rfl (Nat.le_of_ble_eq_true rfl) rfl (S_bin (u := .bool true) rfl rfl rfl (fun w => (eqAt_run _ _ _ _ _ _ w).trans (congrArg (fun b => Result.ok (Value.bool b) w) hq_))) ?_ | refine TPar.st_g rfl rfl rfl (Nat.le_of_ble_eq_true rfl) rfl (S_bin (u := .bool false) rfl rfl rfl (fun w => (eqAt_run _ _ _ _ _ _ w).trans (congrArg (fun b => Result.ok (Value.bool b) w) hq_))) ?_ | refine TPar.st_g rfl rfl rfl (Nat.le_of_ble_eq_true rfl) rfl (S_bin rfl rfl rfl (eqAt_run _ _ _ _ _ _)) ?_ | refine TPar.sk_g rfl rfl rfl (Nat.le_of_ble_eq_true rfl) rfl rfl ?_
    intro s_ h_ hs_ hh_; simp only [nrm, tev, St.step, putO, setsV, addO, ↓reduceIte, Nat.reduceAdd, logT, atT] at hs_ hh_; subst hs_; subst hh_
    refine TPar.st rfl (S_pick rfl rfl rfl) ?_
    intro s_ h_ hs_ hh_; simp only [nrm, tev, St.step, putO, setsV, addO, ↓reduceIte, Nat.reduceAdd, logT, atT] at hs_ hh_; subst hs_; subst hh_
    refine TPar.st rfl (S_assign rfl) ?_
    intro s_ h_ hs_ hh_; simp only [nrm, tev, St.step, putO, setsV, addO, ↓reduceIte, Nat.reduceAdd, logT, atT] at hs_ hh_; subst hs_; subst hh_
    unfold TPar
    refine TL.nil ?_
    try simp (decide := true) only [thenT, inBlockT, noGotoT, jumpT, ↓reduceIte, true_and]
    refine hK3_ _ ?_
    refine TW.ret ?_
    try simp (decide := true) only [thenT, inBlockT, noGotoT, jumpT, ↓reduceIte, true_and]
    refine ⟨.inr rfl, _, none, (ResT.one Try.results65 rfl), ?_, (by rintro _ ⟨⟩)⟩
    simp only [nrm, tev, Out_v, Out_agg, Out_tup, OutL_nil, OutL_cons, Out_sl, Out_row_osl, Out_nil_osl, Out_nil_sl, Out_nil_nil, and_true, true_and]
    simp [hasB, hk]
  · skip
    first | refine TL.st rfl (S_call_row rfl rfl rfl (by kernel_rfl) rfl ((of_T _ _ _ _ _ hw hn hi0 hi1 _).eq rfl (by rw [hk])) rfl) ?_ | refine TL.st rfl (S_call rfl rfl rfl (by kernel_rfl) rfl ((of_T _ _ _ _ _ hw hn hi0 hi1 _).eq rfl (by rw [hk]))) ?_
    intro σ_ hσ_; simp only [nrm, tev, St.step, putO, setsV, addO, ↓reduceIte, Nat.reduceAdd, logT, atT] at hσ_; subst hσ_
    refine TL.st rfl (S_assign rfl) ?_
    intro σ_ hσ_; simp only [nrm, tev, St.step, putO, setsV, addO, ↓reduceIte, Nat.reduceAdd, logT, atT] at hσ_; subst hσ_
    refine TL.nil ?_
    try simp (decide := true) only [thenT, inBlockT, noGotoT, jumpT, ↓reduceIte, true_and]
    refine hK2_ _ ?_
    refine TW.seq_k ?_
    intro K4_ hK4_
    refine TW.region_par 10 (by kernel_rfl) (by kernel_rfl) ?_
    simp only [List.take_succ_cons, List.take_zero, List.drop_succ_cons, List.drop_zero, List.take_nil, List.drop_nil]
    refine TPar.st rfl (S_move rfl) ?_
    intro s_ h_ hs_ hh_; simp only [nrm, tev, St.step, putO, setsV, addO, ↓reduceIte, Nat.reduceAdd, logT, atT] at hs_ hh_; subst hs_; subst hh_
    first | refine TPar.st rfl (S_int rfl rfl rfl rfl (vbt (by omega))) ?_ | refine TPar.st rfl (S_int rfl rfl rfl rfl (vbf (by omega))) ?_ | refine TPar.st rfl (S_int rfl rfl rfl rfl rfl) ?_
    intro s_ h_ hs_ hh_; simp only [nrm, tev, St.step, putO, setsV, addO, ↓reduceIte, Nat.reduceAdd, logT, atT] at hs_ hh_; subst hs_; subst hh_
    refine TPar.st rfl (S_move rfl) ?_
    intro s_ h_ hs_ hh_; simp only [nrm, tev, St.step, putO, setsV, addO, ↓reduceIte, Nat.reduceAdd, logT, atT] at hs_ hh_; subst hs_; subst hh_
    first | refine TPar.st_g rfl rfl rfl (Nat.le_of_ble_eq_true rfl) rfl (S_load rfl rfl rfl (tT rfl) rfl) ?_ | refine TPar.st_g rfl rfl rfl (Nat.le_of_ble_eq_true rfl) rfl (S_load_eptr rfl rfl (tT rfl) rfl) ?_ | refine TPar.st_g rfl rfl rfl (Nat.le_of_ble_eq_true rfl) rfl (S_load_row rfl rfl rfl rfl (by assumption) (tT rfl) rfl) ?_ | refine TPar.st_g rfl rfl rfl (Nat.le_of_ble_eq_true rfl) rfl (S_load_row (j := 0) rfl rfl rfl rfl (by assumption) (tT rfl) rfl) ?_ | refine TPar.sk_g rfl rfl rfl (Nat.le_of_ble_eq_true rfl) rfl rfl ?_
    intro s_ h_ hs_ hh_; simp only [nrm, tev, St.step, putO, setsV, addO, ↓reduceIte, Nat.reduceAdd, logT, atT] at hs_ hh_; subst hs_; subst hh_
    first | refine TPar.st_g rfl rfl rfl (Nat.le_of_ble_eq_true rfl) rfl (S_move rfl) ?_ | refine TPar.sk_g rfl rfl rfl (Nat.le_of_ble_eq_true rfl) rfl rfl ?_
    intro s_ h_ hs_ hh_; simp only [nrm, tev, St.step, putO, setsV, addO, ↓reduceIte, Nat.reduceAdd, logT, atT] at hs_ hh_; subst hs_; subst hh_
    first | refine TPar.st_g rfl rfl rfl (Nat.le_of_ble_eq_true rfl) rfl (S_call_row rfl rfl rfl (by kernel_rfl) rfl (spot_T _ _ _ _ _ hw hn hi0 hi1 _ hkn) rfl) ?_ | refine TPar.st_g rfl rfl rfl (Nat.le_of_ble_eq_true rfl) rfl (S_call rfl rfl rfl (by kernel_rfl) rfl (spot_T _ _ _ _ _ hw hn hi0 hi1 _ hkn)) ?_ | refine TPar.sk_g rfl rfl rfl (Nat.le_of_ble_eq_true rfl) rfl rfl ?_
    intro s_ h_ hs_ hh_; simp only [nrm, tev, St.step, putO, setsV, addO, ↓reduceIte, Nat.reduceAdd, logT, atT] at hs_ hh_; subst hs_; subst hh_
    first | refine TPar.st_g rfl rfl rfl (Nat.le_of_ble_eq_true rfl) rfl (S_load rfl rfl rfl (tT rfl) rfl) ?_ | refine TPar.st_g rfl rfl rfl (Nat.le_of_ble_eq_true rfl) rfl (S_load_eptr rfl rfl (tT rfl) rfl) ?_ | refine TPar.st_g rfl rfl rfl (Nat.le_of_ble_eq_true rfl) rfl (S_load_row rfl rfl rfl rfl (by assumption) (tT rfl) rfl) ?_ | refine TPar.st_g rfl rfl rfl (Nat.le_of_ble_eq_true rfl) rfl (S_load_row (j := 0) rfl rfl rfl rfl (by assumption) (tT rfl) rfl) ?_ | refine TPar.sk_g rfl rfl rfl (Nat.le_of_ble_eq_true rfl) rfl rfl ?_
    intro s_ h_ hs_ hh_; simp only [nrm, tev, St.step, putO, setsV, addO, ↓reduceIte, Nat.reduceAdd, logT, atT] at hs_ hh_; subst hs_; subst hh_
    first | refine TPar.st_g rfl rfl rfl (Nat.le_of_ble_eq_true rfl) rfl (S_int rfl rfl rfl rfl (vbt (by omega))) ?_ | refine TPar.st_g rfl rfl rfl (Nat.le_of_ble_eq_true rfl) rfl (S_int rfl rfl rfl rfl (vbf (by omega))) ?_ | refine TPar.st_g rfl rfl rfl (Nat.le_of_ble_eq_true rfl) rfl (S_int rfl rfl rfl rfl rfl) ?_ | refine TPar.st_g rfl rfl rfl (Nat.le_of_ble_eq_true rfl) rfl (S_boolop rfl rfl rfl rfl (tT rfl) rfl) ?_ | refine TPar.st_g rfl rfl rfl (Nat.le_of_ble_eq_true rfl) rfl (S_bin (u := .bool true) rfl rfl rfl (fun w => (eqAt_run _ _ _ _ _ _ w).trans (congrArg (fun b => Result.ok (Value.bool b) w) hq_))) ?_ | refine TPar.st_g rfl rfl rfl (Nat.le_of_ble_eq_true rfl) rfl (S_bin (u := .bool false) rfl rfl rfl (fun w => (eqAt_run _ _ _ _ _ _ w).trans (congrArg (fun b => Result.ok (Value.bool b) w) hq_))) ?_ | refine TPar.st_g rfl rfl rfl (Nat.le_of_ble_eq_true rfl) rfl (S_bin rfl rfl rfl (eqAt_run _ _ _ _ _ _)) ?_ | refine TPar.sk_g rfl rfl rfl (Nat.le_of_ble_eq_true rfl) rfl rfl ?_
    intro s_ h_ hs_ hh_; simp only [nrm, tev, St.step, putO, setsV, addO, ↓reduceIte, Nat.reduceAdd, logT, atT] at hs_ hh_; subst hs_; subst hh_
    refine TPar.st rfl (S_pick rfl rfl rfl) ?_
    intro s_ h_ hs_ hh_; simp only [nrm, tev, St.step, putO, setsV, addO, ↓reduceIte, Nat.reduceAdd, logT, atT] at hs_ hh_; subst hs_; subst hh_
    refine TPar.st rfl (S_assign rfl) ?_
    intro s_ h_ hs_ hh_; simp only [nrm, tev, St.step, putO, setsV, addO, ↓reduceIte, Nat.reduceAdd, logT, atT] at hs_ hh_; subst hs_; subst hh_
    unfold TPar
    refine TL.nil ?_
    try simp (decide := true) only [thenT, inBlockT, noGotoT, jumpT, ↓reduceIte, true_and]
    refine hK4_ _ ?_
    refine TW.ret ?_
    try simp (decide := true) only [thenT, inBlockT, noGotoT, jumpT, ↓reduceIte, true_and]
    refine ⟨.inr rfl, _, none, (ResT.one Try.results65 rfl), ?_, (by rintro _ ⟨⟩)⟩
    simp only [nrm, tev, Out_v, Out_agg, Out_tup, OutL_nil, OutL_cons, Out_sl, Out_row_osl, Out_nil_osl, Out_nil_sl, Out_nil_nil, and_true, true_and]
    simp [hasB, hk]

set_option maxRecDepth 20000 in
set_option maxHeartbeats 1000000 in
theorem last_T (b b' : Bool) (i t : Int) (es : List Ent) (hw : wfE es) (hn : es.length ≤ 1000000000) (hi0 : 0 ≤ i) (hi1 : i < 18446744073709551616) :
    TMeets Try.prog 31 [logT i t (.sl b (es.map (entC b')))] (atT (lastN i t es)) := by
  refine TMeets.of_TW Try.func31 rfl (by simp [PuL, Pu, logT, atT, pu_ents]) ?_
  intro B w0
  rw [Try.ntmps31]
  simp only [untagL, untag, List.length_cons, List.length_nil, List.replicate_succ, List.replicate_zero, Nat.reduceAdd, Nat.reduceSub, List.cons_append, List.nil_append, logT, atT, untag_ents]
  refine TW.seq_k ?_
  intro K1_ hK1_
  refine TW.reg ?_
  refine TL.st rfl (S_box rfl rfl) ?_
  intro σ_ hσ_; simp only [nrm, tev, St.step, putO, setsV, addO, ↓reduceIte, Nat.reduceAdd, logT, atT] at hσ_; subst hσ_
  refine TL.st rfl (S_alloc rfl (zT rfl) rfl) ?_
  intro σ_ hσ_; simp only [nrm, tev, St.step, putO, setsV, addO, ↓reduceIte, Nat.reduceAdd, logT, atT] at hσ_; subst hσ_
  refine TL.nil ?_
  try simp (decide := true) only [thenT, inBlockT, noGotoT, jumpT, ↓reduceIte, true_and]
  refine hK1_ _ ?_
  refine TW.seq_k ?_
  intro K2_ hK2_
  refine TW.seq_k ?_
  intro K3_ hK3_
  refine TW.reg ?_
  first | refine TL.st rfl (S_load rfl rfl rfl (tT rfl) rfl) ?_ | refine TL.st rfl (S_load_eptr rfl rfl (tT rfl) rfl) ?_ | refine TL.st rfl (S_load_row rfl rfl rfl rfl (by assumption) (tT rfl) rfl) ?_ | refine TL.st rfl (S_load_row (j := 0) rfl rfl rfl rfl (by assumption) (tT rfl) rfl) ?_
  intro σ_ hσ_; simp only [nrm, tev, St.step, putO, setsV, addO, ↓reduceIte, Nat.reduceAdd, logT, atT] at hσ_; subst hσ_
  refine TL.st rfl (S_build rfl (tT rfl) rfl (zT rfl) rfl (by repeat (first | exact PlOk.nil | (apply PlOk.cons; exact tT rfl))) rfl rfl) ?_
  intro σ_ hσ_; simp only [nrm, tev, St.step, putO, setsV, addO, ↓reduceIte, Nat.reduceAdd, logT, atT] at hσ_; subst hσ_
  refine TL.st rfl (S_alloc rfl (zT rfl) rfl) ?_
  intro σ_ hσ_; simp only [nrm, tev, St.step, putO, setsV, addO, ↓reduceIte, Nat.reduceAdd, logT, atT] at hσ_; subst hσ_
  first | refine TL.sto rfl rfl rfl rfl (tT rfl) rfl rfl rfl (Nat.le_of_ble_eq_true rfl) ?_ | refine TL.sto_row rfl rfl rfl rfl rfl (by assumption) (tT rfl) rfl rfl rfl (Nat.le_of_ble_eq_true rfl) ?_ | refine TL.sto_row (j := 0) rfl rfl rfl rfl rfl (by assumption) (tT rfl) rfl rfl rfl (Nat.le_of_ble_eq_true rfl) ?_
  intro σ_ hσ_; simp only [nrm, tev, St.step, putO, setsV, addO, ↓reduceIte, Nat.reduceAdd, logT, atT] at hσ_; subst hσ_
  refine TL.nil ?_
  try simp (decide := true) only [thenT, inBlockT, noGotoT, jumpT, ↓reduceIte, true_and]
  refine hK3_ _ ?_
  refine TW.seq_k ?_
  intro K4_ hK4_
  refine TW.reg ?_
  first | refine TL.st rfl (S_load rfl rfl rfl (tT rfl) rfl) ?_ | refine TL.st rfl (S_load_eptr rfl rfl (tT rfl) rfl) ?_ | refine TL.st rfl (S_load_row rfl rfl rfl rfl (by assumption) (tT rfl) rfl) ?_ | refine TL.st rfl (S_load_row (j := 0) rfl rfl rfl rfl (by assumption) (tT rfl) rfl) ?_
  intro σ_ hσ_; simp only [nrm, tev, St.step, putO, setsV, addO, ↓reduceIte, Nat.reduceAdd, logT, atT] at hσ_; subst hσ_
  first | refine TL.st rfl (S_call_row rfl rfl rfl (by kernel_rfl) rfl (may_T _ _ _ _ _ hw hn hi0 hi1) rfl) ?_ | refine TL.st rfl (S_call rfl rfl rfl (by kernel_rfl) rfl (may_T _ _ _ _ _ hw hn hi0 hi1)) ?_
  intro σ_ hσ_; simp only [nrm, tev, St.step, putO, setsV, addO, ↓reduceIte, Nat.reduceAdd, logT, atT] at hσ_; subst hσ_
  refine TL.nil ?_
  try simp (decide := true) only [thenT, inBlockT, noGotoT, jumpT, ↓reduceIte, true_and]
  refine hK4_ _ ?_
  refine TW.cond rfl (fun hc7_ => ?_) (fun hc7_ => ?_)
  · skip
    refine TW.seq_k ?_
    intro K5_ hK5_
    refine TW.reg ?_
    first | refine TL.st rfl (S_load rfl rfl rfl (tT rfl) rfl) ?_ | refine TL.st rfl (S_load_eptr rfl rfl (tT rfl) rfl) ?_ | refine TL.st rfl (S_load_row rfl rfl rfl rfl (by assumption) (tT rfl) rfl) ?_ | refine TL.st rfl (S_load_row (j := 0) rfl rfl rfl rfl (by assumption) (tT rfl) rfl) ?_
    intro σ_ hσ_; simp only [nrm, tev, St.step, putO, setsV, addO, ↓reduceIte, Nat.reduceAdd, logT, atT] at hσ_; subst hσ_
    first | refine TL.st rfl (S_call_row rfl rfl rfl (by kernel_rfl) rfl (end_T _ _ _ _ _ hw hn hi0 hi1) rfl) ?_ | refine TL.st rfl (S_call rfl rfl rfl (by kernel_rfl) rfl (end_T _ _ _ _ _ hw hn hi0 hi1)) ?_
    intro σ_ hσ_; simp only [nrm, tev, St.step, putO, setsV, addO, ↓reduceIte, Nat.reduceAdd, logT, atT] at hσ_; subst hσ_
    first | refine TL.sto rfl rfl rfl rfl (tT rfl) rfl rfl rfl (Nat.le_of_ble_eq_true rfl) ?_ | refine TL.sto_row rfl rfl rfl rfl rfl (by assumption) (tT rfl) rfl rfl rfl (Nat.le_of_ble_eq_true rfl) ?_ | refine TL.sto_row (j := 0) rfl rfl rfl rfl rfl (by assumption) (tT rfl) rfl rfl rfl (Nat.le_of_ble_eq_true rfl) ?_
    intro σ_ hσ_; simp only [nrm, tev, St.step, putO, setsV, addO, ↓reduceIte, Nat.reduceAdd, logT, atT] at hσ_; subst hσ_
    refine TL.nil ?_
    try simp (decide := true) only [thenT, inBlockT, noGotoT, jumpT, ↓reduceIte, true_and]
    refine hK5_ _ ?_
    refine TW.ret ?_
    try simp (decide := true) only [thenT, inBlockT, noGotoT, jumpT, ↓reduceIte, true_and]
    refine ⟨.inr rfl, _, none, (ResT.one Try.results31 ⟨_, _, _, _, _, rfl, rfl, tT rfl, rfl⟩), ?_, (by rintro _ ⟨⟩)⟩
    simp only [nrm, tev, Out_v, Out_agg, Out_tup, OutL_nil, OutL_cons, Out_sl, Out_row_osl, Out_nil_osl, Out_nil_sl, Out_nil_nil, and_true, true_and, atT]
    simp [lastN, hc7_]
  · skip
    refine TW.skip ?_
    try simp (decide := true) only [thenT, inBlockT, noGotoT, jumpT, ↓reduceIte, true_and]
    refine hK2_ _ ?_
    refine TW.seq_k ?_
    intro K6_ hK6_
    refine TW.reg ?_
    refine TL.st rfl (S_build rfl (tT rfl) rfl (zT rfl) rfl (by repeat (first | exact PlOk.nil | (apply PlOk.cons; exact tT rfl))) rfl rfl) ?_
    intro σ_ hσ_; simp only [nrm, tev, St.step, putO, setsV, addO, ↓reduceIte, Nat.reduceAdd, logT, atT] at hσ_; subst hσ_
    first | refine TL.sto rfl rfl rfl rfl (tT rfl) rfl rfl rfl (Nat.le_of_ble_eq_true rfl) ?_ | refine TL.sto_row rfl rfl rfl rfl rfl (by assumption) (tT rfl) rfl rfl rfl (Nat.le_of_ble_eq_true rfl) ?_ | refine TL.sto_row (j := 0) rfl rfl rfl rfl rfl (by assumption) (tT rfl) rfl rfl rfl (Nat.le_of_ble_eq_true rfl) ?_
    intro σ_ hσ_; simp only [nrm, tev, St.step, putO, setsV, addO, ↓reduceIte, Nat.reduceAdd, logT, atT] at hσ_; subst hσ_
    refine TL.nil ?_
    try simp (decide := true) only [thenT, inBlockT, noGotoT, jumpT, ↓reduceIte, true_and]
    refine hK6_ _ ?_
    refine TW.ret ?_
    try simp (decide := true) only [thenT, inBlockT, noGotoT, jumpT, ↓reduceIte, true_and]
    refine ⟨.inr rfl, _, none, (ResT.one Try.results31 ⟨_, _, _, _, _, rfl, rfl, tT rfl, rfl⟩), ?_, (by rintro _ ⟨⟩)⟩
    simp only [nrm, tev, Out_v, Out_agg, Out_tup, OutL_nil, OutL_cons, Out_sl, Out_row_osl, Out_nil_osl, Out_nil_sl, Out_nil_nil, and_true, true_and, atT]
    simp [lastN, hc7_]

set_option maxRecDepth 20000 in
set_option maxHeartbeats 1000000 in
theorem term_T (b b' : Bool) (i t : Int) (es : List Ent) (hw : wfE es) (hn : es.length ≤ 1000000000) (hi0 : 0 ≤ i) (hi1 : i < 18446744073709551616) (x : Int) :
    TMeets Try.prog 32 [logT i t (.sl b (es.map (entC b'))), .v (.int .u64 x)] (.tup [.v (.int .u64 (termN i t es x).1), .v (.bool (termN i t es x).2)]) := by
  refine TMeets.of_TW Try.func32 rfl (by simp [PuL, Pu, logT, atT, pu_ents]) ?_
  intro B w0
  rw [Try.ntmps32]
  simp only [untagL, untag, List.length_cons, List.length_nil, List.replicate_succ, List.replicate_zero, Nat.reduceAdd, Nat.reduceSub, List.cons_append, List.nil_append, logT, atT, untag_ents]
  refine TW.seq_k ?_
  intro K1_ hK1_
  refine TW.reg ?_
  refine TL.st rfl (S_box rfl rfl) ?_
  intro σ_ hσ_; simp only [nrm, tev, St.step, putO, setsV, addO, ↓reduceIte, Nat.reduceAdd, logT, atT] at hσ_; subst hσ_
  refine TL.st rfl (S_assign rfl) ?_
  intro σ_ hσ_; simp only [nrm, tev, St.step, putO, setsV, addO, ↓reduceIte, Nat.reduceAdd, logT, atT] at hσ_; subst hσ_
  refine TL.st rfl (S_assign rfl) ?_
  intro σ_ hσ_; simp only [nrm, tev, St.step, putO, setsV, addO, ↓reduceIte, Nat.reduceAdd, logT, atT] at hσ_; subst hσ_
  refine TL.nil ?_
  try simp (decide := true) only [thenT, inBlockT, noGotoT, jumpT, ↓reduceIte, true_and]
  refine hK1_ _ ?_
  refine TW.seq_k ?_
  intro K2_ hK2_
  refine TW.reg ?_
  first | refine TL.st rfl (S_load rfl rfl rfl (tT rfl) rfl) ?_ | refine TL.st rfl (S_load_eptr rfl rfl (tT rfl) rfl) ?_ | refine TL.st rfl (S_load_row rfl rfl rfl rfl (by assumption) (tT rfl) rfl) ?_ | refine TL.st rfl (S_load_row (j := 0) rfl rfl rfl rfl (by assumption) (tT rfl) rfl) ?_
  intro σ_ hσ_; simp only [nrm, tev, St.step, putO, setsV, addO, ↓reduceIte, Nat.reduceAdd, logT, atT] at hσ_; subst hσ_
  refine TL.st rfl (S_build rfl (tT rfl) rfl (zT rfl) rfl (by repeat (first | exact PlOk.nil | (apply PlOk.cons; exact tT rfl))) rfl rfl) ?_
  intro σ_ hσ_; simp only [nrm, tev, St.step, putO, setsV, addO, ↓reduceIte, Nat.reduceAdd, logT, atT] at hσ_; subst hσ_
  refine TL.st rfl (S_alloc rfl (zT rfl) rfl) ?_
  intro σ_ hσ_; simp only [nrm, tev, St.step, putO, setsV, addO, ↓reduceIte, Nat.reduceAdd, logT, atT] at hσ_; subst hσ_
  first | refine TL.sto rfl rfl rfl rfl (tT rfl) rfl rfl rfl (Nat.le_of_ble_eq_true rfl) ?_ | refine TL.sto_row rfl rfl rfl rfl rfl (by assumption) (tT rfl) rfl rfl rfl (Nat.le_of_ble_eq_true rfl) ?_ | refine TL.sto_row (j := 0) rfl rfl rfl rfl rfl (by assumption) (tT rfl) rfl rfl rfl (Nat.le_of_ble_eq_true rfl) ?_
  intro σ_ hσ_; simp only [nrm, tev, St.step, putO, setsV, addO, ↓reduceIte, Nat.reduceAdd, logT, atT] at hσ_; subst hσ_
  refine TL.nil ?_
  try simp (decide := true) only [thenT, inBlockT, noGotoT, jumpT, ↓reduceIte, true_and]
  refine hK2_ _ ?_
  refine TW.seq_k ?_
  intro K3_ hK3_
  refine TW.seq_k ?_
  intro K4_ hK4_
  refine TW.reg ?_
  first | refine TL.st rfl (S_load rfl rfl rfl (tT rfl) rfl) ?_ | refine TL.st rfl (S_load_eptr rfl rfl (tT rfl) rfl) ?_ | refine TL.st rfl (S_load_row rfl rfl rfl rfl (by assumption) (tT rfl) rfl) ?_ | refine TL.st rfl (S_load_row (j := 0) rfl rfl rfl rfl (by assumption) (tT rfl) rfl) ?_
  intro σ_ hσ_; simp only [nrm, tev, St.step, putO, setsV, addO, ↓reduceIte, Nat.reduceAdd, logT, atT] at hσ_; subst hσ_
  first | refine TL.st rfl (S_call_row rfl rfl rfl (by kernel_rfl) rfl (may_T _ _ _ _ _ hw hn hi0 hi1) rfl) ?_ | refine TL.st rfl (S_call rfl rfl rfl (by kernel_rfl) rfl (may_T _ _ _ _ _ hw hn hi0 hi1)) ?_
  intro σ_ hσ_; simp only [nrm, tev, St.step, putO, setsV, addO, ↓reduceIte, Nat.reduceAdd, logT, atT] at hσ_; subst hσ_
  first | refine TL.st rfl (S_not rfl rfl) ?_ | refine TL.st rfl (S_neg rfl rfl) ?_
  intro σ_ hσ_; simp only [nrm, tev, St.step, putO, setsV, addO, ↓reduceIte, Nat.reduceAdd, logT, atT] at hσ_; subst hσ_
  refine TL.nil ?_
  try simp (decide := true) only [thenT, inBlockT, noGotoT, jumpT, ↓reduceIte, true_and]
  refine hK4_ _ ?_
  refine TW.cond rfl (fun hc12_ => ?_) (fun hc12_ => ?_)
  · skip
    refine TW.seq_k ?_
    intro K5_ hK5_
    refine TW.reg ?_
    refine TL.st rfl (S_assign rfl) ?_
    intro σ_ hσ_; simp only [nrm, tev, St.step, putO, setsV, addO, ↓reduceIte, Nat.reduceAdd, logT, atT] at hσ_; subst hσ_
    refine TL.st rfl (S_assign rfl) ?_
    intro σ_ hσ_; simp only [nrm, tev, St.step, putO, setsV, addO, ↓reduceIte, Nat.reduceAdd, logT, atT] at hσ_; subst hσ_
    refine TL.nil ?_
    try simp (decide := true) only [thenT, inBlockT, noGotoT, jumpT, ↓reduceIte, true_and]
    refine hK5_ _ ?_
    refine TW.ret ?_
    try simp (decide := true) only [thenT, inBlockT, noGotoT, jumpT, ↓reduceIte, true_and]
    refine ⟨.inr rfl, _, none, (ResT.two Try.results32 rfl rfl), ?_, (by rintro _ ⟨⟩)⟩
    simp only [nrm, tev, Out_v, Out_agg, Out_tup, OutL_nil, OutL_cons, Out_sl, Out_row_osl, Out_nil_osl, Out_nil_sl, Out_nil_nil, and_true, true_and]
    simp_all [termN]
  · skip
    refine TW.skip ?_
    try simp (decide := true) only [thenT, inBlockT, noGotoT, jumpT, ↓reduceIte, true_and]
    refine hK3_ _ ?_
    refine TW.seq_k ?_
    intro K6_ hK6_
    refine TW.reg ?_
    first | refine TL.st rfl (S_load rfl rfl rfl (tT rfl) rfl) ?_ | refine TL.st rfl (S_load_eptr rfl rfl (tT rfl) rfl) ?_ | refine TL.st rfl (S_load_row rfl rfl rfl rfl (by assumption) (tT rfl) rfl) ?_ | refine TL.st rfl (S_load_row (j := 0) rfl rfl rfl rfl (by assumption) (tT rfl) rfl) ?_
    intro σ_ hσ_; simp only [nrm, tev, St.step, putO, setsV, addO, ↓reduceIte, Nat.reduceAdd, logT, atT] at hσ_; subst hσ_
    refine TL.st rfl (S_move rfl) ?_
    intro σ_ hσ_; simp only [nrm, tev, St.step, putO, setsV, addO, ↓reduceIte, Nat.reduceAdd, logT, atT] at hσ_; subst hσ_
    rcases ofN_cases i x es.length with ⟨k, hkn, hk, hk1, hk2⟩ | ⟨hk, hk1⟩
    · skip
      first | refine TL.st rfl (S_call_row rfl rfl rfl (by kernel_rfl) rfl ((of_T _ _ _ _ _ hw hn hi0 hi1 _).eq rfl (by rw [hk])) rfl) ?_ | refine TL.st rfl (S_call rfl rfl rfl (by kernel_rfl) rfl ((of_T _ _ _ _ _ hw hn hi0 hi1 _).eq rfl (by rw [hk]))) ?_
      intro σ_ hσ_; simp only [nrm, tev, St.step, putO, setsV, addO, ↓reduceIte, Nat.reduceAdd, logT, atT] at hσ_; subst hσ_
      refine TL.st rfl (S_assign rfl) ?_
      intro σ_ hσ_; simp only [nrm, tev, St.step, putO, setsV, addO, ↓reduceIte, Nat.reduceAdd, logT, atT] at hσ_; subst hσ_
      refine TL.nil ?_
      try simp (decide := true) only [thenT, inBlockT, noGotoT, jumpT, ↓reduceIte, true_and]
      refine hK6_ _ ?_
      refine TW.seq_k ?_
      intro K7_ hK7_
      refine TW.seq_k ?_
      intro K8_ hK8_
      refine TW.reg ?_
      refine TL.st rfl (S_move rfl) ?_
      intro σ_ hσ_; simp only [nrm, tev, St.step, putO, setsV, addO, ↓reduceIte, Nat.reduceAdd, logT, atT] at hσ_; subst hσ_
      first | refine TL.st rfl (S_int rfl rfl rfl rfl (vbt (by omega))) ?_ | refine TL.st rfl (S_int rfl rfl rfl rfl (vbf (by omega))) ?_ | refine TL.st rfl (S_int rfl rfl rfl rfl rfl) ?_
      intro σ_ hσ_; simp only [nrm, tev, St.step, putO, setsV, addO, ↓reduceIte, Nat.reduceAdd, logT, atT] at hσ_; subst hσ_
      refine TL.nil ?_
      try simp (decide := true) only [thenT, inBlockT, noGotoT, jumpT, ↓reduceIte, true_and]
      refine hK8_ _ ?_
      refine TW.cond_f rfl (rfl) ?_
      refine TW.skip ?_
      try simp (decide := true) only [thenT, inBlockT, noGotoT, jumpT, ↓reduceIte, true_and]
      refine hK7_ _ ?_
      refine TW.seq_k ?_
      intro K9_ hK9_
      refine TW.reg ?_
      first | refine TL.st rfl (S_load rfl rfl rfl (tT rfl) rfl) ?_ | refine TL.st rfl (S_load_eptr rfl rfl (tT rfl) rfl) ?_ | refine TL.st rfl (S_load_row rfl rfl rfl rfl (by assumption) (tT rfl) rfl) ?_ | refine TL.st rfl (S_load_row (j := 0) rfl rfl rfl rfl (by assumption) (tT rfl) rfl) ?_
      intro σ_ hσ_; simp only [nrm, tev, St.step, putO, setsV, addO, ↓reduceIte, Nat.reduceAdd, logT, atT] at hσ_; subst hσ_
      refine TL.st rfl (S_move rfl) ?_
      intro σ_ hσ_; simp only [nrm, tev, St.step, putO, setsV, addO, ↓reduceIte, Nat.reduceAdd, logT, atT] at hσ_; subst hσ_
      first | refine TL.st rfl (S_call_row rfl rfl rfl (by kernel_rfl) rfl (spot_T _ _ _ _ _ hw hn hi0 hi1 _ hkn) rfl) ?_ | refine TL.st rfl (S_call rfl rfl rfl (by kernel_rfl) rfl (spot_T _ _ _ _ _ hw hn hi0 hi1 _ hkn)) ?_
      intro σ_ hσ_; simp only [nrm, tev, St.step, putO, setsV, addO, ↓reduceIte, Nat.reduceAdd, logT, atT] at hσ_; subst hσ_
      refine TL.st rfl (S_field rfl rfl (tT rfl) rfl rfl (tT rfl) rfl) ?_
      intro σ_ hσ_; simp only [nrm, tev, St.step, putO, setsV, addO, ↓reduceIte, Nat.reduceAdd, logT, atT] at hσ_; subst hσ_
      refine TL.st rfl (S_assign rfl) ?_
      intro σ_ hσ_; simp only [nrm, tev, St.step, putO, setsV, addO, ↓reduceIte, Nat.reduceAdd, logT, atT] at hσ_; subst hσ_
      refine TL.st rfl (S_assign rfl) ?_
      intro σ_ hσ_; simp only [nrm, tev, St.step, putO, setsV, addO, ↓reduceIte, Nat.reduceAdd, logT, atT] at hσ_; subst hσ_
      refine TL.nil ?_
      try simp (decide := true) only [thenT, inBlockT, noGotoT, jumpT, ↓reduceIte, true_and]
      refine hK9_ _ ?_
      refine TW.ret ?_
      try simp (decide := true) only [thenT, inBlockT, noGotoT, jumpT, ↓reduceIte, true_and]
      refine ⟨.inr rfl, _, none, (ResT.two Try.results32 rfl rfl), ?_, (by rintro _ ⟨⟩)⟩
      simp only [nrm, tev, Out_v, Out_agg, Out_tup, OutL_nil, OutL_cons, Out_sl, Out_row_osl, Out_nil_osl, Out_nil_sl, Out_nil_nil, and_true, true_and]
      simp_all [termN]
    · skip
      first | refine TL.st rfl (S_call_row rfl rfl rfl (by kernel_rfl) rfl ((of_T _ _ _ _ _ hw hn hi0 hi1 _).eq rfl (by rw [hk])) rfl) ?_ | refine TL.st rfl (S_call rfl rfl rfl (by kernel_rfl) rfl ((of_T _ _ _ _ _ hw hn hi0 hi1 _).eq rfl (by rw [hk]))) ?_
      intro σ_ hσ_; simp only [nrm, tev, St.step, putO, setsV, addO, ↓reduceIte, Nat.reduceAdd, logT, atT] at hσ_; subst hσ_
      refine TL.st rfl (S_assign rfl) ?_
      intro σ_ hσ_; simp only [nrm, tev, St.step, putO, setsV, addO, ↓reduceIte, Nat.reduceAdd, logT, atT] at hσ_; subst hσ_
      refine TL.nil ?_
      try simp (decide := true) only [thenT, inBlockT, noGotoT, jumpT, ↓reduceIte, true_and]
      refine hK6_ _ ?_
      refine TW.seq_k ?_
      intro K10_ hK10_
      refine TW.seq_k ?_
      intro K11_ hK11_
      refine TW.reg ?_
      refine TL.st rfl (S_move rfl) ?_
      intro σ_ hσ_; simp only [nrm, tev, St.step, putO, setsV, addO, ↓reduceIte, Nat.reduceAdd, logT, atT] at hσ_; subst hσ_
      first | refine TL.st rfl (S_int rfl rfl rfl rfl (vbt (by omega))) ?_ | refine TL.st rfl (S_int rfl rfl rfl rfl (vbf (by omega))) ?_ | refine TL.st rfl (S_int rfl rfl rfl rfl rfl) ?_
      intro σ_ hσ_; simp only [nrm, tev, St.step, putO, setsV, addO, ↓reduceIte, Nat.reduceAdd, logT, atT] at hσ_; subst hσ_
      refine TL.nil ?_
      try simp (decide := true) only [thenT, inBlockT, noGotoT, jumpT, ↓reduceIte, true_and]
      refine hK11_ _ ?_
      refine TW.cond_t rfl (rfl) ?_
      refine TW.seq_k ?_
      intro K12_ hK12_
      refine TW.reg ?_
      refine TL.st rfl (S_assign rfl) ?_
      intro σ_ hσ_; simp only [nrm, tev, St.step, putO, setsV, addO, ↓reduceIte, Nat.reduceAdd, logT, atT] at hσ_; subst hσ_
      refine TL.st rfl (S_assign rfl) ?_
      intro σ_ hσ_; simp only [nrm, tev, St.step, putO, setsV, addO, ↓reduceIte, Nat.reduceAdd, logT, atT] at hσ_; subst hσ_
      refine TL.nil ?_
      try simp (decide := true) only [thenT, inBlockT, noGotoT, jumpT, ↓reduceIte, true_and]
      refine hK12_ _ ?_
      refine TW.ret ?_
      try simp (decide := true) only [thenT, inBlockT, noGotoT, jumpT, ↓reduceIte, true_and]
      refine ⟨.inr rfl, _, none, (ResT.two Try.results32 rfl rfl), ?_, (by rintro _ ⟨⟩)⟩
      simp only [nrm, tev, Out_v, Out_agg, Out_tup, OutL_nil, OutL_cons, Out_sl, Out_row_osl, Out_nil_osl, Out_nil_sl, Out_nil_nil, and_true, true_and]
      simp_all [termN]

set_option maxRecDepth 20000 in
set_option maxHeartbeats 1000000 in
theorem hasx_T (b b' : Bool) (i t : Int) (es : List Ent) (hw : wfE es) (hn : es.length ≤ 1000000000) (hi0 : 0 ≤ i) (hi1 : i < 18446744073709551616) (x : Int × Int) :
    TMeets Try.prog 39 [logT i t (.sl b (es.map (entC b'))), atT x] (.v (.bool (mayB i t es && hasB i t es x.1 x.2))) := by
  refine TMeets.of_TW Try.func39 rfl (by simp [PuL, Pu, logT, atT, pu_ents]) ?_
  intro B w0
  rw [Try.ntmps39]
  simp only [untagL, untag, List.length_cons, List.length_nil, List.replicate_succ, List.replicate_zero, Nat.reduceAdd, Nat.reduceSub, List.cons_append, List.nil_append, logT, atT, untag_ents]
  refine TW.seq_k ?_
  intro K1_ hK1_
  refine TW.reg ?_
  refine TL.st rfl (S_box rfl rfl) ?_
  intro σ_ hσ_; simp only [nrm, tev, St.step, putO, setsV, addO, ↓reduceIte, Nat.reduceAdd, logT, atT] at hσ_; subst hσ_
  refine TL.st rfl (S_box rfl rfl) ?_
  intro σ_ hσ_; simp only [nrm, tev, St.step, putO, setsV, addO, ↓reduceIte, Nat.reduceAdd, logT, atT] at hσ_; subst hσ_
  refine TL.st rfl (S_assign rfl) ?_
  intro σ_ hσ_; simp only [nrm, tev, St.step, putO, setsV, addO, ↓reduceIte, Nat.reduceAdd, logT, atT] at hσ_; subst hσ_
  refine TL.nil ?_
  try simp (decide := true) only [thenT, inBlockT, noGotoT, jumpT, ↓reduceIte, true_and]
  refine hK1_ _ ?_
  refine TW.seq_k ?_
  intro K2_ hK2_
  refine TW.reg ?_
  first | refine TL.st rfl (S_load rfl rfl rfl (tT rfl) rfl) ?_ | refine TL.st rfl (S_load_eptr rfl rfl (tT rfl) rfl) ?_ | refine TL.st rfl (S_load_row rfl rfl rfl rfl (by assumption) (tT rfl) rfl) ?_ | refine TL.st rfl (S_load_row (j := 0) rfl rfl rfl rfl (by assumption) (tT rfl) rfl) ?_
  intro σ_ hσ_; simp only [nrm, tev, St.step, putO, setsV, addO, ↓reduceIte, Nat.reduceAdd, logT, atT] at hσ_; subst hσ_
  refine TL.st rfl (S_build rfl (tT rfl) rfl (zT rfl) rfl (by repeat (first | exact PlOk.nil | (apply PlOk.cons; exact tT rfl))) rfl rfl) ?_
  intro σ_ hσ_; simp only [nrm, tev, St.step, putO, setsV, addO, ↓reduceIte, Nat.reduceAdd, logT, atT] at hσ_; subst hσ_
  refine TL.st rfl (S_alloc rfl (zT rfl) rfl) ?_
  intro σ_ hσ_; simp only [nrm, tev, St.step, putO, setsV, addO, ↓reduceIte, Nat.reduceAdd, logT, atT] at hσ_; subst hσ_
  first | refine TL.sto rfl rfl rfl rfl (tT rfl) rfl rfl rfl (Nat.le_of_ble_eq_true rfl) ?_ | refine TL.sto_row rfl rfl rfl rfl rfl (by assumption) (tT rfl) rfl rfl rfl (Nat.le_of_ble_eq_true rfl) ?_ | refine TL.sto_row (j := 0) rfl rfl rfl rfl rfl (by assumption) (tT rfl) rfl rfl rfl (Nat.le_of_ble_eq_true rfl) ?_
  intro σ_ hσ_; simp only [nrm, tev, St.step, putO, setsV, addO, ↓reduceIte, Nat.reduceAdd, logT, atT] at hσ_; subst hσ_
  refine TL.nil ?_
  try simp (decide := true) only [thenT, inBlockT, noGotoT, jumpT, ↓reduceIte, true_and]
  refine hK2_ _ ?_
  refine TW.seq_k ?_
  intro K3_ hK3_
  refine TW.reg ?_
  first | refine TL.st rfl (S_load rfl rfl rfl (tT rfl) rfl) ?_ | refine TL.st rfl (S_load_eptr rfl rfl (tT rfl) rfl) ?_ | refine TL.st rfl (S_load_row rfl rfl rfl rfl (by assumption) (tT rfl) rfl) ?_ | refine TL.st rfl (S_load_row (j := 0) rfl rfl rfl rfl (by assumption) (tT rfl) rfl) ?_
  intro σ_ hσ_; simp only [nrm, tev, St.step, putO, setsV, addO, ↓reduceIte, Nat.reduceAdd, logT, atT] at hσ_; subst hσ_
  cases hm : mayB i t es
  · skip
    first | refine TL.st rfl (S_call_row rfl rfl rfl (by kernel_rfl) rfl ((may_T _ _ _ _ _ hw hn hi0 hi1).eq rfl (by rw [hm])) rfl) ?_ | refine TL.st rfl (S_call rfl rfl rfl (by kernel_rfl) rfl ((may_T _ _ _ _ _ hw hn hi0 hi1).eq rfl (by rw [hm]))) ?_
    intro σ_ hσ_; simp only [nrm, tev, St.step, putO, setsV, addO, ↓reduceIte, Nat.reduceAdd, logT, atT] at hσ_; subst hσ_
    refine TL.st rfl (S_move rfl) ?_
    intro σ_ hσ_; simp only [nrm, tev, St.step, putO, setsV, addO, ↓reduceIte, Nat.reduceAdd, logT, atT] at hσ_; subst hσ_
    first | refine TL.st_g rfl rfl rfl (Nat.le_of_ble_eq_true rfl) rfl (S_load rfl rfl rfl (tT rfl) rfl) ?_ | refine TL.st_g rfl rfl rfl (Nat.le_of_ble_eq_true rfl) rfl (S_load_eptr rfl rfl (tT rfl) rfl) ?_ | refine TL.st_g rfl rfl rfl (Nat.le_of_ble_eq_true rfl) rfl (S_load_row rfl rfl rfl rfl (by assumption) (tT rfl) rfl) ?_ | refine TL.st_g rfl rfl rfl (Nat.le_of_ble_eq_true rfl) rfl (S_load_row (j := 0) rfl rfl rfl rfl (by assumption) (tT rfl) rfl) ?_ | refine TL.sk_g rfl rfl rfl (Nat.le_of_ble_eq_true rfl) rfl rfl ?_
    intro σ_ hσ_; simp only [nrm, tev, St.step, putO, setsV, addO, ↓reduceIte, Nat.reduceAdd, logT, atT] at hσ_; subst hσ_
    first | refine TL.st_g rfl rfl rfl (Nat.le_of_ble_eq_true rfl) rfl (S_load rfl rfl rfl (tT rfl) rfl) ?_ | refine TL.st_g rfl rfl rfl (Nat.le_of_ble_eq_true rfl) rfl (S_load_eptr rfl rfl (tT rfl) rfl) ?_ | refine TL.st_g rfl rfl rfl (Nat.le_of_ble_eq_true rfl) rfl (S_load_row rfl rfl rfl rfl (by assumption) (tT rfl) rfl) ?_ | refine TL.st_g rfl rfl rfl (Nat.le_of_ble_eq_true rfl) rfl (S_load_row (j := 0) rfl rfl rfl rfl (by assumption) (tT rfl) rfl) ?_ | refine TL.sk_g rfl rfl rfl (Nat.le_of_ble_eq_true rfl) rfl rfl ?_
    intro σ_ hσ_; simp only [nrm, tev, St.step, putO, setsV, addO, ↓reduceIte, Nat.reduceAdd, logT, atT] at hσ_; subst hσ_
    first | refine TL.st_g rfl rfl rfl (Nat.le_of_ble_eq_true rfl) rfl (S_call_row rfl rfl rfl (by kernel_rfl) rfl (has_T _ _ _ _ _ hw hn hi0 hi1 _) rfl) ?_ | refine TL.st_g rfl rfl rfl (Nat.le_of_ble_eq_true rfl) rfl (S_call rfl rfl rfl (by kernel_rfl) rfl (has_T _ _ _ _ _ hw hn hi0 hi1 _)) ?_ | refine TL.sk_g rfl rfl rfl (Nat.le_of_ble_eq_true rfl) rfl rfl ?_
    intro σ_ hσ_; simp only [nrm, tev, St.step, putO, setsV, addO, ↓reduceIte, Nat.reduceAdd, logT, atT] at hσ_; subst hσ_
    refine TL.st rfl (S_pick rfl rfl rfl) ?_
    intro σ_ hσ_; simp only [nrm, tev, St.step, putO, setsV, addO, ↓reduceIte, Nat.reduceAdd, logT, atT] at hσ_; subst hσ_
    refine TL.st rfl (S_assign rfl) ?_
    intro σ_ hσ_; simp only [nrm, tev, St.step, putO, setsV, addO, ↓reduceIte, Nat.reduceAdd, logT, atT] at hσ_; subst hσ_
    refine TL.nil ?_
    try simp (decide := true) only [thenT, inBlockT, noGotoT, jumpT, ↓reduceIte, true_and]
    refine hK3_ _ ?_
    refine TW.ret ?_
    try simp (decide := true) only [thenT, inBlockT, noGotoT, jumpT, ↓reduceIte, true_and]
    refine ⟨.inr rfl, _, none, (ResT.one Try.results39 rfl), ?_, (by rintro _ ⟨⟩)⟩
    simp only [nrm, tev, Out_v, Out_agg, Out_tup, OutL_nil, OutL_cons, Out_sl, Out_row_osl, Out_nil_osl, Out_nil_sl, Out_nil_nil, and_true, true_and]
    simp [hm]
  · skip
    first | refine TL.st rfl (S_call_row rfl rfl rfl (by kernel_rfl) rfl ((may_T _ _ _ _ _ hw hn hi0 hi1).eq rfl (by rw [hm])) rfl) ?_ | refine TL.st rfl (S_call rfl rfl rfl (by kernel_rfl) rfl ((may_T _ _ _ _ _ hw hn hi0 hi1).eq rfl (by rw [hm]))) ?_
    intro σ_ hσ_; simp only [nrm, tev, St.step, putO, setsV, addO, ↓reduceIte, Nat.reduceAdd, logT, atT] at hσ_; subst hσ_
    refine TL.st rfl (S_move rfl) ?_
    intro σ_ hσ_; simp only [nrm, tev, St.step, putO, setsV, addO, ↓reduceIte, Nat.reduceAdd, logT, atT] at hσ_; subst hσ_
    first | refine TL.st_g rfl rfl rfl (Nat.le_of_ble_eq_true rfl) rfl (S_load rfl rfl rfl (tT rfl) rfl) ?_ | refine TL.st_g rfl rfl rfl (Nat.le_of_ble_eq_true rfl) rfl (S_load_eptr rfl rfl (tT rfl) rfl) ?_ | refine TL.st_g rfl rfl rfl (Nat.le_of_ble_eq_true rfl) rfl (S_load_row rfl rfl rfl rfl (by assumption) (tT rfl) rfl) ?_ | refine TL.st_g rfl rfl rfl (Nat.le_of_ble_eq_true rfl) rfl (S_load_row (j := 0) rfl rfl rfl rfl (by assumption) (tT rfl) rfl) ?_ | refine TL.sk_g rfl rfl rfl (Nat.le_of_ble_eq_true rfl) rfl rfl ?_
    intro σ_ hσ_; simp only [nrm, tev, St.step, putO, setsV, addO, ↓reduceIte, Nat.reduceAdd, logT, atT] at hσ_; subst hσ_
    first | refine TL.st_g rfl rfl rfl (Nat.le_of_ble_eq_true rfl) rfl (S_load rfl rfl rfl (tT rfl) rfl) ?_ | refine TL.st_g rfl rfl rfl (Nat.le_of_ble_eq_true rfl) rfl (S_load_eptr rfl rfl (tT rfl) rfl) ?_ | refine TL.st_g rfl rfl rfl (Nat.le_of_ble_eq_true rfl) rfl (S_load_row rfl rfl rfl rfl (by assumption) (tT rfl) rfl) ?_ | refine TL.st_g rfl rfl rfl (Nat.le_of_ble_eq_true rfl) rfl (S_load_row (j := 0) rfl rfl rfl rfl (by assumption) (tT rfl) rfl) ?_ | refine TL.sk_g rfl rfl rfl (Nat.le_of_ble_eq_true rfl) rfl rfl ?_
    intro σ_ hσ_; simp only [nrm, tev, St.step, putO, setsV, addO, ↓reduceIte, Nat.reduceAdd, logT, atT] at hσ_; subst hσ_
    first | refine TL.st_g rfl rfl rfl (Nat.le_of_ble_eq_true rfl) rfl (S_call_row rfl rfl rfl (by kernel_rfl) rfl (has_T _ _ _ _ _ hw hn hi0 hi1 _) rfl) ?_ | refine TL.st_g rfl rfl rfl (Nat.le_of_ble_eq_true rfl) rfl (S_call rfl rfl rfl (by kernel_rfl) rfl (has_T _ _ _ _ _ hw hn hi0 hi1 _)) ?_ | refine TL.sk_g rfl rfl rfl (Nat.le_of_ble_eq_true rfl) rfl rfl ?_
    intro σ_ hσ_; simp only [nrm, tev, St.step, putO, setsV, addO, ↓reduceIte, Nat.reduceAdd, logT, atT] at hσ_; subst hσ_
    refine TL.st rfl (S_pick rfl rfl rfl) ?_
    intro σ_ hσ_; simp only [nrm, tev, St.step, putO, setsV, addO, ↓reduceIte, Nat.reduceAdd, logT, atT] at hσ_; subst hσ_
    refine TL.st rfl (S_assign rfl) ?_
    intro σ_ hσ_; simp only [nrm, tev, St.step, putO, setsV, addO, ↓reduceIte, Nat.reduceAdd, logT, atT] at hσ_; subst hσ_
    refine TL.nil ?_
    try simp (decide := true) only [thenT, inBlockT, noGotoT, jumpT, ↓reduceIte, true_and]
    refine hK3_ _ ?_
    refine TW.ret ?_
    try simp (decide := true) only [thenT, inBlockT, noGotoT, jumpT, ↓reduceIte, true_and]
    refine ⟨.inr rfl, _, none, (ResT.one Try.results39 rfl), ?_, (by rintro _ ⟨⟩)⟩
    simp only [nrm, tev, Out_v, Out_agg, Out_tup, OutL_nil, OutL_cons, Out_sl, Out_row_osl, Out_nil_osl, Out_nil_sl, Out_nil_nil, and_true, true_and]
    simp [hm]

end Go.Proofs.Ytpckkajodpiiaaa
