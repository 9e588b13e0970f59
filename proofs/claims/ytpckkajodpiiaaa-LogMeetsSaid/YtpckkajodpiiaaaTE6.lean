/- Logs that are the same, and that take offers. No condition. -/
import Derived.Test.YtpckkajodpiiaaaTE5
import Derived.Test.YtpckkajodpiiaaaT13
import Derived.Test.YtpckkajodpiiaaaT15
namespace Go.Proofs.Ytpckkajodpiiaaa
open Go.RowKit
set_option linter.unusedVariables false
set_option linter.unusedSimpArgs false

def entU (e : Ent) : Int × Int × List Int := (e.T, e.K, e.D)
/-- Are these the same entries? -/
def sameE (a b : List Ent) : Bool := decide (a.map entU = b.map entU)
theorem entU_inj {x y : Ent} (h : entU x = entU y) : x = y := by
  cases x; cases y
  simp only [entU, Prod.mk.injEq] at h
  simp [h]
theorem sameE_iff {a b : List Ent} : sameE a b = true ↔ a = b := by
  simp only [sameE, decide_eq_true_eq]
  refine ⟨fun h => ?_, fun h => by rw [h]⟩
  refine List.ext_getElem? fun j => ?_
  have h1 : (a.map entU)[j]? = (b.map entU)[j]? := by rw [h]
  rw [List.getElem?_map, List.getElem?_map] at h1
  cases h2 : a[j]? <;> cases h3 : b[j]? <;> rw [h2, h3] at h1 <;> simp at h1
  rw [entU_inj h1]
def same1 (x y : Ent) : Bool := decide (x.T = y.T) && decide (x.K = y.K) && decide (x.D = y.D)
def sameL (i t : Int) (a : List Ent) (i2 t2 : Int) (b : List Ent) : Bool := decide (i = i2) && decide (t = t2) && sameE a b
theorem hasB_at {i t : Int} {es : List Ent} {x T : Int} (h : hasB i t es x T = true) : ∃ k : Nat, k ≤ es.length ∧ ofN i x es.length = k ∧ (i + k) % 18446744073709551616 = x ∧ spotN i t es k = (x, T) := by
  rcases ofN_cases i x es.length with ⟨k, hk, h1, h2, h3⟩ | ⟨h1, _⟩
  · refine ⟨k, hk, h1, h2, ?_⟩
    simp only [hasB, h1, Bool.and_eq_true, decide_eq_true_eq, Int.toNat_natCast] at h
    exact Prod.ext h.2.1 h.2.2
  · simp only [hasB, h1] at h
    simp at h
theorem may_room {i t : Int} {es : List Ent} (h : mayB i t es = true) : i + es.length ≤ 18446744073709551614 ∧ es.length ≤ 16 := by
  simp only [mayB, roomB, Bool.and_eq_true, decide_eq_true_eq] at h
  omega
theorem meetN_spec (i t : Int) (es : List Ent) (p : Int) (more : List Ent) : meetN i t es p more ≤ more.length ∧ (∀ j, j < meetN i t es p more → metB i t es p more j = true) ∧ (meetN i t es p more < more.length → metB i t es p more (meetN i t es p more) = false) := by
  have h1 : meetN i t es p more ≤ more.length := by
    have := (List.takeWhile_prefix (l := List.range more.length) (metB i t es p more)).length_le
    simpa [meetN] using this
  obtain ⟨k, hk, ha, hb⟩ : ∃ k, k ≤ more.length ∧ (∀ j, j < k → metB i t es p more j = true) ∧ (k < more.length → metB i t es p more k = false) := by
    clear h1
    induction more.length with
    | zero => exact ⟨0, by omega, fun j hj => by omega, fun h => by omega⟩
    | succ n ih =>
      obtain ⟨k, h1, h2, h3⟩ := ih
      rcases Nat.lt_or_ge k n with h4 | h4
      · exact ⟨k, by omega, h2, fun _ => h3 h4⟩
      · have h5 : k = n := by omega
        subst h5
        cases h6 : metB i t es p more k with
        | false => exact ⟨k, by omega, h2, fun _ => h6⟩
        | true => exact ⟨k + 1, by omega, fun j hj => by rcases Nat.lt_or_ge j k with h7 | h7; exact h2 j h7; rw [show j = k by omega]; exact h6, fun h => by omega⟩
  have h2 : meetN i t es p more = k := takeWhile_range hk ha hb
  rw [h2]
  exact ⟨hk, ha, hb⟩
/-- The spot ahead of what is not met is there. -/
theorem take_at {i t : Int} {es : List Ent} {p : Int × Int} {more : List Ent} (h : meetE i t es p more = 0) (hl : meetN i t es p.1 more < more.length) (hi0 : 0 ≤ i) (hp0 : 0 ≤ p.1) : mayB i t es = true ∧ ∃ k : Nat, k ≤ es.length ∧ i + k = p.1 + meetN i t es p.1 more ∧ p.1 + more.length ≤ 18446744073709551614 := by
  obtain ⟨h1, h2, h3⟩ := meetN_spec i t es p.1 more
  have h4 := h3 hl
  simp only [meetE] at h
  split at h
  case isFalse => cases h
  rename_i hm
  split at h
  case isFalse => cases h
  rename_i hsr
  split at h
  case isTrue => cases h
  rename_i hh
  have hr := hsr.2
  simp only [roomB, Bool.and_eq_true, decide_eq_true_eq] at hr
  obtain ⟨hr1, hr2⟩ := may_room hm
  have h5 : i < p.1 + meetN i t es p.1 more + 1 := by
    simp only [metB, Bool.not_eq_false', Bool.and_eq_true, decide_eq_true_eq] at h4
    exact h4.1
  refine ⟨hm, ?_⟩
  by_cases h0 : meetN i t es p.1 more = 0
  · rw [h0] at h5 ⊢
    have h6 : hasB i t es p.1 p.2 = true := by
      cases h7 : hasB i t es p.1 p.2
      · exact absurd ⟨by omega, h7⟩ hh
      · rfl
    obtain ⟨k, k1, k2, k3, k4⟩ := hasB_at h6
    exact ⟨k, k1, by omega, by omega⟩
  · have h6 := h2 (meetN i t es p.1 more - 1) (by omega)
    have e1 : (p.1 + ((meetN i t es p.1 more - 1 : Nat) : Int) + 1) = p.1 + meetN i t es p.1 more := by omega
    simp only [metB, e1] at h6
    by_cases h7 : i < p.1 + meetN i t es p.1 more
    · simp only [h7, decide_true, Bool.true_and, Bool.not_not] at h6
      obtain ⟨k, k1, k2, k3, k4⟩ := hasB_at h6
      exact ⟨k, k1, by omega, by omega⟩
    · exact ⟨0, by omega, by omega, by omega⟩
theorem meetR_of {i t : Int} {es : List Ent} {p : Int × Int} {more : List Ent} (h : meetE i t es p more = 0) : meetR i t es p more = (meetN i t es p.1 more : Int) := by rw [meetR, if_pos h]
theorem meetR_ne {i t : Int} {es : List Ent} {p : Int × Int} {more : List Ent} (h : meetE i t es p more ≠ 0) : meetR i t es p more = 0 := by rw [meetR, if_neg h]
theorem take_all6 {i t : Int} {es : List Ent} {p : Int × Int} {more : List Ent} (h : meetE i t es p more = 0) (hl : ¬ meetN i t es p.1 more < more.length) : p.1 + more.length ≤ 18446744073709551614 ∧ meetN i t es p.1 more = more.length := by
  obtain ⟨h1, _, _⟩ := meetN_spec i t es p.1 more
  simp only [meetE] at h
  split at h
  case isFalse => cases h
  split at h
  case isFalse => cases h
  rename_i hsr
  have hr := hsr.2
  simp only [roomB, Bool.and_eq_true, decide_eq_true_eq] at hr
  omega
/-- What Take says, and what the log is then. -/
def takeQ (i t : Int) (es : List Ent) (p : Int × Int) (more : List Ent) : Nat := (p.1 + meetN i t es p.1 more - i).toNat
def takeE (i t : Int) (es : List Ent) (p : Int × Int) (more : List Ent) : Int :=
  if meetE i t es p more = 0 then (if meetN i t es p.1 more < more.length then extE i t (es.take (takeQ i t es p more)) (more.drop (meetN i t es p.1 more)) else 0) else meetE i t es p more
def takeL (i t : Int) (es : List Ent) (p : Int × Int) (more : List Ent) : List Ent := if meetN i t es p.1 more < more.length then es.take (takeQ i t es p more) ++ more.drop (meetN i t es p.1 more) else es
def takeA (i t : Int) (es : List Ent) (p : Int × Int) (more : List Ent) : Int := if takeE i t es p more = 0 then p.1 + more.length else 0
/-- What From says. -/
def fromE (i t : Int) (es : List Ent) (x n : Int) : Int := if (aheadN i t es x).2 = 0 then (if n < 0 then 2 else 0) else (aheadN i t es x).2
def fromA (i t : Int) (es : List Ent) (x n : Int) : Int × Int := if fromE i t es x n = 0 then spotN i t es (aheadN i t es x).1.toNat else (0, 0)
def fromL (i t : Int) (es : List Ent) (x n : Int) : List Ent := if fromE i t es x n = 0 then (es.drop (aheadN i t es x).1.toNat).take n.toNat else []

set_option maxRecDepth 20000 in
set_option maxHeartbeats 1000000 in
theorem meet_T (b b' : Bool) (i t : Int) (es : List Ent) (h : okE es) (hi0 : 0 ≤ i) (hi1 : i < 18446744073709551616) (b2 b2' : Bool) (more : List Ent) (h2 : okE more) (p : Int × Int) (hp0 : 0 ≤ p.1) (hp1 : p.1 < 18446744073709551616) :
    TMeets Try.prog 24 [logT i t (.sl b (es.map (entC b'))), atT p, .sl b2 (more.map (entC b2'))] (.tup [.v (.int .i64 (meetR i t es p more)), .v (.int .i64 (meetE i t es p more))]) := by
  refine TMeets.of_TW Try.func24 rfl (by simp [PuL, Pu, logT, atT, pu_ents, entC, pu_bytes]) ?_
  intro B w0
  rw [Try.ntmps24]
  simp only [untagL, untag, List.length_cons, List.length_nil, List.replicate_succ, List.replicate_zero, Nat.reduceAdd, Nat.reduceSub, List.cons_append, List.nil_append, logT, atT, untag_ents, untag_bytes, entC]
  refine TW.seq_k ?_
  intro K1_ hK1_
  refine TW.reg ?_
  refine TL.st rfl (S_box rfl rfl) ?_
  intro σ_ hσ_; simp only [nrm, tev, St.step, putO, setsV, addO, ↓reduceIte, Nat.reduceAdd, logT, atT, intern, internL, kp_ents, fz_ents, fz_bytes, kp_bytes, logR, logE, ← List.map_take, ← List.map_drop, List.take_length] at hσ_; subst hσ_
  refine TL.st rfl (S_box rfl rfl) ?_
  intro σ_ hσ_; simp only [nrm, tev, St.step, putO, setsV, addO, ↓reduceIte, Nat.reduceAdd, logT, atT, intern, internL, kp_ents, fz_ents, fz_bytes, kp_bytes, logR, logE, ← List.map_take, ← List.map_drop, List.take_length] at hσ_; subst hσ_
  refine TL.st rfl (S_assign rfl) ?_
  intro σ_ hσ_; simp only [nrm, tev, St.step, putO, setsV, addO, ↓reduceIte, Nat.reduceAdd, logT, atT, intern, internL, kp_ents, fz_ents, fz_bytes, kp_bytes, logR, logE, ← List.map_take, ← List.map_drop, List.take_length] at hσ_; subst hσ_
  refine TL.st rfl (S_assign rfl) ?_
  intro σ_ hσ_; simp only [nrm, tev, St.step, putO, setsV, addO, ↓reduceIte, Nat.reduceAdd, logT, atT, intern, internL, kp_ents, fz_ents, fz_bytes, kp_bytes, logR, logE, ← List.map_take, ← List.map_drop, List.take_length] at hσ_; subst hσ_
  refine TL.nil ?_
  try simp (decide := true) only [thenT, inBlockT, noGotoT, jumpT, ↓reduceIte, true_and]
  refine hK1_ _ ?_
  refine TW.seq_k ?_
  intro K2_ hK2_
  refine TW.reg ?_
  first | refine TL.st rfl (S_load rfl rfl rfl (tT rfl) rfl) ?_ | refine TL.st rfl (S_load_eptr rfl rfl (tT rfl) rfl) ?_ | refine TL.st rfl (S_load_row rfl rfl rfl rfl (by assumption) (tT rfl) rfl) ?_ | refine TL.st rfl (S_load_row (j := 0) rfl rfl rfl rfl (by assumption) (tT rfl) rfl) ?_
  intro σ_ hσ_; simp only [nrm, tev, St.step, putO, setsV, addO, ↓reduceIte, Nat.reduceAdd, logT, atT, intern, internL, kp_ents, fz_ents, fz_bytes, kp_bytes, logR, logE, ← List.map_take, ← List.map_drop, List.take_length] at hσ_; subst hσ_
  refine TL.st rfl (S_build rfl (tT rfl) rfl (zT rfl) rfl (by repeat (first | exact PlOk.nil | (apply PlOk.cons; exact tT rfl))) rfl rfl) ?_
  intro σ_ hσ_; simp only [nrm, tev, St.step, putO, setsV, addO, ↓reduceIte, Nat.reduceAdd, logT, atT, intern, internL, kp_ents, fz_ents, fz_bytes, kp_bytes, logR, logE, ← List.map_take, ← List.map_drop, List.take_length] at hσ_; subst hσ_
  first | refine TL.st rfl (S_load rfl rfl rfl (tT rfl) rfl) ?_ | refine TL.st rfl (S_load_eptr rfl rfl (tT rfl) rfl) ?_ | refine TL.st rfl (S_load_row rfl rfl rfl rfl (by assumption) (tT rfl) rfl) ?_ | refine TL.st rfl (S_load_row (j := 0) rfl rfl rfl rfl (by assumption) (tT rfl) rfl) ?_
  intro σ_ hσ_; simp only [nrm, tev, St.step, putO, setsV, addO, ↓reduceIte, Nat.reduceAdd, logT, atT, intern, internL, kp_ents, fz_ents, fz_bytes, kp_bytes, logR, logE, ← List.map_take, ← List.map_drop, List.take_length] at hσ_; subst hσ_
  refine TL.st rfl (S_move rfl) ?_
  intro σ_ hσ_; simp only [nrm, tev, St.step, putO, setsV, addO, ↓reduceIte, Nat.reduceAdd, logT, atT, intern, internL, kp_ents, fz_ents, fz_bytes, kp_bytes, logR, logE, ← List.map_take, ← List.map_drop, List.take_length] at hσ_; subst hσ_
  first | refine TL.st rfl (S_call_row rfl rfl rfl (by kernel_rfl) rfl (meet0_T _ _ _ _ _ h hi0 hi1 _ _ _ h2 _ hp0 hp1) rfl) ?_ | refine TL.st rfl (S_call rfl rfl rfl (by kernel_rfl) rfl (meet0_T _ _ _ _ _ h hi0 hi1 _ _ _ h2 _ hp0 hp1)) ?_
  intro σ_ hσ_; simp only [nrm, tev, St.step, putO, setsV, addO, ↓reduceIte, Nat.reduceAdd, logT, atT, intern, internL, kp_ents, fz_ents, fz_bytes, kp_bytes, logR, logE, ← List.map_take, ← List.map_drop, List.take_length] at hσ_; subst hσ_
  refine TL.st rfl (S_extract rfl rfl rfl) ?_
  intro σ_ hσ_; simp only [nrm, tev, St.step, putO, setsV, addO, ↓reduceIte, Nat.reduceAdd, logT, atT, intern, internL, kp_ents, fz_ents, fz_bytes, kp_bytes, logR, logE, ← List.map_take, ← List.map_drop, List.take_length] at hσ_; subst hσ_
  refine TL.st rfl (S_extract rfl rfl rfl) ?_
  intro σ_ hσ_; simp only [nrm, tev, St.step, putO, setsV, addO, ↓reduceIte, Nat.reduceAdd, logT, atT, intern, internL, kp_ents, fz_ents, fz_bytes, kp_bytes, logR, logE, ← List.map_take, ← List.map_drop, List.take_length] at hσ_; subst hσ_
  refine TL.st rfl (S_assign rfl) ?_
  intro σ_ hσ_; simp only [nrm, tev, St.step, putO, setsV, addO, ↓reduceIte, Nat.reduceAdd, logT, atT, intern, internL, kp_ents, fz_ents, fz_bytes, kp_bytes, logR, logE, ← List.map_take, ← List.map_drop, List.take_length] at hσ_; subst hσ_
  refine TL.st rfl (S_assign rfl) ?_
  intro σ_ hσ_; simp only [nrm, tev, St.step, putO, setsV, addO, ↓reduceIte, Nat.reduceAdd, logT, atT, intern, internL, kp_ents, fz_ents, fz_bytes, kp_bytes, logR, logE, ← List.map_take, ← List.map_drop, List.take_length] at hσ_; subst hσ_
  refine TL.nil ?_
  try simp (decide := true) only [thenT, inBlockT, noGotoT, jumpT, ↓reduceIte, true_and]
  refine hK2_ _ ?_
  refine TW.ret ?_
  try simp (decide := true) only [thenT, inBlockT, noGotoT, jumpT, ↓reduceIte, true_and]
  refine ⟨.inr rfl, _, none, (ResT.two Try.results24 rfl rfl), ?_, (by rintro _ ⟨⟩)⟩
  simp only [nrm, tev, Out_v, Out_agg, Out_tup, OutL_nil, OutL_cons, Out_sl, Out_row_osl, Out_nil_osl, Out_nil_sl, Out_nil_nil, and_true, true_and, logT, atT, logR, logE, fr_ents, hf, List.getD_cons_zero, List.getD_cons_succ]
  done

set_option maxRecDepth 20000 in
set_option maxHeartbeats 1000000 in
theorem take_T (b b' : Bool) (i t : Int) (es : List Ent) (h : okE es) (hi0 : 0 ≤ i) (hi1 : i < 18446744073709551616) (b2 b2' : Bool) (more : List Ent) (h2 : okE more) (p : Int × Int) (hp0 : 0 ≤ p.1) (hp1 : p.1 < 18446744073709551616) :
    TMeets Try.prog 26 [logT i t (.sl b (es.map (entC b'))), atT p, .sl b2 (more.map (entC b2'))] (.tup [logE (takeE i t es p more) i t (takeL i t es p more), .v (.int .u64 (takeA i t es p more)), .v (.int .i64 (takeE i t es p more))]) := by
  refine TMeets.of_TW Try.func26 rfl (by simp [PuL, Pu, logT, atT, pu_ents, entC, pu_bytes]) ?_
  intro B w0
  rw [Try.ntmps26]
  simp only [untagL, untag, List.length_cons, List.length_nil, List.replicate_succ, List.replicate_zero, Nat.reduceAdd, Nat.reduceSub, List.cons_append, List.nil_append, logT, atT, untag_ents, untag_bytes, entC]
  have hb1_ := h.n; have hb2_ := h2.n
  refine TW.seq_k ?_
  intro K1_ hK1_
  refine TW.reg ?_
  refine TL.st rfl (S_box rfl rfl) ?_
  intro σ_ hσ_; simp only [nrm, tev, St.step, putO, setsV, addO, ↓reduceIte, Nat.reduceAdd, logT, atT, intern, internL, kp_ents, fz_ents, fz_bytes, kp_bytes, logR, logE, ← List.map_take, ← List.map_drop, List.take_length] at hσ_; subst hσ_
  refine TL.st rfl (S_box rfl rfl) ?_
  intro σ_ hσ_; simp only [nrm, tev, St.step, putO, setsV, addO, ↓reduceIte, Nat.reduceAdd, logT, atT, intern, internL, kp_ents, fz_ents, fz_bytes, kp_bytes, logR, logE, ← List.map_take, ← List.map_drop, List.take_length] at hσ_; subst hσ_
  refine TL.st rfl (S_alloc rfl (zT rfl) rfl) ?_
  intro σ_ hσ_; simp only [nrm, tev, St.step, putO, setsV, addO, ↓reduceIte, Nat.reduceAdd, logT, atT, intern, internL, kp_ents, fz_ents, fz_bytes, kp_bytes, logR, logE, ← List.map_take, ← List.map_drop, List.take_length] at hσ_; subst hσ_
  refine TL.st rfl (S_assign rfl) ?_
  intro σ_ hσ_; simp only [nrm, tev, St.step, putO, setsV, addO, ↓reduceIte, Nat.reduceAdd, logT, atT, intern, internL, kp_ents, fz_ents, fz_bytes, kp_bytes, logR, logE, ← List.map_take, ← List.map_drop, List.take_length] at hσ_; subst hσ_
  refine TL.st rfl (S_assign rfl) ?_
  intro σ_ hσ_; simp only [nrm, tev, St.step, putO, setsV, addO, ↓reduceIte, Nat.reduceAdd, logT, atT, intern, internL, kp_ents, fz_ents, fz_bytes, kp_bytes, logR, logE, ← List.map_take, ← List.map_drop, List.take_length] at hσ_; subst hσ_
  refine TL.nil ?_
  try simp (decide := true) only [thenT, inBlockT, noGotoT, jumpT, ↓reduceIte, true_and]
  refine hK1_ _ ?_
  refine TW.seq_k ?_
  intro K2_ hK2_
  refine TW.reg ?_
  first | refine TL.st rfl (S_load rfl rfl rfl (tT rfl) rfl) ?_ | refine TL.st rfl (S_load_eptr rfl rfl (tT rfl) rfl) ?_ | refine TL.st rfl (S_load_row rfl rfl rfl rfl (by assumption) (tT rfl) rfl) ?_ | refine TL.st rfl (S_load_row (j := 0) rfl rfl rfl rfl (by assumption) (tT rfl) rfl) ?_
  intro σ_ hσ_; simp only [nrm, tev, St.step, putO, setsV, addO, ↓reduceIte, Nat.reduceAdd, logT, atT, intern, internL, kp_ents, fz_ents, fz_bytes, kp_bytes, logR, logE, ← List.map_take, ← List.map_drop, List.take_length] at hσ_; subst hσ_
  refine TL.st rfl (S_build rfl (tT rfl) rfl (zT rfl) rfl (by repeat (first | exact PlOk.nil | (apply PlOk.cons; exact tT rfl))) rfl rfl) ?_
  intro σ_ hσ_; simp only [nrm, tev, St.step, putO, setsV, addO, ↓reduceIte, Nat.reduceAdd, logT, atT, intern, internL, kp_ents, fz_ents, fz_bytes, kp_bytes, logR, logE, ← List.map_take, ← List.map_drop, List.take_length] at hσ_; subst hσ_
  refine TL.st rfl (S_alloc rfl (zT rfl) rfl) ?_
  intro σ_ hσ_; simp only [nrm, tev, St.step, putO, setsV, addO, ↓reduceIte, Nat.reduceAdd, logT, atT, intern, internL, kp_ents, fz_ents, fz_bytes, kp_bytes, logR, logE, ← List.map_take, ← List.map_drop, List.take_length] at hσ_; subst hσ_
  first | refine TL.sto rfl rfl rfl rfl (tT rfl) rfl rfl rfl (Nat.le_of_ble_eq_true rfl) ?_ | refine TL.sto_row rfl rfl rfl rfl rfl (by assumption) (tT rfl) rfl rfl rfl (Nat.le_of_ble_eq_true rfl) ?_ | refine TL.sto_row (j := 0) rfl rfl rfl rfl rfl (by assumption) (tT rfl) rfl rfl rfl (Nat.le_of_ble_eq_true rfl) ?_
  intro σ_ hσ_; simp only [nrm, tev, St.step, putO, setsV, addO, ↓reduceIte, Nat.reduceAdd, logT, atT, intern, internL, kp_ents, fz_ents, fz_bytes, kp_bytes, logR, logE, ← List.map_take, ← List.map_drop, List.take_length] at hσ_; subst hσ_
  refine TL.nil ?_
  try simp (decide := true) only [thenT, inBlockT, noGotoT, jumpT, ↓reduceIte, true_and]
  refine hK2_ _ ?_
  refine TW.seq_k ?_
  intro K3_ hK3_
  rcases (show (meetE i t es p more = 0 ∧ meetN i t es p.1 more < more.length) ∨ (meetE i t es p more = 0 ∧ ¬ meetN i t es p.1 more < more.length) ∨ meetE i t es p more ≠ 0 by omega) with ⟨he, hl⟩ | ⟨he, hl⟩ | he
  · skip
    obtain ⟨hm, k, hk, hkp, hpm⟩ := take_at he hl hi0 hp0
    have hcl2 := ent_len false more
    have hK : takeQ i t es p more = k := by unfold takeQ; omega
    refine TW.reg ?_
    first | refine TL.st rfl (S_load rfl rfl rfl (tT rfl) rfl) ?_ | refine TL.st rfl (S_load_eptr rfl rfl (tT rfl) rfl) ?_ | refine TL.st rfl (S_load_row rfl rfl rfl rfl (by assumption) (tT rfl) rfl) ?_ | refine TL.st rfl (S_load_row (j := 0) rfl rfl rfl rfl (by assumption) (tT rfl) rfl) ?_
    intro σ_ hσ_; simp only [nrm, tev, St.step, putO, setsV, addO, ↓reduceIte, Nat.reduceAdd, logT, atT, intern, internL, kp_ents, fz_ents, fz_bytes, kp_bytes, logR, logE, ← List.map_take, ← List.map_drop, List.take_length] at hσ_; subst hσ_
    first | refine TL.st rfl (S_load rfl rfl rfl (tT rfl) rfl) ?_ | refine TL.st rfl (S_load_eptr rfl rfl (tT rfl) rfl) ?_ | refine TL.st rfl (S_load_row rfl rfl rfl rfl (by assumption) (tT rfl) rfl) ?_ | refine TL.st rfl (S_load_row (j := 0) rfl rfl rfl rfl (by assumption) (tT rfl) rfl) ?_
    intro σ_ hσ_; simp only [nrm, tev, St.step, putO, setsV, addO, ↓reduceIte, Nat.reduceAdd, logT, atT, intern, internL, kp_ents, fz_ents, fz_bytes, kp_bytes, logR, logE, ← List.map_take, ← List.map_drop, List.take_length] at hσ_; subst hσ_
    refine TL.st rfl (S_move rfl) ?_
    intro σ_ hσ_; simp only [nrm, tev, St.step, putO, setsV, addO, ↓reduceIte, Nat.reduceAdd, logT, atT, intern, internL, kp_ents, fz_ents, fz_bytes, kp_bytes, logR, logE, ← List.map_take, ← List.map_drop, List.take_length] at hσ_; subst hσ_
    first | refine TL.st rfl (S_call_row rfl rfl rfl (by kernel_rfl) rfl ((meet0_T _ _ _ _ _ h hi0 hi1 _ _ _ h2 _ hp0 hp1).eq rfl (by rw [meetR_of he, he])) rfl) ?_ | refine TL.st rfl (S_call rfl rfl rfl (by kernel_rfl) rfl ((meet0_T _ _ _ _ _ h hi0 hi1 _ _ _ h2 _ hp0 hp1).eq rfl (by rw [meetR_of he, he]))) ?_ | refine TL.st rfl (S_call_row rfl rfl rfl (by kernel_rfl) rfl ((meet0_T _ _ _ _ _ h hi0 hi1 _ _ _ h2 _ hp0 hp1).eq rfl (by rw [meetR_ne he])) rfl) ?_ | refine TL.st rfl (S_call rfl rfl rfl (by kernel_rfl) rfl ((meet0_T _ _ _ _ _ h hi0 hi1 _ _ _ h2 _ hp0 hp1).eq rfl (by rw [meetR_ne he]))) ?_
    intro σ_ hσ_; simp only [nrm, tev, St.step, putO, setsV, addO, ↓reduceIte, Nat.reduceAdd, logT, atT, intern, internL, kp_ents, fz_ents, fz_bytes, kp_bytes, logR, logE, ← List.map_take, ← List.map_drop, List.take_length] at hσ_; subst hσ_
    refine TL.st rfl (S_move rfl) ?_
    intro σ_ hσ_; simp only [nrm, tev, St.step, putO, setsV, addO, ↓reduceIte, Nat.reduceAdd, logT, atT, intern, internL, kp_ents, fz_ents, fz_bytes, kp_bytes, logR, logE, ← List.map_take, ← List.map_drop, List.take_length] at hσ_; subst hσ_
    refine TL.st rfl (S_extract rfl rfl rfl) ?_
    intro σ_ hσ_; simp only [nrm, tev, St.step, putO, setsV, addO, ↓reduceIte, Nat.reduceAdd, logT, atT, intern, internL, kp_ents, fz_ents, fz_bytes, kp_bytes, logR, logE, ← List.map_take, ← List.map_drop, List.take_length] at hσ_; subst hσ_
    refine TL.st rfl (S_extract rfl rfl rfl) ?_
    intro σ_ hσ_; simp only [nrm, tev, St.step, putO, setsV, addO, ↓reduceIte, Nat.reduceAdd, logT, atT, intern, internL, kp_ents, fz_ents, fz_bytes, kp_bytes, logR, logE, ← List.map_take, ← List.map_drop, List.take_length] at hσ_; subst hσ_
    refine TL.st rfl (S_assign rfl) ?_
    intro σ_ hσ_; simp only [nrm, tev, St.step, putO, setsV, addO, ↓reduceIte, Nat.reduceAdd, logT, atT, intern, internL, kp_ents, fz_ents, fz_bytes, kp_bytes, logR, logE, ← List.map_take, ← List.map_drop, List.take_length] at hσ_; subst hσ_
    refine TL.st rfl (S_assign rfl) ?_
    intro σ_ hσ_; simp only [nrm, tev, St.step, putO, setsV, addO, ↓reduceIte, Nat.reduceAdd, logT, atT, intern, internL, kp_ents, fz_ents, fz_bytes, kp_bytes, logR, logE, ← List.map_take, ← List.map_drop, List.take_length] at hσ_; subst hσ_
    refine TL.nil ?_
    try simp (decide := true) only [thenT, inBlockT, noGotoT, jumpT, ↓reduceIte, true_and]
    refine hK3_ _ ?_
    refine TW.seq_k ?_
    intro K4_ hK4_
    refine TW.seq_k ?_
    intro K5_ hK5_
    refine TW.reg ?_
    refine TL.st rfl (S_move rfl) ?_
    intro σ_ hσ_; simp only [nrm, tev, St.step, putO, setsV, addO, ↓reduceIte, Nat.reduceAdd, logT, atT, intern, internL, kp_ents, fz_ents, fz_bytes, kp_bytes, logR, logE, ← List.map_take, ← List.map_drop, List.take_length] at hσ_; subst hσ_
    first | refine TL.st rfl (S_int rfl rfl rfl rfl (vnt (by omega))) ?_ | refine TL.st rfl (S_int rfl rfl rfl rfl (vnf (by omega))) ?_ | refine TL.st rfl (S_int rfl rfl rfl rfl rfl) ?_ | refine TL.st rfl (S_boolneq rfl rfl rfl rfl (tT rfl) rfl) ?_
    intro σ_ hσ_; simp only [nrm, tev, St.step, putO, setsV, addO, ↓reduceIte, Nat.reduceAdd, logT, atT, intern, internL, kp_ents, fz_ents, fz_bytes, kp_bytes, logR, logE, ← List.map_take, ← List.map_drop, List.take_length] at hσ_; subst hσ_
    refine TL.nil ?_
    try simp (decide := true) only [thenT, inBlockT, noGotoT, jumpT, ↓reduceIte, true_and]
    refine hK5_ _ ?_
    refine TW.cond_f rfl (rfl) ?_
    refine TW.skip ?_
    try simp (decide := true) only [thenT, inBlockT, noGotoT, jumpT, ↓reduceIte, true_and]
    refine hK4_ _ ?_
    refine TW.seq_k ?_
    intro K6_ hK6_
    refine TW.reg ?_
    first | refine TL.st rfl (S_load rfl rfl rfl (tT rfl) rfl) ?_ | refine TL.st rfl (S_load_eptr rfl rfl (tT rfl) rfl) ?_ | refine TL.st rfl (S_load_row rfl rfl rfl rfl (by assumption) (tT rfl) rfl) ?_ | refine TL.st rfl (S_load_row (j := 0) rfl rfl rfl rfl (by assumption) (tT rfl) rfl) ?_
    intro σ_ hσ_; simp only [nrm, tev, St.step, putO, setsV, addO, ↓reduceIte, Nat.reduceAdd, logT, atT, intern, internL, kp_ents, fz_ents, fz_bytes, kp_bytes, logR, logE, ← List.map_take, ← List.map_drop, List.take_length] at hσ_; subst hσ_
    first | refine TL.st rfl (S_fieldAddr rfl rfl (tT rfl) rfl rfl (tT rfl) (by decide)) ?_ | refine TL.st rfl (S_fieldAddr_eptr rfl rfl (tT rfl) rfl rfl (tT rfl) (by decide)) ?_
    intro σ_ hσ_; simp only [nrm, tev, St.step, putO, setsV, addO, ↓reduceIte, Nat.reduceAdd, logT, atT, intern, internL, kp_ents, fz_ents, fz_bytes, kp_bytes, logR, logE, ← List.map_take, ← List.map_drop, List.take_length] at hσ_; subst hσ_
    first | refine TL.st rfl (S_fieldAddr rfl rfl (tT rfl) rfl rfl (tT rfl) (by decide)) ?_ | refine TL.st rfl (S_fieldAddr_eptr rfl rfl (tT rfl) rfl rfl (tT rfl) (by decide)) ?_
    intro σ_ hσ_; simp only [nrm, tev, St.step, putO, setsV, addO, ↓reduceIte, Nat.reduceAdd, logT, atT, intern, internL, kp_ents, fz_ents, fz_bytes, kp_bytes, logR, logE, ← List.map_take, ← List.map_drop, List.take_length] at hσ_; subst hσ_
    first | refine TL.st rfl (S_load rfl rfl rfl (tT rfl) rfl) ?_ | refine TL.st rfl (S_load_eptr rfl rfl (tT rfl) rfl) ?_ | refine TL.st rfl (S_load_row rfl rfl rfl rfl (by assumption) (tT rfl) rfl) ?_ | refine TL.st rfl (S_load_row (j := 0) rfl rfl rfl rfl (by assumption) (tT rfl) rfl) ?_
    intro σ_ hσ_; simp only [nrm, tev, St.step, putO, setsV, addO, ↓reduceIte, Nat.reduceAdd, logT, atT, intern, internL, kp_ents, fz_ents, fz_bytes, kp_bytes, logR, logE, ← List.map_take, ← List.map_drop, List.take_length] at hσ_; subst hσ_
    first | refine TL.st rfl (S_len rfl rfl (tT rfl) rfl (.inl ⟨_, _, rfl, rfl⟩)) ?_ | refine TL.st rfl (S_len rfl rfl (tT rfl) rfl (.inr (.inl ⟨_, _, _, _, rfl, rfl, rfl⟩))) ?_ | refine TL.st rfl (S_len rfl rfl (tT rfl) rfl (.inr (.inr ⟨rfl, rfl⟩))) ?_ | refine TL.st rfl (S_len_str rfl rfl (tT rfl) rfl rfl) ?_ | refine TL.st rfl (S_len_arr rfl rfl (tT rfl) rfl) ?_
    intro σ_ hσ_; simp only [nrm, tev, St.step, putO, setsV, addO, ↓reduceIte, Nat.reduceAdd, logT, atT, intern, internL, kp_ents, fz_ents, fz_bytes, kp_bytes, logR, logE, ← List.map_take, ← List.map_drop, List.take_length] at hσ_; subst hσ_
    first | refine TL.st rfl (S_call_row rfl rfl rfl (by kernel_rfl) rfl ((part0_T _ _ _ _ _ h hi0 hi1 _ (Nat.le_refl _)).eq rfl (by rw [List.take_of_length_le (Nat.le_refl _)])) rfl) ?_ | refine TL.st rfl (S_call rfl rfl rfl (by kernel_rfl) rfl ((part0_T _ _ _ _ _ h hi0 hi1 _ (Nat.le_refl _)).eq rfl (by rw [List.take_of_length_le (Nat.le_refl _)]))) ?_
    intro σ_ hσ_; simp only [nrm, tev, St.step, putO, setsV, addO, ↓reduceIte, Nat.reduceAdd, logT, atT, intern, internL, kp_ents, fz_ents, fz_bytes, kp_bytes, logR, logE, ← List.map_take, ← List.map_drop, List.take_length] at hσ_; subst hσ_
    refine TL.st rfl (S_alloc rfl (zT rfl) rfl) ?_
    intro σ_ hσ_; simp only [nrm, tev, St.step, putO, setsV, addO, ↓reduceIte, Nat.reduceAdd, logT, atT, intern, internL, kp_ents, fz_ents, fz_bytes, kp_bytes, logR, logE, ← List.map_take, ← List.map_drop, List.take_length] at hσ_; subst hσ_
    first | refine TL.sto rfl rfl rfl rfl (tT rfl) rfl rfl rfl (Nat.le_of_ble_eq_true rfl) ?_ | refine TL.sto_row rfl rfl rfl rfl rfl (by assumption) (tT rfl) rfl rfl rfl (Nat.le_of_ble_eq_true rfl) ?_ | refine TL.sto_row (j := 0) rfl rfl rfl rfl rfl (by assumption) (tT rfl) rfl rfl rfl (Nat.le_of_ble_eq_true rfl) ?_
    intro σ_ hσ_; simp only [nrm, tev, St.step, putO, setsV, addO, ↓reduceIte, Nat.reduceAdd, logT, atT, intern, internL, kp_ents, fz_ents, fz_bytes, kp_bytes, logR, logE, ← List.map_take, ← List.map_drop, List.take_length] at hσ_; subst hσ_
    refine TL.nil ?_
    try simp (decide := true) only [thenT, inBlockT, noGotoT, jumpT, ↓reduceIte, true_and]
    refine hK6_ _ ?_
    refine TW.seq_k ?_
    intro K7_ hK7_
    refine TW.seq_k ?_
    intro K8_ hK8_
    refine TW.reg ?_
    refine TL.st rfl (S_move rfl) ?_
    intro σ_ hσ_; simp only [nrm, tev, St.step, putO, setsV, addO, ↓reduceIte, Nat.reduceAdd, logT, atT, intern, internL, kp_ents, fz_ents, fz_bytes, kp_bytes, logR, logE, ← List.map_take, ← List.map_drop, List.take_length] at hσ_; subst hσ_
    refine TL.st rfl (S_move rfl) ?_
    intro σ_ hσ_; simp only [nrm, tev, St.step, putO, setsV, addO, ↓reduceIte, Nat.reduceAdd, logT, atT, intern, internL, kp_ents, fz_ents, fz_bytes, kp_bytes, logR, logE, ← List.map_take, ← List.map_drop, List.take_length] at hσ_; subst hσ_
    first | refine TL.st rfl (S_len rfl rfl (tT rfl) rfl (.inl ⟨_, _, rfl, rfl⟩)) ?_ | refine TL.st rfl (S_len rfl rfl (tT rfl) rfl (.inr (.inl ⟨_, _, _, _, rfl, rfl, rfl⟩))) ?_ | refine TL.st rfl (S_len rfl rfl (tT rfl) rfl (.inr (.inr ⟨rfl, rfl⟩))) ?_ | refine TL.st rfl (S_len_str rfl rfl (tT rfl) rfl rfl) ?_ | refine TL.st rfl (S_len_arr rfl rfl (tT rfl) rfl) ?_
    intro σ_ hσ_; simp only [nrm, tev, St.step, putO, setsV, addO, ↓reduceIte, Nat.reduceAdd, logT, atT, intern, internL, kp_ents, fz_ents, fz_bytes, kp_bytes, logR, logE, ← List.map_take, ← List.map_drop, List.take_length] at hσ_; subst hσ_
    first | refine TL.st rfl (S_int rfl rfl rfl rfl (vbt (by omega))) ?_ | refine TL.st rfl (S_int rfl rfl rfl rfl (vbf (by omega))) ?_ | refine TL.st rfl (S_int rfl rfl rfl rfl rfl) ?_
    intro σ_ hσ_; simp only [nrm, tev, St.step, putO, setsV, addO, ↓reduceIte, Nat.reduceAdd, logT, atT, intern, internL, kp_ents, fz_ents, fz_bytes, kp_bytes, logR, logE, ← List.map_take, ← List.map_drop, List.take_length] at hσ_; subst hσ_
    refine TL.nil ?_
    try simp (decide := true) only [thenT, inBlockT, noGotoT, jumpT, ↓reduceIte, true_and]
    refine hK8_ _ ?_
    refine TW.cond_t rfl (rfl) ?_
    refine TW.seq_k ?_
    intro K9_ hK9_
    refine TW.reg ?_
    first | refine TL.st rfl (S_fieldAddr rfl rfl (tT rfl) rfl rfl (tT rfl) (by decide)) ?_ | refine TL.st rfl (S_fieldAddr_eptr rfl rfl (tT rfl) rfl rfl (tT rfl) (by decide)) ?_
    intro σ_ hσ_; simp only [nrm, tev, St.step, putO, setsV, addO, ↓reduceIte, Nat.reduceAdd, logT, atT, intern, internL, kp_ents, fz_ents, fz_bytes, kp_bytes, logR, logE, ← List.map_take, ← List.map_drop, List.take_length] at hσ_; subst hσ_
    first | refine TL.st rfl (S_load rfl rfl rfl (tT rfl) rfl) ?_ | refine TL.st rfl (S_load_eptr rfl rfl (tT rfl) rfl) ?_ | refine TL.st rfl (S_load_row rfl rfl rfl rfl (by assumption) (tT rfl) rfl) ?_ | refine TL.st rfl (S_load_row (j := 0) rfl rfl rfl rfl (by assumption) (tT rfl) rfl) ?_
    intro σ_ hσ_; simp only [nrm, tev, St.step, putO, setsV, addO, ↓reduceIte, Nat.reduceAdd, logT, atT, intern, internL, kp_ents, fz_ents, fz_bytes, kp_bytes, logR, logE, ← List.map_take, ← List.map_drop, List.take_length] at hσ_; subst hσ_
    refine TL.st rfl (S_move rfl) ?_
    intro σ_ hσ_; simp only [nrm, tev, St.step, putO, setsV, addO, ↓reduceIte, Nat.reduceAdd, logT, atT, intern, internL, kp_ents, fz_ents, fz_bytes, kp_bytes, logR, logE, ← List.map_take, ← List.map_drop, List.take_length] at hσ_; subst hσ_
    first | refine TL.st rfl (S_conv_int rfl rfl (tT rfl) (tT rfl) rfl (vi64 (by omega))) ?_ | refine TL.st rfl (S_conv_int rfl rfl (tT rfl) (tT rfl) rfl (vu64 (by omega))) ?_ | refine TL.st rfl (S_conv_int rfl rfl (tT rfl) (tT rfl) rfl (vu8 (by omega))) ?_ | refine TL.st rfl (S_conv_int rfl rfl (tT rfl) (tT rfl) rfl rfl) ?_ | refine TL.st rfl (S_conv_str rfl rfl (tT rfl) (tT rfl) rfl) ?_
    intro σ_ hσ_; simp only [nrm, tev, St.step, putO, setsV, addO, ↓reduceIte, Nat.reduceAdd, logT, atT, intern, internL, kp_ents, fz_ents, fz_bytes, kp_bytes, logR, logE, ← List.map_take, ← List.map_drop, List.take_length] at hσ_; subst hσ_
    first | refine TL.st rfl (S_int rfl rfl rfl rfl (vi64 (by omega))) ?_ | refine TL.st rfl (S_int rfl rfl rfl rfl (vu64 (by omega))) ?_ | refine TL.st rfl (S_int rfl rfl rfl rfl rfl) ?_
    intro σ_ hσ_; simp only [nrm, tev, St.step, putO, setsV, addO, ↓reduceIte, Nat.reduceAdd, logT, atT, intern, internL, kp_ents, fz_ents, fz_bytes, kp_bytes, logR, logE, ← List.map_take, ← List.map_drop, List.take_length] at hσ_; subst hσ_
    first | refine TL.st rfl (S_fieldAddr rfl rfl (tT rfl) rfl rfl (tT rfl) (by decide)) ?_ | refine TL.st rfl (S_fieldAddr_eptr rfl rfl (tT rfl) rfl rfl (tT rfl) (by decide)) ?_
    intro σ_ hσ_; simp only [nrm, tev, St.step, putO, setsV, addO, ↓reduceIte, Nat.reduceAdd, logT, atT, intern, internL, kp_ents, fz_ents, fz_bytes, kp_bytes, logR, logE, ← List.map_take, ← List.map_drop, List.take_length] at hσ_; subst hσ_
    first | refine TL.st rfl (S_fieldAddr rfl rfl (tT rfl) rfl rfl (tT rfl) (by decide)) ?_ | refine TL.st rfl (S_fieldAddr_eptr rfl rfl (tT rfl) rfl rfl (tT rfl) (by decide)) ?_
    intro σ_ hσ_; simp only [nrm, tev, St.step, putO, setsV, addO, ↓reduceIte, Nat.reduceAdd, logT, atT, intern, internL, kp_ents, fz_ents, fz_bytes, kp_bytes, logR, logE, ← List.map_take, ← List.map_drop, List.take_length] at hσ_; subst hσ_
    first | refine TL.st rfl (S_fieldAddr rfl rfl (tT rfl) rfl rfl (tT rfl) (by decide)) ?_ | refine TL.st rfl (S_fieldAddr_eptr rfl rfl (tT rfl) rfl rfl (tT rfl) (by decide)) ?_
    intro σ_ hσ_; simp only [nrm, tev, St.step, putO, setsV, addO, ↓reduceIte, Nat.reduceAdd, logT, atT, intern, internL, kp_ents, fz_ents, fz_bytes, kp_bytes, logR, logE, ← List.map_take, ← List.map_drop, List.take_length] at hσ_; subst hσ_
    first | refine TL.st rfl (S_load rfl rfl rfl (tT rfl) rfl) ?_ | refine TL.st rfl (S_load_eptr rfl rfl (tT rfl) rfl) ?_ | refine TL.st rfl (S_load_row rfl rfl rfl rfl (by assumption) (tT rfl) rfl) ?_ | refine TL.st rfl (S_load_row (j := 0) rfl rfl rfl rfl (by assumption) (tT rfl) rfl) ?_
    intro σ_ hσ_; simp only [nrm, tev, St.step, putO, setsV, addO, ↓reduceIte, Nat.reduceAdd, logT, atT, intern, internL, kp_ents, fz_ents, fz_bytes, kp_bytes, logR, logE, ← List.map_take, ← List.map_drop, List.take_length] at hσ_; subst hσ_
    refine TL.st rfl (S_int (u' := .int .u64 (k : Int)) rfl rfl rfl rfl ((vu64 (by omega)).trans (by rw [show p.1 + (meetN i t es p.1 more : Int) - i = (k : Int) by omega]))) ?_
    intro σ_ hσ_; simp only [nrm, tev, St.step, putO, setsV, addO, ↓reduceIte, Nat.reduceAdd, logT, atT, intern, internL, kp_ents, fz_ents, fz_bytes, kp_bytes, logR, logE, ← List.map_take, ← List.map_drop, List.take_length] at hσ_; subst hσ_
    first | refine TL.st rfl (S_conv_int rfl rfl (tT rfl) (tT rfl) rfl (vi64 (by omega))) ?_ | refine TL.st rfl (S_conv_int rfl rfl (tT rfl) (tT rfl) rfl (vu64 (by omega))) ?_ | refine TL.st rfl (S_conv_int rfl rfl (tT rfl) (tT rfl) rfl (vu8 (by omega))) ?_ | refine TL.st rfl (S_conv_int rfl rfl (tT rfl) (tT rfl) rfl rfl) ?_ | refine TL.st rfl (S_conv_str rfl rfl (tT rfl) (tT rfl) rfl) ?_
    intro σ_ hσ_; simp only [nrm, tev, St.step, putO, setsV, addO, ↓reduceIte, Nat.reduceAdd, logT, atT, intern, internL, kp_ents, fz_ents, fz_bytes, kp_bytes, logR, logE, ← List.map_take, ← List.map_drop, List.take_length] at hσ_; subst hσ_
    refine TL.st rfl (S_assign rfl) ?_
    intro σ_ hσ_; simp only [nrm, tev, St.step, putO, setsV, addO, ↓reduceIte, Nat.reduceAdd, logT, atT, intern, internL, kp_ents, fz_ents, fz_bytes, kp_bytes, logR, logE, ← List.map_take, ← List.map_drop, List.take_length] at hσ_; subst hσ_
    refine TL.nil ?_
    try simp (decide := true) only [thenT, inBlockT, noGotoT, jumpT, ↓reduceIte, true_and]
    refine hK9_ _ ?_
    refine TW.seq_k ?_
    intro K10_ hK10_
    by_cases hx : extE i t (es.take k) (more.drop (meetN i t es p.1 more)) = 0
    · skip
      refine TW.anyc 5 0 3 rfl (Nat.le_of_ble_eq_true rfl) ?_
      intro σ_ hσ_; simp (decide := true) only [nrm, tev, St.step, putO, setsV, addO, ↓reduceIte, Nat.reduceAdd, logT, atT, intern, internL, kp_ents, fz_ents, fz_bytes, kp_bytes, logR, logE, ← List.map_take, ← List.map_drop, List.take_length, setLB, StD.lb, setsV, List.replicate_succ, List.replicate_zero, kpL, kp, bar, LB.kp, kpLL_append, kpLL, List.map_cons, List.map_nil, List.set_cons_zero, List.set_cons_succ, ↓reduceIte] at hσ_; subst hσ_
      refine TW.region_late 11 (by kernel_rfl) (by kernel_rfl) ?_
      simp only [List.take_succ_cons, List.take_zero, List.drop_succ_cons, List.drop_zero, List.take_nil, List.drop_nil]
      first | refine TPs.st rfl (S_load rfl rfl rfl (tT rfl) rfl) ?_ | refine TPs.st rfl (S_load_eptr rfl rfl (tT rfl) rfl) ?_ | refine TPs.st rfl (S_load_row rfl rfl rfl rfl (by assumption) (tT rfl) rfl) ?_ | refine TPs.st rfl (S_load_row (j := 0) rfl rfl rfl rfl (by assumption) (tT rfl) rfl) ?_
      intro s_ h_ hs_ hh_; simp only [nrm, tev, St.step, putO, setsV, addO, ↓reduceIte, Nat.reduceAdd, logT, atT, intern, internL, kp_ents, fz_ents, fz_bytes, kp_bytes, logR, logE, ← List.map_take, ← List.map_drop, List.take_length] at hs_ hh_; subst hs_; subst hh_
      refine TPs.st rfl (S_move rfl) ?_
      intro s_ h_ hs_ hh_; simp only [nrm, tev, St.step, putO, setsV, addO, ↓reduceIte, Nat.reduceAdd, logT, atT, intern, internL, kp_ents, fz_ents, fz_bytes, kp_bytes, logR, logE, ← List.map_take, ← List.map_drop, List.take_length] at hs_ hh_; subst hs_; subst hh_
      first | refine TPs.st rfl (S_call_row rfl rfl rfl (by kernel_rfl) rfl ((part0_T _ _ _ _ _ h hi0 hi1 _ (Nat.le_refl _)).eq rfl (by rw [List.take_of_length_le (Nat.le_refl _)])) rfl) ?_ | refine TPs.st rfl (S_call rfl rfl rfl (by kernel_rfl) rfl ((part0_T _ _ _ _ _ h hi0 hi1 _ (Nat.le_refl _)).eq rfl (by rw [List.take_of_length_le (Nat.le_refl _)]))) ?_ | refine TPs.st rfl (S_call_row rfl rfl rfl (by kernel_rfl) rfl (part0_T _ _ _ _ _ h hi0 hi1 _ hk) rfl) ?_ | refine TPs.st rfl (S_call rfl rfl rfl (by kernel_rfl) rfl (part0_T _ _ _ _ _ h hi0 hi1 _ hk)) ?_
      intro s_ h_ hs_ hh_; simp only [nrm, tev, St.step, putO, setsV, addO, ↓reduceIte, Nat.reduceAdd, logT, atT, intern, internL, kp_ents, fz_ents, fz_bytes, kp_bytes, logR, logE, ← List.map_take, ← List.map_drop, List.take_length] at hs_ hh_; subst hs_; subst hh_
      refine TPs.st rfl (S_move rfl) ?_
      intro s_ h_ hs_ hh_; simp only [nrm, tev, St.step, putO, setsV, addO, ↓reduceIte, Nat.reduceAdd, logT, atT, intern, internL, kp_ents, fz_ents, fz_bytes, kp_bytes, logR, logE, ← List.map_take, ← List.map_drop, List.take_length] at hs_ hh_; subst hs_; subst hh_
      refine TPs.st rfl (S_move rfl) ?_
      intro s_ h_ hs_ hh_; simp only [nrm, tev, St.step, putO, setsV, addO, ↓reduceIte, Nat.reduceAdd, logT, atT, intern, internL, kp_ents, fz_ents, fz_bytes, kp_bytes, logR, logE, ← List.map_take, ← List.map_drop, List.take_length] at hs_ hh_; subst hs_; subst hh_
      first | refine TPs.st rfl (S_slice_sl rfl rfl (tT rfl) rfl (tT rfl) (by first | exact rfl | exact ⟨_, rfl⟩) (by first | exact rfl | exact ⟨_, rfl⟩) (by first | omega | (simp; done) | (simp; omega)) (by first | omega | (simp; done) | (simp; omega)) (by assumption)) ?_ | refine TPs.st rfl (S_slice_str rfl rfl (tT rfl) rfl (by first | exact rfl | exact ⟨_, rfl⟩) (by first | exact rfl | exact ⟨_, rfl⟩) (by omega) (by omega)) ?_
      intro s_ h_ hs_ hh_; simp only [nrm, tev, St.step, putO, setsV, addO, ↓reduceIte, Nat.reduceAdd, logT, atT, intern, internL, kp_ents, fz_ents, fz_bytes, kp_bytes, logR, logE, ← List.map_take, ← List.map_drop, List.take_length] at hs_ hh_; subst hs_; subst hh_
      first | refine TPs.st rfl (S_call_row rfl rfl rfl (by kernel_rfl) rfl ((ext_T _ _ _ _ _ (h.take k) hi0 hi1 _ _ _ (h2.drop (meetN i t es p.1 more))).eq rfl (by simp only [logE, hx, ↓reduceIte]; rfl)) rfl) ?_ | refine TPs.st rfl (S_call rfl rfl rfl (by kernel_rfl) rfl ((ext_T _ _ _ _ _ (h.take k) hi0 hi1 _ _ _ (h2.drop (meetN i t es p.1 more))).eq rfl (by simp only [logE, hx, ↓reduceIte]; rfl))) ?_
      intro s_ h_ hs_ hh_; simp only [nrm, tev, St.step, putO, setsV, addO, ↓reduceIte, Nat.reduceAdd, logT, atT, intern, internL, kp_ents, fz_ents, fz_bytes, kp_bytes, logR, logE, ← List.map_take, ← List.map_drop, List.take_length] at hs_ hh_; subst hs_; subst hh_
      refine TPs.st rfl (S_move rfl) ?_
      intro s_ h_ hs_ hh_; simp only [nrm, tev, St.step, putO, setsV, addO, ↓reduceIte, Nat.reduceAdd, logT, atT, intern, internL, kp_ents, fz_ents, fz_bytes, kp_bytes, logR, logE, ← List.map_take, ← List.map_drop, List.take_length] at hs_ hh_; subst hs_; subst hh_
      refine TPs.st rfl (S_extract rfl rfl rfl) ?_
      intro s_ h_ hs_ hh_; simp only [nrm, tev, St.step, putO, setsV, addO, ↓reduceIte, Nat.reduceAdd, logT, atT, intern, internL, kp_ents, fz_ents, fz_bytes, kp_bytes, logR, logE, ← List.map_take, ← List.map_drop, List.take_length] at hs_ hh_; subst hs_; subst hh_
      refine TPs.st rfl (S_extract rfl rfl rfl) ?_
      intro s_ h_ hs_ hh_; simp only [nrm, tev, St.step, putO, setsV, addO, ↓reduceIte, Nat.reduceAdd, logT, atT, intern, internL, kp_ents, fz_ents, fz_bytes, kp_bytes, logR, logE, ← List.map_take, ← List.map_drop, List.take_length] at hs_ hh_; subst hs_; subst hh_
      refine TPs.sto rfl rfl rfl rfl rfl (tT rfl) rfl rfl rfl (Nat.le_of_ble_eq_true rfl) rfl rfl ?_
      unfold TPs
      refine TL.eqs ?_
      intro σ_ hσ_; simp (decide := true) only [nrm, tev, St.step, putO, setsV, addO, ↓reduceIte, Nat.reduceAdd, logT, atT, intern, internL, kp_ents, fz_ents, fz_bytes, kp_bytes, logR, logE, ← List.map_take, ← List.map_drop, List.take_length, setLB, StD.lb, setsV, List.replicate_succ, List.replicate_zero, kpL, kp, bar, LB.kp, kpLL_append, kpLL, List.map_cons, List.map_nil, List.set_cons_zero, List.set_cons_succ, ↓reduceIte] at hσ_; subst hσ_
      refine TL.st rfl (S_assign rfl) ?_
      intro σ_ hσ_; simp only [nrm, tev, St.step, putO, setsV, addO, ↓reduceIte, Nat.reduceAdd, logT, atT, intern, internL, kp_ents, fz_ents, fz_bytes, kp_bytes, logR, logE, ← List.map_take, ← List.map_drop, List.take_length] at hσ_; subst hσ_
      refine TL.nil ?_
      try simp (decide := true) only [thenT, inBlockT, noGotoT, jumpT, ↓reduceIte, true_and]
      refine hK10_ _ ?_
      refine TW.seq_k ?_
      intro K11_ hK11_
      refine TW.reg ?_
      refine TL.st rfl (S_move rfl) ?_
      intro σ_ hσ_; simp only [nrm, tev, St.step, putO, setsV, addO, ↓reduceIte, Nat.reduceAdd, logT, atT, intern, internL, kp_ents, fz_ents, fz_bytes, kp_bytes, logR, logE, ← List.map_take, ← List.map_drop, List.take_length] at hσ_; subst hσ_
      first | refine TL.st rfl (S_int rfl rfl rfl rfl (vnt (by omega))) ?_ | refine TL.st rfl (S_int rfl rfl rfl rfl (vnf (by omega))) ?_ | refine TL.st rfl (S_int rfl rfl rfl rfl rfl) ?_ | refine TL.st rfl (S_boolneq rfl rfl rfl rfl (tT rfl) rfl) ?_
      intro σ_ hσ_; simp only [nrm, tev, St.step, putO, setsV, addO, ↓reduceIte, Nat.reduceAdd, logT, atT, intern, internL, kp_ents, fz_ents, fz_bytes, kp_bytes, logR, logE, ← List.map_take, ← List.map_drop, List.take_length] at hσ_; subst hσ_
      refine TL.nil ?_
      try simp (decide := true) only [thenT, inBlockT, noGotoT, jumpT, ↓reduceIte, true_and]
      refine hK11_ _ ?_
      refine TW.cond_f rfl (rfl) ?_
      refine TW.skip ?_
      try simp (decide := true) only [thenT, inBlockT, noGotoT, jumpT, ↓reduceIte, true_and]
      refine hK7_ _ ?_
      refine TW.seq_k ?_
      intro K12_ hK12_
      refine TW.anyc 2 0 3 rfl (Nat.le_of_ble_eq_true rfl) ?_
      intro σ_ hσ_; simp (decide := true) only [nrm, tev, St.step, putO, setsV, addO, ↓reduceIte, Nat.reduceAdd, logT, atT, intern, internL, kp_ents, fz_ents, fz_bytes, kp_bytes, logR, logE, ← List.map_take, ← List.map_drop, List.take_length, setLB, StD.lb, setsV, List.replicate_succ, List.replicate_zero, kpL, kp, bar, LB.kp, kpLL_append, kpLL, List.map_cons, List.map_nil, List.set_cons_zero, List.set_cons_succ, ↓reduceIte] at hσ_; subst hσ_
      refine TW.region_late 9 (by kernel_rfl) (by kernel_rfl) ?_
      simp only [List.take_succ_cons, List.take_zero, List.drop_succ_cons, List.drop_zero, List.take_nil, List.drop_nil]
      first | refine TPs.st rfl (S_fieldAddr rfl rfl (tT rfl) rfl rfl (tT rfl) (by decide)) ?_ | refine TPs.st rfl (S_fieldAddr_eptr rfl rfl (tT rfl) rfl rfl (tT rfl) (by decide)) ?_
      intro s_ h_ hs_ hh_; simp only [nrm, tev, St.step, putO, setsV, addO, ↓reduceIte, Nat.reduceAdd, logT, atT, intern, internL, kp_ents, fz_ents, fz_bytes, kp_bytes, logR, logE, ← List.map_take, ← List.map_drop, List.take_length] at hs_ hh_; subst hs_; subst hh_
      first | refine TPs.st rfl (S_load rfl rfl rfl (tT rfl) rfl) ?_ | refine TPs.st rfl (S_load_eptr rfl rfl (tT rfl) rfl) ?_ | refine TPs.st rfl (S_load_row rfl rfl rfl rfl (by assumption) (tT rfl) rfl) ?_ | refine TPs.st rfl (S_load_row (j := 0) rfl rfl rfl rfl (by assumption) (tT rfl) rfl) ?_
      intro s_ h_ hs_ hh_; simp only [nrm, tev, St.step, putO, setsV, addO, ↓reduceIte, Nat.reduceAdd, logT, atT, intern, internL, kp_ents, fz_ents, fz_bytes, kp_bytes, logR, logE, ← List.map_take, ← List.map_drop, List.take_length] at hs_ hh_; subst hs_; subst hh_
      first | refine TPs.st rfl (S_fieldAddr rfl rfl (tT rfl) rfl rfl (tT rfl) (by decide)) ?_ | refine TPs.st rfl (S_fieldAddr_eptr rfl rfl (tT rfl) rfl rfl (tT rfl) (by decide)) ?_
      intro s_ h_ hs_ hh_; simp only [nrm, tev, St.step, putO, setsV, addO, ↓reduceIte, Nat.reduceAdd, logT, atT, intern, internL, kp_ents, fz_ents, fz_bytes, kp_bytes, logR, logE, ← List.map_take, ← List.map_drop, List.take_length] at hs_ hh_; subst hs_; subst hh_
      first | refine TPs.st rfl (S_load rfl rfl rfl (tT rfl) rfl) ?_ | refine TPs.st rfl (S_load_eptr rfl rfl (tT rfl) rfl) ?_ | refine TPs.st rfl (S_load_row rfl rfl rfl rfl (by assumption) (tT rfl) rfl) ?_ | refine TPs.st rfl (S_load_row (j := 0) rfl rfl rfl rfl (by assumption) (tT rfl) rfl) ?_
      intro s_ h_ hs_ hh_; simp only [nrm, tev, St.step, putO, setsV, addO, ↓reduceIte, Nat.reduceAdd, logT, atT, intern, internL, kp_ents, fz_ents, fz_bytes, kp_bytes, logR, logE, ← List.map_take, ← List.map_drop, List.take_length] at hs_ hh_; subst hs_; subst hh_
      refine TPs.st rfl (S_move rfl) ?_
      intro s_ h_ hs_ hh_; simp only [nrm, tev, St.step, putO, setsV, addO, ↓reduceIte, Nat.reduceAdd, logT, atT, intern, internL, kp_ents, fz_ents, fz_bytes, kp_bytes, logR, logE, ← List.map_take, ← List.map_drop, List.take_length] at hs_ hh_; subst hs_; subst hh_
      first | refine TPs.st rfl (S_len rfl rfl (tT rfl) rfl (.inl ⟨_, _, rfl, rfl⟩)) ?_ | refine TPs.st rfl (S_len rfl rfl (tT rfl) rfl (.inr (.inl ⟨_, _, _, _, rfl, rfl, rfl⟩))) ?_ | refine TPs.st rfl (S_len rfl rfl (tT rfl) rfl (.inr (.inr ⟨rfl, rfl⟩))) ?_ | refine TPs.st rfl (S_len_str rfl rfl (tT rfl) rfl rfl) ?_ | refine TPs.st rfl (S_len_arr rfl rfl (tT rfl) rfl) ?_
      intro s_ h_ hs_ hh_; simp only [nrm, tev, St.step, putO, setsV, addO, ↓reduceIte, Nat.reduceAdd, logT, atT, intern, internL, kp_ents, fz_ents, fz_bytes, kp_bytes, logR, logE, ← List.map_take, ← List.map_drop, List.take_length] at hs_ hh_; subst hs_; subst hh_
      first | refine TPs.st rfl (S_conv_int rfl rfl (tT rfl) (tT rfl) rfl (vi64 (by omega))) ?_ | refine TPs.st rfl (S_conv_int rfl rfl (tT rfl) (tT rfl) rfl (vu64 (by omega))) ?_ | refine TPs.st rfl (S_conv_int rfl rfl (tT rfl) (tT rfl) rfl (vu8 (by omega))) ?_ | refine TPs.st rfl (S_conv_int rfl rfl (tT rfl) (tT rfl) rfl rfl) ?_ | refine TPs.st rfl (S_conv_str rfl rfl (tT rfl) (tT rfl) rfl) ?_
      intro s_ h_ hs_ hh_; simp only [nrm, tev, St.step, putO, setsV, addO, ↓reduceIte, Nat.reduceAdd, logT, atT, intern, internL, kp_ents, fz_ents, fz_bytes, kp_bytes, logR, logE, ← List.map_take, ← List.map_drop, List.take_length] at hs_ hh_; subst hs_; subst hh_
      first | refine TPs.st rfl (S_int rfl rfl rfl rfl (vi64 (by omega))) ?_ | refine TPs.st rfl (S_int rfl rfl rfl rfl (vu64 (by omega))) ?_ | refine TPs.st rfl (S_int rfl rfl rfl rfl rfl) ?_
      intro s_ h_ hs_ hh_; simp only [nrm, tev, St.step, putO, setsV, addO, ↓reduceIte, Nat.reduceAdd, logT, atT, intern, internL, kp_ents, fz_ents, fz_bytes, kp_bytes, logR, logE, ← List.map_take, ← List.map_drop, List.take_length] at hs_ hh_; subst hs_; subst hh_
      refine TPs.sto rfl rfl rfl rfl rfl (tT rfl) rfl rfl rfl (Nat.le_of_ble_eq_true rfl) rfl rfl ?_
      unfold TPs
      refine TL.eqs ?_
      intro σ_ hσ_; simp (decide := true) only [nrm, tev, St.step, putO, setsV, addO, ↓reduceIte, Nat.reduceAdd, logT, atT, intern, internL, kp_ents, fz_ents, fz_bytes, kp_bytes, logR, logE, ← List.map_take, ← List.map_drop, List.take_length, setLB, StD.lb, setsV, List.replicate_succ, List.replicate_zero, kpL, kp, bar, LB.kp, kpLL_append, kpLL, List.map_cons, List.map_nil, List.set_cons_zero, List.set_cons_succ, ↓reduceIte] at hσ_; subst hσ_
      refine TL.st rfl (S_assign rfl) ?_
      intro σ_ hσ_; simp only [nrm, tev, St.step, putO, setsV, addO, ↓reduceIte, Nat.reduceAdd, logT, atT, intern, internL, kp_ents, fz_ents, fz_bytes, kp_bytes, logR, logE, ← List.map_take, ← List.map_drop, List.take_length] at hσ_; subst hσ_
      refine TL.st rfl (S_assign rfl) ?_
      intro σ_ hσ_; simp only [nrm, tev, St.step, putO, setsV, addO, ↓reduceIte, Nat.reduceAdd, logT, atT, intern, internL, kp_ents, fz_ents, fz_bytes, kp_bytes, logR, logE, ← List.map_take, ← List.map_drop, List.take_length] at hσ_; subst hσ_
      refine TL.nil ?_
      try simp (decide := true) only [thenT, inBlockT, noGotoT, jumpT, ↓reduceIte, true_and]
      refine hK12_ _ ?_
      refine TW.ret ?_
      try simp (decide := true) only [thenT, inBlockT, noGotoT, jumpT, ↓reduceIte, true_and]
      refine ⟨.inr rfl, _, some 7, (ResT.three Try.results26 ⟨_, _, _, _, _, rfl, rfl, tT rfl, rfl⟩ rfl rfl), ?_, (by rintro _ ⟨⟩; trivial)⟩
      simp (decide := true) only [takeE, takeL, takeA, he, hl, hK, hx, logE, ↓reduceIte]
      simp only [nrm, tev, Out_v, Out_agg, Out_tup, OutL_nil, OutL_cons, Out_sl, Out_row_osl, Out_nil_osl, Out_nil_sl, Out_nil_nil, and_true, true_and, logT, atT, logR, logE, fr_ents, hf, List.getD_cons_zero, List.getD_cons_succ]
      try simp
    · skip
      refine TW.anyc 5 0 3 rfl (Nat.le_of_ble_eq_true rfl) ?_
      intro σ_ hσ_; simp (decide := true) only [nrm, tev, St.step, putO, setsV, addO, ↓reduceIte, Nat.reduceAdd, logT, atT, intern, internL, kp_ents, fz_ents, fz_bytes, kp_bytes, logR, logE, ← List.map_take, ← List.map_drop, List.take_length, setLB, StD.lb, setsV, List.replicate_succ, List.replicate_zero, kpL, kp, bar, LB.kp, kpLL_append, kpLL, List.map_cons, List.map_nil, List.set_cons_zero, List.set_cons_succ, ↓reduceIte] at hσ_; subst hσ_
      refine TW.region_late 11 (by kernel_rfl) (by kernel_rfl) ?_
      simp only [List.take_succ_cons, List.take_zero, List.drop_succ_cons, List.drop_zero, List.take_nil, List.drop_nil]
      first | refine TPs.st rfl (S_load rfl rfl rfl (tT rfl) rfl) ?_ | refine TPs.st rfl (S_load_eptr rfl rfl (tT rfl) rfl) ?_ | refine TPs.st rfl (S_load_row rfl rfl rfl rfl (by assumption) (tT rfl) rfl) ?_ | refine TPs.st rfl (S_load_row (j := 0) rfl rfl rfl rfl (by assumption) (tT rfl) rfl) ?_
      intro s_ h_ hs_ hh_; simp only [nrm, tev, St.step, putO, setsV, addO, ↓reduceIte, Nat.reduceAdd, logT, atT, intern, internL, kp_ents, fz_ents, fz_bytes, kp_bytes, logR, logE, ← List.map_take, ← List.map_drop, List.take_length] at hs_ hh_; subst hs_; subst hh_
      refine TPs.st rfl (S_move rfl) ?_
      intro s_ h_ hs_ hh_; simp only [nrm, tev, St.step, putO, setsV, addO, ↓reduceIte, Nat.reduceAdd, logT, atT, intern, internL, kp_ents, fz_ents, fz_bytes, kp_bytes, logR, logE, ← List.map_take, ← List.map_drop, List.take_length] at hs_ hh_; subst hs_; subst hh_
      first | refine TPs.st rfl (S_call_row rfl rfl rfl (by kernel_rfl) rfl ((part0_T _ _ _ _ _ h hi0 hi1 _ (Nat.le_refl _)).eq rfl (by rw [List.take_of_length_le (Nat.le_refl _)])) rfl) ?_ | refine TPs.st rfl (S_call rfl rfl rfl (by kernel_rfl) rfl ((part0_T _ _ _ _ _ h hi0 hi1 _ (Nat.le_refl _)).eq rfl (by rw [List.take_of_length_le (Nat.le_refl _)]))) ?_ | refine TPs.st rfl (S_call_row rfl rfl rfl (by kernel_rfl) rfl (part0_T _ _ _ _ _ h hi0 hi1 _ hk) rfl) ?_ | refine TPs.st rfl (S_call rfl rfl rfl (by kernel_rfl) rfl (part0_T _ _ _ _ _ h hi0 hi1 _ hk)) ?_
      intro s_ h_ hs_ hh_; simp only [nrm, tev, St.step, putO, setsV, addO, ↓reduceIte, Nat.reduceAdd, logT, atT, intern, internL, kp_ents, fz_ents, fz_bytes, kp_bytes, logR, logE, ← List.map_take, ← List.map_drop, List.take_length] at hs_ hh_; subst hs_; subst hh_
      refine TPs.st rfl (S_move rfl) ?_
      intro s_ h_ hs_ hh_; simp only [nrm, tev, St.step, putO, setsV, addO, ↓reduceIte, Nat.reduceAdd, logT, atT, intern, internL, kp_ents, fz_ents, fz_bytes, kp_bytes, logR, logE, ← List.map_take, ← List.map_drop, List.take_length] at hs_ hh_; subst hs_; subst hh_
      refine TPs.st rfl (S_move rfl) ?_
      intro s_ h_ hs_ hh_; simp only [nrm, tev, St.step, putO, setsV, addO, ↓reduceIte, Nat.reduceAdd, logT, atT, intern, internL, kp_ents, fz_ents, fz_bytes, kp_bytes, logR, logE, ← List.map_take, ← List.map_drop, List.take_length] at hs_ hh_; subst hs_; subst hh_
      first | refine TPs.st rfl (S_slice_sl rfl rfl (tT rfl) rfl (tT rfl) (by first | exact rfl | exact ⟨_, rfl⟩) (by first | exact rfl | exact ⟨_, rfl⟩) (by first | omega | (simp; done) | (simp; omega)) (by first | omega | (simp; done) | (simp; omega)) (by assumption)) ?_ | refine TPs.st rfl (S_slice_str rfl rfl (tT rfl) rfl (by first | exact rfl | exact ⟨_, rfl⟩) (by first | exact rfl | exact ⟨_, rfl⟩) (by omega) (by omega)) ?_
      intro s_ h_ hs_ hh_; simp only [nrm, tev, St.step, putO, setsV, addO, ↓reduceIte, Nat.reduceAdd, logT, atT, intern, internL, kp_ents, fz_ents, fz_bytes, kp_bytes, logR, logE, ← List.map_take, ← List.map_drop, List.take_length] at hs_ hh_; subst hs_; subst hh_
      first | refine TPs.st rfl (S_call_row rfl rfl rfl (by kernel_rfl) rfl ((ext_T _ _ _ _ _ (h.take k) hi0 hi1 _ _ _ (h2.drop (meetN i t es p.1 more))).eq rfl (by simp only [logE, hx, ↓reduceIte]; rfl)) rfl) ?_ | refine TPs.st rfl (S_call rfl rfl rfl (by kernel_rfl) rfl ((ext_T _ _ _ _ _ (h.take k) hi0 hi1 _ _ _ (h2.drop (meetN i t es p.1 more))).eq rfl (by simp only [logE, hx, ↓reduceIte]; rfl))) ?_
      intro s_ h_ hs_ hh_; simp only [nrm, tev, St.step, putO, setsV, addO, ↓reduceIte, Nat.reduceAdd, logT, atT, intern, internL, kp_ents, fz_ents, fz_bytes, kp_bytes, logR, logE, ← List.map_take, ← List.map_drop, List.take_length] at hs_ hh_; subst hs_; subst hh_
      refine TPs.st rfl (S_move rfl) ?_
      intro s_ h_ hs_ hh_; simp only [nrm, tev, St.step, putO, setsV, addO, ↓reduceIte, Nat.reduceAdd, logT, atT, intern, internL, kp_ents, fz_ents, fz_bytes, kp_bytes, logR, logE, ← List.map_take, ← List.map_drop, List.take_length] at hs_ hh_; subst hs_; subst hh_
      refine TPs.st rfl (S_extract rfl rfl rfl) ?_
      intro s_ h_ hs_ hh_; simp only [nrm, tev, St.step, putO, setsV, addO, ↓reduceIte, Nat.reduceAdd, logT, atT, intern, internL, kp_ents, fz_ents, fz_bytes, kp_bytes, logR, logE, ← List.map_take, ← List.map_drop, List.take_length] at hs_ hh_; subst hs_; subst hh_
      refine TPs.st rfl (S_extract rfl rfl rfl) ?_
      intro s_ h_ hs_ hh_; simp only [nrm, tev, St.step, putO, setsV, addO, ↓reduceIte, Nat.reduceAdd, logT, atT, intern, internL, kp_ents, fz_ents, fz_bytes, kp_bytes, logR, logE, ← List.map_take, ← List.map_drop, List.take_length] at hs_ hh_; subst hs_; subst hh_
      refine TPs.sto rfl rfl rfl rfl rfl (tT rfl) rfl rfl rfl (Nat.le_of_ble_eq_true rfl) rfl rfl ?_
      unfold TPs
      refine TL.eqs ?_
      intro σ_ hσ_; simp (decide := true) only [nrm, tev, St.step, putO, setsV, addO, ↓reduceIte, Nat.reduceAdd, logT, atT, intern, internL, kp_ents, fz_ents, fz_bytes, kp_bytes, logR, logE, ← List.map_take, ← List.map_drop, List.take_length, setLB, StD.lb, setsV, List.replicate_succ, List.replicate_zero, kpL, kp, bar, LB.kp, kpLL_append, kpLL, List.map_cons, List.map_nil, List.set_cons_zero, List.set_cons_succ, ↓reduceIte] at hσ_; subst hσ_
      refine TL.st rfl (S_assign rfl) ?_
      intro σ_ hσ_; simp only [nrm, tev, St.step, putO, setsV, addO, ↓reduceIte, Nat.reduceAdd, logT, atT, intern, internL, kp_ents, fz_ents, fz_bytes, kp_bytes, logR, logE, ← List.map_take, ← List.map_drop, List.take_length] at hσ_; subst hσ_
      refine TL.nil ?_
      try simp (decide := true) only [thenT, inBlockT, noGotoT, jumpT, ↓reduceIte, true_and]
      refine hK10_ _ ?_
      refine TW.seq_k ?_
      intro K13_ hK13_
      refine TW.reg ?_
      refine TL.st rfl (S_move rfl) ?_
      intro σ_ hσ_; simp only [nrm, tev, St.step, putO, setsV, addO, ↓reduceIte, Nat.reduceAdd, logT, atT, intern, internL, kp_ents, fz_ents, fz_bytes, kp_bytes, logR, logE, ← List.map_take, ← List.map_drop, List.take_length] at hσ_; subst hσ_
      first | refine TL.st rfl (S_int rfl rfl rfl rfl (vnt (by omega))) ?_ | refine TL.st rfl (S_int rfl rfl rfl rfl (vnf (by omega))) ?_ | refine TL.st rfl (S_int rfl rfl rfl rfl rfl) ?_ | refine TL.st rfl (S_boolneq rfl rfl rfl rfl (tT rfl) rfl) ?_
      intro σ_ hσ_; simp only [nrm, tev, St.step, putO, setsV, addO, ↓reduceIte, Nat.reduceAdd, logT, atT, intern, internL, kp_ents, fz_ents, fz_bytes, kp_bytes, logR, logE, ← List.map_take, ← List.map_drop, List.take_length] at hσ_; subst hσ_
      refine TL.nil ?_
      try simp (decide := true) only [thenT, inBlockT, noGotoT, jumpT, ↓reduceIte, true_and]
      refine hK13_ _ ?_
      refine TW.cond_t rfl (rfl) ?_
      refine TW.seq_k ?_
      intro K14_ hK14_
      refine TW.reg ?_
      refine TL.st rfl (S_build rfl (tT rfl) rfl (zT rfl) rfl (by repeat (first | exact PlOk.nil | (apply PlOk.cons; exact tT rfl))) rfl rfl) ?_
      intro σ_ hσ_; simp only [nrm, tev, St.step, putO, setsV, addO, ↓reduceIte, Nat.reduceAdd, logT, atT, intern, internL, kp_ents, fz_ents, fz_bytes, kp_bytes, logR, logE, ← List.map_take, ← List.map_drop, List.take_length] at hσ_; subst hσ_
      refine TL.st rfl (S_move rfl) ?_
      intro σ_ hσ_; simp only [nrm, tev, St.step, putO, setsV, addO, ↓reduceIte, Nat.reduceAdd, logT, atT, intern, internL, kp_ents, fz_ents, fz_bytes, kp_bytes, logR, logE, ← List.map_take, ← List.map_drop, List.take_length] at hσ_; subst hσ_
      first | refine TL.sto rfl rfl rfl rfl (tT rfl) rfl rfl rfl (Nat.le_of_ble_eq_true rfl) ?_ | refine TL.sto_row rfl rfl rfl rfl rfl (by assumption) (tT rfl) rfl rfl rfl (Nat.le_of_ble_eq_true rfl) ?_ | refine TL.sto_row (j := 0) rfl rfl rfl rfl rfl (by assumption) (tT rfl) rfl rfl rfl (Nat.le_of_ble_eq_true rfl) ?_
      intro σ_ hσ_; simp only [nrm, tev, St.step, putO, setsV, addO, ↓reduceIte, Nat.reduceAdd, logT, atT, intern, internL, kp_ents, fz_ents, fz_bytes, kp_bytes, logR, logE, ← List.map_take, ← List.map_drop, List.take_length] at hσ_; subst hσ_
      refine TL.st rfl (S_assign rfl) ?_
      intro σ_ hσ_; simp only [nrm, tev, St.step, putO, setsV, addO, ↓reduceIte, Nat.reduceAdd, logT, atT, intern, internL, kp_ents, fz_ents, fz_bytes, kp_bytes, logR, logE, ← List.map_take, ← List.map_drop, List.take_length] at hσ_; subst hσ_
      refine TL.st rfl (S_assign rfl) ?_
      intro σ_ hσ_; simp only [nrm, tev, St.step, putO, setsV, addO, ↓reduceIte, Nat.reduceAdd, logT, atT, intern, internL, kp_ents, fz_ents, fz_bytes, kp_bytes, logR, logE, ← List.map_take, ← List.map_drop, List.take_length] at hσ_; subst hσ_
      refine TL.nil ?_
      try simp (decide := true) only [thenT, inBlockT, noGotoT, jumpT, ↓reduceIte, true_and]
      refine hK14_ _ ?_
      refine TW.ret ?_
      try simp (decide := true) only [thenT, inBlockT, noGotoT, jumpT, ↓reduceIte, true_and]
      refine ⟨.inr rfl, _, none, (ResT.three Try.results26 ⟨_, _, _, _, _, rfl, rfl, tT rfl, rfl⟩ rfl rfl), ?_, (by rintro _ ⟨⟩)⟩
      simp (decide := true) only [takeE, takeL, takeA, he, hl, hK, hx, logE, ↓reduceIte]
      simp only [nrm, tev, Out_v, Out_agg, Out_tup, OutL_nil, OutL_cons, Out_sl, Out_row_osl, Out_nil_osl, Out_nil_sl, Out_nil_nil, and_true, true_and, logT, atT, logR, logE, fr_ents, hf, List.getD_cons_zero, List.getD_cons_succ]
      try simp
  · skip
    obtain ⟨hpl, hle⟩ := take_all6 he hl
    refine TW.reg ?_
    first | refine TL.st rfl (S_load rfl rfl rfl (tT rfl) rfl) ?_ | refine TL.st rfl (S_load_eptr rfl rfl (tT rfl) rfl) ?_ | refine TL.st rfl (S_load_row rfl rfl rfl rfl (by assumption) (tT rfl) rfl) ?_ | refine TL.st rfl (S_load_row (j := 0) rfl rfl rfl rfl (by assumption) (tT rfl) rfl) ?_
    intro σ_ hσ_; simp only [nrm, tev, St.step, putO, setsV, addO, ↓reduceIte, Nat.reduceAdd, logT, atT, intern, internL, kp_ents, fz_ents, fz_bytes, kp_bytes, logR, logE, ← List.map_take, ← List.map_drop, List.take_length] at hσ_; subst hσ_
    first | refine TL.st rfl (S_load rfl rfl rfl (tT rfl) rfl) ?_ | refine TL.st rfl (S_load_eptr rfl rfl (tT rfl) rfl) ?_ | refine TL.st rfl (S_load_row rfl rfl rfl rfl (by assumption) (tT rfl) rfl) ?_ | refine TL.st rfl (S_load_row (j := 0) rfl rfl rfl rfl (by assumption) (tT rfl) rfl) ?_
    intro σ_ hσ_; simp only [nrm, tev, St.step, putO, setsV, addO, ↓reduceIte, Nat.reduceAdd, logT, atT, intern, internL, kp_ents, fz_ents, fz_bytes, kp_bytes, logR, logE, ← List.map_take, ← List.map_drop, List.take_length] at hσ_; subst hσ_
    refine TL.st rfl (S_move rfl) ?_
    intro σ_ hσ_; simp only [nrm, tev, St.step, putO, setsV, addO, ↓reduceIte, Nat.reduceAdd, logT, atT, intern, internL, kp_ents, fz_ents, fz_bytes, kp_bytes, logR, logE, ← List.map_take, ← List.map_drop, List.take_length] at hσ_; subst hσ_
    first | refine TL.st rfl (S_call_row rfl rfl rfl (by kernel_rfl) rfl ((meet0_T _ _ _ _ _ h hi0 hi1 _ _ _ h2 _ hp0 hp1).eq rfl (by rw [meetR_of he, he])) rfl) ?_ | refine TL.st rfl (S_call rfl rfl rfl (by kernel_rfl) rfl ((meet0_T _ _ _ _ _ h hi0 hi1 _ _ _ h2 _ hp0 hp1).eq rfl (by rw [meetR_of he, he]))) ?_ | refine TL.st rfl (S_call_row rfl rfl rfl (by kernel_rfl) rfl ((meet0_T _ _ _ _ _ h hi0 hi1 _ _ _ h2 _ hp0 hp1).eq rfl (by rw [meetR_ne he])) rfl) ?_ | refine TL.st rfl (S_call rfl rfl rfl (by kernel_rfl) rfl ((meet0_T _ _ _ _ _ h hi0 hi1 _ _ _ h2 _ hp0 hp1).eq rfl (by rw [meetR_ne he]))) ?_
    intro σ_ hσ_; simp only [nrm, tev, St.step, putO, setsV, addO, ↓reduceIte, Nat.reduceAdd, logT, atT, intern, internL, kp_ents, fz_ents, fz_bytes, kp_bytes, logR, logE, ← List.map_take, ← List.map_drop, List.take_length] at hσ_; subst hσ_
    refine TL.st rfl (S_move rfl) ?_
    intro σ_ hσ_; simp only [nrm, tev, St.step, putO, setsV, addO, ↓reduceIte, Nat.reduceAdd, logT, atT, intern, internL, kp_ents, fz_ents, fz_bytes, kp_bytes, logR, logE, ← List.map_take, ← List.map_drop, List.take_length] at hσ_; subst hσ_
    refine TL.st rfl (S_extract rfl rfl rfl) ?_
    intro σ_ hσ_; simp only [nrm, tev, St.step, putO, setsV, addO, ↓reduceIte, Nat.reduceAdd, logT, atT, intern, internL, kp_ents, fz_ents, fz_bytes, kp_bytes, logR, logE, ← List.map_take, ← List.map_drop, List.take_length] at hσ_; subst hσ_
    refine TL.st rfl (S_extract rfl rfl rfl) ?_
    intro σ_ hσ_; simp only [nrm, tev, St.step, putO, setsV, addO, ↓reduceIte, Nat.reduceAdd, logT, atT, intern, internL, kp_ents, fz_ents, fz_bytes, kp_bytes, logR, logE, ← List.map_take, ← List.map_drop, List.take_length] at hσ_; subst hσ_
    refine TL.st rfl (S_assign rfl) ?_
    intro σ_ hσ_; simp only [nrm, tev, St.step, putO, setsV, addO, ↓reduceIte, Nat.reduceAdd, logT, atT, intern, internL, kp_ents, fz_ents, fz_bytes, kp_bytes, logR, logE, ← List.map_take, ← List.map_drop, List.take_length] at hσ_; subst hσ_
    refine TL.st rfl (S_assign rfl) ?_
    intro σ_ hσ_; simp only [nrm, tev, St.step, putO, setsV, addO, ↓reduceIte, Nat.reduceAdd, logT, atT, intern, internL, kp_ents, fz_ents, fz_bytes, kp_bytes, logR, logE, ← List.map_take, ← List.map_drop, List.take_length] at hσ_; subst hσ_
    refine TL.nil ?_
    try simp (decide := true) only [thenT, inBlockT, noGotoT, jumpT, ↓reduceIte, true_and]
    refine hK3_ _ ?_
    refine TW.seq_k ?_
    intro K15_ hK15_
    refine TW.seq_k ?_
    intro K16_ hK16_
    refine TW.reg ?_
    refine TL.st rfl (S_move rfl) ?_
    intro σ_ hσ_; simp only [nrm, tev, St.step, putO, setsV, addO, ↓reduceIte, Nat.reduceAdd, logT, atT, intern, internL, kp_ents, fz_ents, fz_bytes, kp_bytes, logR, logE, ← List.map_take, ← List.map_drop, List.take_length] at hσ_; subst hσ_
    first | refine TL.st rfl (S_int rfl rfl rfl rfl (vnt (by omega))) ?_ | refine TL.st rfl (S_int rfl rfl rfl rfl (vnf (by omega))) ?_ | refine TL.st rfl (S_int rfl rfl rfl rfl rfl) ?_ | refine TL.st rfl (S_boolneq rfl rfl rfl rfl (tT rfl) rfl) ?_
    intro σ_ hσ_; simp only [nrm, tev, St.step, putO, setsV, addO, ↓reduceIte, Nat.reduceAdd, logT, atT, intern, internL, kp_ents, fz_ents, fz_bytes, kp_bytes, logR, logE, ← List.map_take, ← List.map_drop, List.take_length] at hσ_; subst hσ_
    refine TL.nil ?_
    try simp (decide := true) only [thenT, inBlockT, noGotoT, jumpT, ↓reduceIte, true_and]
    refine hK16_ _ ?_
    refine TW.cond_f rfl (rfl) ?_
    refine TW.skip ?_
    try simp (decide := true) only [thenT, inBlockT, noGotoT, jumpT, ↓reduceIte, true_and]
    refine hK15_ _ ?_
    refine TW.seq_k ?_
    intro K17_ hK17_
    refine TW.reg ?_
    first | refine TL.st rfl (S_load rfl rfl rfl (tT rfl) rfl) ?_ | refine TL.st rfl (S_load_eptr rfl rfl (tT rfl) rfl) ?_ | refine TL.st rfl (S_load_row rfl rfl rfl rfl (by assumption) (tT rfl) rfl) ?_ | refine TL.st rfl (S_load_row (j := 0) rfl rfl rfl rfl (by assumption) (tT rfl) rfl) ?_
    intro σ_ hσ_; simp only [nrm, tev, St.step, putO, setsV, addO, ↓reduceIte, Nat.reduceAdd, logT, atT, intern, internL, kp_ents, fz_ents, fz_bytes, kp_bytes, logR, logE, ← List.map_take, ← List.map_drop, List.take_length] at hσ_; subst hσ_
    first | refine TL.st rfl (S_fieldAddr rfl rfl (tT rfl) rfl rfl (tT rfl) (by decide)) ?_ | refine TL.st rfl (S_fieldAddr_eptr rfl rfl (tT rfl) rfl rfl (tT rfl) (by decide)) ?_
    intro σ_ hσ_; simp only [nrm, tev, St.step, putO, setsV, addO, ↓reduceIte, Nat.reduceAdd, logT, atT, intern, internL, kp_ents, fz_ents, fz_bytes, kp_bytes, logR, logE, ← List.map_take, ← List.map_drop, List.take_length] at hσ_; subst hσ_
    first | refine TL.st rfl (S_fieldAddr rfl rfl (tT rfl) rfl rfl (tT rfl) (by decide)) ?_ | refine TL.st rfl (S_fieldAddr_eptr rfl rfl (tT rfl) rfl rfl (tT rfl) (by decide)) ?_
    intro σ_ hσ_; simp only [nrm, tev, St.step, putO, setsV, addO, ↓reduceIte, Nat.reduceAdd, logT, atT, intern, internL, kp_ents, fz_ents, fz_bytes, kp_bytes, logR, logE, ← List.map_take, ← List.map_drop, List.take_length] at hσ_; subst hσ_
    first | refine TL.st rfl (S_load rfl rfl rfl (tT rfl) rfl) ?_ | refine TL.st rfl (S_load_eptr rfl rfl (tT rfl) rfl) ?_ | refine TL.st rfl (S_load_row rfl rfl rfl rfl (by assumption) (tT rfl) rfl) ?_ | refine TL.st rfl (S_load_row (j := 0) rfl rfl rfl rfl (by assumption) (tT rfl) rfl) ?_
    intro σ_ hσ_; simp only [nrm, tev, St.step, putO, setsV, addO, ↓reduceIte, Nat.reduceAdd, logT, atT, intern, internL, kp_ents, fz_ents, fz_bytes, kp_bytes, logR, logE, ← List.map_take, ← List.map_drop, List.take_length] at hσ_; subst hσ_
    first | refine TL.st rfl (S_len rfl rfl (tT rfl) rfl (.inl ⟨_, _, rfl, rfl⟩)) ?_ | refine TL.st rfl (S_len rfl rfl (tT rfl) rfl (.inr (.inl ⟨_, _, _, _, rfl, rfl, rfl⟩))) ?_ | refine TL.st rfl (S_len rfl rfl (tT rfl) rfl (.inr (.inr ⟨rfl, rfl⟩))) ?_ | refine TL.st rfl (S_len_str rfl rfl (tT rfl) rfl rfl) ?_ | refine TL.st rfl (S_len_arr rfl rfl (tT rfl) rfl) ?_
    intro σ_ hσ_; simp only [nrm, tev, St.step, putO, setsV, addO, ↓reduceIte, Nat.reduceAdd, logT, atT, intern, internL, kp_ents, fz_ents, fz_bytes, kp_bytes, logR, logE, ← List.map_take, ← List.map_drop, List.take_length] at hσ_; subst hσ_
    first | refine TL.st rfl (S_call_row rfl rfl rfl (by kernel_rfl) rfl ((part0_T _ _ _ _ _ h hi0 hi1 _ (Nat.le_refl _)).eq rfl (by rw [List.take_of_length_le (Nat.le_refl _)])) rfl) ?_ | refine TL.st rfl (S_call rfl rfl rfl (by kernel_rfl) rfl ((part0_T _ _ _ _ _ h hi0 hi1 _ (Nat.le_refl _)).eq rfl (by rw [List.take_of_length_le (Nat.le_refl _)]))) ?_ | refine TL.st rfl (S_call_row rfl rfl rfl (by kernel_rfl) rfl (part0_T _ _ _ _ _ h hi0 hi1 _ hk) rfl) ?_ | refine TL.st rfl (S_call rfl rfl rfl (by kernel_rfl) rfl (part0_T _ _ _ _ _ h hi0 hi1 _ hk)) ?_
    intro σ_ hσ_; simp only [nrm, tev, St.step, putO, setsV, addO, ↓reduceIte, Nat.reduceAdd, logT, atT, intern, internL, kp_ents, fz_ents, fz_bytes, kp_bytes, logR, logE, ← List.map_take, ← List.map_drop, List.take_length] at hσ_; subst hσ_
    refine TL.st rfl (S_alloc rfl (zT rfl) rfl) ?_
    intro σ_ hσ_; simp only [nrm, tev, St.step, putO, setsV, addO, ↓reduceIte, Nat.reduceAdd, logT, atT, intern, internL, kp_ents, fz_ents, fz_bytes, kp_bytes, logR, logE, ← List.map_take, ← List.map_drop, List.take_length] at hσ_; subst hσ_
    first | refine TL.sto rfl rfl rfl rfl (tT rfl) rfl rfl rfl (Nat.le_of_ble_eq_true rfl) ?_ | refine TL.sto_row rfl rfl rfl rfl rfl (by assumption) (tT rfl) rfl rfl rfl (Nat.le_of_ble_eq_true rfl) ?_ | refine TL.sto_row (j := 0) rfl rfl rfl rfl rfl (by assumption) (tT rfl) rfl rfl rfl (Nat.le_of_ble_eq_true rfl) ?_
    intro σ_ hσ_; simp only [nrm, tev, St.step, putO, setsV, addO, ↓reduceIte, Nat.reduceAdd, logT, atT, intern, internL, kp_ents, fz_ents, fz_bytes, kp_bytes, logR, logE, ← List.map_take, ← List.map_drop, List.take_length] at hσ_; subst hσ_
    refine TL.nil ?_
    try simp (decide := true) only [thenT, inBlockT, noGotoT, jumpT, ↓reduceIte, true_and]
    refine hK17_ _ ?_
    refine TW.seq_k ?_
    intro K18_ hK18_
    refine TW.seq_k ?_
    intro K19_ hK19_
    refine TW.reg ?_
    refine TL.st rfl (S_move rfl) ?_
    intro σ_ hσ_; simp only [nrm, tev, St.step, putO, setsV, addO, ↓reduceIte, Nat.reduceAdd, logT, atT, intern, internL, kp_ents, fz_ents, fz_bytes, kp_bytes, logR, logE, ← List.map_take, ← List.map_drop, List.take_length] at hσ_; subst hσ_
    refine TL.st rfl (S_move rfl) ?_
    intro σ_ hσ_; simp only [nrm, tev, St.step, putO, setsV, addO, ↓reduceIte, Nat.reduceAdd, logT, atT, intern, internL, kp_ents, fz_ents, fz_bytes, kp_bytes, logR, logE, ← List.map_take, ← List.map_drop, List.take_length] at hσ_; subst hσ_
    first | refine TL.st rfl (S_len rfl rfl (tT rfl) rfl (.inl ⟨_, _, rfl, rfl⟩)) ?_ | refine TL.st rfl (S_len rfl rfl (tT rfl) rfl (.inr (.inl ⟨_, _, _, _, rfl, rfl, rfl⟩))) ?_ | refine TL.st rfl (S_len rfl rfl (tT rfl) rfl (.inr (.inr ⟨rfl, rfl⟩))) ?_ | refine TL.st rfl (S_len_str rfl rfl (tT rfl) rfl rfl) ?_ | refine TL.st rfl (S_len_arr rfl rfl (tT rfl) rfl) ?_
    intro σ_ hσ_; simp only [nrm, tev, St.step, putO, setsV, addO, ↓reduceIte, Nat.reduceAdd, logT, atT, intern, internL, kp_ents, fz_ents, fz_bytes, kp_bytes, logR, logE, ← List.map_take, ← List.map_drop, List.take_length] at hσ_; subst hσ_
    first | refine TL.st rfl (S_int rfl rfl rfl rfl (vbt (by omega))) ?_ | refine TL.st rfl (S_int rfl rfl rfl rfl (vbf (by omega))) ?_ | refine TL.st rfl (S_int rfl rfl rfl rfl rfl) ?_
    intro σ_ hσ_; simp only [nrm, tev, St.step, putO, setsV, addO, ↓reduceIte, Nat.reduceAdd, logT, atT, intern, internL, kp_ents, fz_ents, fz_bytes, kp_bytes, logR, logE, ← List.map_take, ← List.map_drop, List.take_length] at hσ_; subst hσ_
    refine TL.nil ?_
    try simp (decide := true) only [thenT, inBlockT, noGotoT, jumpT, ↓reduceIte, true_and]
    refine hK19_ _ ?_
    refine TW.cond_f rfl (rfl) ?_
    refine TW.skip ?_
    try simp (decide := true) only [thenT, inBlockT, noGotoT, jumpT, ↓reduceIte, true_and]
    refine hK18_ _ ?_
    refine TW.seq_k ?_
    intro K20_ hK20_
    refine TW.anyc 2 0 3 rfl (Nat.le_of_ble_eq_true rfl) ?_
    intro σ_ hσ_; simp (decide := true) only [nrm, tev, St.step, putO, setsV, addO, ↓reduceIte, Nat.reduceAdd, logT, atT, intern, internL, kp_ents, fz_ents, fz_bytes, kp_bytes, logR, logE, ← List.map_take, ← List.map_drop, List.take_length, setLB, StD.lb, setsV, List.replicate_succ, List.replicate_zero, kpL, kp, bar, LB.kp, kpLL_append, kpLL, List.map_cons, List.map_nil, List.set_cons_zero, List.set_cons_succ, ↓reduceIte] at hσ_; subst hσ_
    refine TW.region_late 9 (by kernel_rfl) (by kernel_rfl) ?_
    simp only [List.take_succ_cons, List.take_zero, List.drop_succ_cons, List.drop_zero, List.take_nil, List.drop_nil]
    first | refine TPs.st rfl (S_fieldAddr rfl rfl (tT rfl) rfl rfl (tT rfl) (by decide)) ?_ | refine TPs.st rfl (S_fieldAddr_eptr rfl rfl (tT rfl) rfl rfl (tT rfl) (by decide)) ?_
    intro s_ h_ hs_ hh_; simp only [nrm, tev, St.step, putO, setsV, addO, ↓reduceIte, Nat.reduceAdd, logT, atT, intern, internL, kp_ents, fz_ents, fz_bytes, kp_bytes, logR, logE, ← List.map_take, ← List.map_drop, List.take_length] at hs_ hh_; subst hs_; subst hh_
    first | refine TPs.st rfl (S_load rfl rfl rfl (tT rfl) rfl) ?_ | refine TPs.st rfl (S_load_eptr rfl rfl (tT rfl) rfl) ?_ | refine TPs.st rfl (S_load_row rfl rfl rfl rfl (by assumption) (tT rfl) rfl) ?_ | refine TPs.st rfl (S_load_row (j := 0) rfl rfl rfl rfl (by assumption) (tT rfl) rfl) ?_
    intro s_ h_ hs_ hh_; simp only [nrm, tev, St.step, putO, setsV, addO, ↓reduceIte, Nat.reduceAdd, logT, atT, intern, internL, kp_ents, fz_ents, fz_bytes, kp_bytes, logR, logE, ← List.map_take, ← List.map_drop, List.take_length] at hs_ hh_; subst hs_; subst hh_
    first | refine TPs.st rfl (S_fieldAddr rfl rfl (tT rfl) rfl rfl (tT rfl) (by decide)) ?_ | refine TPs.st rfl (S_fieldAddr_eptr rfl rfl (tT rfl) rfl rfl (tT rfl) (by decide)) ?_
    intro s_ h_ hs_ hh_; simp only [nrm, tev, St.step, putO, setsV, addO, ↓reduceIte, Nat.reduceAdd, logT, atT, intern, internL, kp_ents, fz_ents, fz_bytes, kp_bytes, logR, logE, ← List.map_take, ← List.map_drop, List.take_length] at hs_ hh_; subst hs_; subst hh_
    first | refine TPs.st rfl (S_load rfl rfl rfl (tT rfl) rfl) ?_ | refine TPs.st rfl (S_load_eptr rfl rfl (tT rfl) rfl) ?_ | refine TPs.st rfl (S_load_row rfl rfl rfl rfl (by assumption) (tT rfl) rfl) ?_ | refine TPs.st rfl (S_load_row (j := 0) rfl rfl rfl rfl (by assumption) (tT rfl) rfl) ?_
    intro s_ h_ hs_ hh_; simp only [nrm, tev, St.step, putO, setsV, addO, ↓reduceIte, Nat.reduceAdd, logT, atT, intern, internL, kp_ents, fz_ents, fz_bytes, kp_bytes, logR, logE, ← List.map_take, ← List.map_drop, List.take_length] at hs_ hh_; subst hs_; subst hh_
    refine TPs.st rfl (S_move rfl) ?_
    intro s_ h_ hs_ hh_; simp only [nrm, tev, St.step, putO, setsV, addO, ↓reduceIte, Nat.reduceAdd, logT, atT, intern, internL, kp_ents, fz_ents, fz_bytes, kp_bytes, logR, logE, ← List.map_take, ← List.map_drop, List.take_length] at hs_ hh_; subst hs_; subst hh_
    first | refine TPs.st rfl (S_len rfl rfl (tT rfl) rfl (.inl ⟨_, _, rfl, rfl⟩)) ?_ | refine TPs.st rfl (S_len rfl rfl (tT rfl) rfl (.inr (.inl ⟨_, _, _, _, rfl, rfl, rfl⟩))) ?_ | refine TPs.st rfl (S_len rfl rfl (tT rfl) rfl (.inr (.inr ⟨rfl, rfl⟩))) ?_ | refine TPs.st rfl (S_len_str rfl rfl (tT rfl) rfl rfl) ?_ | refine TPs.st rfl (S_len_arr rfl rfl (tT rfl) rfl) ?_
    intro s_ h_ hs_ hh_; simp only [nrm, tev, St.step, putO, setsV, addO, ↓reduceIte, Nat.reduceAdd, logT, atT, intern, internL, kp_ents, fz_ents, fz_bytes, kp_bytes, logR, logE, ← List.map_take, ← List.map_drop, List.take_length] at hs_ hh_; subst hs_; subst hh_
    first | refine TPs.st rfl (S_conv_int rfl rfl (tT rfl) (tT rfl) rfl (vi64 (by omega))) ?_ | refine TPs.st rfl (S_conv_int rfl rfl (tT rfl) (tT rfl) rfl (vu64 (by omega))) ?_ | refine TPs.st rfl (S_conv_int rfl rfl (tT rfl) (tT rfl) rfl (vu8 (by omega))) ?_ | refine TPs.st rfl (S_conv_int rfl rfl (tT rfl) (tT rfl) rfl rfl) ?_ | refine TPs.st rfl (S_conv_str rfl rfl (tT rfl) (tT rfl) rfl) ?_
    intro s_ h_ hs_ hh_; simp only [nrm, tev, St.step, putO, setsV, addO, ↓reduceIte, Nat.reduceAdd, logT, atT, intern, internL, kp_ents, fz_ents, fz_bytes, kp_bytes, logR, logE, ← List.map_take, ← List.map_drop, List.take_length] at hs_ hh_; subst hs_; subst hh_
    first | refine TPs.st rfl (S_int rfl rfl rfl rfl (vi64 (by omega))) ?_ | refine TPs.st rfl (S_int rfl rfl rfl rfl (vu64 (by omega))) ?_ | refine TPs.st rfl (S_int rfl rfl rfl rfl rfl) ?_
    intro s_ h_ hs_ hh_; simp only [nrm, tev, St.step, putO, setsV, addO, ↓reduceIte, Nat.reduceAdd, logT, atT, intern, internL, kp_ents, fz_ents, fz_bytes, kp_bytes, logR, logE, ← List.map_take, ← List.map_drop, List.take_length] at hs_ hh_; subst hs_; subst hh_
    refine TPs.sto rfl rfl rfl rfl rfl (tT rfl) rfl rfl rfl (Nat.le_of_ble_eq_true rfl) rfl rfl ?_
    unfold TPs
    refine TL.eqs ?_
    intro σ_ hσ_; simp (decide := true) only [nrm, tev, St.step, putO, setsV, addO, ↓reduceIte, Nat.reduceAdd, logT, atT, intern, internL, kp_ents, fz_ents, fz_bytes, kp_bytes, logR, logE, ← List.map_take, ← List.map_drop, List.take_length, setLB, StD.lb, setsV, List.replicate_succ, List.replicate_zero, kpL, kp, bar, LB.kp, kpLL_append, kpLL, List.map_cons, List.map_nil, List.set_cons_zero, List.set_cons_succ, ↓reduceIte] at hσ_; subst hσ_
    refine TL.st rfl (S_assign rfl) ?_
    intro σ_ hσ_; simp only [nrm, tev, St.step, putO, setsV, addO, ↓reduceIte, Nat.reduceAdd, logT, atT, intern, internL, kp_ents, fz_ents, fz_bytes, kp_bytes, logR, logE, ← List.map_take, ← List.map_drop, List.take_length] at hσ_; subst hσ_
    refine TL.st rfl (S_assign rfl) ?_
    intro σ_ hσ_; simp only [nrm, tev, St.step, putO, setsV, addO, ↓reduceIte, Nat.reduceAdd, logT, atT, intern, internL, kp_ents, fz_ents, fz_bytes, kp_bytes, logR, logE, ← List.map_take, ← List.map_drop, List.take_length] at hσ_; subst hσ_
    refine TL.nil ?_
    try simp (decide := true) only [thenT, inBlockT, noGotoT, jumpT, ↓reduceIte, true_and]
    refine hK20_ _ ?_
    refine TW.ret ?_
    try simp (decide := true) only [thenT, inBlockT, noGotoT, jumpT, ↓reduceIte, true_and]
    refine ⟨.inr rfl, _, some 4, (ResT.three Try.results26 ⟨_, _, _, _, _, rfl, rfl, tT rfl, rfl⟩ rfl rfl), ?_, (by rintro _ ⟨⟩; trivial)⟩
    simp (decide := true) only [takeE, takeL, takeA, he, hl, logE, ↓reduceIte]
    simp only [nrm, tev, Out_v, Out_agg, Out_tup, OutL_nil, OutL_cons, Out_sl, Out_row_osl, Out_nil_osl, Out_nil_sl, Out_nil_nil, and_true, true_and, logT, atT, logR, logE, fr_ents, hf, List.getD_cons_zero, List.getD_cons_succ]
    try simp
  · skip
    refine TW.reg ?_
    first | refine TL.st rfl (S_load rfl rfl rfl (tT rfl) rfl) ?_ | refine TL.st rfl (S_load_eptr rfl rfl (tT rfl) rfl) ?_ | refine TL.st rfl (S_load_row rfl rfl rfl rfl (by assumption) (tT rfl) rfl) ?_ | refine TL.st rfl (S_load_row (j := 0) rfl rfl rfl rfl (by assumption) (tT rfl) rfl) ?_
    intro σ_ hσ_; simp only [nrm, tev, St.step, putO, setsV, addO, ↓reduceIte, Nat.reduceAdd, logT, atT, intern, internL, kp_ents, fz_ents, fz_bytes, kp_bytes, logR, logE, ← List.map_take, ← List.map_drop, List.take_length] at hσ_; subst hσ_
    first | refine TL.st rfl (S_load rfl rfl rfl (tT rfl) rfl) ?_ | refine TL.st rfl (S_load_eptr rfl rfl (tT rfl) rfl) ?_ | refine TL.st rfl (S_load_row rfl rfl rfl rfl (by assumption) (tT rfl) rfl) ?_ | refine TL.st rfl (S_load_row (j := 0) rfl rfl rfl rfl (by assumption) (tT rfl) rfl) ?_
    intro σ_ hσ_; simp only [nrm, tev, St.step, putO, setsV, addO, ↓reduceIte, Nat.reduceAdd, logT, atT, intern, internL, kp_ents, fz_ents, fz_bytes, kp_bytes, logR, logE, ← List.map_take, ← List.map_drop, List.take_length] at hσ_; subst hσ_
    refine TL.st rfl (S_move rfl) ?_
    intro σ_ hσ_; simp only [nrm, tev, St.step, putO, setsV, addO, ↓reduceIte, Nat.reduceAdd, logT, atT, intern, internL, kp_ents, fz_ents, fz_bytes, kp_bytes, logR, logE, ← List.map_take, ← List.map_drop, List.take_length] at hσ_; subst hσ_
    first | refine TL.st rfl (S_call_row rfl rfl rfl (by kernel_rfl) rfl ((meet0_T _ _ _ _ _ h hi0 hi1 _ _ _ h2 _ hp0 hp1).eq rfl (by rw [meetR_of he, he])) rfl) ?_ | refine TL.st rfl (S_call rfl rfl rfl (by kernel_rfl) rfl ((meet0_T _ _ _ _ _ h hi0 hi1 _ _ _ h2 _ hp0 hp1).eq rfl (by rw [meetR_of he, he]))) ?_ | refine TL.st rfl (S_call_row rfl rfl rfl (by kernel_rfl) rfl ((meet0_T _ _ _ _ _ h hi0 hi1 _ _ _ h2 _ hp0 hp1).eq rfl (by rw [meetR_ne he])) rfl) ?_ | refine TL.st rfl (S_call rfl rfl rfl (by kernel_rfl) rfl ((meet0_T _ _ _ _ _ h hi0 hi1 _ _ _ h2 _ hp0 hp1).eq rfl (by rw [meetR_ne he]))) ?_
    intro σ_ hσ_; simp only [nrm, tev, St.step, putO, setsV, addO, ↓reduceIte, Nat.reduceAdd, logT, atT, intern, internL, kp_ents, fz_ents, fz_bytes, kp_bytes, logR, logE, ← List.map_take, ← List.map_drop, List.take_length] at hσ_; subst hσ_
    refine TL.st rfl (S_move rfl) ?_
    intro σ_ hσ_; simp only [nrm, tev, St.step, putO, setsV, addO, ↓reduceIte, Nat.reduceAdd, logT, atT, intern, internL, kp_ents, fz_ents, fz_bytes, kp_bytes, logR, logE, ← List.map_take, ← List.map_drop, List.take_length] at hσ_; subst hσ_
    refine TL.st rfl (S_extract rfl rfl rfl) ?_
    intro σ_ hσ_; simp only [nrm, tev, St.step, putO, setsV, addO, ↓reduceIte, Nat.reduceAdd, logT, atT, intern, internL, kp_ents, fz_ents, fz_bytes, kp_bytes, logR, logE, ← List.map_take, ← List.map_drop, List.take_length] at hσ_; subst hσ_
    refine TL.st rfl (S_extract rfl rfl rfl) ?_
    intro σ_ hσ_; simp only [nrm, tev, St.step, putO, setsV, addO, ↓reduceIte, Nat.reduceAdd, logT, atT, intern, internL, kp_ents, fz_ents, fz_bytes, kp_bytes, logR, logE, ← List.map_take, ← List.map_drop, List.take_length] at hσ_; subst hσ_
    refine TL.st rfl (S_assign rfl) ?_
    intro σ_ hσ_; simp only [nrm, tev, St.step, putO, setsV, addO, ↓reduceIte, Nat.reduceAdd, logT, atT, intern, internL, kp_ents, fz_ents, fz_bytes, kp_bytes, logR, logE, ← List.map_take, ← List.map_drop, List.take_length] at hσ_; subst hσ_
    refine TL.st rfl (S_assign rfl) ?_
    intro σ_ hσ_; simp only [nrm, tev, St.step, putO, setsV, addO, ↓reduceIte, Nat.reduceAdd, logT, atT, intern, internL, kp_ents, fz_ents, fz_bytes, kp_bytes, logR, logE, ← List.map_take, ← List.map_drop, List.take_length] at hσ_; subst hσ_
    refine TL.nil ?_
    try simp (decide := true) only [thenT, inBlockT, noGotoT, jumpT, ↓reduceIte, true_and]
    refine hK3_ _ ?_
    refine TW.seq_k ?_
    intro K21_ hK21_
    refine TW.seq_k ?_
    intro K22_ hK22_
    refine TW.reg ?_
    refine TL.st rfl (S_move rfl) ?_
    intro σ_ hσ_; simp only [nrm, tev, St.step, putO, setsV, addO, ↓reduceIte, Nat.reduceAdd, logT, atT, intern, internL, kp_ents, fz_ents, fz_bytes, kp_bytes, logR, logE, ← List.map_take, ← List.map_drop, List.take_length] at hσ_; subst hσ_
    first | refine TL.st rfl (S_int rfl rfl rfl rfl (vnt (by omega))) ?_ | refine TL.st rfl (S_int rfl rfl rfl rfl (vnf (by omega))) ?_ | refine TL.st rfl (S_int rfl rfl rfl rfl rfl) ?_ | refine TL.st rfl (S_boolneq rfl rfl rfl rfl (tT rfl) rfl) ?_
    intro σ_ hσ_; simp only [nrm, tev, St.step, putO, setsV, addO, ↓reduceIte, Nat.reduceAdd, logT, atT, intern, internL, kp_ents, fz_ents, fz_bytes, kp_bytes, logR, logE, ← List.map_take, ← List.map_drop, List.take_length] at hσ_; subst hσ_
    refine TL.nil ?_
    try simp (decide := true) only [thenT, inBlockT, noGotoT, jumpT, ↓reduceIte, true_and]
    refine hK22_ _ ?_
    refine TW.cond_t rfl (rfl) ?_
    refine TW.seq_k ?_
    intro K23_ hK23_
    refine TW.reg ?_
    refine TL.st rfl (S_build rfl (tT rfl) rfl (zT rfl) rfl (by repeat (first | exact PlOk.nil | (apply PlOk.cons; exact tT rfl))) rfl rfl) ?_
    intro σ_ hσ_; simp only [nrm, tev, St.step, putO, setsV, addO, ↓reduceIte, Nat.reduceAdd, logT, atT, intern, internL, kp_ents, fz_ents, fz_bytes, kp_bytes, logR, logE, ← List.map_take, ← List.map_drop, List.take_length] at hσ_; subst hσ_
    refine TL.st rfl (S_move rfl) ?_
    intro σ_ hσ_; simp only [nrm, tev, St.step, putO, setsV, addO, ↓reduceIte, Nat.reduceAdd, logT, atT, intern, internL, kp_ents, fz_ents, fz_bytes, kp_bytes, logR, logE, ← List.map_take, ← List.map_drop, List.take_length] at hσ_; subst hσ_
    first | refine TL.sto rfl rfl rfl rfl (tT rfl) rfl rfl rfl (Nat.le_of_ble_eq_true rfl) ?_ | refine TL.sto_row rfl rfl rfl rfl rfl (by assumption) (tT rfl) rfl rfl rfl (Nat.le_of_ble_eq_true rfl) ?_ | refine TL.sto_row (j := 0) rfl rfl rfl rfl rfl (by assumption) (tT rfl) rfl rfl rfl (Nat.le_of_ble_eq_true rfl) ?_
    intro σ_ hσ_; simp only [nrm, tev, St.step, putO, setsV, addO, ↓reduceIte, Nat.reduceAdd, logT, atT, intern, internL, kp_ents, fz_ents, fz_bytes, kp_bytes, logR, logE, ← List.map_take, ← List.map_drop, List.take_length] at hσ_; subst hσ_
    refine TL.st rfl (S_assign rfl) ?_
    intro σ_ hσ_; simp only [nrm, tev, St.step, putO, setsV, addO, ↓reduceIte, Nat.reduceAdd, logT, atT, intern, internL, kp_ents, fz_ents, fz_bytes, kp_bytes, logR, logE, ← List.map_take, ← List.map_drop, List.take_length] at hσ_; subst hσ_
    refine TL.st rfl (S_assign rfl) ?_
    intro σ_ hσ_; simp only [nrm, tev, St.step, putO, setsV, addO, ↓reduceIte, Nat.reduceAdd, logT, atT, intern, internL, kp_ents, fz_ents, fz_bytes, kp_bytes, logR, logE, ← List.map_take, ← List.map_drop, List.take_length] at hσ_; subst hσ_
    refine TL.nil ?_
    try simp (decide := true) only [thenT, inBlockT, noGotoT, jumpT, ↓reduceIte, true_and]
    refine hK23_ _ ?_
    refine TW.ret ?_
    try simp (decide := true) only [thenT, inBlockT, noGotoT, jumpT, ↓reduceIte, true_and]
    refine ⟨.inr rfl, _, none, (ResT.three Try.results26 ⟨_, _, _, _, _, rfl, rfl, tT rfl, rfl⟩ rfl rfl), ?_, (by rintro _ ⟨⟩)⟩
    simp (decide := true) only [takeE, takeA, he, logE, ↓reduceIte]
    simp only [nrm, tev, Out_v, Out_agg, Out_tup, OutL_nil, OutL_cons, Out_sl, Out_row_osl, Out_nil_osl, Out_nil_sl, Out_nil_nil, and_true, true_and, logT, atT, logR, logE, fr_ents, hf, List.getD_cons_zero, List.getD_cons_succ]
    try simp

end Go.Proofs.Ytpckkajodpiiaaa
