/- What may be a log behind an offer. No condition. -/
import Derived.Test.YtpckkajodpiiaaaTEA
import Derived.Test.YtpckkajodpiiaaaTP1
namespace Go.Proofs.Ytpckkajodpiiaaa
open Go.RowKit
set_option linter.unusedVariables false
set_option linter.unusedSimpArgs false

theorem tm_lt {t : Int} {es : List Ent} (h0 : 0 ≤ t) (h1 : t < 18446744073709551616) (hw : wfE es) : ∀ k, 0 ≤ tm t es k ∧ tm t es k < 18446744073709551616
  | 0 => ⟨h0, h1⟩
  | k + 1 => by
    simp only [tm]
    cases he : es[k]? with
    | none => simp
    | some e => exact hw e (List.mem_of_getElem? he)
theorem lcheck_may {i t : Int} {es : List Ent} (h0 : 0 ≤ t) (h1 : t < 18446744073709551616) (hw : wfE es) (hm : mayB i t es = true) : lcheckE i t es 18446744073709551615 = 0 := by
  rw [lcheckE, if_pos hm, spot_tm, if_neg]
  have := (tm_lt h0 h1 hw es.length).2
  show ¬ (18446744073709551615 < tm t es es.length)
  omega
theorem lcheck_not {i t : Int} {es : List Ent} (hm : mayB i t es = false) : lcheckE i t es 18446744073709551615 = 160 := by simp [lcheckE, hm]
theorem Taken.ok {i t : Int} {es : List Ent} {p : Int × Int} {more : List Ent} {n K : Nat} (T : Taken i t es p more n K) (h : okE es) (h2 : okE more) (hs : es.length + more.length ≤ 1000000) : okE (takeL i t es p more) := by
  rw [T.X]
  split
  · exact (h.take K).app (h2.drop n) (by simp; omega)
  · exact h

set_option maxRecDepth 20000 in
set_option maxHeartbeats 1000000 in
theorem may6_T (b b' : Bool) (i t : Int) (es : List Ent) (h : okE es) (hi0 : 0 ≤ i) (hi1 : i < 18446744073709551616) (ht0 : 0 ≤ t) (ht1 : t < 18446744073709551616) :
    TMeets Try.prog 43 [logT i t (.sl b (es.map (entC b')))] (.v (.bool (mayB i t es))) := by
  refine TMeets.of_TW Try.func43 rfl (by simp [PuL, Pu, logT, atT, pu_ents, entC, pu_bytes]) ?_
  intro B w0
  rw [Try.ntmps43]
  simp only [untagL, untag, List.length_cons, List.length_nil, List.replicate_succ, List.replicate_zero, Nat.reduceAdd, Nat.reduceSub, List.cons_append, List.nil_append, logT, atT, untag_ents, untag_bytes, entC]
  refine TW.seq_k ?_
  intro K1_ hK1_
  refine TW.reg ?_
  refine TL.st rfl (S_box rfl rfl) ?_
  intro σ_ hσ_; simp only [nrm, tev, St.step, putO, setsV, addO, ↓reduceIte, Nat.reduceAdd, logT, atT, intern, internL, kp_ents, fz_ents, fz_bytes, kp_bytes, logR, logE, ← List.map_take, ← List.map_drop, List.take_length, beq_self_eq_true] at hσ_; subst hσ_
  refine TL.st rfl (S_assign rfl) ?_
  intro σ_ hσ_; simp only [nrm, tev, St.step, putO, setsV, addO, ↓reduceIte, Nat.reduceAdd, logT, atT, intern, internL, kp_ents, fz_ents, fz_bytes, kp_bytes, logR, logE, ← List.map_take, ← List.map_drop, List.take_length, beq_self_eq_true] at hσ_; subst hσ_
  refine TL.nil ?_
  try simp (decide := true) only [thenT, inBlockT, noGotoT, jumpT, ↓reduceIte, true_and]
  refine hK1_ _ ?_
  refine TW.seq_k ?_
  intro K2_ hK2_
  cases hm : mayB i t es
  · skip
    refine TW.reg ?_
    first | refine TL.st rfl (S_load rfl rfl rfl (tT rfl) rfl) ?_ | refine TL.st rfl (S_load_eptr rfl rfl (tT rfl) rfl) ?_ | refine TL.st rfl (S_load_row rfl rfl rfl rfl (by assumption) (tT rfl) rfl) ?_ | refine TL.st rfl (S_load_row (j := 0) rfl rfl rfl rfl (by assumption) (tT rfl) rfl) ?_
    intro σ_ hσ_; simp only [nrm, tev, St.step, putO, setsV, addO, ↓reduceIte, Nat.reduceAdd, logT, atT, intern, internL, kp_ents, fz_ents, fz_bytes, kp_bytes, logR, logE, ← List.map_take, ← List.map_drop, List.take_length, beq_self_eq_true] at hσ_; subst hσ_
    first | refine TL.st rfl (S_call_row rfl rfl rfl (by kernel_rfl) rfl ((lcheck_T _ _ _ _ _ h.w h.n9 hi0 hi1 18446744073709551615).eq rfl (by rw [lcheck_may ht0 ht1 h.w hm])) rfl) ?_ | refine TL.st rfl (S_call rfl rfl rfl (by kernel_rfl) rfl ((lcheck_T _ _ _ _ _ h.w h.n9 hi0 hi1 18446744073709551615).eq rfl (by rw [lcheck_may ht0 ht1 h.w hm]))) ?_ | refine TL.st rfl (S_call_row rfl rfl rfl (by kernel_rfl) rfl ((lcheck_T _ _ _ _ _ h.w h.n9 hi0 hi1 18446744073709551615).eq rfl (by rw [lcheck_not hm])) rfl) ?_ | refine TL.st rfl (S_call rfl rfl rfl (by kernel_rfl) rfl ((lcheck_T _ _ _ _ _ h.w h.n9 hi0 hi1 18446744073709551615).eq rfl (by rw [lcheck_not hm]))) ?_
    intro σ_ hσ_; simp only [nrm, tev, St.step, putO, setsV, addO, ↓reduceIte, Nat.reduceAdd, logT, atT, intern, internL, kp_ents, fz_ents, fz_bytes, kp_bytes, logR, logE, ← List.map_take, ← List.map_drop, List.take_length, beq_self_eq_true] at hσ_; subst hσ_
    first | refine TL.st rfl (S_int rfl rfl rfl rfl (vbt (by omega))) ?_ | refine TL.st rfl (S_int rfl rfl rfl rfl (vbf (by omega))) ?_ | refine TL.st rfl (S_int rfl rfl rfl rfl rfl) ?_ | refine TL.st rfl (S_boolop rfl rfl rfl rfl (tT rfl) rfl) ?_
    intro σ_ hσ_; simp only [nrm, tev, St.step, putO, setsV, addO, ↓reduceIte, Nat.reduceAdd, logT, atT, intern, internL, kp_ents, fz_ents, fz_bytes, kp_bytes, logR, logE, ← List.map_take, ← List.map_drop, List.take_length, beq_self_eq_true] at hσ_; subst hσ_
    refine TL.st rfl (S_assign rfl) ?_
    intro σ_ hσ_; simp only [nrm, tev, St.step, putO, setsV, addO, ↓reduceIte, Nat.reduceAdd, logT, atT, intern, internL, kp_ents, fz_ents, fz_bytes, kp_bytes, logR, logE, ← List.map_take, ← List.map_drop, List.take_length, beq_self_eq_true] at hσ_; subst hσ_
    refine TL.nil ?_
    try simp (decide := true) only [thenT, inBlockT, noGotoT, jumpT, ↓reduceIte, true_and]
    refine hK2_ _ ?_
    refine TW.ret ?_
    try simp (decide := true) only [thenT, inBlockT, noGotoT, jumpT, ↓reduceIte, true_and]
    refine ⟨.inr rfl, _, none, (ResT.one Try.results43 rfl), ?_, (by rintro _ ⟨⟩)⟩
    simp only [nrm, tev, Out_v, Out_agg, Out_tup, OutL_nil, OutL_cons, Out_sl, Out_row_osl, Out_nil_osl, Out_nil_sl, Out_nil_nil, and_true, true_and, logT, atT, logR, logE, fr_ents, hf, List.getD_cons_zero, List.getD_cons_succ]
    simp [hm]
  · skip
    refine TW.reg ?_
    first | refine TL.st rfl (S_load rfl rfl rfl (tT rfl) rfl) ?_ | refine TL.st rfl (S_load_eptr rfl rfl (tT rfl) rfl) ?_ | refine TL.st rfl (S_load_row rfl rfl rfl rfl (by assumption) (tT rfl) rfl) ?_ | refine TL.st rfl (S_load_row (j := 0) rfl rfl rfl rfl (by assumption) (tT rfl) rfl) ?_
    intro σ_ hσ_; simp only [nrm, tev, St.step, putO, setsV, addO, ↓reduceIte, Nat.reduceAdd, logT, atT, intern, internL, kp_ents, fz_ents, fz_bytes, kp_bytes, logR, logE, ← List.map_take, ← List.map_drop, List.take_length, beq_self_eq_true] at hσ_; subst hσ_
    first | refine TL.st rfl (S_call_row rfl rfl rfl (by kernel_rfl) rfl ((lcheck_T _ _ _ _ _ h.w h.n9 hi0 hi1 18446744073709551615).eq rfl (by rw [lcheck_may ht0 ht1 h.w hm])) rfl) ?_ | refine TL.st rfl (S_call rfl rfl rfl (by kernel_rfl) rfl ((lcheck_T _ _ _ _ _ h.w h.n9 hi0 hi1 18446744073709551615).eq rfl (by rw [lcheck_may ht0 ht1 h.w hm]))) ?_ | refine TL.st rfl (S_call_row rfl rfl rfl (by kernel_rfl) rfl ((lcheck_T _ _ _ _ _ h.w h.n9 hi0 hi1 18446744073709551615).eq rfl (by rw [lcheck_not hm])) rfl) ?_ | refine TL.st rfl (S_call rfl rfl rfl (by kernel_rfl) rfl ((lcheck_T _ _ _ _ _ h.w h.n9 hi0 hi1 18446744073709551615).eq rfl (by rw [lcheck_not hm]))) ?_
    intro σ_ hσ_; simp only [nrm, tev, St.step, putO, setsV, addO, ↓reduceIte, Nat.reduceAdd, logT, atT, intern, internL, kp_ents, fz_ents, fz_bytes, kp_bytes, logR, logE, ← List.map_take, ← List.map_drop, List.take_length, beq_self_eq_true] at hσ_; subst hσ_
    first | refine TL.st rfl (S_int rfl rfl rfl rfl (vbt (by omega))) ?_ | refine TL.st rfl (S_int rfl rfl rfl rfl (vbf (by omega))) ?_ | refine TL.st rfl (S_int rfl rfl rfl rfl rfl) ?_ | refine TL.st rfl (S_boolop rfl rfl rfl rfl (tT rfl) rfl) ?_
    intro σ_ hσ_; simp only [nrm, tev, St.step, putO, setsV, addO, ↓reduceIte, Nat.reduceAdd, logT, atT, intern, internL, kp_ents, fz_ents, fz_bytes, kp_bytes, logR, logE, ← List.map_take, ← List.map_drop, List.take_length, beq_self_eq_true] at hσ_; subst hσ_
    refine TL.st rfl (S_assign rfl) ?_
    intro σ_ hσ_; simp only [nrm, tev, St.step, putO, setsV, addO, ↓reduceIte, Nat.reduceAdd, logT, atT, intern, internL, kp_ents, fz_ents, fz_bytes, kp_bytes, logR, logE, ← List.map_take, ← List.map_drop, List.take_length, beq_self_eq_true] at hσ_; subst hσ_
    refine TL.nil ?_
    try simp (decide := true) only [thenT, inBlockT, noGotoT, jumpT, ↓reduceIte, true_and]
    refine hK2_ _ ?_
    refine TW.ret ?_
    try simp (decide := true) only [thenT, inBlockT, noGotoT, jumpT, ↓reduceIte, true_and]
    refine ⟨.inr rfl, _, none, (ResT.one Try.results43 rfl), ?_, (by rintro _ ⟨⟩)⟩
    simp only [nrm, tev, Out_v, Out_agg, Out_tup, OutL_nil, OutL_cons, Out_sl, Out_row_osl, Out_nil_osl, Out_nil_sl, Out_nil_nil, and_true, true_and, logT, atT, logR, logE, fr_ents, hf, List.getD_cons_zero, List.getD_cons_succ]
    simp [hm]

end Go.Proofs.Ytpckkajodpiiaaa
