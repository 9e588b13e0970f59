/- A log behind an offer: the walk. No condition. -/
import Derived.Test.YtpckkajodpiiaaaTEA
import Derived.Test.YtpckkajodpiiaaaTP1
namespace Go.Proofs.Ytpckkajodpiiaaa
open Go.RowKit
set_option linter.unusedVariables false
set_option linter.unusedSimpArgs false

theorem tm_lt {t : Int} {es : List Ent} (h0 : 0 ≤ t) (h1 : t < 18446744073709551616) (hw : wfE es) : ∀ k, 0 ≤ tm t es k ∧ tm t es k < 18446744073709551616
  | 0 => ⟨h0, h1⟩
  | k + 1 => by
    simp only [tm]
    cases he : es[k]? with
    | none => simp
    | some e => exact hw e (List.mem_of_getElem? he)
theorem few_small (es : List Ent) : (fewL es).length ≤ 32 := by simp [fewL]; omega
theorem lcheck_may {i t : Int} {es : List Ent} (h0 : 0 ≤ t) (h1 : t < 18446744073709551616) (hw : wfE es) (hm : mayB i t es = true) : lcheckE i t es 18446744073709551615 = 0 := by
  rw [lcheckE, if_pos hm, spot_tm, if_neg]
  have := (tm_lt h0 h1 hw es.length).2
  show ¬ (18446744073709551615 < tm t es es.length)
  omega
theorem lcheck_not {i t : Int} {es : List Ent} (hm : mayB i t es = false) : lcheckE i t es 18446744073709551615 = 160 := by simp [lcheckE, hm]
theorem Taken.ok {i t : Int} {es : List Ent} {p : Int × Int} {more : List Ent} {n K : Nat} (T : Taken i t es p more n K) (h : okE es) (h2 : okE more) (hs : es.length + more.length ≤ 1000000) : okE (takeL i t es p more) := by
  rw [T.X]
  split
  · exact (h.take K).app (h2.drop n) (by simp; omega)
  · exact h

set_option maxRecDepth 20000 in
set_option maxHeartbeats 1000000 in
theorem may6_T (b b' : Bool) (i t : Int) (es : List Ent) (h : okE es) (hi0 : 0 ≤ i) (hi1 : i < 18446744073709551616) (ht0 : 0 ≤ t) (ht1 : t < 18446744073709551616) :
    TMeets Try.prog 43 [logT i t (.sl b (es.map (entC b')))] (.v (.bool (mayB i t es))) := by
  refine TMeets.of_TW Try.func43 rfl (by simp [PuL, Pu, logT, atT, pu_ents, entC, pu_bytes]) ?_
  intro B w0
  rw [Try.ntmps43]
  simp only [untagL, untag, List.length_cons, List.length_nil, List.replicate_succ, List.replicate_zero, Nat.reduceAdd, Nat.reduceSub, List.cons_append, List.nil_append, logT, atT, untag_ents, untag_bytes, entC]
  refine TW.seq_k ?_
  intro K1_ hK1_
  refine TW.reg ?_
  refine TL.st rfl (S_box rfl rfl) ?_
  intro σ_ hσ_; simp only [nrm, tev, St.step, putO, setsV, addO, ↓reduceIte, Nat.reduceAdd, logT, atT, intern, internL, kp_ents, fz_ents, fz_bytes, kp_bytes, logR, logE, ← List.map_take, ← List.map_drop, List.take_length, beq_self_eq_true] at hσ_; subst hσ_
  refine TL.st rfl (S_assign rfl) ?_
  intro σ_ hσ_; simp only [nrm, tev, St.step, putO, setsV, addO, ↓reduceIte, Nat.reduceAdd, logT, atT, intern, internL, kp_ents, fz_ents, fz_bytes, kp_bytes, logR, logE, ← List.map_take, ← List.map_drop, List.take_length, beq_self_eq_true] at hσ_; subst hσ_
  refine TL.nil ?_
  try simp (decide := true) only [thenT, inBlockT, noGotoT, jumpT, ↓reduceIte, true_and]
  refine hK1_ _ ?_
  refine TW.seq_k ?_
  intro K2_ hK2_
  cases hm : mayB i t es
  · skip
    refine TW.reg ?_
    first | refine TL.st rfl (S_load rfl rfl rfl (tT rfl) rfl) ?_ | refine TL.st rfl (S_load_eptr rfl rfl (tT rfl) rfl) ?_ | refine TL.st rfl (S_load_row rfl rfl rfl rfl (by assumption) (tT rfl) rfl) ?_ | refine TL.st rfl (S_load_row (j := 0) rfl rfl rfl rfl (by assumption) (tT rfl) rfl) ?_
    intro σ_ hσ_; simp only [nrm, tev, St.step, putO, setsV, addO, ↓reduceIte, Nat.reduceAdd, logT, atT, intern, internL, kp_ents, fz_ents, fz_bytes, kp_bytes, logR, logE, ← List.map_take, ← List.map_drop, List.take_length, beq_self_eq_true] at hσ_; subst hσ_
    first | refine TL.st rfl (S_call_row rfl rfl rfl (by kernel_rfl) rfl ((lcheck_T _ _ _ _ _ h.w h.n9 hi0 hi1 18446744073709551615).eq rfl (by rw [lcheck_may ht0 ht1 h.w hm])) rfl) ?_ | refine TL.st rfl (S_call rfl rfl rfl (by kernel_rfl) rfl ((lcheck_T _ _ _ _ _ h.w h.n9 hi0 hi1 18446744073709551615).eq rfl (by rw [lcheck_may ht0 ht1 h.w hm]))) ?_ | refine TL.st rfl (S_call_row rfl rfl rfl (by kernel_rfl) rfl ((lcheck_T _ _ _ _ _ h.w h.n9 hi0 hi1 18446744073709551615).eq rfl (by rw [lcheck_not hm])) rfl) ?_ | refine TL.st rfl (S_call rfl rfl rfl (by kernel_rfl) rfl ((lcheck_T _ _ _ _ _ h.w h.n9 hi0 hi1 18446744073709551615).eq rfl (by rw [lcheck_not hm]))) ?_
    intro σ_ hσ_; simp only [nrm, tev, St.step, putO, setsV, addO, ↓reduceIte, Nat.reduceAdd, logT, atT, intern, internL, kp_ents, fz_ents, fz_bytes, kp_bytes, logR, logE, ← List.map_take, ← List.map_drop, List.take_length, beq_self_eq_true] at hσ_; subst hσ_
    first | refine TL.st rfl (S_int rfl rfl rfl rfl (vbt (by omega))) ?_ | refine TL.st rfl (S_int rfl rfl rfl rfl (vbf (by omega))) ?_ | refine TL.st rfl (S_int rfl rfl rfl rfl rfl) ?_ | refine TL.st rfl (S_boolop rfl rfl rfl rfl (tT rfl) rfl) ?_
    intro σ_ hσ_; simp only [nrm, tev, St.step, putO, setsV, addO, ↓reduceIte, Nat.reduceAdd, logT, atT, intern, internL, kp_ents, fz_ents, fz_bytes, kp_bytes, logR, logE, ← List.map_take, ← List.map_drop, List.take_length, beq_self_eq_true] at hσ_; subst hσ_
    refine TL.st rfl (S_assign rfl) ?_
    intro σ_ hσ_; simp only [nrm, tev, St.step, putO, setsV, addO, ↓reduceIte, Nat.reduceAdd, logT, atT, intern, internL, kp_ents, fz_ents, fz_bytes, kp_bytes, logR, logE, ← List.map_take, ← List.map_drop, List.take_length, beq_self_eq_true] at hσ_; subst hσ_
    refine TL.nil ?_
    try simp (decide := true) only [thenT, inBlockT, noGotoT, jumpT, ↓reduceIte, true_and]
    refine hK2_ _ ?_
    refine TW.ret ?_
    try simp (decide := true) only [thenT, inBlockT, noGotoT, jumpT, ↓reduceIte, true_and]
    refine ⟨.inr rfl, _, none, (ResT.one Try.results43 rfl), ?_, (by rintro _ ⟨⟩)⟩
    simp only [nrm, tev, Out_v, Out_agg, Out_tup, OutL_nil, OutL_cons, Out_sl, Out_row_osl, Out_nil_osl, Out_nil_sl, Out_nil_nil, and_true, true_and, logT, atT, logR, logE, fr_ents, hf, List.getD_cons_zero, List.getD_cons_succ]
    simp [hm]
  · skip
    refine TW.reg ?_
    first | refine TL.st rfl (S_load rfl rfl rfl (tT rfl) rfl) ?_ | refine TL.st rfl (S_load_eptr rfl rfl (tT rfl) rfl) ?_ | refine TL.st rfl (S_load_row rfl rfl rfl rfl (by assumption) (tT rfl) rfl) ?_ | refine TL.st rfl (S_load_row (j := 0) rfl rfl rfl rfl (by assumption) (tT rfl) rfl) ?_
    intro σ_ hσ_; simp only [nrm, tev, St.step, putO, setsV, addO, ↓reduceIte, Nat.reduceAdd, logT, atT, intern, internL, kp_ents, fz_ents, fz_bytes, kp_bytes, logR, logE, ← List.map_take, ← List.map_drop, List.take_length, beq_self_eq_true] at hσ_; subst hσ_
    first | refine TL.st rfl (S_call_row rfl rfl rfl (by kernel_rfl) rfl ((lcheck_T _ _ _ _ _ h.w h.n9 hi0 hi1 18446744073709551615).eq rfl (by rw [lcheck_may ht0 ht1 h.w hm])) rfl) ?_ | refine TL.st rfl (S_call rfl rfl rfl (by kernel_rfl) rfl ((lcheck_T _ _ _ _ _ h.w h.n9 hi0 hi1 18446744073709551615).eq rfl (by rw [lcheck_may ht0 ht1 h.w hm]))) ?_ | refine TL.st rfl (S_call_row rfl rfl rfl (by kernel_rfl) rfl ((lcheck_T _ _ _ _ _ h.w h.n9 hi0 hi1 18446744073709551615).eq rfl (by rw [lcheck_not hm])) rfl) ?_ | refine TL.st rfl (S_call rfl rfl rfl (by kernel_rfl) rfl ((lcheck_T _ _ _ _ _ h.w h.n9 hi0 hi1 18446744073709551615).eq rfl (by rw [lcheck_not hm]))) ?_
    intro σ_ hσ_; simp only [nrm, tev, St.step, putO, setsV, addO, ↓reduceIte, Nat.reduceAdd, logT, atT, intern, internL, kp_ents, fz_ents, fz_bytes, kp_bytes, logR, logE, ← List.map_take, ← List.map_drop, List.take_length, beq_self_eq_true] at hσ_; subst hσ_
    first | refine TL.st rfl (S_int rfl rfl rfl rfl (vbt (by omega))) ?_ | refine TL.st rfl (S_int rfl rfl rfl rfl (vbf (by omega))) ?_ | refine TL.st rfl (S_int rfl rfl rfl rfl rfl) ?_ | refine TL.st rfl (S_boolop rfl rfl rfl rfl (tT rfl) rfl) ?_
    intro σ_ hσ_; simp only [nrm, tev, St.step, putO, setsV, addO, ↓reduceIte, Nat.reduceAdd, logT, atT, intern, internL, kp_ents, fz_ents, fz_bytes, kp_bytes, logR, logE, ← List.map_take, ← List.map_drop, List.take_length, beq_self_eq_true] at hσ_; subst hσ_
    refine TL.st rfl (S_assign rfl) ?_
    intro σ_ hσ_; simp only [nrm, tev, St.step, putO, setsV, addO, ↓reduceIte, Nat.reduceAdd, logT, atT, intern, internL, kp_ents, fz_ents, fz_bytes, kp_bytes, logR, logE, ← List.map_take, ← List.map_drop, List.take_length, beq_self_eq_true] at hσ_; subst hσ_
    refine TL.nil ?_
    try simp (decide := true) only [thenT, inBlockT, noGotoT, jumpT, ↓reduceIte, true_and]
    refine hK2_ _ ?_
    refine TW.ret ?_
    try simp (decide := true) only [thenT, inBlockT, noGotoT, jumpT, ↓reduceIte, true_and]
    refine ⟨.inr rfl, _, none, (ResT.one Try.results43 rfl), ?_, (by rintro _ ⟨⟩)⟩
    simp only [nrm, tev, Out_v, Out_agg, Out_tup, OutL_nil, OutL_cons, Out_sl, Out_row_osl, Out_nil_osl, Out_nil_sl, Out_nil_nil, and_true, true_and, logT, atT, logR, logE, fr_ents, hf, List.getD_cons_zero, List.getD_cons_succ]
    simp [hm]

set_option maxRecDepth 20000 in
set_option maxHeartbeats 1000000 in
theorem logTaken_T (b b' : Bool) (x : LogA) (xok : x.Ok) (p : Int × Int) (hp0 : 0 ≤ p.1) (hp1 : p.1 < 18446744073709551616) (more0 : List Ent) (hmw : wfE more0) (hmn : more0.length ≤ 9223372036854775807) :
    TMeets Try.prog 8 [.agg (logC b x), .agg [.v (.int .u64 p.1), .v (.int .u64 p.2), .sl b' (more0.map (entC b'))]] (.v (.bool true)) := by
  refine TMeets.of_TW Try.func8 rfl (by simp [PuL, Pu, logT, atT, pu_ents, entC, pu_bytes, logC]) ?_
  intro B w0
  rw [Try.ntmps8]
  simp only [untagL, untag, List.length_cons, List.length_nil, List.replicate_succ, List.replicate_zero, Nat.reduceAdd, Nat.reduceSub, List.cons_append, List.nil_append, logT, atT, untag_ents, untag_bytes, entC, logC]
  have xf := few_ok xok.w
  have mf := few_ok hmw
  obtain ⟨es, hes⟩ : ∃ es, fewL x.es = es := ⟨_, rfl⟩
  obtain ⟨more, hmore⟩ : ∃ more, fewL more0 = more := ⟨_, rfl⟩
  have hsz1 := few_small x.es
  have hsz2 := few_small more0
  rw [hes] at xf hsz1
  rw [hmore] at mf hsz2
  have hi0 := xok.i0
  have hi1 := xok.i1
  have ht0 := xok.t0
  have ht1 := xok.t1
  refine TW.seq_k ?_
  intro K1_ hK1_
  refine TW.reg ?_
  refine TL.st rfl (S_box rfl rfl) ?_
  intro σ_ hσ_; simp only [nrm, tev, St.step, putO, setsV, addO, ↓reduceIte, Nat.reduceAdd, logT, atT, intern, internL, kp_ents, fz_ents, fz_bytes, kp_bytes, logR, logE, ← List.map_take, ← List.map_drop, List.take_length, beq_self_eq_true] at hσ_; subst hσ_
  refine TL.st rfl (S_box rfl rfl) ?_
  intro σ_ hσ_; simp only [nrm, tev, St.step, putO, setsV, addO, ↓reduceIte, Nat.reduceAdd, logT, atT, intern, internL, kp_ents, fz_ents, fz_bytes, kp_bytes, logR, logE, ← List.map_take, ← List.map_drop, List.take_length, beq_self_eq_true] at hσ_; subst hσ_
  refine TL.st rfl (S_assign rfl) ?_
  intro σ_ hσ_; simp only [nrm, tev, St.step, putO, setsV, addO, ↓reduceIte, Nat.reduceAdd, logT, atT, intern, internL, kp_ents, fz_ents, fz_bytes, kp_bytes, logR, logE, ← List.map_take, ← List.map_drop, List.take_length, beq_self_eq_true] at hσ_; subst hσ_
  refine TL.nil ?_
  try simp (decide := true) only [thenT, inBlockT, noGotoT, jumpT, ↓reduceIte, true_and]
  refine hK1_ _ ?_
  refine TW.seq_k ?_
  intro K2_ hK2_
  refine TW.seq_k ?_
  intro K3_ hK3_
  refine TW.reg ?_
  first | refine TL.st rfl (S_call_row rfl rfl rfl (by kernel_rfl) rfl (wakes_T) rfl) ?_ | refine TL.st rfl (S_call rfl rfl rfl (by kernel_rfl) rfl (wakes_T)) ?_
  intro σ_ hσ_; simp only [nrm, tev, St.step, putO, setsV, addO, ↓reduceIte, Nat.reduceAdd, logT, atT, intern, internL, kp_ents, fz_ents, fz_bytes, kp_bytes, logR, logE, ← List.map_take, ← List.map_drop, List.take_length, beq_self_eq_true] at hσ_; subst hσ_
  first | refine TL.st rfl (S_not rfl rfl) ?_ | refine TL.st rfl (S_neg rfl rfl) ?_
  intro σ_ hσ_; simp only [nrm, tev, St.step, putO, setsV, addO, ↓reduceIte, Nat.reduceAdd, logT, atT, intern, internL, kp_ents, fz_ents, fz_bytes, kp_bytes, logR, logE, ← List.map_take, ← List.map_drop, List.take_length, beq_self_eq_true] at hσ_; subst hσ_
  refine TL.nil ?_
  try simp (decide := true) only [thenT, inBlockT, noGotoT, jumpT, ↓reduceIte, true_and]
  refine hK3_ _ ?_
  refine TW.cond_f rfl (rfl) ?_
  refine TW.skip ?_
  try simp (decide := true) only [thenT, inBlockT, noGotoT, jumpT, ↓reduceIte, true_and]
  refine hK2_ _ ?_
  refine TW.seq_k ?_
  intro K4_ hK4_
  refine TW.region_par 5 (by kernel_rfl) (by kernel_rfl) ?_
  simp only [List.take_succ_cons, List.take_zero, List.drop_succ_cons, List.drop_zero, List.take_nil, List.drop_nil]
  first | refine TPar.st rfl (S_load rfl rfl rfl (tT rfl) rfl) ?_ | refine TPar.st rfl (S_load_eptr rfl rfl (tT rfl) rfl) ?_ | refine TPar.st rfl (S_load_row rfl rfl rfl rfl (by assumption) (tT rfl) rfl) ?_ | refine TPar.st rfl (S_load_row (j := 0) rfl rfl rfl rfl (by assumption) (tT rfl) rfl) ?_
  intro s_ h_ hs_ hh_; simp only [nrm, tev, St.step, putO, setsV, addO, ↓reduceIte, Nat.reduceAdd, logT, atT, intern, internL, kp_ents, fz_ents, fz_bytes, kp_bytes, logR, logE, ← List.map_take, ← List.map_drop, List.take_length, beq_self_eq_true] at hs_ hh_; subst hs_; subst hh_
  first | refine TPar.st rfl (S_call_row rfl rfl rfl (by kernel_rfl) rfl ((own_T _ _ x.i x.t x.es xok.n).eq rfl (by rw [hes])) rfl) ?_ | refine TPar.st rfl (S_call rfl rfl rfl (by kernel_rfl) rfl ((own_T _ _ x.i x.t x.es xok.n).eq rfl (by rw [hes]))) ?_
  intro s_ h_ hs_ hh_; simp only [nrm, tev, St.step, putO, setsV, addO, ↓reduceIte, Nat.reduceAdd, logT, atT, intern, internL, kp_ents, fz_ents, fz_bytes, kp_bytes, logR, logE, ← List.map_take, ← List.map_drop, List.take_length, beq_self_eq_true] at hs_ hh_; subst hs_; subst hh_
  first | refine TPar.st rfl (S_fieldAddr rfl rfl (tT rfl) rfl rfl (tT rfl) (by decide)) ?_ | refine TPar.st rfl (S_fieldAddr_eptr rfl rfl (tT rfl) rfl rfl (tT rfl) (by decide)) ?_
  intro s_ h_ hs_ hh_; simp only [nrm, tev, St.step, putO, setsV, addO, ↓reduceIte, Nat.reduceAdd, logT, atT, intern, internL, kp_ents, fz_ents, fz_bytes, kp_bytes, logR, logE, ← List.map_take, ← List.map_drop, List.take_length, beq_self_eq_true] at hs_ hh_; subst hs_; subst hh_
  first | refine TPar.st rfl (S_load rfl rfl rfl (tT rfl) rfl) ?_ | refine TPar.st rfl (S_load_eptr rfl rfl (tT rfl) rfl) ?_ | refine TPar.st rfl (S_load_row rfl rfl rfl rfl (by assumption) (tT rfl) rfl) ?_ | refine TPar.st rfl (S_load_row (j := 0) rfl rfl rfl rfl (by assumption) (tT rfl) rfl) ?_
  intro s_ h_ hs_ hh_; simp only [nrm, tev, St.step, putO, setsV, addO, ↓reduceIte, Nat.reduceAdd, logT, atT, intern, internL, kp_ents, fz_ents, fz_bytes, kp_bytes, logR, logE, ← List.map_take, ← List.map_drop, List.take_length, beq_self_eq_true] at hs_ hh_; subst hs_; subst hh_
  first | refine TPar.st rfl (S_call_row rfl rfl rfl (by kernel_rfl) rfl ((few_T _ _ more0 hmn).eq rfl (by rw [hmore])) rfl) ?_ | refine TPar.st rfl (S_call rfl rfl rfl (by kernel_rfl) rfl ((few_T _ _ more0 hmn).eq rfl (by rw [hmore]))) ?_
  intro s_ h_ hs_ hh_; simp only [nrm, tev, St.step, putO, setsV, addO, ↓reduceIte, Nat.reduceAdd, logT, atT, intern, internL, kp_ents, fz_ents, fz_bytes, kp_bytes, logR, logE, ← List.map_take, ← List.map_drop, List.take_length, beq_self_eq_true] at hs_ hh_; subst hs_; subst hh_
  unfold TPar
  first | refine TL.sto rfl rfl rfl rfl (tT rfl) rfl rfl rfl (Nat.le_of_ble_eq_true rfl) ?_ | refine TL.sto_row rfl rfl rfl rfl rfl (by assumption) (tT rfl) rfl rfl rfl (Nat.le_of_ble_eq_true rfl) ?_ | refine TL.sto_row (j := 0) rfl rfl rfl rfl rfl (by assumption) (tT rfl) rfl rfl rfl (Nat.le_of_ble_eq_true rfl) ?_
  intro σ_ hσ_; simp only [nrm, tev, St.step, putO, setsV, addO, ↓reduceIte, Nat.reduceAdd, logT, atT, intern, internL, kp_ents, fz_ents, fz_bytes, kp_bytes, logR, logE, ← List.map_take, ← List.map_drop, List.take_length, beq_self_eq_true] at hσ_; subst hσ_
  refine TL.st rfl (S_assign rfl) ?_
  intro σ_ hσ_; simp only [nrm, tev, St.step, putO, setsV, addO, ↓reduceIte, Nat.reduceAdd, logT, atT, intern, internL, kp_ents, fz_ents, fz_bytes, kp_bytes, logR, logE, ← List.map_take, ← List.map_drop, List.take_length, beq_self_eq_true] at hσ_; subst hσ_
  refine TL.nil ?_
  try simp (decide := true) only [thenT, inBlockT, noGotoT, jumpT, ↓reduceIte, true_and]
  refine hK4_ _ ?_
  refine TW.seq_k ?_
  intro K5_ hK5_
  rcases (show takeE x.i x.t es p more = 0 ∨ (takeE x.i x.t es p more ≠ 0 ∧ meetE x.i x.t es p more = 0) ∨ (takeE x.i x.t es p more ≠ 0 ∧ meetE x.i x.t es p more ≠ 0) by omega) with hT | ⟨hT, he⟩ | ⟨hT, he⟩
  · skip
    obtain ⟨n, K, T⟩ := taken hi0 hp0 hT
    have okX := T.ok xf mf (by omega)
    have mayX := T.mayX
    have tw1 := (T.twice hi0 hp0).1
    have tw2 := (T.twice hi0 hp0).2
    have ag1 := (T.again hi0 hp0).1
    have ag2 := (T.again hi0 hp0).2
    have hkeep := @Taken.keeps _ _ _ _ _ _ _ T hi0 hp0
    have hhas := @Taken.has _ _ _ _ _ _ _ T hi0 hp0
    have hhigh := @Taken.high _ _ _ _ _ _ _ T hi0 hp0
    have hends := @Taken.ends _ _ _ _ _ _ _ T hi0 hp0
    have hroom := T.room
    have hnl := T.nl
    have hTA : takeA x.i x.t es p more = p.1 + more.length := by rw [takeA, if_pos hT]
    have hm1 : meetR x.i x.t es p more = n := by rw [meetR_of T.m0, T.hn]
    have hm0 := T.m0
    have hmr := (may_room T.may).1
    obtain ⟨X, hX⟩ : ∃ X, takeL x.i x.t es p more = X := ⟨_, rfl⟩
    rw [hX] at okX mayX tw1 tw2 ag1 ag2 hkeep hhas hhigh hends
    have hTA2 : takeA x.i x.t X p more = p.1 + more.length := by rw [takeA, if_pos tw1]
    have hm2 : meetR x.i x.t X p more = more.length := by rw [meetR_of ag1, ag2]
    refine TW.frz 2 rfl ?_
    intro σ_ hσ_; simp (decide := true) only [nrm, tev, St.step, putO, setsV, addO, ↓reduceIte, Nat.reduceAdd, logT, atT, intern, internL, kp_ents, fz_ents, fz_bytes, kp_bytes, logR, logE, ← List.map_take, ← List.map_drop, List.take_length, beq_self_eq_true, fz, fzL, fzLL, LB.fz, kpL, kp, bar, LB.kp, kpLL_append, kpLL, List.map_cons, List.map_nil, List.set_cons_zero, List.set_cons_succ, ↓reduceIte] at hσ_; subst hσ_
    refine TW.frz 3 rfl ?_
    intro σ_ hσ_; simp (decide := true) only [nrm, tev, St.step, putO, setsV, addO, ↓reduceIte, Nat.reduceAdd, logT, atT, intern, internL, kp_ents, fz_ents, fz_bytes, kp_bytes, logR, logE, ← List.map_take, ← List.map_drop, List.take_length, beq_self_eq_true, fz, fzL, fzLL, LB.fz, kpL, kp, bar, LB.kp, kpLL_append, kpLL, List.map_cons, List.map_nil, List.set_cons_zero, List.set_cons_succ, ↓reduceIte] at hσ_; subst hσ_
    refine TW.reg ?_
    first | refine TL.st rfl (S_load rfl rfl rfl (tT rfl) rfl) ?_ | refine TL.st rfl (S_load_eptr rfl rfl (tT rfl) rfl) ?_ | refine TL.st rfl (S_load_row rfl rfl rfl rfl (by assumption) (tT rfl) rfl) ?_ | refine TL.st rfl (S_load_row (j := 0) rfl rfl rfl rfl (by assumption) (tT rfl) rfl) ?_
    intro σ_ hσ_; simp only [nrm, tev, St.step, putO, setsV, addO, ↓reduceIte, Nat.reduceAdd, logT, atT, intern, internL, kp_ents, fz_ents, fz_bytes, kp_bytes, logR, logE, ← List.map_take, ← List.map_drop, List.take_length, beq_self_eq_true] at hσ_; subst hσ_
    first | refine TL.st rfl (S_fieldAddr rfl rfl (tT rfl) rfl rfl (tT rfl) (by decide)) ?_ | refine TL.st rfl (S_fieldAddr_eptr rfl rfl (tT rfl) rfl rfl (tT rfl) (by decide)) ?_
    intro σ_ hσ_; simp only [nrm, tev, St.step, putO, setsV, addO, ↓reduceIte, Nat.reduceAdd, logT, atT, intern, internL, kp_ents, fz_ents, fz_bytes, kp_bytes, logR, logE, ← List.map_take, ← List.map_drop, List.take_length, beq_self_eq_true] at hσ_; subst hσ_
    first | refine TL.st rfl (S_load rfl rfl rfl (tT rfl) rfl) ?_ | refine TL.st rfl (S_load_eptr rfl rfl (tT rfl) rfl) ?_ | refine TL.st rfl (S_load_row rfl rfl rfl rfl (by assumption) (tT rfl) rfl) ?_ | refine TL.st rfl (S_load_row (j := 0) rfl rfl rfl rfl (by assumption) (tT rfl) rfl) ?_
    intro σ_ hσ_; simp only [nrm, tev, St.step, putO, setsV, addO, ↓reduceIte, Nat.reduceAdd, logT, atT, intern, internL, kp_ents, fz_ents, fz_bytes, kp_bytes, logR, logE, ← List.map_take, ← List.map_drop, List.take_length, beq_self_eq_true] at hσ_; subst hσ_
    refine TL.st rfl (S_move rfl) ?_
    intro σ_ hσ_; simp only [nrm, tev, St.step, putO, setsV, addO, ↓reduceIte, Nat.reduceAdd, logT, atT, intern, internL, kp_ents, fz_ents, fz_bytes, kp_bytes, logR, logE, ← List.map_take, ← List.map_drop, List.take_length, beq_self_eq_true] at hσ_; subst hσ_
    first | refine TL.st rfl (S_call_row rfl rfl rfl (by kernel_rfl) rfl ((meet_T _ _ x.i x.t es xf hi0 hi1 _ _ more mf p hp0 hp1).eq rfl (by rw [hm1, hm0])) rfl) ?_ | refine TL.st rfl (S_call rfl rfl rfl (by kernel_rfl) rfl ((meet_T _ _ x.i x.t es xf hi0 hi1 _ _ more mf p hp0 hp1).eq rfl (by rw [hm1, hm0]))) ?_ | refine TL.st rfl (S_call_row rfl rfl rfl (by kernel_rfl) rfl ((meet_T _ _ x.i x.t X okX hi0 hi1 _ _ more mf p hp0 hp1).eq rfl (by rw [hm2, ag1])) rfl) ?_ | refine TL.st rfl (S_call rfl rfl rfl (by kernel_rfl) rfl ((meet_T _ _ x.i x.t X okX hi0 hi1 _ _ more mf p hp0 hp1).eq rfl (by rw [hm2, ag1]))) ?_ | refine TL.st rfl (S_call_row rfl rfl rfl (by kernel_rfl) rfl ((meet_T _ _ x.i x.t es xf hi0 hi1 _ _ more mf p hp0 hp1).eq rfl (by rw [meetR_of he, he])) rfl) ?_ | refine TL.st rfl (S_call rfl rfl rfl (by kernel_rfl) rfl ((meet_T _ _ x.i x.t es xf hi0 hi1 _ _ more mf p hp0 hp1).eq rfl (by rw [meetR_of he, he]))) ?_ | refine TL.st rfl (S_call_row rfl rfl rfl (by kernel_rfl) rfl ((meet_T _ _ x.i x.t es xf hi0 hi1 _ _ more mf p hp0 hp1).eq rfl (by rw [meetR_ne he])) rfl) ?_ | refine TL.st rfl (S_call rfl rfl rfl (by kernel_rfl) rfl ((meet_T _ _ x.i x.t es xf hi0 hi1 _ _ more mf p hp0 hp1).eq rfl (by rw [meetR_ne he]))) ?_
    intro σ_ hσ_; simp only [nrm, tev, St.step, putO, setsV, addO, ↓reduceIte, Nat.reduceAdd, logT, atT, intern, internL, kp_ents, fz_ents, fz_bytes, kp_bytes, logR, logE, ← List.map_take, ← List.map_drop, List.take_length, beq_self_eq_true] at hσ_; subst hσ_
    refine TL.st rfl (S_move rfl) ?_
    intro σ_ hσ_; simp only [nrm, tev, St.step, putO, setsV, addO, ↓reduceIte, Nat.reduceAdd, logT, atT, intern, internL, kp_ents, fz_ents, fz_bytes, kp_bytes, logR, logE, ← List.map_take, ← List.map_drop, List.take_length, beq_self_eq_true] at hσ_; subst hσ_
    refine TL.st rfl (S_extract rfl rfl rfl) ?_
    intro σ_ hσ_; simp only [nrm, tev, St.step, putO, setsV, addO, ↓reduceIte, Nat.reduceAdd, logT, atT, intern, internL, kp_ents, fz_ents, fz_bytes, kp_bytes, logR, logE, ← List.map_take, ← List.map_drop, List.take_length, beq_self_eq_true] at hσ_; subst hσ_
    refine TL.st rfl (S_extract rfl rfl rfl) ?_
    intro σ_ hσ_; simp only [nrm, tev, St.step, putO, setsV, addO, ↓reduceIte, Nat.reduceAdd, logT, atT, intern, internL, kp_ents, fz_ents, fz_bytes, kp_bytes, logR, logE, ← List.map_take, ← List.map_drop, List.take_length, beq_self_eq_true] at hσ_; subst hσ_
    refine TL.st rfl (S_assign rfl) ?_
    intro σ_ hσ_; simp only [nrm, tev, St.step, putO, setsV, addO, ↓reduceIte, Nat.reduceAdd, logT, atT, intern, internL, kp_ents, fz_ents, fz_bytes, kp_bytes, logR, logE, ← List.map_take, ← List.map_drop, List.take_length, beq_self_eq_true] at hσ_; subst hσ_
    refine TL.st rfl (S_assign rfl) ?_
    intro σ_ hσ_; simp only [nrm, tev, St.step, putO, setsV, addO, ↓reduceIte, Nat.reduceAdd, logT, atT, intern, internL, kp_ents, fz_ents, fz_bytes, kp_bytes, logR, logE, ← List.map_take, ← List.map_drop, List.take_length, beq_self_eq_true] at hσ_; subst hσ_
    refine TL.nil ?_
    try simp (decide := true) only [thenT, inBlockT, noGotoT, jumpT, ↓reduceIte, true_and]
    refine hK5_ _ ?_
    refine TW.seq_k ?_
    intro K6_ hK6_
    refine TW.reg ?_
    first | refine TL.st rfl (S_load rfl rfl rfl (tT rfl) rfl) ?_ | refine TL.st rfl (S_load_eptr rfl rfl (tT rfl) rfl) ?_ | refine TL.st rfl (S_load_row rfl rfl rfl rfl (by assumption) (tT rfl) rfl) ?_ | refine TL.st rfl (S_load_row (j := 0) rfl rfl rfl rfl (by assumption) (tT rfl) rfl) ?_
    intro σ_ hσ_; simp only [nrm, tev, St.step, putO, setsV, addO, ↓reduceIte, Nat.reduceAdd, logT, atT, intern, internL, kp_ents, fz_ents, fz_bytes, kp_bytes, logR, logE, ← List.map_take, ← List.map_drop, List.take_length, beq_self_eq_true] at hσ_; subst hσ_
    first | refine TL.st rfl (S_fieldAddr rfl rfl (tT rfl) rfl rfl (tT rfl) (by decide)) ?_ | refine TL.st rfl (S_fieldAddr_eptr rfl rfl (tT rfl) rfl rfl (tT rfl) (by decide)) ?_
    intro σ_ hσ_; simp only [nrm, tev, St.step, putO, setsV, addO, ↓reduceIte, Nat.reduceAdd, logT, atT, intern, internL, kp_ents, fz_ents, fz_bytes, kp_bytes, logR, logE, ← List.map_take, ← List.map_drop, List.take_length, beq_self_eq_true] at hσ_; subst hσ_
    first | refine TL.st rfl (S_load rfl rfl rfl (tT rfl) rfl) ?_ | refine TL.st rfl (S_load_eptr rfl rfl (tT rfl) rfl) ?_ | refine TL.st rfl (S_load_row rfl rfl rfl rfl (by assumption) (tT rfl) rfl) ?_ | refine TL.st rfl (S_load_row (j := 0) rfl rfl rfl rfl (by assumption) (tT rfl) rfl) ?_
    intro σ_ hσ_; simp only [nrm, tev, St.step, putO, setsV, addO, ↓reduceIte, Nat.reduceAdd, logT, atT, intern, internL, kp_ents, fz_ents, fz_bytes, kp_bytes, logR, logE, ← List.map_take, ← List.map_drop, List.take_length, beq_self_eq_true] at hσ_; subst hσ_
    refine TL.st rfl (S_move rfl) ?_
    intro σ_ hσ_; simp only [nrm, tev, St.step, putO, setsV, addO, ↓reduceIte, Nat.reduceAdd, logT, atT, intern, internL, kp_ents, fz_ents, fz_bytes, kp_bytes, logR, logE, ← List.map_take, ← List.map_drop, List.take_length, beq_self_eq_true] at hσ_; subst hσ_
    first | refine TL.st rfl (S_call_row rfl rfl rfl (by kernel_rfl) rfl ((take_T _ _ x.i x.t es xf hi0 hi1 _ _ more mf p hp0 hp1).eq rfl (by simp only [logE, hT, hTA, hX, ↓reduceIte]; rfl)) rfl) ?_ | refine TL.st rfl (S_call rfl rfl rfl (by kernel_rfl) rfl ((take_T _ _ x.i x.t es xf hi0 hi1 _ _ more mf p hp0 hp1).eq rfl (by simp only [logE, hT, hTA, hX, ↓reduceIte]; rfl))) ?_ | refine TL.st rfl (S_call_row rfl rfl rfl (by kernel_rfl) rfl ((take_T _ _ x.i x.t X okX hi0 hi1 _ _ more mf p hp0 hp1).eq rfl (by simp only [logE, tw1, tw2, hTA2, ↓reduceIte]; rfl)) rfl) ?_ | refine TL.st rfl (S_call rfl rfl rfl (by kernel_rfl) rfl ((take_T _ _ x.i x.t X okX hi0 hi1 _ _ more mf p hp0 hp1).eq rfl (by simp only [logE, tw1, tw2, hTA2, ↓reduceIte]; rfl))) ?_ | refine TL.st rfl (S_call_row rfl rfl rfl (by kernel_rfl) rfl ((take_T _ _ x.i x.t es xf hi0 hi1 _ _ more mf p hp0 hp1).eq rfl (by simp only [logE, hT, hTA, ↓reduceIte]; rfl)) rfl) ?_ | refine TL.st rfl (S_call rfl rfl rfl (by kernel_rfl) rfl ((take_T _ _ x.i x.t es xf hi0 hi1 _ _ more mf p hp0 hp1).eq rfl (by simp only [logE, hT, hTA, ↓reduceIte]; rfl))) ?_
    intro σ_ hσ_; simp only [nrm, tev, St.step, putO, setsV, addO, ↓reduceIte, Nat.reduceAdd, logT, atT, intern, internL, kp_ents, fz_ents, fz_bytes, kp_bytes, logR, logE, ← List.map_take, ← List.map_drop, List.take_length, beq_self_eq_true] at hσ_; subst hσ_
    refine TL.st rfl (S_move rfl) ?_
    intro σ_ hσ_; simp only [nrm, tev, St.step, putO, setsV, addO, ↓reduceIte, Nat.reduceAdd, logT, atT, intern, internL, kp_ents, fz_ents, fz_bytes, kp_bytes, logR, logE, ← List.map_take, ← List.map_drop, List.take_length, beq_self_eq_true] at hσ_; subst hσ_
    refine TL.st rfl (S_extract rfl rfl rfl) ?_
    intro σ_ hσ_; simp only [nrm, tev, St.step, putO, setsV, addO, ↓reduceIte, Nat.reduceAdd, logT, atT, intern, internL, kp_ents, fz_ents, fz_bytes, kp_bytes, logR, logE, ← List.map_take, ← List.map_drop, List.take_length, beq_self_eq_true] at hσ_; subst hσ_
    refine TL.st rfl (S_extract rfl rfl rfl) ?_
    intro σ_ hσ_; simp only [nrm, tev, St.step, putO, setsV, addO, ↓reduceIte, Nat.reduceAdd, logT, atT, intern, internL, kp_ents, fz_ents, fz_bytes, kp_bytes, logR, logE, ← List.map_take, ← List.map_drop, List.take_length, beq_self_eq_true] at hσ_; subst hσ_
    refine TL.st rfl (S_extract rfl rfl rfl) ?_
    intro σ_ hσ_; simp only [nrm, tev, St.step, putO, setsV, addO, ↓reduceIte, Nat.reduceAdd, logT, atT, intern, internL, kp_ents, fz_ents, fz_bytes, kp_bytes, logR, logE, ← List.map_take, ← List.map_drop, List.take_length, beq_self_eq_true] at hσ_; subst hσ_
    refine TL.st rfl (S_alloc rfl (zT rfl) rfl) ?_
    intro σ_ hσ_; simp only [nrm, tev, St.step, putO, setsV, addO, ↓reduceIte, Nat.reduceAdd, logT, atT, intern, internL, kp_ents, fz_ents, fz_bytes, kp_bytes, logR, logE, ← List.map_take, ← List.map_drop, List.take_length, beq_self_eq_true] at hσ_; subst hσ_
    first | refine TL.sto rfl rfl rfl rfl (tT rfl) rfl rfl rfl (Nat.le_of_ble_eq_true rfl) ?_ | refine TL.sto_row rfl rfl rfl rfl rfl (by assumption) (tT rfl) rfl rfl rfl (Nat.le_of_ble_eq_true rfl) ?_ | refine TL.sto_row (j := 0) rfl rfl rfl rfl rfl (by assumption) (tT rfl) rfl rfl rfl (Nat.le_of_ble_eq_true rfl) ?_
    intro σ_ hσ_; simp only [nrm, tev, St.step, putO, setsV, addO, ↓reduceIte, Nat.reduceAdd, logT, atT, intern, internL, kp_ents, fz_ents, fz_bytes, kp_bytes, logR, logE, ← List.map_take, ← List.map_drop, List.take_length, beq_self_eq_true] at hσ_; subst hσ_
    refine TL.st rfl (S_assign rfl) ?_
    intro σ_ hσ_; simp only [nrm, tev, St.step, putO, setsV, addO, ↓reduceIte, Nat.reduceAdd, logT, atT, intern, internL, kp_ents, fz_ents, fz_bytes, kp_bytes, logR, logE, ← List.map_take, ← List.map_drop, List.take_length, beq_self_eq_true] at hσ_; subst hσ_
    refine TL.st rfl (S_assign rfl) ?_
    intro σ_ hσ_; simp only [nrm, tev, St.step, putO, setsV, addO, ↓reduceIte, Nat.reduceAdd, logT, atT, intern, internL, kp_ents, fz_ents, fz_bytes, kp_bytes, logR, logE, ← List.map_take, ← List.map_drop, List.take_length, beq_self_eq_true] at hσ_; subst hσ_
    refine TL.nil ?_
    try simp (decide := true) only [thenT, inBlockT, noGotoT, jumpT, ↓reduceIte, true_and]
    refine hK6_ _ ?_
    refine TW.seq_k ?_
    intro K7_ hK7_
    refine TW.seq_k ?_
    intro K8_ hK8_
    refine TW.frz 4 rfl ?_
    intro σ_ hσ_; simp (decide := true) only [nrm, tev, St.step, putO, setsV, addO, ↓reduceIte, Nat.reduceAdd, logT, atT, intern, internL, kp_ents, fz_ents, fz_bytes, kp_bytes, logR, logE, ← List.map_take, ← List.map_drop, List.take_length, beq_self_eq_true, fz, fzL, fzLL, LB.fz, kpL, kp, bar, LB.kp, kpLL_append, kpLL, List.map_cons, List.map_nil, List.set_cons_zero, List.set_cons_succ, ↓reduceIte] at hσ_; subst hσ_
    refine TW.reg ?_
    refine TL.st rfl (S_move rfl) ?_
    intro σ_ hσ_; simp only [nrm, tev, St.step, putO, setsV, addO, ↓reduceIte, Nat.reduceAdd, logT, atT, intern, internL, kp_ents, fz_ents, fz_bytes, kp_bytes, logR, logE, ← List.map_take, ← List.map_drop, List.take_length, beq_self_eq_true] at hσ_; subst hσ_
    first | refine TL.st rfl (S_int rfl rfl rfl rfl (vnt (by omega))) ?_ | refine TL.st rfl (S_int rfl rfl rfl rfl (vnf (by omega))) ?_ | refine TL.st rfl (S_int rfl rfl rfl rfl rfl) ?_ | refine TL.st rfl (S_boolneq rfl rfl rfl rfl (tT rfl) rfl) ?_
    intro σ_ hσ_; simp only [nrm, tev, St.step, putO, setsV, addO, ↓reduceIte, Nat.reduceAdd, logT, atT, intern, internL, kp_ents, fz_ents, fz_bytes, kp_bytes, logR, logE, ← List.map_take, ← List.map_drop, List.take_length, beq_self_eq_true] at hσ_; subst hσ_
    refine TL.nil ?_
    try simp (decide := true) only [thenT, inBlockT, noGotoT, jumpT, ↓reduceIte, true_and]
    refine hK8_ _ ?_
    refine TW.cond_f rfl (rfl) ?_
    refine TW.skip ?_
    try simp (decide := true) only [thenT, inBlockT, noGotoT, jumpT, ↓reduceIte, true_and]
    refine hK7_ _ ?_
    refine TW.seq_k ?_
    intro K9_ hK9_
    refine TW.seq_k ?_
    intro K10_ hK10_
    refine TW.reg ?_
    refine TL.st rfl (S_move rfl) ?_
    intro σ_ hσ_; simp only [nrm, tev, St.step, putO, setsV, addO, ↓reduceIte, Nat.reduceAdd, logT, atT, intern, internL, kp_ents, fz_ents, fz_bytes, kp_bytes, logR, logE, ← List.map_take, ← List.map_drop, List.take_length, beq_self_eq_true] at hσ_; subst hσ_
    first | refine TL.st rfl (S_int rfl rfl rfl rfl (vnt (by omega))) ?_ | refine TL.st rfl (S_int rfl rfl rfl rfl (vnf (by omega))) ?_ | refine TL.st rfl (S_int rfl rfl rfl rfl rfl) ?_ | refine TL.st rfl (S_boolneq rfl rfl rfl rfl (tT rfl) rfl) ?_
    intro σ_ hσ_; simp only [nrm, tev, St.step, putO, setsV, addO, ↓reduceIte, Nat.reduceAdd, logT, atT, intern, internL, kp_ents, fz_ents, fz_bytes, kp_bytes, logR, logE, ← List.map_take, ← List.map_drop, List.take_length, beq_self_eq_true] at hσ_; subst hσ_
    refine TL.st rfl (S_move rfl) ?_
    intro σ_ hσ_; simp only [nrm, tev, St.step, putO, setsV, addO, ↓reduceIte, Nat.reduceAdd, logT, atT, intern, internL, kp_ents, fz_ents, fz_bytes, kp_bytes, logR, logE, ← List.map_take, ← List.map_drop, List.take_length, beq_self_eq_true] at hσ_; subst hσ_
    first | refine TL.st_g rfl rfl rfl (Nat.le_of_ble_eq_true rfl) rfl (S_load rfl rfl rfl (tT rfl) rfl) ?_ | refine TL.st_g rfl rfl rfl (Nat.le_of_ble_eq_true rfl) rfl (S_load_eptr rfl rfl (tT rfl) rfl) ?_ | refine TL.st_g rfl rfl rfl (Nat.le_of_ble_eq_true rfl) rfl (S_load_row rfl rfl rfl rfl (by assumption) (tT rfl) rfl) ?_ | refine TL.st_g rfl rfl rfl (Nat.le_of_ble_eq_true rfl) rfl (S_load_row (j := 0) rfl rfl rfl rfl (by assumption) (tT rfl) rfl) ?_ | refine TL.sk_g rfl rfl rfl (Nat.le_of_ble_eq_true rfl) rfl rfl ?_
    intro σ_ hσ_; simp only [nrm, tev, St.step, putO, setsV, addO, ↓reduceIte, Nat.reduceAdd, logT, atT, intern, internL, kp_ents, fz_ents, fz_bytes, kp_bytes, logR, logE, ← List.map_take, ← List.map_drop, List.take_length, beq_self_eq_true] at hσ_; subst hσ_
    first | refine TL.st_g rfl rfl rfl (Nat.le_of_ble_eq_true rfl) rfl (S_call_row rfl rfl rfl (by kernel_rfl) rfl ((may6_T _ _ x.i x.t X okX hi0 hi1 ht0 ht1).eq rfl (by rw [mayX])) rfl) ?_ | refine TL.st_g rfl rfl rfl (Nat.le_of_ble_eq_true rfl) rfl (S_call rfl rfl rfl (by kernel_rfl) rfl ((may6_T _ _ x.i x.t X okX hi0 hi1 ht0 ht1).eq rfl (by rw [mayX]))) ?_ | refine TL.sk_g rfl rfl rfl (Nat.le_of_ble_eq_true rfl) rfl rfl ?_
    intro σ_ hσ_; simp only [nrm, tev, St.step, putO, setsV, addO, ↓reduceIte, Nat.reduceAdd, logT, atT, intern, internL, kp_ents, fz_ents, fz_bytes, kp_bytes, logR, logE, ← List.map_take, ← List.map_drop, List.take_length, beq_self_eq_true] at hσ_; subst hσ_
    first | refine TL.st_g rfl rfl rfl (Nat.le_of_ble_eq_true rfl) rfl (S_not rfl rfl) ?_ | refine TL.st_g rfl rfl rfl (Nat.le_of_ble_eq_true rfl) rfl (S_neg rfl rfl) ?_ | refine TL.sk_g rfl rfl rfl (Nat.le_of_ble_eq_true rfl) rfl rfl ?_
    intro σ_ hσ_; simp only [nrm, tev, St.step, putO, setsV, addO, ↓reduceIte, Nat.reduceAdd, logT, atT, intern, internL, kp_ents, fz_ents, fz_bytes, kp_bytes, logR, logE, ← List.map_take, ← List.map_drop, List.take_length, beq_self_eq_true] at hσ_; subst hσ_
    refine TL.st rfl (S_pick rfl rfl rfl) ?_
    intro σ_ hσ_; simp only [nrm, tev, St.step, putO, setsV, addO, ↓reduceIte, Nat.reduceAdd, logT, atT, intern, internL, kp_ents, fz_ents, fz_bytes, kp_bytes, logR, logE, ← List.map_take, ← List.map_drop, List.take_length, beq_self_eq_true] at hσ_; subst hσ_
    refine TL.st rfl (S_move rfl) ?_
    intro σ_ hσ_; simp only [nrm, tev, St.step, putO, setsV, addO, ↓reduceIte, Nat.reduceAdd, logT, atT, intern, internL, kp_ents, fz_ents, fz_bytes, kp_bytes, logR, logE, ← List.map_take, ← List.map_drop, List.take_length, beq_self_eq_true] at hσ_; subst hσ_
    first | refine TL.st_g rfl rfl rfl (Nat.le_of_ble_eq_true rfl) rfl (S_move rfl) ?_ | refine TL.sk_g rfl rfl rfl (Nat.le_of_ble_eq_true rfl) rfl rfl ?_
    intro σ_ hσ_; simp only [nrm, tev, St.step, putO, setsV, addO, ↓reduceIte, Nat.reduceAdd, logT, atT, intern, internL, kp_ents, fz_ents, fz_bytes, kp_bytes, logR, logE, ← List.map_take, ← List.map_drop, List.take_length, beq_self_eq_true] at hσ_; subst hσ_
    first | refine TL.st_g rfl rfl rfl (Nat.le_of_ble_eq_true rfl) rfl (S_fieldAddr rfl rfl (tT rfl) rfl rfl (tT rfl) (by decide)) ?_ | refine TL.st_g rfl rfl rfl (Nat.le_of_ble_eq_true rfl) rfl (S_fieldAddr_eptr rfl rfl (tT rfl) rfl rfl (tT rfl) (by decide)) ?_ | refine TL.sk_g rfl rfl rfl (Nat.le_of_ble_eq_true rfl) rfl rfl ?_
    intro σ_ hσ_; simp only [nrm, tev, St.step, putO, setsV, addO, ↓reduceIte, Nat.reduceAdd, logT, atT, intern, internL, kp_ents, fz_ents, fz_bytes, kp_bytes, logR, logE, ← List.map_take, ← List.map_drop, List.take_length, beq_self_eq_true] at hσ_; subst hσ_
    first | refine TL.st_g rfl rfl rfl (Nat.le_of_ble_eq_true rfl) rfl (S_fieldAddr rfl rfl (tT rfl) rfl rfl (tT rfl) (by decide)) ?_ | refine TL.st_g rfl rfl rfl (Nat.le_of_ble_eq_true rfl) rfl (S_fieldAddr_eptr rfl rfl (tT rfl) rfl rfl (tT rfl) (by decide)) ?_ | refine TL.sk_g rfl rfl rfl (Nat.le_of_ble_eq_true rfl) rfl rfl ?_
    intro σ_ hσ_; simp only [nrm, tev, St.step, putO, setsV, addO, ↓reduceIte, Nat.reduceAdd, logT, atT, intern, internL, kp_ents, fz_ents, fz_bytes, kp_bytes, logR, logE, ← List.map_take, ← List.map_drop, List.take_length, beq_self_eq_true] at hσ_; subst hσ_
    first | refine TL.st_g rfl rfl rfl (Nat.le_of_ble_eq_true rfl) rfl (S_load rfl rfl rfl (tT rfl) rfl) ?_ | refine TL.st_g rfl rfl rfl (Nat.le_of_ble_eq_true rfl) rfl (S_load_eptr rfl rfl (tT rfl) rfl) ?_ | refine TL.st_g rfl rfl rfl (Nat.le_of_ble_eq_true rfl) rfl (S_load_row rfl rfl rfl rfl (by assumption) (tT rfl) rfl) ?_ | refine TL.st_g rfl rfl rfl (Nat.le_of_ble_eq_true rfl) rfl (S_load_row (j := 0) rfl rfl rfl rfl (by assumption) (tT rfl) rfl) ?_ | refine TL.sk_g rfl rfl rfl (Nat.le_of_ble_eq_true rfl) rfl rfl ?_
    intro σ_ hσ_; simp only [nrm, tev, St.step, putO, setsV, addO, ↓reduceIte, Nat.reduceAdd, logT, atT, intern, internL, kp_ents, fz_ents, fz_bytes, kp_bytes, logR, logE, ← List.map_take, ← List.map_drop, List.take_length, beq_self_eq_true] at hσ_; subst hσ_
    first | refine TL.st_g rfl rfl rfl (Nat.le_of_ble_eq_true rfl) rfl (S_move rfl) ?_ | refine TL.sk_g rfl rfl rfl (Nat.le_of_ble_eq_true rfl) rfl rfl ?_
    intro σ_ hσ_; simp only [nrm, tev, St.step, putO, setsV, addO, ↓reduceIte, Nat.reduceAdd, logT, atT, intern, internL, kp_ents, fz_ents, fz_bytes, kp_bytes, logR, logE, ← List.map_take, ← List.map_drop, List.take_length, beq_self_eq_true] at hσ_; subst hσ_
    first | refine TL.st_g rfl rfl rfl (Nat.le_of_ble_eq_true rfl) rfl (S_len rfl rfl (tT rfl) rfl (.inl ⟨_, _, rfl, rfl⟩)) ?_ | refine TL.st_g rfl rfl rfl (Nat.le_of_ble_eq_true rfl) rfl (S_len rfl rfl (tT rfl) rfl (.inr (.inl ⟨_, _, _, _, rfl, rfl, rfl⟩))) ?_ | refine TL.st_g rfl rfl rfl (Nat.le_of_ble_eq_true rfl) rfl (S_len rfl rfl (tT rfl) rfl (.inr (.inr ⟨rfl, rfl⟩))) ?_ | refine TL.st_g rfl rfl rfl (Nat.le_of_ble_eq_true rfl) rfl (S_len_str rfl rfl (tT rfl) rfl rfl) ?_ | refine TL.st_g rfl rfl rfl (Nat.le_of_ble_eq_true rfl) rfl (S_len_arr rfl rfl (tT rfl) rfl) ?_ | refine TL.sk_g rfl rfl rfl (Nat.le_of_ble_eq_true rfl) rfl rfl ?_
    intro σ_ hσ_; simp only [nrm, tev, St.step, putO, setsV, addO, ↓reduceIte, Nat.reduceAdd, logT, atT, intern, internL, kp_ents, fz_ents, fz_bytes, kp_bytes, logR, logE, ← List.map_take, ← List.map_drop, List.take_length, beq_self_eq_true] at hσ_; subst hσ_
    first | refine TL.st_g rfl rfl rfl (Nat.le_of_ble_eq_true rfl) rfl (S_conv_int rfl rfl (tT rfl) (tT rfl) rfl (vi64 (by omega))) ?_ | refine TL.st_g rfl rfl rfl (Nat.le_of_ble_eq_true rfl) rfl (S_conv_int rfl rfl (tT rfl) (tT rfl) rfl (vu64 (by omega))) ?_ | refine TL.st_g rfl rfl rfl (Nat.le_of_ble_eq_true rfl) rfl (S_conv_int rfl rfl (tT rfl) (tT rfl) rfl (vu8 (by omega))) ?_ | refine TL.st_g rfl rfl rfl (Nat.le_of_ble_eq_true rfl) rfl (S_conv_int rfl rfl (tT rfl) (tT rfl) rfl rfl) ?_ | refine TL.st_g rfl rfl rfl (Nat.le_of_ble_eq_true rfl) rfl (S_conv_str rfl rfl (tT rfl) (tT rfl) rfl) ?_ | refine TL.sk_g rfl rfl rfl (Nat.le_of_ble_eq_true rfl) rfl rfl ?_
    intro σ_ hσ_; simp only [nrm, tev, St.step, putO, setsV, addO, ↓reduceIte, Nat.reduceAdd, logT, atT, intern, internL, kp_ents, fz_ents, fz_bytes, kp_bytes, logR, logE, ← List.map_take, ← List.map_drop, List.take_length, beq_self_eq_true] at hσ_; subst hσ_
    first | refine TL.st_g rfl rfl rfl (Nat.le_of_ble_eq_true rfl) rfl (S_int rfl rfl rfl rfl (vi64 (by omega))) ?_ | refine TL.st_g rfl rfl rfl (Nat.le_of_ble_eq_true rfl) rfl (S_int rfl rfl rfl rfl (vu64 (by omega))) ?_ | refine TL.st_g rfl rfl rfl (Nat.le_of_ble_eq_true rfl) rfl (S_int rfl rfl rfl rfl rfl) ?_ | refine TL.sk_g rfl rfl rfl (Nat.le_of_ble_eq_true rfl) rfl rfl ?_
    intro σ_ hσ_; simp only [nrm, tev, St.step, putO, setsV, addO, ↓reduceIte, Nat.reduceAdd, logT, atT, intern, internL, kp_ents, fz_ents, fz_bytes, kp_bytes, logR, logE, ← List.map_take, ← List.map_drop, List.take_length, beq_self_eq_true] at hσ_; subst hσ_
    first | refine TL.st_g rfl rfl rfl (Nat.le_of_ble_eq_true rfl) rfl (S_int rfl rfl rfl rfl (vnt (by omega))) ?_ | refine TL.st_g rfl rfl rfl (Nat.le_of_ble_eq_true rfl) rfl (S_int rfl rfl rfl rfl (vnf (by omega))) ?_ | refine TL.st_g rfl rfl rfl (Nat.le_of_ble_eq_true rfl) rfl (S_int rfl rfl rfl rfl rfl) ?_ | refine TL.st_g rfl rfl rfl (Nat.le_of_ble_eq_true rfl) rfl (S_boolneq rfl rfl rfl rfl (tT rfl) rfl) ?_ | refine TL.sk_g rfl rfl rfl (Nat.le_of_ble_eq_true rfl) rfl rfl ?_
    intro σ_ hσ_; simp only [nrm, tev, St.step, putO, setsV, addO, ↓reduceIte, Nat.reduceAdd, logT, atT, intern, internL, kp_ents, fz_ents, fz_bytes, kp_bytes, logR, logE, ← List.map_take, ← List.map_drop, List.take_length, beq_self_eq_true] at hσ_; subst hσ_
    refine TL.st rfl (S_pick rfl rfl rfl) ?_
    intro σ_ hσ_; simp only [nrm, tev, St.step, putO, setsV, addO, ↓reduceIte, Nat.reduceAdd, logT, atT, intern, internL, kp_ents, fz_ents, fz_bytes, kp_bytes, logR, logE, ← List.map_take, ← List.map_drop, List.take_length, beq_self_eq_true] at hσ_; subst hσ_
    refine TL.st rfl (S_move rfl) ?_
    intro σ_ hσ_; simp only [nrm, tev, St.step, putO, setsV, addO, ↓reduceIte, Nat.reduceAdd, logT, atT, intern, internL, kp_ents, fz_ents, fz_bytes, kp_bytes, logR, logE, ← List.map_take, ← List.map_drop, List.take_length, beq_self_eq_true] at hσ_; subst hσ_
    first | refine TL.st_g rfl rfl rfl (Nat.le_of_ble_eq_true rfl) rfl (S_move rfl) ?_ | refine TL.sk_g rfl rfl rfl (Nat.le_of_ble_eq_true rfl) rfl rfl ?_
    intro σ_ hσ_; simp only [nrm, tev, St.step, putO, setsV, addO, ↓reduceIte, Nat.reduceAdd, logT, atT, intern, internL, kp_ents, fz_ents, fz_bytes, kp_bytes, logR, logE, ← List.map_take, ← List.map_drop, List.take_length, beq_self_eq_true] at hσ_; subst hσ_
    first | refine TL.st_g rfl rfl rfl (Nat.le_of_ble_eq_true rfl) rfl (S_move rfl) ?_ | refine TL.sk_g rfl rfl rfl (Nat.le_of_ble_eq_true rfl) rfl rfl ?_
    intro σ_ hσ_; simp only [nrm, tev, St.step, putO, setsV, addO, ↓reduceIte, Nat.reduceAdd, logT, atT, intern, internL, kp_ents, fz_ents, fz_bytes, kp_bytes, logR, logE, ← List.map_take, ← List.map_drop, List.take_length, beq_self_eq_true] at hσ_; subst hσ_
    first | refine TL.st_g rfl rfl rfl (Nat.le_of_ble_eq_true rfl) rfl (S_len rfl rfl (tT rfl) rfl (.inl ⟨_, _, rfl, rfl⟩)) ?_ | refine TL.st_g rfl rfl rfl (Nat.le_of_ble_eq_true rfl) rfl (S_len rfl rfl (tT rfl) rfl (.inr (.inl ⟨_, _, _, _, rfl, rfl, rfl⟩))) ?_ | refine TL.st_g rfl rfl rfl (Nat.le_of_ble_eq_true rfl) rfl (S_len rfl rfl (tT rfl) rfl (.inr (.inr ⟨rfl, rfl⟩))) ?_ | refine TL.st_g rfl rfl rfl (Nat.le_of_ble_eq_true rfl) rfl (S_len_str rfl rfl (tT rfl) rfl rfl) ?_ | refine TL.st_g rfl rfl rfl (Nat.le_of_ble_eq_true rfl) rfl (S_len_arr rfl rfl (tT rfl) rfl) ?_ | refine TL.sk_g rfl rfl rfl (Nat.le_of_ble_eq_true rfl) rfl rfl ?_
    intro σ_ hσ_; simp only [nrm, tev, St.step, putO, setsV, addO, ↓reduceIte, Nat.reduceAdd, logT, atT, intern, internL, kp_ents, fz_ents, fz_bytes, kp_bytes, logR, logE, ← List.map_take, ← List.map_drop, List.take_length, beq_self_eq_true] at hσ_; subst hσ_
    first | refine TL.st_g rfl rfl rfl (Nat.le_of_ble_eq_true rfl) rfl (S_int rfl rfl rfl rfl (vbt (by omega))) ?_ | refine TL.st_g rfl rfl rfl (Nat.le_of_ble_eq_true rfl) rfl (S_int rfl rfl rfl rfl (vbf (by omega))) ?_ | refine TL.st_g rfl rfl rfl (Nat.le_of_ble_eq_true rfl) rfl (S_int rfl rfl rfl rfl rfl) ?_ | refine TL.sk_g rfl rfl rfl (Nat.le_of_ble_eq_true rfl) rfl rfl ?_
    intro σ_ hσ_; simp only [nrm, tev, St.step, putO, setsV, addO, ↓reduceIte, Nat.reduceAdd, logT, atT, intern, internL, kp_ents, fz_ents, fz_bytes, kp_bytes, logR, logE, ← List.map_take, ← List.map_drop, List.take_length, beq_self_eq_true] at hσ_; subst hσ_
    refine TL.st rfl (S_pick rfl rfl rfl) ?_
    intro σ_ hσ_; simp only [nrm, tev, St.step, putO, setsV, addO, ↓reduceIte, Nat.reduceAdd, logT, atT, intern, internL, kp_ents, fz_ents, fz_bytes, kp_bytes, logR, logE, ← List.map_take, ← List.map_drop, List.take_length, beq_self_eq_true] at hσ_; subst hσ_
    refine TL.nil ?_
    try simp (decide := true) only [thenT, inBlockT, noGotoT, jumpT, ↓reduceIte, true_and]
    refine hK10_ _ ?_
    refine TW.cond_f rfl (rfl) ?_
    refine TW.skip ?_
    try simp (decide := true) only [thenT, inBlockT, noGotoT, jumpT, ↓reduceIte, true_and]
    refine hK9_ _ ?_
    refine TW.seq_k ?_
    intro K11_ hK11_
    refine TW.reg ?_
    first | refine TL.st rfl (S_load rfl rfl rfl (tT rfl) rfl) ?_ | refine TL.st rfl (S_load_eptr rfl rfl (tT rfl) rfl) ?_ | refine TL.st rfl (S_load_row rfl rfl rfl rfl (by assumption) (tT rfl) rfl) ?_ | refine TL.st rfl (S_load_row (j := 0) rfl rfl rfl rfl (by assumption) (tT rfl) rfl) ?_
    intro σ_ hσ_; simp only [nrm, tev, St.step, putO, setsV, addO, ↓reduceIte, Nat.reduceAdd, logT, atT, intern, internL, kp_ents, fz_ents, fz_bytes, kp_bytes, logR, logE, ← List.map_take, ← List.map_drop, List.take_length, beq_self_eq_true] at hσ_; subst hσ_
    first | refine TL.st rfl (S_fieldAddr rfl rfl (tT rfl) rfl rfl (tT rfl) (by decide)) ?_ | refine TL.st rfl (S_fieldAddr_eptr rfl rfl (tT rfl) rfl rfl (tT rfl) (by decide)) ?_
    intro σ_ hσ_; simp only [nrm, tev, St.step, putO, setsV, addO, ↓reduceIte, Nat.reduceAdd, logT, atT, intern, internL, kp_ents, fz_ents, fz_bytes, kp_bytes, logR, logE, ← List.map_take, ← List.map_drop, List.take_length, beq_self_eq_true] at hσ_; subst hσ_
    first | refine TL.st rfl (S_load rfl rfl rfl (tT rfl) rfl) ?_ | refine TL.st rfl (S_load_eptr rfl rfl (tT rfl) rfl) ?_ | refine TL.st rfl (S_load_row rfl rfl rfl rfl (by assumption) (tT rfl) rfl) ?_ | refine TL.st rfl (S_load_row (j := 0) rfl rfl rfl rfl (by assumption) (tT rfl) rfl) ?_
    intro σ_ hσ_; simp only [nrm, tev, St.step, putO, setsV, addO, ↓reduceIte, Nat.reduceAdd, logT, atT, intern, internL, kp_ents, fz_ents, fz_bytes, kp_bytes, logR, logE, ← List.map_take, ← List.map_drop, List.take_length, beq_self_eq_true] at hσ_; subst hσ_
    refine TL.st rfl (S_move rfl) ?_
    intro σ_ hσ_; simp only [nrm, tev, St.step, putO, setsV, addO, ↓reduceIte, Nat.reduceAdd, logT, atT, intern, internL, kp_ents, fz_ents, fz_bytes, kp_bytes, logR, logE, ← List.map_take, ← List.map_drop, List.take_length, beq_self_eq_true] at hσ_; subst hσ_
    first | refine TL.st rfl (S_call_row rfl rfl rfl (by kernel_rfl) rfl ((meet_T _ _ x.i x.t es xf hi0 hi1 _ _ more mf p hp0 hp1).eq rfl (by rw [hm1, hm0])) rfl) ?_ | refine TL.st rfl (S_call rfl rfl rfl (by kernel_rfl) rfl ((meet_T _ _ x.i x.t es xf hi0 hi1 _ _ more mf p hp0 hp1).eq rfl (by rw [hm1, hm0]))) ?_ | refine TL.st rfl (S_call_row rfl rfl rfl (by kernel_rfl) rfl ((meet_T _ _ x.i x.t X okX hi0 hi1 _ _ more mf p hp0 hp1).eq rfl (by rw [hm2, ag1])) rfl) ?_ | refine TL.st rfl (S_call rfl rfl rfl (by kernel_rfl) rfl ((meet_T _ _ x.i x.t X okX hi0 hi1 _ _ more mf p hp0 hp1).eq rfl (by rw [hm2, ag1]))) ?_ | refine TL.st rfl (S_call_row rfl rfl rfl (by kernel_rfl) rfl ((meet_T _ _ x.i x.t es xf hi0 hi1 _ _ more mf p hp0 hp1).eq rfl (by rw [meetR_of he, he])) rfl) ?_ | refine TL.st rfl (S_call rfl rfl rfl (by kernel_rfl) rfl ((meet_T _ _ x.i x.t es xf hi0 hi1 _ _ more mf p hp0 hp1).eq rfl (by rw [meetR_of he, he]))) ?_ | refine TL.st rfl (S_call_row rfl rfl rfl (by kernel_rfl) rfl ((meet_T _ _ x.i x.t es xf hi0 hi1 _ _ more mf p hp0 hp1).eq rfl (by rw [meetR_ne he])) rfl) ?_ | refine TL.st rfl (S_call rfl rfl rfl (by kernel_rfl) rfl ((meet_T _ _ x.i x.t es xf hi0 hi1 _ _ more mf p hp0 hp1).eq rfl (by rw [meetR_ne he]))) ?_
    intro σ_ hσ_; simp only [nrm, tev, St.step, putO, setsV, addO, ↓reduceIte, Nat.reduceAdd, logT, atT, intern, internL, kp_ents, fz_ents, fz_bytes, kp_bytes, logR, logE, ← List.map_take, ← List.map_drop, List.take_length, beq_self_eq_true] at hσ_; subst hσ_
    refine TL.st rfl (S_move rfl) ?_
    intro σ_ hσ_; simp only [nrm, tev, St.step, putO, setsV, addO, ↓reduceIte, Nat.reduceAdd, logT, atT, intern, internL, kp_ents, fz_ents, fz_bytes, kp_bytes, logR, logE, ← List.map_take, ← List.map_drop, List.take_length, beq_self_eq_true] at hσ_; subst hσ_
    refine TL.st rfl (S_extract rfl rfl rfl) ?_
    intro σ_ hσ_; simp only [nrm, tev, St.step, putO, setsV, addO, ↓reduceIte, Nat.reduceAdd, logT, atT, intern, internL, kp_ents, fz_ents, fz_bytes, kp_bytes, logR, logE, ← List.map_take, ← List.map_drop, List.take_length, beq_self_eq_true] at hσ_; subst hσ_
    refine TL.st rfl (S_extract rfl rfl rfl) ?_
    intro σ_ hσ_; simp only [nrm, tev, St.step, putO, setsV, addO, ↓reduceIte, Nat.reduceAdd, logT, atT, intern, internL, kp_ents, fz_ents, fz_bytes, kp_bytes, logR, logE, ← List.map_take, ← List.map_drop, List.take_length, beq_self_eq_true] at hσ_; subst hσ_
    refine TL.st rfl (S_assign rfl) ?_
    intro σ_ hσ_; simp only [nrm, tev, St.step, putO, setsV, addO, ↓reduceIte, Nat.reduceAdd, logT, atT, intern, internL, kp_ents, fz_ents, fz_bytes, kp_bytes, logR, logE, ← List.map_take, ← List.map_drop, List.take_length, beq_self_eq_true] at hσ_; subst hσ_
    refine TL.st rfl (S_assign rfl) ?_
    intro σ_ hσ_; simp only [nrm, tev, St.step, putO, setsV, addO, ↓reduceIte, Nat.reduceAdd, logT, atT, intern, internL, kp_ents, fz_ents, fz_bytes, kp_bytes, logR, logE, ← List.map_take, ← List.map_drop, List.take_length, beq_self_eq_true] at hσ_; subst hσ_
    refine TL.nil ?_
    try simp (decide := true) only [thenT, inBlockT, noGotoT, jumpT, ↓reduceIte, true_and]
    refine hK11_ _ ?_
    refine TW.seq_k ?_
    intro K12_ hK12_
    refine TW.reg ?_
    first | refine TL.st rfl (S_load rfl rfl rfl (tT rfl) rfl) ?_ | refine TL.st rfl (S_load_eptr rfl rfl (tT rfl) rfl) ?_ | refine TL.st rfl (S_load_row rfl rfl rfl rfl (by assumption) (tT rfl) rfl) ?_ | refine TL.st rfl (S_load_row (j := 0) rfl rfl rfl rfl (by assumption) (tT rfl) rfl) ?_
    intro σ_ hσ_; simp only [nrm, tev, St.step, putO, setsV, addO, ↓reduceIte, Nat.reduceAdd, logT, atT, intern, internL, kp_ents, fz_ents, fz_bytes, kp_bytes, logR, logE, ← List.map_take, ← List.map_drop, List.take_length, beq_self_eq_true] at hσ_; subst hσ_
    first | refine TL.st rfl (S_fieldAddr rfl rfl (tT rfl) rfl rfl (tT rfl) (by decide)) ?_ | refine TL.st rfl (S_fieldAddr_eptr rfl rfl (tT rfl) rfl rfl (tT rfl) (by decide)) ?_
    intro σ_ hσ_; simp only [nrm, tev, St.step, putO, setsV, addO, ↓reduceIte, Nat.reduceAdd, logT, atT, intern, internL, kp_ents, fz_ents, fz_bytes, kp_bytes, logR, logE, ← List.map_take, ← List.map_drop, List.take_length, beq_self_eq_true] at hσ_; subst hσ_
    first | refine TL.st rfl (S_load rfl rfl rfl (tT rfl) rfl) ?_ | refine TL.st rfl (S_load_eptr rfl rfl (tT rfl) rfl) ?_ | refine TL.st rfl (S_load_row rfl rfl rfl rfl (by assumption) (tT rfl) rfl) ?_ | refine TL.st rfl (S_load_row (j := 0) rfl rfl rfl rfl (by assumption) (tT rfl) rfl) ?_
    intro σ_ hσ_; simp only [nrm, tev, St.step, putO, setsV, addO, ↓reduceIte, Nat.reduceAdd, logT, atT, intern, internL, kp_ents, fz_ents, fz_bytes, kp_bytes, logR, logE, ← List.map_take, ← List.map_drop, List.take_length, beq_self_eq_true] at hσ_; subst hσ_
    refine TL.st rfl (S_move rfl) ?_
    intro σ_ hσ_; simp only [nrm, tev, St.step, putO, setsV, addO, ↓reduceIte, Nat.reduceAdd, logT, atT, intern, internL, kp_ents, fz_ents, fz_bytes, kp_bytes, logR, logE, ← List.map_take, ← List.map_drop, List.take_length, beq_self_eq_true] at hσ_; subst hσ_
    first | refine TL.st rfl (S_call_row rfl rfl rfl (by kernel_rfl) rfl ((take_T _ _ x.i x.t es xf hi0 hi1 _ _ more mf p hp0 hp1).eq rfl (by simp only [logE, hT, hTA, hX, ↓reduceIte]; rfl)) rfl) ?_ | refine TL.st rfl (S_call rfl rfl rfl (by kernel_rfl) rfl ((take_T _ _ x.i x.t es xf hi0 hi1 _ _ more mf p hp0 hp1).eq rfl (by simp only [logE, hT, hTA, hX, ↓reduceIte]; rfl))) ?_ | refine TL.st rfl (S_call_row rfl rfl rfl (by kernel_rfl) rfl ((take_T _ _ x.i x.t X okX hi0 hi1 _ _ more mf p hp0 hp1).eq rfl (by simp only [logE, tw1, tw2, hTA2, ↓reduceIte]; rfl)) rfl) ?_ | refine TL.st rfl (S_call rfl rfl rfl (by kernel_rfl) rfl ((take_T _ _ x.i x.t X okX hi0 hi1 _ _ more mf p hp0 hp1).eq rfl (by simp only [logE, tw1, tw2, hTA2, ↓reduceIte]; rfl))) ?_ | refine TL.st rfl (S_call_row rfl rfl rfl (by kernel_rfl) rfl ((take_T _ _ x.i x.t es xf hi0 hi1 _ _ more mf p hp0 hp1).eq rfl (by simp only [logE, hT, hTA, ↓reduceIte]; rfl)) rfl) ?_ | refine TL.st rfl (S_call rfl rfl rfl (by kernel_rfl) rfl ((take_T _ _ x.i x.t es xf hi0 hi1 _ _ more mf p hp0 hp1).eq rfl (by simp only [logE, hT, hTA, ↓reduceIte]; rfl))) ?_
    intro σ_ hσ_; simp only [nrm, tev, St.step, putO, setsV, addO, ↓reduceIte, Nat.reduceAdd, logT, atT, intern, internL, kp_ents, fz_ents, fz_bytes, kp_bytes, logR, logE, ← List.map_take, ← List.map_drop, List.take_length, beq_self_eq_true] at hσ_; subst hσ_
    refine TL.st rfl (S_move rfl) ?_
    intro σ_ hσ_; simp only [nrm, tev, St.step, putO, setsV, addO, ↓reduceIte, Nat.reduceAdd, logT, atT, intern, internL, kp_ents, fz_ents, fz_bytes, kp_bytes, logR, logE, ← List.map_take, ← List.map_drop, List.take_length, beq_self_eq_true] at hσ_; subst hσ_
    refine TL.st rfl (S_extract rfl rfl rfl) ?_
    intro σ_ hσ_; simp only [nrm, tev, St.step, putO, setsV, addO, ↓reduceIte, Nat.reduceAdd, logT, atT, intern, internL, kp_ents, fz_ents, fz_bytes, kp_bytes, logR, logE, ← List.map_take, ← List.map_drop, List.take_length, beq_self_eq_true] at hσ_; subst hσ_
    refine TL.st rfl (S_extract rfl rfl rfl) ?_
    intro σ_ hσ_; simp only [nrm, tev, St.step, putO, setsV, addO, ↓reduceIte, Nat.reduceAdd, logT, atT, intern, internL, kp_ents, fz_ents, fz_bytes, kp_bytes, logR, logE, ← List.map_take, ← List.map_drop, List.take_length, beq_self_eq_true] at hσ_; subst hσ_
    refine TL.st rfl (S_extract rfl rfl rfl) ?_
    intro σ_ hσ_; simp only [nrm, tev, St.step, putO, setsV, addO, ↓reduceIte, Nat.reduceAdd, logT, atT, intern, internL, kp_ents, fz_ents, fz_bytes, kp_bytes, logR, logE, ← List.map_take, ← List.map_drop, List.take_length, beq_self_eq_true] at hσ_; subst hσ_
    refine TL.st rfl (S_alloc rfl (zT rfl) rfl) ?_
    intro σ_ hσ_; simp only [nrm, tev, St.step, putO, setsV, addO, ↓reduceIte, Nat.reduceAdd, logT, atT, intern, internL, kp_ents, fz_ents, fz_bytes, kp_bytes, logR, logE, ← List.map_take, ← List.map_drop, List.take_length, beq_self_eq_true] at hσ_; subst hσ_
    first | refine TL.sto rfl rfl rfl rfl (tT rfl) rfl rfl rfl (Nat.le_of_ble_eq_true rfl) ?_ | refine TL.sto_row rfl rfl rfl rfl rfl (by assumption) (tT rfl) rfl rfl rfl (Nat.le_of_ble_eq_true rfl) ?_ | refine TL.sto_row (j := 0) rfl rfl rfl rfl rfl (by assumption) (tT rfl) rfl rfl rfl (Nat.le_of_ble_eq_true rfl) ?_
    intro σ_ hσ_; simp only [nrm, tev, St.step, putO, setsV, addO, ↓reduceIte, Nat.reduceAdd, logT, atT, intern, internL, kp_ents, fz_ents, fz_bytes, kp_bytes, logR, logE, ← List.map_take, ← List.map_drop, List.take_length, beq_self_eq_true] at hσ_; subst hσ_
    refine TL.st rfl (S_assign rfl) ?_
    intro σ_ hσ_; simp only [nrm, tev, St.step, putO, setsV, addO, ↓reduceIte, Nat.reduceAdd, logT, atT, intern, internL, kp_ents, fz_ents, fz_bytes, kp_bytes, logR, logE, ← List.map_take, ← List.map_drop, List.take_length, beq_self_eq_true] at hσ_; subst hσ_
    refine TL.st rfl (S_assign rfl) ?_
    intro σ_ hσ_; simp only [nrm, tev, St.step, putO, setsV, addO, ↓reduceIte, Nat.reduceAdd, logT, atT, intern, internL, kp_ents, fz_ents, fz_bytes, kp_bytes, logR, logE, ← List.map_take, ← List.map_drop, List.take_length, beq_self_eq_true] at hσ_; subst hσ_
    refine TL.nil ?_
    try simp (decide := true) only [thenT, inBlockT, noGotoT, jumpT, ↓reduceIte, true_and]
    refine hK12_ _ ?_
    refine TW.seq_k ?_
    intro K13_ hK13_
    refine TW.seq_k ?_
    intro K14_ hK14_
    refine TW.frz 6 rfl ?_
    intro σ_ hσ_; simp (decide := true) only [nrm, tev, St.step, putO, setsV, addO, ↓reduceIte, Nat.reduceAdd, logT, atT, intern, internL, kp_ents, fz_ents, fz_bytes, kp_bytes, logR, logE, ← List.map_take, ← List.map_drop, List.take_length, beq_self_eq_true, fz, fzL, fzLL, LB.fz, kpL, kp, bar, LB.kp, kpLL_append, kpLL, List.map_cons, List.map_nil, List.set_cons_zero, List.set_cons_succ, ↓reduceIte] at hσ_; subst hσ_
    refine TW.reg ?_
    refine TL.st rfl (S_move rfl) ?_
    intro σ_ hσ_; simp only [nrm, tev, St.step, putO, setsV, addO, ↓reduceIte, Nat.reduceAdd, logT, atT, intern, internL, kp_ents, fz_ents, fz_bytes, kp_bytes, logR, logE, ← List.map_take, ← List.map_drop, List.take_length, beq_self_eq_true] at hσ_; subst hσ_
    first | refine TL.st rfl (S_int rfl rfl rfl rfl (vnt (by omega))) ?_ | refine TL.st rfl (S_int rfl rfl rfl rfl (vnf (by omega))) ?_ | refine TL.st rfl (S_int rfl rfl rfl rfl rfl) ?_ | refine TL.st rfl (S_boolneq rfl rfl rfl rfl (tT rfl) rfl) ?_
    intro σ_ hσ_; simp only [nrm, tev, St.step, putO, setsV, addO, ↓reduceIte, Nat.reduceAdd, logT, atT, intern, internL, kp_ents, fz_ents, fz_bytes, kp_bytes, logR, logE, ← List.map_take, ← List.map_drop, List.take_length, beq_self_eq_true] at hσ_; subst hσ_
    refine TL.st rfl (S_move rfl) ?_
    intro σ_ hσ_; simp only [nrm, tev, St.step, putO, setsV, addO, ↓reduceIte, Nat.reduceAdd, logT, atT, intern, internL, kp_ents, fz_ents, fz_bytes, kp_bytes, logR, logE, ← List.map_take, ← List.map_drop, List.take_length, beq_self_eq_true] at hσ_; subst hσ_
    first | refine TL.st_g rfl rfl rfl (Nat.le_of_ble_eq_true rfl) rfl (S_move rfl) ?_ | refine TL.sk_g rfl rfl rfl (Nat.le_of_ble_eq_true rfl) rfl rfl ?_
    intro σ_ hσ_; simp only [nrm, tev, St.step, putO, setsV, addO, ↓reduceIte, Nat.reduceAdd, logT, atT, intern, internL, kp_ents, fz_ents, fz_bytes, kp_bytes, logR, logE, ← List.map_take, ← List.map_drop, List.take_length, beq_self_eq_true] at hσ_; subst hσ_
    first | refine TL.st_g rfl rfl rfl (Nat.le_of_ble_eq_true rfl) rfl (S_int rfl rfl rfl rfl (vnt (by omega))) ?_ | refine TL.st_g rfl rfl rfl (Nat.le_of_ble_eq_true rfl) rfl (S_int rfl rfl rfl rfl (vnf (by omega))) ?_ | refine TL.st_g rfl rfl rfl (Nat.le_of_ble_eq_true rfl) rfl (S_int rfl rfl rfl rfl rfl) ?_ | refine TL.st_g rfl rfl rfl (Nat.le_of_ble_eq_true rfl) rfl (S_boolneq rfl rfl rfl rfl (tT rfl) rfl) ?_ | refine TL.sk_g rfl rfl rfl (Nat.le_of_ble_eq_true rfl) rfl rfl ?_
    intro σ_ hσ_; simp only [nrm, tev, St.step, putO, setsV, addO, ↓reduceIte, Nat.reduceAdd, logT, atT, intern, internL, kp_ents, fz_ents, fz_bytes, kp_bytes, logR, logE, ← List.map_take, ← List.map_drop, List.take_length, beq_self_eq_true] at hσ_; subst hσ_
    refine TL.st rfl (S_pick rfl rfl rfl) ?_
    intro σ_ hσ_; simp only [nrm, tev, St.step, putO, setsV, addO, ↓reduceIte, Nat.reduceAdd, logT, atT, intern, internL, kp_ents, fz_ents, fz_bytes, kp_bytes, logR, logE, ← List.map_take, ← List.map_drop, List.take_length, beq_self_eq_true] at hσ_; subst hσ_
    refine TL.st rfl (S_move rfl) ?_
    intro σ_ hσ_; simp only [nrm, tev, St.step, putO, setsV, addO, ↓reduceIte, Nat.reduceAdd, logT, atT, intern, internL, kp_ents, fz_ents, fz_bytes, kp_bytes, logR, logE, ← List.map_take, ← List.map_drop, List.take_length, beq_self_eq_true] at hσ_; subst hσ_
    first | refine TL.st_g rfl rfl rfl (Nat.le_of_ble_eq_true rfl) rfl (S_move rfl) ?_ | refine TL.sk_g rfl rfl rfl (Nat.le_of_ble_eq_true rfl) rfl rfl ?_
    intro σ_ hσ_; simp only [nrm, tev, St.step, putO, setsV, addO, ↓reduceIte, Nat.reduceAdd, logT, atT, intern, internL, kp_ents, fz_ents, fz_bytes, kp_bytes, logR, logE, ← List.map_take, ← List.map_drop, List.take_length, beq_self_eq_true] at hσ_; subst hσ_
    first | refine TL.st_g rfl rfl rfl (Nat.le_of_ble_eq_true rfl) rfl (S_move rfl) ?_ | refine TL.sk_g rfl rfl rfl (Nat.le_of_ble_eq_true rfl) rfl rfl ?_
    intro σ_ hσ_; simp only [nrm, tev, St.step, putO, setsV, addO, ↓reduceIte, Nat.reduceAdd, logT, atT, intern, internL, kp_ents, fz_ents, fz_bytes, kp_bytes, logR, logE, ← List.map_take, ← List.map_drop, List.take_length, beq_self_eq_true] at hσ_; subst hσ_
    first | refine TL.st_g rfl rfl rfl (Nat.le_of_ble_eq_true rfl) rfl (S_len rfl rfl (tT rfl) rfl (.inl ⟨_, _, rfl, rfl⟩)) ?_ | refine TL.st_g rfl rfl rfl (Nat.le_of_ble_eq_true rfl) rfl (S_len rfl rfl (tT rfl) rfl (.inr (.inl ⟨_, _, _, _, rfl, rfl, rfl⟩))) ?_ | refine TL.st_g rfl rfl rfl (Nat.le_of_ble_eq_true rfl) rfl (S_len rfl rfl (tT rfl) rfl (.inr (.inr ⟨rfl, rfl⟩))) ?_ | refine TL.st_g rfl rfl rfl (Nat.le_of_ble_eq_true rfl) rfl (S_len_str rfl rfl (tT rfl) rfl rfl) ?_ | refine TL.st_g rfl rfl rfl (Nat.le_of_ble_eq_true rfl) rfl (S_len_arr rfl rfl (tT rfl) rfl) ?_ | refine TL.sk_g rfl rfl rfl (Nat.le_of_ble_eq_true rfl) rfl rfl ?_
    intro σ_ hσ_; simp only [nrm, tev, St.step, putO, setsV, addO, ↓reduceIte, Nat.reduceAdd, logT, atT, intern, internL, kp_ents, fz_ents, fz_bytes, kp_bytes, logR, logE, ← List.map_take, ← List.map_drop, List.take_length, beq_self_eq_true] at hσ_; subst hσ_
    first | refine TL.st_g rfl rfl rfl (Nat.le_of_ble_eq_true rfl) rfl (S_int rfl rfl rfl rfl (vnt (by omega))) ?_ | refine TL.st_g rfl rfl rfl (Nat.le_of_ble_eq_true rfl) rfl (S_int rfl rfl rfl rfl (vnf (by omega))) ?_ | refine TL.st_g rfl rfl rfl (Nat.le_of_ble_eq_true rfl) rfl (S_int rfl rfl rfl rfl rfl) ?_ | refine TL.st_g rfl rfl rfl (Nat.le_of_ble_eq_true rfl) rfl (S_boolneq rfl rfl rfl rfl (tT rfl) rfl) ?_ | refine TL.sk_g rfl rfl rfl (Nat.le_of_ble_eq_true rfl) rfl rfl ?_
    intro σ_ hσ_; simp only [nrm, tev, St.step, putO, setsV, addO, ↓reduceIte, Nat.reduceAdd, logT, atT, intern, internL, kp_ents, fz_ents, fz_bytes, kp_bytes, logR, logE, ← List.map_take, ← List.map_drop, List.take_length, beq_self_eq_true] at hσ_; subst hσ_
    refine TL.st rfl (S_pick rfl rfl rfl) ?_
    intro σ_ hσ_; simp only [nrm, tev, St.step, putO, setsV, addO, ↓reduceIte, Nat.reduceAdd, logT, atT, intern, internL, kp_ents, fz_ents, fz_bytes, kp_bytes, logR, logE, ← List.map_take, ← List.map_drop, List.take_length, beq_self_eq_true] at hσ_; subst hσ_
    refine TL.st rfl (S_move rfl) ?_
    intro σ_ hσ_; simp only [nrm, tev, St.step, putO, setsV, addO, ↓reduceIte, Nat.reduceAdd, logT, atT, intern, internL, kp_ents, fz_ents, fz_bytes, kp_bytes, logR, logE, ← List.map_take, ← List.map_drop, List.take_length, beq_self_eq_true] at hσ_; subst hσ_
    first | refine TL.st_g rfl rfl rfl (Nat.le_of_ble_eq_true rfl) rfl (S_move rfl) ?_ | refine TL.sk_g rfl rfl rfl (Nat.le_of_ble_eq_true rfl) rfl rfl ?_
    intro σ_ hσ_; simp only [nrm, tev, St.step, putO, setsV, addO, ↓reduceIte, Nat.reduceAdd, logT, atT, intern, internL, kp_ents, fz_ents, fz_bytes, kp_bytes, logR, logE, ← List.map_take, ← List.map_drop, List.take_length, beq_self_eq_true] at hσ_; subst hσ_
    first | refine TL.st_g rfl rfl rfl (Nat.le_of_ble_eq_true rfl) rfl (S_move rfl) ?_ | refine TL.sk_g rfl rfl rfl (Nat.le_of_ble_eq_true rfl) rfl rfl ?_
    intro σ_ hσ_; simp only [nrm, tev, St.step, putO, setsV, addO, ↓reduceIte, Nat.reduceAdd, logT, atT, intern, internL, kp_ents, fz_ents, fz_bytes, kp_bytes, logR, logE, ← List.map_take, ← List.map_drop, List.take_length, beq_self_eq_true] at hσ_; subst hσ_
    first | refine TL.st_g rfl rfl rfl (Nat.le_of_ble_eq_true rfl) rfl (S_int rfl rfl rfl rfl (vnt (by omega))) ?_ | refine TL.st_g rfl rfl rfl (Nat.le_of_ble_eq_true rfl) rfl (S_int rfl rfl rfl rfl (vnf (by omega))) ?_ | refine TL.st_g rfl rfl rfl (Nat.le_of_ble_eq_true rfl) rfl (S_int rfl rfl rfl rfl rfl) ?_ | refine TL.st_g rfl rfl rfl (Nat.le_of_ble_eq_true rfl) rfl (S_boolneq rfl rfl rfl rfl (tT rfl) rfl) ?_ | refine TL.sk_g rfl rfl rfl (Nat.le_of_ble_eq_true rfl) rfl rfl ?_
    intro σ_ hσ_; simp only [nrm, tev, St.step, putO, setsV, addO, ↓reduceIte, Nat.reduceAdd, logT, atT, intern, internL, kp_ents, fz_ents, fz_bytes, kp_bytes, logR, logE, ← List.map_take, ← List.map_drop, List.take_length, beq_self_eq_true] at hσ_; subst hσ_
    refine TL.st rfl (S_pick rfl rfl rfl) ?_
    intro σ_ hσ_; simp only [nrm, tev, St.step, putO, setsV, addO, ↓reduceIte, Nat.reduceAdd, logT, atT, intern, internL, kp_ents, fz_ents, fz_bytes, kp_bytes, logR, logE, ← List.map_take, ← List.map_drop, List.take_length, beq_self_eq_true] at hσ_; subst hσ_
    refine TL.st rfl (S_move rfl) ?_
    intro σ_ hσ_; simp only [nrm, tev, St.step, putO, setsV, addO, ↓reduceIte, Nat.reduceAdd, logT, atT, intern, internL, kp_ents, fz_ents, fz_bytes, kp_bytes, logR, logE, ← List.map_take, ← List.map_drop, List.take_length, beq_self_eq_true] at hσ_; subst hσ_
    first | refine TL.st_g rfl rfl rfl (Nat.le_of_ble_eq_true rfl) rfl (S_load rfl rfl rfl (tT rfl) rfl) ?_ | refine TL.st_g rfl rfl rfl (Nat.le_of_ble_eq_true rfl) rfl (S_load_eptr rfl rfl (tT rfl) rfl) ?_ | refine TL.st_g rfl rfl rfl (Nat.le_of_ble_eq_true rfl) rfl (S_load_row rfl rfl rfl rfl (by assumption) (tT rfl) rfl) ?_ | refine TL.st_g rfl rfl rfl (Nat.le_of_ble_eq_true rfl) rfl (S_load_row (j := 0) rfl rfl rfl rfl (by assumption) (tT rfl) rfl) ?_ | refine TL.sk_g rfl rfl rfl (Nat.le_of_ble_eq_true rfl) rfl rfl ?_
    intro σ_ hσ_; simp only [nrm, tev, St.step, putO, setsV, addO, ↓reduceIte, Nat.reduceAdd, logT, atT, intern, internL, kp_ents, fz_ents, fz_bytes, kp_bytes, logR, logE, ← List.map_take, ← List.map_drop, List.take_length, beq_self_eq_true] at hσ_; subst hσ_
    first | refine TL.st_g rfl rfl rfl (Nat.le_of_ble_eq_true rfl) rfl (S_load rfl rfl rfl (tT rfl) rfl) ?_ | refine TL.st_g rfl rfl rfl (Nat.le_of_ble_eq_true rfl) rfl (S_load_eptr rfl rfl (tT rfl) rfl) ?_ | refine TL.st_g rfl rfl rfl (Nat.le_of_ble_eq_true rfl) rfl (S_load_row rfl rfl rfl rfl (by assumption) (tT rfl) rfl) ?_ | refine TL.st_g rfl rfl rfl (Nat.le_of_ble_eq_true rfl) rfl (S_load_row (j := 0) rfl rfl rfl rfl (by assumption) (tT rfl) rfl) ?_ | refine TL.sk_g rfl rfl rfl (Nat.le_of_ble_eq_true rfl) rfl rfl ?_
    intro σ_ hσ_; simp only [nrm, tev, St.step, putO, setsV, addO, ↓reduceIte, Nat.reduceAdd, logT, atT, intern, internL, kp_ents, fz_ents, fz_bytes, kp_bytes, logR, logE, ← List.map_take, ← List.map_drop, List.take_length, beq_self_eq_true] at hσ_; subst hσ_
    first | refine TL.st_g rfl rfl rfl (Nat.le_of_ble_eq_true rfl) rfl (S_call_row rfl rfl rfl (by kernel_rfl) rfl ((same_T _ _ x.i x.t X okX _ _ x.i x.t X okX).eq rfl (by rw [sameL_self])) rfl) ?_ | refine TL.st_g rfl rfl rfl (Nat.le_of_ble_eq_true rfl) rfl (S_call rfl rfl rfl (by kernel_rfl) rfl ((same_T _ _ x.i x.t X okX _ _ x.i x.t X okX).eq rfl (by rw [sameL_self]))) ?_ | refine TL.sk_g rfl rfl rfl (Nat.le_of_ble_eq_true rfl) rfl rfl ?_
    intro σ_ hσ_; simp only [nrm, tev, St.step, putO, setsV, addO, ↓reduceIte, Nat.reduceAdd, logT, atT, intern, internL, kp_ents, fz_ents, fz_bytes, kp_bytes, logR, logE, ← List.map_take, ← List.map_drop, List.take_length, beq_self_eq_true] at hσ_; subst hσ_
    first | refine TL.st_g rfl rfl rfl (Nat.le_of_ble_eq_true rfl) rfl (S_not rfl rfl) ?_ | refine TL.st_g rfl rfl rfl (Nat.le_of_ble_eq_true rfl) rfl (S_neg rfl rfl) ?_ | refine TL.sk_g rfl rfl rfl (Nat.le_of_ble_eq_true rfl) rfl rfl ?_
    intro σ_ hσ_; simp only [nrm, tev, St.step, putO, setsV, addO, ↓reduceIte, Nat.reduceAdd, logT, atT, intern, internL, kp_ents, fz_ents, fz_bytes, kp_bytes, logR, logE, ← List.map_take, ← List.map_drop, List.take_length, beq_self_eq_true] at hσ_; subst hσ_
    refine TL.st rfl (S_pick rfl rfl rfl) ?_
    intro σ_ hσ_; simp only [nrm, tev, St.step, putO, setsV, addO, ↓reduceIte, Nat.reduceAdd, logT, atT, intern, internL, kp_ents, fz_ents, fz_bytes, kp_bytes, logR, logE, ← List.map_take, ← List.map_drop, List.take_length, beq_self_eq_true] at hσ_; subst hσ_
    refine TL.nil ?_
    try simp (decide := true) only [thenT, inBlockT, noGotoT, jumpT, ↓reduceIte, true_and]
    refine hK14_ _ ?_
    refine TW.cond_f rfl (rfl) ?_
    refine TW.skip ?_
    try simp (decide := true) only [thenT, inBlockT, noGotoT, jumpT, ↓reduceIte, true_and]
    refine hK13_ _ ?_
    refine TW.seq_k ?_
    intro K15_ hK15_
    refine TW.seq_k ?_
    intro K16_ hK16_
    refine TW.reg ?_
    first | refine TL.st rfl (S_fieldAddr rfl rfl (tT rfl) rfl rfl (tT rfl) (by decide)) ?_ | refine TL.st rfl (S_fieldAddr_eptr rfl rfl (tT rfl) rfl rfl (tT rfl) (by decide)) ?_
    intro σ_ hσ_; simp only [nrm, tev, St.step, putO, setsV, addO, ↓reduceIte, Nat.reduceAdd, logT, atT, intern, internL, kp_ents, fz_ents, fz_bytes, kp_bytes, logR, logE, ← List.map_take, ← List.map_drop, List.take_length, beq_self_eq_true] at hσ_; subst hσ_
    first | refine TL.st rfl (S_load rfl rfl rfl (tT rfl) rfl) ?_ | refine TL.st rfl (S_load_eptr rfl rfl (tT rfl) rfl) ?_ | refine TL.st rfl (S_load_row rfl rfl rfl rfl (by assumption) (tT rfl) rfl) ?_ | refine TL.st rfl (S_load_row (j := 0) rfl rfl rfl rfl (by assumption) (tT rfl) rfl) ?_
    intro σ_ hσ_; simp only [nrm, tev, St.step, putO, setsV, addO, ↓reduceIte, Nat.reduceAdd, logT, atT, intern, internL, kp_ents, fz_ents, fz_bytes, kp_bytes, logR, logE, ← List.map_take, ← List.map_drop, List.take_length, beq_self_eq_true] at hσ_; subst hσ_
    first | refine TL.st rfl (S_len rfl rfl (tT rfl) rfl (.inl ⟨_, _, rfl, rfl⟩)) ?_ | refine TL.st rfl (S_len rfl rfl (tT rfl) rfl (.inr (.inl ⟨_, _, _, _, rfl, rfl, rfl⟩))) ?_ | refine TL.st rfl (S_len rfl rfl (tT rfl) rfl (.inr (.inr ⟨rfl, rfl⟩))) ?_ | refine TL.st rfl (S_len_str rfl rfl (tT rfl) rfl rfl) ?_ | refine TL.st rfl (S_len_arr rfl rfl (tT rfl) rfl) ?_
    intro σ_ hσ_; simp only [nrm, tev, St.step, putO, setsV, addO, ↓reduceIte, Nat.reduceAdd, logT, atT, intern, internL, kp_ents, fz_ents, fz_bytes, kp_bytes, logR, logE, ← List.map_take, ← List.map_drop, List.take_length, beq_self_eq_true] at hσ_; subst hσ_
    first | refine TL.st rfl (S_int rfl rfl rfl rfl (vi64 (by omega))) ?_ | refine TL.st rfl (S_int rfl rfl rfl rfl (vu64 (by omega))) ?_ | refine TL.st rfl (S_int rfl rfl rfl rfl rfl) ?_
    intro σ_ hσ_; simp only [nrm, tev, St.step, putO, setsV, addO, ↓reduceIte, Nat.reduceAdd, logT, atT, intern, internL, kp_ents, fz_ents, fz_bytes, kp_bytes, logR, logE, ← List.map_take, ← List.map_drop, List.take_length, beq_self_eq_true] at hσ_; subst hσ_
    refine TL.st rfl (S_move rfl) ?_
    intro σ_ hσ_; simp only [nrm, tev, St.step, putO, setsV, addO, ↓reduceIte, Nat.reduceAdd, logT, atT, intern, internL, kp_ents, fz_ents, fz_bytes, kp_bytes, logR, logE, ← List.map_take, ← List.map_drop, List.take_length, beq_self_eq_true] at hσ_; subst hσ_
    refine TL.nil ?_
    try simp (decide := true) only [thenT, inBlockT, noGotoT, jumpT, ↓reduceIte, true_and]
    refine hK16_ _ ?_
    refine TW.block ?_
    refine TW.loopS (X := Nat) (fun k => k ≤ es.length + 1) (fun k => es.length + 1 - k) (fun k => [(4, .any), (14, .any), (15, .any), (16, .any), (17, .any), (18, .any), (19, .any), (132, .v (.int .i64 k)), (133, .any), (134, .any), (135, .any), (136, .any), (137, .any), (138, .any), (139, .any), (140, .any), (141, .any), (142, .any), (143, .any), (144, .any), (145, .any), (146, .any), (147, .any), (148, .any), (149, .any), (150, .any), (151, .any), (152, .any), (153, .any), (154, .any), (155, .any), (156, .any), (157, .any), (158, .any), (159, .any), (160, .any), (161, .any), (162, .any), (163, .any), (164, .any), (165, .any), (166, .any), (167, .any), (168, .any), (169, .any), (170, .any), (171, .any), (172, .any), (173, .any), (174, .any), (175, .any), (176, .any), (177, .any), (178, .any)]) (fun k => []) 0 (Nat.zero_le _) ?_ ?_
    · refine SLe.of ?_ ?_ ?_
      · simp [setsL, LeL_cons, LeL_nil, LeT_any, LeT_self, LeT_v, LeT_sl, LeT_nil_sl, List.set_cons_zero, List.set_cons_succ, kp_ents]
      · simp [setsL, LeB_self, LeB_nil]
      · exact LeL.refl _
    · rintro k hk σ_ hσ_
      simp only [nrm, tev, St.step, putO, setsV, addO, ↓reduceIte, Nat.reduceAdd, logT, atT, intern, internL, kp_ents, fz_ents, fz_bytes, kp_bytes, logR, logE, ← List.map_take, ← List.map_drop, List.take_length, beq_self_eq_true, setsL_nil, setsL_cons] at hσ_; subst hσ_
      refine TW.seq_k ?_
      intro K17_ hK17_
      by_cases hlt : k < es.length + 1
      · skip
        refine TW.reg ?_
        first | refine TL.st rfl (S_int rfl rfl rfl rfl (vbt (by omega))) ?_ | refine TL.st rfl (S_int rfl rfl rfl rfl (vbf (by omega))) ?_ | refine TL.st rfl (S_int rfl rfl rfl rfl rfl) ?_
        intro σ_ hσ_; simp only [nrm, tev, St.step, putO, setsV, addO, ↓reduceIte, Nat.reduceAdd, logT, atT, intern, internL, kp_ents, fz_ents, fz_bytes, kp_bytes, logR, logE, ← List.map_take, ← List.map_drop, List.take_length, beq_self_eq_true] at hσ_; subst hσ_
        refine TL.nil ?_
        try simp (decide := true) only [thenT, inBlockT, noGotoT, jumpT, ↓reduceIte, true_and]
        refine hK17_ _ ?_
        refine TW.seq_k ?_
        intro K18_ hK18_
        refine TW.cond_t rfl (rfl) ?_
        refine TW.skip ?_
        try simp (decide := true) only [thenT, inBlockT, noGotoT, jumpT, ↓reduceIte, true_and]
        refine hK18_ _ ?_
        refine TW.seq_k ?_
        intro K19_ hK19_
        refine TW.block ?_
        refine TW.seq_k ?_
        intro K20_ hK20_
        refine TW.reg ?_
        refine TL.st rfl (S_move rfl) ?_
        intro σ_ hσ_; simp only [nrm, tev, St.step, putO, setsV, addO, ↓reduceIte, Nat.reduceAdd, logT, atT, intern, internL, kp_ents, fz_ents, fz_bytes, kp_bytes, logR, logE, ← List.map_take, ← List.map_drop, List.take_length, beq_self_eq_true] at hσ_; subst hσ_
        refine TL.st rfl (S_assign rfl) ?_
        intro σ_ hσ_; simp only [nrm, tev, St.step, putO, setsV, addO, ↓reduceIte, Nat.reduceAdd, logT, atT, intern, internL, kp_ents, fz_ents, fz_bytes, kp_bytes, logR, logE, ← List.map_take, ← List.map_drop, List.take_length, beq_self_eq_true] at hσ_; subst hσ_
        refine TL.nil ?_
        try simp (decide := true) only [thenT, inBlockT, noGotoT, jumpT, ↓reduceIte, true_and]
        refine hK20_ _ ?_
        refine TW.seq_k ?_
        intro K21_ hK21_
        refine TW.reg ?_
        first | refine TL.st rfl (S_fieldAddr rfl rfl (tT rfl) rfl rfl (tT rfl) (by decide)) ?_ | refine TL.st rfl (S_fieldAddr_eptr rfl rfl (tT rfl) rfl rfl (tT rfl) (by decide)) ?_
        intro σ_ hσ_; simp only [nrm, tev, St.step, putO, setsV, addO, ↓reduceIte, Nat.reduceAdd, logT, atT, intern, internL, kp_ents, fz_ents, fz_bytes, kp_bytes, logR, logE, ← List.map_take, ← List.map_drop, List.take_length, beq_self_eq_true] at hσ_; subst hσ_
        first | refine TL.st rfl (S_fieldAddr rfl rfl (tT rfl) rfl rfl (tT rfl) (by decide)) ?_ | refine TL.st rfl (S_fieldAddr_eptr rfl rfl (tT rfl) rfl rfl (tT rfl) (by decide)) ?_
        intro σ_ hσ_; simp only [nrm, tev, St.step, putO, setsV, addO, ↓reduceIte, Nat.reduceAdd, logT, atT, intern, internL, kp_ents, fz_ents, fz_bytes, kp_bytes, logR, logE, ← List.map_take, ← List.map_drop, List.take_length, beq_self_eq_true] at hσ_; subst hσ_
        first | refine TL.st rfl (S_load rfl rfl rfl (tT rfl) rfl) ?_ | refine TL.st rfl (S_load_eptr rfl rfl (tT rfl) rfl) ?_ | refine TL.st rfl (S_load_row rfl rfl rfl rfl (by assumption) (tT rfl) rfl) ?_ | refine TL.st rfl (S_load_row (j := 0) rfl rfl rfl rfl (by assumption) (tT rfl) rfl) ?_
        intro σ_ hσ_; simp only [nrm, tev, St.step, putO, setsV, addO, ↓reduceIte, Nat.reduceAdd, logT, atT, intern, internL, kp_ents, fz_ents, fz_bytes, kp_bytes, logR, logE, ← List.map_take, ← List.map_drop, List.take_length, beq_self_eq_true] at hσ_; subst hσ_
        refine TL.st rfl (S_move rfl) ?_
        intro σ_ hσ_; simp only [nrm, tev, St.step, putO, setsV, addO, ↓reduceIte, Nat.reduceAdd, logT, atT, intern, internL, kp_ents, fz_ents, fz_bytes, kp_bytes, logR, logE, ← List.map_take, ← List.map_drop, List.take_length, beq_self_eq_true] at hσ_; subst hσ_
        first | refine TL.st rfl (S_conv_int rfl rfl (tT rfl) (tT rfl) rfl (vi64 (by omega))) ?_ | refine TL.st rfl (S_conv_int rfl rfl (tT rfl) (tT rfl) rfl (vu64 (by omega))) ?_ | refine TL.st rfl (S_conv_int rfl rfl (tT rfl) (tT rfl) rfl (vu8 (by omega))) ?_ | refine TL.st rfl (S_conv_int rfl rfl (tT rfl) (tT rfl) rfl rfl) ?_ | refine TL.st rfl (S_conv_str rfl rfl (tT rfl) (tT rfl) rfl) ?_
        intro σ_ hσ_; simp only [nrm, tev, St.step, putO, setsV, addO, ↓reduceIte, Nat.reduceAdd, logT, atT, intern, internL, kp_ents, fz_ents, fz_bytes, kp_bytes, logR, logE, ← List.map_take, ← List.map_drop, List.take_length, beq_self_eq_true] at hσ_; subst hσ_
        first | refine TL.st rfl (S_int rfl rfl rfl rfl (vi64 (by omega))) ?_ | refine TL.st rfl (S_int rfl rfl rfl rfl (vu64 (by omega))) ?_ | refine TL.st rfl (S_int rfl rfl rfl rfl rfl) ?_
        intro σ_ hσ_; simp only [nrm, tev, St.step, putO, setsV, addO, ↓reduceIte, Nat.reduceAdd, logT, atT, intern, internL, kp_ents, fz_ents, fz_bytes, kp_bytes, logR, logE, ← List.map_take, ← List.map_drop, List.take_length, beq_self_eq_true] at hσ_; subst hσ_
        refine TL.st rfl (S_assign rfl) ?_
        intro σ_ hσ_; simp only [nrm, tev, St.step, putO, setsV, addO, ↓reduceIte, Nat.reduceAdd, logT, atT, intern, internL, kp_ents, fz_ents, fz_bytes, kp_bytes, logR, logE, ← List.map_take, ← List.map_drop, List.take_length, beq_self_eq_true] at hσ_; subst hσ_
        refine TL.nil ?_
        try simp (decide := true) only [thenT, inBlockT, noGotoT, jumpT, ↓reduceIte, true_and]
        refine hK21_ _ ?_
        refine TW.seq_k ?_
        intro K22_ hK22_
        refine TW.seq_k ?_
        intro K23_ hK23_
        rcases (show (n < more.length ∧ x.i + k > p.1 + n) ∨ (n < more.length ∧ ¬ x.i + k > p.1 + n) ∨ ¬ n < more.length by omega) with ⟨hg1, hg2⟩ | ⟨hg1, hg2⟩ | hg1
        · skip
          refine TW.reg ?_
          refine TL.st rfl (S_move rfl) ?_
          intro σ_ hσ_; simp only [nrm, tev, St.step, putO, setsV, addO, ↓reduceIte, Nat.reduceAdd, logT, atT, intern, internL, kp_ents, fz_ents, fz_bytes, kp_bytes, logR, logE, ← List.map_take, ← List.map_drop, List.take_length, beq_self_eq_true] at hσ_; subst hσ_
          refine TL.st rfl (S_move rfl) ?_
          intro σ_ hσ_; simp only [nrm, tev, St.step, putO, setsV, addO, ↓reduceIte, Nat.reduceAdd, logT, atT, intern, internL, kp_ents, fz_ents, fz_bytes, kp_bytes, logR, logE, ← List.map_take, ← List.map_drop, List.take_length, beq_self_eq_true] at hσ_; subst hσ_
          first | refine TL.st rfl (S_len rfl rfl (tT rfl) rfl (.inl ⟨_, _, rfl, rfl⟩)) ?_ | refine TL.st rfl (S_len rfl rfl (tT rfl) rfl (.inr (.inl ⟨_, _, _, _, rfl, rfl, rfl⟩))) ?_ | refine TL.st rfl (S_len rfl rfl (tT rfl) rfl (.inr (.inr ⟨rfl, rfl⟩))) ?_ | refine TL.st rfl (S_len_str rfl rfl (tT rfl) rfl rfl) ?_ | refine TL.st rfl (S_len_arr rfl rfl (tT rfl) rfl) ?_
          intro σ_ hσ_; simp only [nrm, tev, St.step, putO, setsV, addO, ↓reduceIte, Nat.reduceAdd, logT, atT, intern, internL, kp_ents, fz_ents, fz_bytes, kp_bytes, logR, logE, ← List.map_take, ← List.map_drop, List.take_length, beq_self_eq_true] at hσ_; subst hσ_
          first | refine TL.st rfl (S_int rfl rfl rfl rfl (vbt (by omega))) ?_ | refine TL.st rfl (S_int rfl rfl rfl rfl (vbf (by omega))) ?_ | refine TL.st rfl (S_int rfl rfl rfl rfl rfl) ?_
          intro σ_ hσ_; simp only [nrm, tev, St.step, putO, setsV, addO, ↓reduceIte, Nat.reduceAdd, logT, atT, intern, internL, kp_ents, fz_ents, fz_bytes, kp_bytes, logR, logE, ← List.map_take, ← List.map_drop, List.take_length, beq_self_eq_true] at hσ_; subst hσ_
          refine TL.st rfl (S_move rfl) ?_
          intro σ_ hσ_; simp only [nrm, tev, St.step, putO, setsV, addO, ↓reduceIte, Nat.reduceAdd, logT, atT, intern, internL, kp_ents, fz_ents, fz_bytes, kp_bytes, logR, logE, ← List.map_take, ← List.map_drop, List.take_length, beq_self_eq_true] at hσ_; subst hσ_
          first | refine TL.st_g rfl rfl rfl (Nat.le_of_ble_eq_true rfl) rfl (S_move rfl) ?_ | refine TL.sk_g rfl rfl rfl (Nat.le_of_ble_eq_true rfl) rfl rfl ?_
          intro σ_ hσ_; simp only [nrm, tev, St.step, putO, setsV, addO, ↓reduceIte, Nat.reduceAdd, logT, atT, intern, internL, kp_ents, fz_ents, fz_bytes, kp_bytes, logR, logE, ← List.map_take, ← List.map_drop, List.take_length, beq_self_eq_true] at hσ_; subst hσ_
          first | refine TL.st_g rfl rfl rfl (Nat.le_of_ble_eq_true rfl) rfl (S_fieldAddr rfl rfl (tT rfl) rfl rfl (tT rfl) (by decide)) ?_ | refine TL.st_g rfl rfl rfl (Nat.le_of_ble_eq_true rfl) rfl (S_fieldAddr_eptr rfl rfl (tT rfl) rfl rfl (tT rfl) (by decide)) ?_ | refine TL.sk_g rfl rfl rfl (Nat.le_of_ble_eq_true rfl) rfl rfl ?_
          intro σ_ hσ_; simp only [nrm, tev, St.step, putO, setsV, addO, ↓reduceIte, Nat.reduceAdd, logT, atT, intern, internL, kp_ents, fz_ents, fz_bytes, kp_bytes, logR, logE, ← List.map_take, ← List.map_drop, List.take_length, beq_self_eq_true] at hσ_; subst hσ_
          first | refine TL.st_g rfl rfl rfl (Nat.le_of_ble_eq_true rfl) rfl (S_fieldAddr rfl rfl (tT rfl) rfl rfl (tT rfl) (by decide)) ?_ | refine TL.st_g rfl rfl rfl (Nat.le_of_ble_eq_true rfl) rfl (S_fieldAddr_eptr rfl rfl (tT rfl) rfl rfl (tT rfl) (by decide)) ?_ | refine TL.sk_g rfl rfl rfl (Nat.le_of_ble_eq_true rfl) rfl rfl ?_
          intro σ_ hσ_; simp only [nrm, tev, St.step, putO, setsV, addO, ↓reduceIte, Nat.reduceAdd, logT, atT, intern, internL, kp_ents, fz_ents, fz_bytes, kp_bytes, logR, logE, ← List.map_take, ← List.map_drop, List.take_length, beq_self_eq_true] at hσ_; subst hσ_
          first | refine TL.st_g rfl rfl rfl (Nat.le_of_ble_eq_true rfl) rfl (S_load rfl rfl rfl (tT rfl) rfl) ?_ | refine TL.st_g rfl rfl rfl (Nat.le_of_ble_eq_true rfl) rfl (S_load_eptr rfl rfl (tT rfl) rfl) ?_ | refine TL.st_g rfl rfl rfl (Nat.le_of_ble_eq_true rfl) rfl (S_load_row rfl rfl rfl rfl (by assumption) (tT rfl) rfl) ?_ | refine TL.st_g rfl rfl rfl (Nat.le_of_ble_eq_true rfl) rfl (S_load_row (j := 0) rfl rfl rfl rfl (by assumption) (tT rfl) rfl) ?_ | refine TL.sk_g rfl rfl rfl (Nat.le_of_ble_eq_true rfl) rfl rfl ?_
          intro σ_ hσ_; simp only [nrm, tev, St.step, putO, setsV, addO, ↓reduceIte, Nat.reduceAdd, logT, atT, intern, internL, kp_ents, fz_ents, fz_bytes, kp_bytes, logR, logE, ← List.map_take, ← List.map_drop, List.take_length, beq_self_eq_true] at hσ_; subst hσ_
          first | refine TL.st_g rfl rfl rfl (Nat.le_of_ble_eq_true rfl) rfl (S_move rfl) ?_ | refine TL.sk_g rfl rfl rfl (Nat.le_of_ble_eq_true rfl) rfl rfl ?_
          intro σ_ hσ_; simp only [nrm, tev, St.step, putO, setsV, addO, ↓reduceIte, Nat.reduceAdd, logT, atT, intern, internL, kp_ents, fz_ents, fz_bytes, kp_bytes, logR, logE, ← List.map_take, ← List.map_drop, List.take_length, beq_self_eq_true] at hσ_; subst hσ_
          first | refine TL.st_g rfl rfl rfl (Nat.le_of_ble_eq_true rfl) rfl (S_conv_int rfl rfl (tT rfl) (tT rfl) rfl (vi64 (by omega))) ?_ | refine TL.st_g rfl rfl rfl (Nat.le_of_ble_eq_true rfl) rfl (S_conv_int rfl rfl (tT rfl) (tT rfl) rfl (vu64 (by omega))) ?_ | refine TL.st_g rfl rfl rfl (Nat.le_of_ble_eq_true rfl) rfl (S_conv_int rfl rfl (tT rfl) (tT rfl) rfl (vu8 (by omega))) ?_ | refine TL.st_g rfl rfl rfl (Nat.le_of_ble_eq_true rfl) rfl (S_conv_int rfl rfl (tT rfl) (tT rfl) rfl rfl) ?_ | refine TL.st_g rfl rfl rfl (Nat.le_of_ble_eq_true rfl) rfl (S_conv_str rfl rfl (tT rfl) (tT rfl) rfl) ?_ | refine TL.sk_g rfl rfl rfl (Nat.le_of_ble_eq_true rfl) rfl rfl ?_
          intro σ_ hσ_; simp only [nrm, tev, St.step, putO, setsV, addO, ↓reduceIte, Nat.reduceAdd, logT, atT, intern, internL, kp_ents, fz_ents, fz_bytes, kp_bytes, logR, logE, ← List.map_take, ← List.map_drop, List.take_length, beq_self_eq_true] at hσ_; subst hσ_
          first | refine TL.st_g rfl rfl rfl (Nat.le_of_ble_eq_true rfl) rfl (S_int rfl rfl rfl rfl (vi64 (by omega))) ?_ | refine TL.st_g rfl rfl rfl (Nat.le_of_ble_eq_true rfl) rfl (S_int rfl rfl rfl rfl (vu64 (by omega))) ?_ | refine TL.st_g rfl rfl rfl (Nat.le_of_ble_eq_true rfl) rfl (S_int rfl rfl rfl rfl rfl) ?_ | refine TL.sk_g rfl rfl rfl (Nat.le_of_ble_eq_true rfl) rfl rfl ?_
          intro σ_ hσ_; simp only [nrm, tev, St.step, putO, setsV, addO, ↓reduceIte, Nat.reduceAdd, logT, atT, intern, internL, kp_ents, fz_ents, fz_bytes, kp_bytes, logR, logE, ← List.map_take, ← List.map_drop, List.take_length, beq_self_eq_true] at hσ_; subst hσ_
          first | refine TL.st_g rfl rfl rfl (Nat.le_of_ble_eq_true rfl) rfl (S_int rfl rfl rfl rfl (vbt (by omega))) ?_ | refine TL.st_g rfl rfl rfl (Nat.le_of_ble_eq_true rfl) rfl (S_int rfl rfl rfl rfl (vbf (by omega))) ?_ | refine TL.st_g rfl rfl rfl (Nat.le_of_ble_eq_true rfl) rfl (S_int rfl rfl rfl rfl rfl) ?_ | refine TL.sk_g rfl rfl rfl (Nat.le_of_ble_eq_true rfl) rfl rfl ?_
          intro σ_ hσ_; simp only [nrm, tev, St.step, putO, setsV, addO, ↓reduceIte, Nat.reduceAdd, logT, atT, intern, internL, kp_ents, fz_ents, fz_bytes, kp_bytes, logR, logE, ← List.map_take, ← List.map_drop, List.take_length, beq_self_eq_true] at hσ_; subst hσ_
          refine TL.st rfl (S_pick rfl rfl rfl) ?_
          intro σ_ hσ_; simp only [nrm, tev, St.step, putO, setsV, addO, ↓reduceIte, Nat.reduceAdd, logT, atT, intern, internL, kp_ents, fz_ents, fz_bytes, kp_bytes, logR, logE, ← List.map_take, ← List.map_drop, List.take_length, beq_self_eq_true] at hσ_; subst hσ_
          refine TL.nil ?_
          try simp (decide := true) only [thenT, inBlockT, noGotoT, jumpT, ↓reduceIte, true_and]
          refine hK23_ _ ?_
          refine TW.cond_t rfl (rfl) ?_
          refine TW.exit ?_
          try simp (decide := true) only [thenT, inBlockT, noGotoT, jumpT, ↓reduceIte, true_and]
          refine hK15_ _ ?_
          refine TW.seq_k ?_
          intro K24_ hK24_
          refine TW.seq_k ?_
          intro K25_ hK25_
          refine TW.reg ?_
          refine TL.st rfl (S_move rfl) ?_
          intro σ_ hσ_; simp only [nrm, tev, St.step, putO, setsV, addO, ↓reduceIte, Nat.reduceAdd, logT, atT, intern, internL, kp_ents, fz_ents, fz_bytes, kp_bytes, logR, logE, ← List.map_take, ← List.map_drop, List.take_length, beq_self_eq_true] at hσ_; subst hσ_
          refine TL.st rfl (S_assign rfl) ?_
          intro σ_ hσ_; simp only [nrm, tev, St.step, putO, setsV, addO, ↓reduceIte, Nat.reduceAdd, logT, atT, intern, internL, kp_ents, fz_ents, fz_bytes, kp_bytes, logR, logE, ← List.map_take, ← List.map_drop, List.take_length, beq_self_eq_true] at hσ_; subst hσ_
          refine TL.nil ?_
          try simp (decide := true) only [thenT, inBlockT, noGotoT, jumpT, ↓reduceIte, true_and]
          refine hK25_ _ ?_
          refine TW.block ?_
          refine TW.loopS (X := Nat) (fun k => n ≤ k ∧ k ≤ more.length) (fun k => more.length - k) (fun k => [(4, .any), (20, .v (.int .i64 k)), (180, .any), (181, .any), (182, .any), (183, .any), (184, .any), (185, .any), (186, .any), (187, .any), (188, .any), (189, .any), (190, .any), (191, .any), (192, .any), (193, .any), (194, .any), (195, .any), (196, .any), (197, .any), (198, .any), (199, .any), (200, .any), (201, .any)]) (fun k => []) n ⟨Nat.le_refl _, hnl⟩ ?_ ?_
          · refine SLe.of ?_ ?_ ?_
            · simp [setsL, LeL_cons, LeL_nil, LeT_any, LeT_self, LeT_v, LeT_sl, LeT_nil_sl, List.set_cons_zero, List.set_cons_succ, kp_ents]
            · simp [setsL, LeB_self, LeB_nil]
            · exact LeL.refl _
          · rintro k ⟨hk1, hk⟩ σ_ hσ_
            simp only [nrm, tev, St.step, putO, setsV, addO, ↓reduceIte, Nat.reduceAdd, logT, atT, intern, internL, kp_ents, fz_ents, fz_bytes, kp_bytes, logR, logE, ← List.map_take, ← List.map_drop, List.take_length, beq_self_eq_true, setsL_nil, setsL_cons] at hσ_; subst hσ_
            refine TW.seq_k ?_
            intro K26_ hK26_
            refine TW.seq_k ?_
            intro K27_ hK27_
            by_cases hlt : k < more.length
            · skip
              obtain ⟨u, hu⟩ : ∃ u, more[k]? = some u := ⟨more[k]'hlt, List.getElem?_eq_getElem _⟩
              have hc : (more.map (entC true))[k]? = some (entC true u) := by rw [List.getElem?_map, hu]; rfl
              simp only [entC] at hc
              have hml := ent_len true more
              have hj1 := (hhigh (j := k) (by omega) hlt).2.2
              have hasj := hhas (j := k) hlt (by omega)
              rw [hu] at hasj
              simp only [Option.map_some, Option.getD_some] at hasj
              refine TW.reg ?_
              refine TL.st rfl (S_move rfl) ?_
              intro σ_ hσ_; simp only [nrm, tev, St.step, putO, setsV, addO, ↓reduceIte, Nat.reduceAdd, logT, atT, intern, internL, kp_ents, fz_ents, fz_bytes, kp_bytes, logR, logE, ← List.map_take, ← List.map_drop, List.take_length, beq_self_eq_true] at hσ_; subst hσ_
              refine TL.st rfl (S_move rfl) ?_
              intro σ_ hσ_; simp only [nrm, tev, St.step, putO, setsV, addO, ↓reduceIte, Nat.reduceAdd, logT, atT, intern, internL, kp_ents, fz_ents, fz_bytes, kp_bytes, logR, logE, ← List.map_take, ← List.map_drop, List.take_length, beq_self_eq_true] at hσ_; subst hσ_
              first | refine TL.st rfl (S_len rfl rfl (tT rfl) rfl (.inl ⟨_, _, rfl, rfl⟩)) ?_ | refine TL.st rfl (S_len rfl rfl (tT rfl) rfl (.inr (.inl ⟨_, _, _, _, rfl, rfl, rfl⟩))) ?_ | refine TL.st rfl (S_len rfl rfl (tT rfl) rfl (.inr (.inr ⟨rfl, rfl⟩))) ?_ | refine TL.st rfl (S_len_str rfl rfl (tT rfl) rfl rfl) ?_ | refine TL.st rfl (S_len_arr rfl rfl (tT rfl) rfl) ?_
              intro σ_ hσ_; simp only [nrm, tev, St.step, putO, setsV, addO, ↓reduceIte, Nat.reduceAdd, logT, atT, intern, internL, kp_ents, fz_ents, fz_bytes, kp_bytes, logR, logE, ← List.map_take, ← List.map_drop, List.take_length, beq_self_eq_true] at hσ_; subst hσ_
              first | refine TL.st rfl (S_int rfl rfl rfl rfl (vbt (by omega))) ?_ | refine TL.st rfl (S_int rfl rfl rfl rfl (vbf (by omega))) ?_ | refine TL.st rfl (S_int rfl rfl rfl rfl rfl) ?_
              intro σ_ hσ_; simp only [nrm, tev, St.step, putO, setsV, addO, ↓reduceIte, Nat.reduceAdd, logT, atT, intern, internL, kp_ents, fz_ents, fz_bytes, kp_bytes, logR, logE, ← List.map_take, ← List.map_drop, List.take_length, beq_self_eq_true] at hσ_; subst hσ_
              refine TL.nil ?_
              try simp (decide := true) only [thenT, inBlockT, noGotoT, jumpT, ↓reduceIte, true_and]
              refine hK27_ _ ?_
              refine TW.cond_t rfl (rfl) ?_
              refine TW.skip ?_
              try simp (decide := true) only [thenT, inBlockT, noGotoT, jumpT, ↓reduceIte, true_and]
              refine hK26_ _ ?_
              refine TW.seq_k ?_
              intro K28_ hK28_
              refine TW.block ?_
              refine TW.seq_k ?_
              intro K29_ hK29_
              refine TW.region_par 16 (by kernel_rfl) (by kernel_rfl) ?_
              simp only [List.take_succ_cons, List.take_zero, List.drop_succ_cons, List.drop_zero, List.take_nil, List.drop_nil]
              first | refine TPar.st rfl (S_load rfl rfl rfl (tT rfl) rfl) ?_ | refine TPar.st rfl (S_load_eptr rfl rfl (tT rfl) rfl) ?_ | refine TPar.st rfl (S_load_row rfl rfl rfl rfl (by assumption) (tT rfl) rfl) ?_ | refine TPar.st rfl (S_load_row (j := 0) rfl rfl rfl rfl (by assumption) (tT rfl) rfl) ?_
              intro s_ h_ hs_ hh_; simp only [nrm, tev, St.step, putO, setsV, addO, ↓reduceIte, Nat.reduceAdd, logT, atT, intern, internL, kp_ents, fz_ents, fz_bytes, kp_bytes, logR, logE, ← List.map_take, ← List.map_drop, List.take_length, beq_self_eq_true] at hs_ hh_; subst hs_; subst hh_
              first | refine TPar.st rfl (S_fieldAddr rfl rfl (tT rfl) rfl rfl (tT rfl) (by decide)) ?_ | refine TPar.st rfl (S_fieldAddr_eptr rfl rfl (tT rfl) rfl rfl (tT rfl) (by decide)) ?_
              intro s_ h_ hs_ hh_; simp only [nrm, tev, St.step, putO, setsV, addO, ↓reduceIte, Nat.reduceAdd, logT, atT, intern, internL, kp_ents, fz_ents, fz_bytes, kp_bytes, logR, logE, ← List.map_take, ← List.map_drop, List.take_length, beq_self_eq_true] at hs_ hh_; subst hs_; subst hh_
              first | refine TPar.st rfl (S_fieldAddr rfl rfl (tT rfl) rfl rfl (tT rfl) (by decide)) ?_ | refine TPar.st rfl (S_fieldAddr_eptr rfl rfl (tT rfl) rfl rfl (tT rfl) (by decide)) ?_
              intro s_ h_ hs_ hh_; simp only [nrm, tev, St.step, putO, setsV, addO, ↓reduceIte, Nat.reduceAdd, logT, atT, intern, internL, kp_ents, fz_ents, fz_bytes, kp_bytes, logR, logE, ← List.map_take, ← List.map_drop, List.take_length, beq_self_eq_true] at hs_ hh_; subst hs_; subst hh_
              first | refine TPar.st rfl (S_load rfl rfl rfl (tT rfl) rfl) ?_ | refine TPar.st rfl (S_load_eptr rfl rfl (tT rfl) rfl) ?_ | refine TPar.st rfl (S_load_row rfl rfl rfl rfl (by assumption) (tT rfl) rfl) ?_ | refine TPar.st rfl (S_load_row (j := 0) rfl rfl rfl rfl (by assumption) (tT rfl) rfl) ?_
              intro s_ h_ hs_ hh_; simp only [nrm, tev, St.step, putO, setsV, addO, ↓reduceIte, Nat.reduceAdd, logT, atT, intern, internL, kp_ents, fz_ents, fz_bytes, kp_bytes, logR, logE, ← List.map_take, ← List.map_drop, List.take_length, beq_self_eq_true] at hs_ hh_; subst hs_; subst hh_
              refine TPar.st rfl (S_move rfl) ?_
              intro s_ h_ hs_ hh_; simp only [nrm, tev, St.step, putO, setsV, addO, ↓reduceIte, Nat.reduceAdd, logT, atT, intern, internL, kp_ents, fz_ents, fz_bytes, kp_bytes, logR, logE, ← List.map_take, ← List.map_drop, List.take_length, beq_self_eq_true] at hs_ hh_; subst hs_; subst hh_
              first | refine TPar.st rfl (S_conv_int rfl rfl (tT rfl) (tT rfl) rfl (vi64 (by omega))) ?_ | refine TPar.st rfl (S_conv_int rfl rfl (tT rfl) (tT rfl) rfl (vu64 (by omega))) ?_ | refine TPar.st rfl (S_conv_int rfl rfl (tT rfl) (tT rfl) rfl (vu8 (by omega))) ?_ | refine TPar.st rfl (S_conv_int rfl rfl (tT rfl) (tT rfl) rfl rfl) ?_ | refine TPar.st rfl (S_conv_str rfl rfl (tT rfl) (tT rfl) rfl) ?_
              intro s_ h_ hs_ hh_; simp only [nrm, tev, St.step, putO, setsV, addO, ↓reduceIte, Nat.reduceAdd, logT, atT, intern, internL, kp_ents, fz_ents, fz_bytes, kp_bytes, logR, logE, ← List.map_take, ← List.map_drop, List.take_length, beq_self_eq_true] at hs_ hh_; subst hs_; subst hh_
              first | refine TPar.st rfl (S_int rfl rfl rfl rfl (vi64 (by omega))) ?_ | refine TPar.st rfl (S_int rfl rfl rfl rfl (vu64 (by omega))) ?_ | refine TPar.st rfl (S_int rfl rfl rfl rfl rfl) ?_
              intro s_ h_ hs_ hh_; simp only [nrm, tev, St.step, putO, setsV, addO, ↓reduceIte, Nat.reduceAdd, logT, atT, intern, internL, kp_ents, fz_ents, fz_bytes, kp_bytes, logR, logE, ← List.map_take, ← List.map_drop, List.take_length, beq_self_eq_true] at hs_ hh_; subst hs_; subst hh_
              first | refine TPar.st rfl (S_int rfl rfl rfl rfl (vi64 (by omega))) ?_ | refine TPar.st rfl (S_int rfl rfl rfl rfl (vu64 (by omega))) ?_ | refine TPar.st rfl (S_int rfl rfl rfl rfl rfl) ?_
              intro s_ h_ hs_ hh_; simp only [nrm, tev, St.step, putO, setsV, addO, ↓reduceIte, Nat.reduceAdd, logT, atT, intern, internL, kp_ents, fz_ents, fz_bytes, kp_bytes, logR, logE, ← List.map_take, ← List.map_drop, List.take_length, beq_self_eq_true] at hs_ hh_; subst hs_; subst hh_
              refine TPar.st rfl (S_move rfl) ?_
              intro s_ h_ hs_ hh_; simp only [nrm, tev, St.step, putO, setsV, addO, ↓reduceIte, Nat.reduceAdd, logT, atT, intern, internL, kp_ents, fz_ents, fz_bytes, kp_bytes, logR, logE, ← List.map_take, ← List.map_drop, List.take_length, beq_self_eq_true] at hs_ hh_; subst hs_; subst hh_
              refine TPar.st rfl (S_move rfl) ?_
              intro s_ h_ hs_ hh_; simp only [nrm, tev, St.step, putO, setsV, addO, ↓reduceIte, Nat.reduceAdd, logT, atT, intern, internL, kp_ents, fz_ents, fz_bytes, kp_bytes, logR, logE, ← List.map_take, ← List.map_drop, List.take_length, beq_self_eq_true] at hs_ hh_; subst hs_; subst hh_
              first | refine TPar.st rfl (S_index_sl rfl rfl rfl (tT rfl) rfl (tT rfl) (by assumption) rfl rfl (by decide)) ?_ | refine TPar.st rfl (S_index_sl rfl rfl rfl (tT rfl) rfl (tT rfl) (by assumption) (by first | rfl | omega) rfl (by decide)) ?_ | refine TPar.st rfl (S_index_row rfl rfl rfl rfl (tT rfl) rfl (tT rfl) rfl rfl (by first | assumption | omega)) ?_ | refine TPar.st rfl (S_index_arr rfl rfl rfl (tT rfl) rfl (tT rfl) rfl (by first | assumption | decide | omega)) ?_
              intro s_ h_ hs_ hh_; simp only [nrm, tev, St.step, putO, setsV, addO, ↓reduceIte, Nat.reduceAdd, logT, atT, intern, internL, kp_ents, fz_ents, fz_bytes, kp_bytes, logR, logE, ← List.map_take, ← List.map_drop, List.take_length, beq_self_eq_true] at hs_ hh_; subst hs_; subst hh_
              first | refine TPar.st rfl (S_fieldAddr rfl rfl (tT rfl) rfl rfl (tT rfl) (by decide)) ?_ | refine TPar.st rfl (S_fieldAddr_eptr rfl rfl (tT rfl) rfl rfl (tT rfl) (by decide)) ?_
              intro s_ h_ hs_ hh_; simp only [nrm, tev, St.step, putO, setsV, addO, ↓reduceIte, Nat.reduceAdd, logT, atT, intern, internL, kp_ents, fz_ents, fz_bytes, kp_bytes, logR, logE, ← List.map_take, ← List.map_drop, List.take_length, beq_self_eq_true] at hs_ hh_; subst hs_; subst hh_
              first | refine TPar.st rfl (S_load rfl rfl rfl (tT rfl) rfl) ?_ | refine TPar.st rfl (S_load_eptr rfl rfl (tT rfl) rfl) ?_ | refine TPar.st rfl (S_load_row rfl rfl rfl rfl (by assumption) (tT rfl) rfl) ?_ | refine TPar.st rfl (S_load_row (j := 0) rfl rfl rfl rfl (by assumption) (tT rfl) rfl) ?_
              intro s_ h_ hs_ hh_; simp only [nrm, tev, St.step, putO, setsV, addO, ↓reduceIte, Nat.reduceAdd, logT, atT, intern, internL, kp_ents, fz_ents, fz_bytes, kp_bytes, logR, logE, ← List.map_take, ← List.map_drop, List.take_length, beq_self_eq_true] at hs_ hh_; subst hs_; subst hh_
              refine TPar.st rfl (S_build rfl (tT rfl) rfl (zT rfl) rfl (by repeat (first | exact PlOk.nil | (apply PlOk.cons; exact tT rfl))) rfl rfl) ?_
              intro s_ h_ hs_ hh_; simp only [nrm, tev, St.step, putO, setsV, addO, ↓reduceIte, Nat.reduceAdd, logT, atT, intern, internL, kp_ents, fz_ents, fz_bytes, kp_bytes, logR, logE, ← List.map_take, ← List.map_drop, List.take_length, beq_self_eq_true] at hs_ hh_; subst hs_; subst hh_
              first | refine TPar.st rfl (S_call_row rfl rfl rfl (by kernel_rfl) rfl ((hasx_T _ _ x.i x.t X okX.w okX.n9 hi0 hi1 (p.1 + k + 1, u.T)).eq rfl (by simp only [mayX, hasj]; rfl)) rfl) ?_ | refine TPar.st rfl (S_call rfl rfl rfl (by kernel_rfl) rfl ((hasx_T _ _ x.i x.t X okX.w okX.n9 hi0 hi1 (p.1 + k + 1, u.T)).eq rfl (by simp only [mayX, hasj]; rfl))) ?_
              intro s_ h_ hs_ hh_; simp only [nrm, tev, St.step, putO, setsV, addO, ↓reduceIte, Nat.reduceAdd, logT, atT, intern, internL, kp_ents, fz_ents, fz_bytes, kp_bytes, logR, logE, ← List.map_take, ← List.map_drop, List.take_length, beq_self_eq_true] at hs_ hh_; subst hs_; subst hh_
              first | refine TPar.st rfl (S_not rfl rfl) ?_ | refine TPar.st rfl (S_neg rfl rfl) ?_
              intro s_ h_ hs_ hh_; simp only [nrm, tev, St.step, putO, setsV, addO, ↓reduceIte, Nat.reduceAdd, logT, atT, intern, internL, kp_ents, fz_ents, fz_bytes, kp_bytes, logR, logE, ← List.map_take, ← List.map_drop, List.take_length, beq_self_eq_true] at hs_ hh_; subst hs_; subst hh_
              unfold TPar
              refine TL.nil ?_
              try simp (decide := true) only [thenT, inBlockT, noGotoT, jumpT, ↓reduceIte, true_and]
              refine hK29_ _ ?_
              refine TW.cond_f rfl (rfl) ?_
              refine TW.skip ?_
              try simp (decide := true) only [thenT, inBlockT, noGotoT, jumpT, ↓reduceIte, true_and]
              refine hK28_ _ ?_
              refine TW.reg ?_
              refine TL.st rfl (S_move rfl) ?_
              intro σ_ hσ_; simp only [nrm, tev, St.step, putO, setsV, addO, ↓reduceIte, Nat.reduceAdd, logT, atT, intern, internL, kp_ents, fz_ents, fz_bytes, kp_bytes, logR, logE, ← List.map_take, ← List.map_drop, List.take_length, beq_self_eq_true] at hσ_; subst hσ_
              first | refine TL.st rfl (S_int rfl rfl rfl rfl (vi64 (by omega))) ?_ | refine TL.st rfl (S_int rfl rfl rfl rfl (vu64 (by omega))) ?_ | refine TL.st rfl (S_int rfl rfl rfl rfl rfl) ?_
              intro σ_ hσ_; simp only [nrm, tev, St.step, putO, setsV, addO, ↓reduceIte, Nat.reduceAdd, logT, atT, intern, internL, kp_ents, fz_ents, fz_bytes, kp_bytes, logR, logE, ← List.map_take, ← List.map_drop, List.take_length, beq_self_eq_true] at hσ_; subst hσ_
              refine TL.st rfl (S_assign rfl) ?_
              intro σ_ hσ_; simp only [nrm, tev, St.step, putO, setsV, addO, ↓reduceIte, Nat.reduceAdd, logT, atT, intern, internL, kp_ents, fz_ents, fz_bytes, kp_bytes, logR, logE, ← List.map_take, ← List.map_drop, List.take_length, beq_self_eq_true] at hσ_; subst hσ_
              refine TL.nil ?_
              try simp (decide := true) only [thenT, inBlockT, noGotoT, jumpT, ↓reduceIte, true_and]
              refine ⟨(k + 1), ⟨by omega, by omega⟩, by omega, ?_⟩
              refine SLe.back 8 ?_ ?_ ?_
              · simp [setsL, kpL, kp, low, kpLL, LeL_cons, LeL_nil, LeT_any, LeT_self, LeT_v, LeT_sl, LeT_nil_sl, List.set_cons_zero, List.set_cons_succ, kp_ents]
              · simp [setsL, LB.kp, kpL, kp, low, LeB_self, LeB_nil, kp_ents]
              · simp [kpL, LeL_nil]
            · skip
              have hke : k = more.length := by omega
              refine TW.reg ?_
              refine TL.st rfl (S_move rfl) ?_
              intro σ_ hσ_; simp only [nrm, tev, St.step, putO, setsV, addO, ↓reduceIte, Nat.reduceAdd, logT, atT, intern, internL, kp_ents, fz_ents, fz_bytes, kp_bytes, logR, logE, ← List.map_take, ← List.map_drop, List.take_length, beq_self_eq_true] at hσ_; subst hσ_
              refine TL.st rfl (S_move rfl) ?_
              intro σ_ hσ_; simp only [nrm, tev, St.step, putO, setsV, addO, ↓reduceIte, Nat.reduceAdd, logT, atT, intern, internL, kp_ents, fz_ents, fz_bytes, kp_bytes, logR, logE, ← List.map_take, ← List.map_drop, List.take_length, beq_self_eq_true] at hσ_; subst hσ_
              first | refine TL.st rfl (S_len rfl rfl (tT rfl) rfl (.inl ⟨_, _, rfl, rfl⟩)) ?_ | refine TL.st rfl (S_len rfl rfl (tT rfl) rfl (.inr (.inl ⟨_, _, _, _, rfl, rfl, rfl⟩))) ?_ | refine TL.st rfl (S_len rfl rfl (tT rfl) rfl (.inr (.inr ⟨rfl, rfl⟩))) ?_ | refine TL.st rfl (S_len_str rfl rfl (tT rfl) rfl rfl) ?_ | refine TL.st rfl (S_len_arr rfl rfl (tT rfl) rfl) ?_
              intro σ_ hσ_; simp only [nrm, tev, St.step, putO, setsV, addO, ↓reduceIte, Nat.reduceAdd, logT, atT, intern, internL, kp_ents, fz_ents, fz_bytes, kp_bytes, logR, logE, ← List.map_take, ← List.map_drop, List.take_length, beq_self_eq_true] at hσ_; subst hσ_
              first | refine TL.st rfl (S_int rfl rfl rfl rfl (vbt (by omega))) ?_ | refine TL.st rfl (S_int rfl rfl rfl rfl (vbf (by omega))) ?_ | refine TL.st rfl (S_int rfl rfl rfl rfl rfl) ?_
              intro σ_ hσ_; simp only [nrm, tev, St.step, putO, setsV, addO, ↓reduceIte, Nat.reduceAdd, logT, atT, intern, internL, kp_ents, fz_ents, fz_bytes, kp_bytes, logR, logE, ← List.map_take, ← List.map_drop, List.take_length, beq_self_eq_true] at hσ_; subst hσ_
              refine TL.nil ?_
              try simp (decide := true) only [thenT, inBlockT, noGotoT, jumpT, ↓reduceIte, true_and]
              refine hK27_ _ ?_
              refine TW.cond_f rfl (rfl) ?_
              refine TW.exit ?_
              try simp (decide := true) only [thenT, inBlockT, noGotoT, jumpT, ↓reduceIte, true_and]
              refine hK24_ _ ?_
              refine TW.seq_k ?_
              intro K30_ hK30_
              by_cases hn : n = more.length
              · skip
                refine TW.reg ?_
                refine TL.st rfl (S_move rfl) ?_
                intro σ_ hσ_; simp only [nrm, tev, St.step, putO, setsV, addO, ↓reduceIte, Nat.reduceAdd, logT, atT, intern, internL, kp_ents, fz_ents, fz_bytes, kp_bytes, logR, logE, ← List.map_take, ← List.map_drop, List.take_length, beq_self_eq_true] at hσ_; subst hσ_
                refine TL.st rfl (S_move rfl) ?_
                intro σ_ hσ_; simp only [nrm, tev, St.step, putO, setsV, addO, ↓reduceIte, Nat.reduceAdd, logT, atT, intern, internL, kp_ents, fz_ents, fz_bytes, kp_bytes, logR, logE, ← List.map_take, ← List.map_drop, List.take_length, beq_self_eq_true] at hσ_; subst hσ_
                first | refine TL.st rfl (S_len rfl rfl (tT rfl) rfl (.inl ⟨_, _, rfl, rfl⟩)) ?_ | refine TL.st rfl (S_len rfl rfl (tT rfl) rfl (.inr (.inl ⟨_, _, _, _, rfl, rfl, rfl⟩))) ?_ | refine TL.st rfl (S_len rfl rfl (tT rfl) rfl (.inr (.inr ⟨rfl, rfl⟩))) ?_ | refine TL.st rfl (S_len_str rfl rfl (tT rfl) rfl rfl) ?_ | refine TL.st rfl (S_len_arr rfl rfl (tT rfl) rfl) ?_
                intro σ_ hσ_; simp only [nrm, tev, St.step, putO, setsV, addO, ↓reduceIte, Nat.reduceAdd, logT, atT, intern, internL, kp_ents, fz_ents, fz_bytes, kp_bytes, logR, logE, ← List.map_take, ← List.map_drop, List.take_length, beq_self_eq_true] at hσ_; subst hσ_
                first | refine TL.st rfl (S_int rfl rfl rfl rfl (vbt (by omega))) ?_ | refine TL.st rfl (S_int rfl rfl rfl rfl (vbf (by omega))) ?_ | refine TL.st rfl (S_int rfl rfl rfl rfl rfl) ?_ | refine TL.st rfl (S_boolop rfl rfl rfl rfl (tT rfl) rfl) ?_
                intro σ_ hσ_; simp only [nrm, tev, St.step, putO, setsV, addO, ↓reduceIte, Nat.reduceAdd, logT, atT, intern, internL, kp_ents, fz_ents, fz_bytes, kp_bytes, logR, logE, ← List.map_take, ← List.map_drop, List.take_length, beq_self_eq_true] at hσ_; subst hσ_
                refine TL.st rfl (S_move rfl) ?_
                intro σ_ hσ_; simp only [nrm, tev, St.step, putO, setsV, addO, ↓reduceIte, Nat.reduceAdd, logT, atT, intern, internL, kp_ents, fz_ents, fz_bytes, kp_bytes, logR, logE, ← List.map_take, ← List.map_drop, List.take_length, beq_self_eq_true] at hσ_; subst hσ_
                first | refine TL.st_g rfl rfl rfl (Nat.le_of_ble_eq_true rfl) rfl (S_load rfl rfl rfl (tT rfl) rfl) ?_ | refine TL.st_g rfl rfl rfl (Nat.le_of_ble_eq_true rfl) rfl (S_load_eptr rfl rfl (tT rfl) rfl) ?_ | refine TL.st_g rfl rfl rfl (Nat.le_of_ble_eq_true rfl) rfl (S_load_row rfl rfl rfl rfl (by assumption) (tT rfl) rfl) ?_ | refine TL.st_g rfl rfl rfl (Nat.le_of_ble_eq_true rfl) rfl (S_load_row (j := 0) rfl rfl rfl rfl (by assumption) (tT rfl) rfl) ?_ | refine TL.sk_g rfl rfl rfl (Nat.le_of_ble_eq_true rfl) rfl rfl ?_
                intro σ_ hσ_; simp only [nrm, tev, St.step, putO, setsV, addO, ↓reduceIte, Nat.reduceAdd, logT, atT, intern, internL, kp_ents, fz_ents, fz_bytes, kp_bytes, logR, logE, ← List.map_take, ← List.map_drop, List.take_length, beq_self_eq_true] at hσ_; subst hσ_
                first | refine TL.st_g rfl rfl rfl (Nat.le_of_ble_eq_true rfl) rfl (S_call_row rfl rfl rfl (by kernel_rfl) rfl (last_T _ _ x.i x.t X okX.w okX.n9 hi0 hi1) rfl) ?_ | refine TL.st_g rfl rfl rfl (Nat.le_of_ble_eq_true rfl) rfl (S_call rfl rfl rfl (by kernel_rfl) rfl (last_T _ _ x.i x.t X okX.w okX.n9 hi0 hi1)) ?_ | refine TL.sk_g rfl rfl rfl (Nat.le_of_ble_eq_true rfl) rfl rfl ?_
                intro σ_ hσ_; simp only [nrm, tev, St.step, putO, setsV, addO, ↓reduceIte, Nat.reduceAdd, logT, atT, intern, internL, kp_ents, fz_ents, fz_bytes, kp_bytes, logR, logE, ← List.map_take, ← List.map_drop, List.take_length, beq_self_eq_true] at hσ_; subst hσ_
                first | refine TL.st_g rfl rfl rfl (Nat.le_of_ble_eq_true rfl) rfl (S_field rfl rfl (tT rfl) rfl rfl (tT rfl) rfl) ?_ | refine TL.sk_g rfl rfl rfl (Nat.le_of_ble_eq_true rfl) rfl rfl ?_
                intro σ_ hσ_; simp only [nrm, tev, St.step, putO, setsV, addO, ↓reduceIte, Nat.reduceAdd, logT, atT, intern, internL, kp_ents, fz_ents, fz_bytes, kp_bytes, logR, logE, ← List.map_take, ← List.map_drop, List.take_length, beq_self_eq_true] at hσ_; subst hσ_
                first | refine TL.st_g rfl rfl rfl (Nat.le_of_ble_eq_true rfl) rfl (S_move rfl) ?_ | refine TL.sk_g rfl rfl rfl (Nat.le_of_ble_eq_true rfl) rfl rfl ?_
                intro σ_ hσ_; simp only [nrm, tev, St.step, putO, setsV, addO, ↓reduceIte, Nat.reduceAdd, logT, atT, intern, internL, kp_ents, fz_ents, fz_bytes, kp_bytes, logR, logE, ← List.map_take, ← List.map_drop, List.take_length, beq_self_eq_true] at hσ_; subst hσ_
                first | refine TL.st_g rfl rfl rfl (Nat.le_of_ble_eq_true rfl) rfl (S_int rfl rfl rfl rfl (vbt (by omega))) ?_ | refine TL.st_g rfl rfl rfl (Nat.le_of_ble_eq_true rfl) rfl (S_int rfl rfl rfl rfl (vbf (by omega))) ?_ | refine TL.st_g rfl rfl rfl (Nat.le_of_ble_eq_true rfl) rfl (S_int rfl rfl rfl rfl rfl) ?_ | refine TL.st_g rfl rfl rfl (Nat.le_of_ble_eq_true rfl) rfl (S_boolop rfl rfl rfl rfl (tT rfl) rfl) ?_ | refine TL.sk_g rfl rfl rfl (Nat.le_of_ble_eq_true rfl) rfl rfl ?_
                intro σ_ hσ_; simp only [nrm, tev, St.step, putO, setsV, addO, ↓reduceIte, Nat.reduceAdd, logT, atT, intern, internL, kp_ents, fz_ents, fz_bytes, kp_bytes, logR, logE, ← List.map_take, ← List.map_drop, List.take_length, beq_self_eq_true] at hσ_; subst hσ_
                refine TL.st rfl (S_pick rfl rfl rfl) ?_
                intro σ_ hσ_; simp only [nrm, tev, St.step, putO, setsV, addO, ↓reduceIte, Nat.reduceAdd, logT, atT, intern, internL, kp_ents, fz_ents, fz_bytes, kp_bytes, logR, logE, ← List.map_take, ← List.map_drop, List.take_length, beq_self_eq_true] at hσ_; subst hσ_
                refine TL.st rfl (S_assign rfl) ?_
                intro σ_ hσ_; simp only [nrm, tev, St.step, putO, setsV, addO, ↓reduceIte, Nat.reduceAdd, logT, atT, intern, internL, kp_ents, fz_ents, fz_bytes, kp_bytes, logR, logE, ← List.map_take, ← List.map_drop, List.take_length, beq_self_eq_true] at hσ_; subst hσ_
                refine TL.nil ?_
                try simp (decide := true) only [thenT, inBlockT, noGotoT, jumpT, ↓reduceIte, true_and]
                refine hK30_ _ ?_
                refine TW.ret ?_
                try simp (decide := true) only [thenT, inBlockT, noGotoT, jumpT, ↓reduceIte, true_and]
                refine ⟨.inr rfl, _, none, (ResT.one Try.results8 rfl), ?_, (by rintro _ ⟨⟩)⟩
                simp only [nrm, tev, Out_v, Out_agg, Out_tup, OutL_nil, OutL_cons, Out_sl, Out_row_osl, Out_nil_osl, Out_nil_sl, Out_nil_nil, and_true, true_and, logT, atT, logR, logE, fr_ents, hf, List.getD_cons_zero, List.getD_cons_succ]
                done
              · skip
                have hend := hends hn
                refine TW.reg ?_
                refine TL.st rfl (S_move rfl) ?_
                intro σ_ hσ_; simp only [nrm, tev, St.step, putO, setsV, addO, ↓reduceIte, Nat.reduceAdd, logT, atT, intern, internL, kp_ents, fz_ents, fz_bytes, kp_bytes, logR, logE, ← List.map_take, ← List.map_drop, List.take_length, beq_self_eq_true] at hσ_; subst hσ_
                refine TL.st rfl (S_move rfl) ?_
                intro σ_ hσ_; simp only [nrm, tev, St.step, putO, setsV, addO, ↓reduceIte, Nat.reduceAdd, logT, atT, intern, internL, kp_ents, fz_ents, fz_bytes, kp_bytes, logR, logE, ← List.map_take, ← List.map_drop, List.take_length, beq_self_eq_true] at hσ_; subst hσ_
                first | refine TL.st rfl (S_len rfl rfl (tT rfl) rfl (.inl ⟨_, _, rfl, rfl⟩)) ?_ | refine TL.st rfl (S_len rfl rfl (tT rfl) rfl (.inr (.inl ⟨_, _, _, _, rfl, rfl, rfl⟩))) ?_ | refine TL.st rfl (S_len rfl rfl (tT rfl) rfl (.inr (.inr ⟨rfl, rfl⟩))) ?_ | refine TL.st rfl (S_len_str rfl rfl (tT rfl) rfl rfl) ?_ | refine TL.st rfl (S_len_arr rfl rfl (tT rfl) rfl) ?_
                intro σ_ hσ_; simp only [nrm, tev, St.step, putO, setsV, addO, ↓reduceIte, Nat.reduceAdd, logT, atT, intern, internL, kp_ents, fz_ents, fz_bytes, kp_bytes, logR, logE, ← List.map_take, ← List.map_drop, List.take_length, beq_self_eq_true] at hσ_; subst hσ_
                first | refine TL.st rfl (S_int rfl rfl rfl rfl (vbt (by omega))) ?_ | refine TL.st rfl (S_int rfl rfl rfl rfl (vbf (by omega))) ?_ | refine TL.st rfl (S_int rfl rfl rfl rfl rfl) ?_ | refine TL.st rfl (S_boolop rfl rfl rfl rfl (tT rfl) rfl) ?_
                intro σ_ hσ_; simp only [nrm, tev, St.step, putO, setsV, addO, ↓reduceIte, Nat.reduceAdd, logT, atT, intern, internL, kp_ents, fz_ents, fz_bytes, kp_bytes, logR, logE, ← List.map_take, ← List.map_drop, List.take_length, beq_self_eq_true] at hσ_; subst hσ_
                refine TL.st rfl (S_move rfl) ?_
                intro σ_ hσ_; simp only [nrm, tev, St.step, putO, setsV, addO, ↓reduceIte, Nat.reduceAdd, logT, atT, intern, internL, kp_ents, fz_ents, fz_bytes, kp_bytes, logR, logE, ← List.map_take, ← List.map_drop, List.take_length, beq_self_eq_true] at hσ_; subst hσ_
                first | refine TL.st_g rfl rfl rfl (Nat.le_of_ble_eq_true rfl) rfl (S_load rfl rfl rfl (tT rfl) rfl) ?_ | refine TL.st_g rfl rfl rfl (Nat.le_of_ble_eq_true rfl) rfl (S_load_eptr rfl rfl (tT rfl) rfl) ?_ | refine TL.st_g rfl rfl rfl (Nat.le_of_ble_eq_true rfl) rfl (S_load_row rfl rfl rfl rfl (by assumption) (tT rfl) rfl) ?_ | refine TL.st_g rfl rfl rfl (Nat.le_of_ble_eq_true rfl) rfl (S_load_row (j := 0) rfl rfl rfl rfl (by assumption) (tT rfl) rfl) ?_ | refine TL.sk_g rfl rfl rfl (Nat.le_of_ble_eq_true rfl) rfl rfl ?_
                intro σ_ hσ_; simp only [nrm, tev, St.step, putO, setsV, addO, ↓reduceIte, Nat.reduceAdd, logT, atT, intern, internL, kp_ents, fz_ents, fz_bytes, kp_bytes, logR, logE, ← List.map_take, ← List.map_drop, List.take_length, beq_self_eq_true] at hσ_; subst hσ_
                first | refine TL.st_g rfl rfl rfl (Nat.le_of_ble_eq_true rfl) rfl (S_call_row rfl rfl rfl (by kernel_rfl) rfl (last_T _ _ x.i x.t X okX.w okX.n9 hi0 hi1) rfl) ?_ | refine TL.st_g rfl rfl rfl (Nat.le_of_ble_eq_true rfl) rfl (S_call rfl rfl rfl (by kernel_rfl) rfl (last_T _ _ x.i x.t X okX.w okX.n9 hi0 hi1)) ?_ | refine TL.sk_g rfl rfl rfl (Nat.le_of_ble_eq_true rfl) rfl rfl ?_
                intro σ_ hσ_; simp only [nrm, tev, St.step, putO, setsV, addO, ↓reduceIte, Nat.reduceAdd, logT, atT, intern, internL, kp_ents, fz_ents, fz_bytes, kp_bytes, logR, logE, ← List.map_take, ← List.map_drop, List.take_length, beq_self_eq_true] at hσ_; subst hσ_
                first | refine TL.st_g rfl rfl rfl (Nat.le_of_ble_eq_true rfl) rfl (S_field rfl rfl (tT rfl) rfl rfl (tT rfl) rfl) ?_ | refine TL.sk_g rfl rfl rfl (Nat.le_of_ble_eq_true rfl) rfl rfl ?_
                intro σ_ hσ_; simp only [nrm, tev, St.step, putO, setsV, addO, ↓reduceIte, Nat.reduceAdd, logT, atT, intern, internL, kp_ents, fz_ents, fz_bytes, kp_bytes, logR, logE, ← List.map_take, ← List.map_drop, List.take_length, beq_self_eq_true] at hσ_; subst hσ_
                first | refine TL.st_g rfl rfl rfl (Nat.le_of_ble_eq_true rfl) rfl (S_move rfl) ?_ | refine TL.sk_g rfl rfl rfl (Nat.le_of_ble_eq_true rfl) rfl rfl ?_
                intro σ_ hσ_; simp only [nrm, tev, St.step, putO, setsV, addO, ↓reduceIte, Nat.reduceAdd, logT, atT, intern, internL, kp_ents, fz_ents, fz_bytes, kp_bytes, logR, logE, ← List.map_take, ← List.map_drop, List.take_length, beq_self_eq_true] at hσ_; subst hσ_
                first | refine TL.st_g rfl rfl rfl (Nat.le_of_ble_eq_true rfl) rfl (S_int rfl rfl rfl rfl (vbt (by omega))) ?_ | refine TL.st_g rfl rfl rfl (Nat.le_of_ble_eq_true rfl) rfl (S_int rfl rfl rfl rfl (vbf (by omega))) ?_ | refine TL.st_g rfl rfl rfl (Nat.le_of_ble_eq_true rfl) rfl (S_int rfl rfl rfl rfl rfl) ?_ | refine TL.st_g rfl rfl rfl (Nat.le_of_ble_eq_true rfl) rfl (S_boolop rfl rfl rfl rfl (tT rfl) rfl) ?_ | refine TL.sk_g rfl rfl rfl (Nat.le_of_ble_eq_true rfl) rfl rfl ?_
                intro σ_ hσ_; simp only [nrm, tev, St.step, putO, setsV, addO, ↓reduceIte, Nat.reduceAdd, logT, atT, intern, internL, kp_ents, fz_ents, fz_bytes, kp_bytes, logR, logE, ← List.map_take, ← List.map_drop, List.take_length, beq_self_eq_true] at hσ_; subst hσ_
                refine TL.st rfl (S_pick rfl rfl rfl) ?_
                intro σ_ hσ_; simp only [nrm, tev, St.step, putO, setsV, addO, ↓reduceIte, Nat.reduceAdd, logT, atT, intern, internL, kp_ents, fz_ents, fz_bytes, kp_bytes, logR, logE, ← List.map_take, ← List.map_drop, List.take_length, beq_self_eq_true] at hσ_; subst hσ_
                refine TL.st rfl (S_assign rfl) ?_
                intro σ_ hσ_; simp only [nrm, tev, St.step, putO, setsV, addO, ↓reduceIte, Nat.reduceAdd, logT, atT, intern, internL, kp_ents, fz_ents, fz_bytes, kp_bytes, logR, logE, ← List.map_take, ← List.map_drop, List.take_length, beq_self_eq_true] at hσ_; subst hσ_
                refine TL.nil ?_
                try simp (decide := true) only [thenT, inBlockT, noGotoT, jumpT, ↓reduceIte, true_and]
                refine hK30_ _ ?_
                refine TW.ret ?_
                try simp (decide := true) only [thenT, inBlockT, noGotoT, jumpT, ↓reduceIte, true_and]
                refine ⟨.inr rfl, _, none, (ResT.one Try.results8 rfl), ?_, (by rintro _ ⟨⟩)⟩
                simp only [nrm, tev, Out_v, Out_agg, Out_tup, OutL_nil, OutL_cons, Out_sl, Out_row_osl, Out_nil_osl, Out_nil_sl, Out_nil_nil, and_true, true_and, logT, atT, logR, logE, fr_ents, hf, List.getD_cons_zero, List.getD_cons_succ]
                done
        · skip
          have kp1 := (hkeep (k := k) (by omega) (fun hh => hg2 hh.2)).1
          have kp2 := (hkeep (k := k) (by omega) (fun hh => hg2 hh.2)).2
          refine TW.reg ?_
          refine TL.st rfl (S_move rfl) ?_
          intro σ_ hσ_; simp only [nrm, tev, St.step, putO, setsV, addO, ↓reduceIte, Nat.reduceAdd, logT, atT, intern, internL, kp_ents, fz_ents, fz_bytes, kp_bytes, logR, logE, ← List.map_take, ← List.map_drop, List.take_length, beq_self_eq_true] at hσ_; subst hσ_
          refine TL.st rfl (S_move rfl) ?_
          intro σ_ hσ_; simp only [nrm, tev, St.step, putO, setsV, addO, ↓reduceIte, Nat.reduceAdd, logT, atT, intern, internL, kp_ents, fz_ents, fz_bytes, kp_bytes, logR, logE, ← List.map_take, ← List.map_drop, List.take_length, beq_self_eq_true] at hσ_; subst hσ_
          first | refine TL.st rfl (S_len rfl rfl (tT rfl) rfl (.inl ⟨_, _, rfl, rfl⟩)) ?_ | refine TL.st rfl (S_len rfl rfl (tT rfl) rfl (.inr (.inl ⟨_, _, _, _, rfl, rfl, rfl⟩))) ?_ | refine TL.st rfl (S_len rfl rfl (tT rfl) rfl (.inr (.inr ⟨rfl, rfl⟩))) ?_ | refine TL.st rfl (S_len_str rfl rfl (tT rfl) rfl rfl) ?_ | refine TL.st rfl (S_len_arr rfl rfl (tT rfl) rfl) ?_
          intro σ_ hσ_; simp only [nrm, tev, St.step, putO, setsV, addO, ↓reduceIte, Nat.reduceAdd, logT, atT, intern, internL, kp_ents, fz_ents, fz_bytes, kp_bytes, logR, logE, ← List.map_take, ← List.map_drop, List.take_length, beq_self_eq_true] at hσ_; subst hσ_
          first | refine TL.st rfl (S_int rfl rfl rfl rfl (vbt (by omega))) ?_ | refine TL.st rfl (S_int rfl rfl rfl rfl (vbf (by omega))) ?_ | refine TL.st rfl (S_int rfl rfl rfl rfl rfl) ?_
          intro σ_ hσ_; simp only [nrm, tev, St.step, putO, setsV, addO, ↓reduceIte, Nat.reduceAdd, logT, atT, intern, internL, kp_ents, fz_ents, fz_bytes, kp_bytes, logR, logE, ← List.map_take, ← List.map_drop, List.take_length, beq_self_eq_true] at hσ_; subst hσ_
          refine TL.st rfl (S_move rfl) ?_
          intro σ_ hσ_; simp only [nrm, tev, St.step, putO, setsV, addO, ↓reduceIte, Nat.reduceAdd, logT, atT, intern, internL, kp_ents, fz_ents, fz_bytes, kp_bytes, logR, logE, ← List.map_take, ← List.map_drop, List.take_length, beq_self_eq_true] at hσ_; subst hσ_
          first | refine TL.st_g rfl rfl rfl (Nat.le_of_ble_eq_true rfl) rfl (S_move rfl) ?_ | refine TL.sk_g rfl rfl rfl (Nat.le_of_ble_eq_true rfl) rfl rfl ?_
          intro σ_ hσ_; simp only [nrm, tev, St.step, putO, setsV, addO, ↓reduceIte, Nat.reduceAdd, logT, atT, intern, internL, kp_ents, fz_ents, fz_bytes, kp_bytes, logR, logE, ← List.map_take, ← List.map_drop, List.take_length, beq_self_eq_true] at hσ_; subst hσ_
          first | refine TL.st_g rfl rfl rfl (Nat.le_of_ble_eq_true rfl) rfl (S_fieldAddr rfl rfl (tT rfl) rfl rfl (tT rfl) (by decide)) ?_ | refine TL.st_g rfl rfl rfl (Nat.le_of_ble_eq_true rfl) rfl (S_fieldAddr_eptr rfl rfl (tT rfl) rfl rfl (tT rfl) (by decide)) ?_ | refine TL.sk_g rfl rfl rfl (Nat.le_of_ble_eq_true rfl) rfl rfl ?_
          intro σ_ hσ_; simp only [nrm, tev, St.step, putO, setsV, addO, ↓reduceIte, Nat.reduceAdd, logT, atT, intern, internL, kp_ents, fz_ents, fz_bytes, kp_bytes, logR, logE, ← List.map_take, ← List.map_drop, List.take_length, beq_self_eq_true] at hσ_; subst hσ_
          first | refine TL.st_g rfl rfl rfl (Nat.le_of_ble_eq_true rfl) rfl (S_fieldAddr rfl rfl (tT rfl) rfl rfl (tT rfl) (by decide)) ?_ | refine TL.st_g rfl rfl rfl (Nat.le_of_ble_eq_true rfl) rfl (S_fieldAddr_eptr rfl rfl (tT rfl) rfl rfl (tT rfl) (by decide)) ?_ | refine TL.sk_g rfl rfl rfl (Nat.le_of_ble_eq_true rfl) rfl rfl ?_
          intro σ_ hσ_; simp only [nrm, tev, St.step, putO, setsV, addO, ↓reduceIte, Nat.reduceAdd, logT, atT, intern, internL, kp_ents, fz_ents, fz_bytes, kp_bytes, logR, logE, ← List.map_take, ← List.map_drop, List.take_length, beq_self_eq_true] at hσ_; subst hσ_
          first | refine TL.st_g rfl rfl rfl (Nat.le_of_ble_eq_true rfl) rfl (S_load rfl rfl rfl (tT rfl) rfl) ?_ | refine TL.st_g rfl rfl rfl (Nat.le_of_ble_eq_true rfl) rfl (S_load_eptr rfl rfl (tT rfl) rfl) ?_ | refine TL.st_g rfl rfl rfl (Nat.le_of_ble_eq_true rfl) rfl (S_load_row rfl rfl rfl rfl (by assumption) (tT rfl) rfl) ?_ | refine TL.st_g rfl rfl rfl (Nat.le_of_ble_eq_true rfl) rfl (S_load_row (j := 0) rfl rfl rfl rfl (by assumption) (tT rfl) rfl) ?_ | refine TL.sk_g rfl rfl rfl (Nat.le_of_ble_eq_true rfl) rfl rfl ?_
          intro σ_ hσ_; simp only [nrm, tev, St.step, putO, setsV, addO, ↓reduceIte, Nat.reduceAdd, logT, atT, intern, internL, kp_ents, fz_ents, fz_bytes, kp_bytes, logR, logE, ← List.map_take, ← List.map_drop, List.take_length, beq_self_eq_true] at hσ_; subst hσ_
          first | refine TL.st_g rfl rfl rfl (Nat.le_of_ble_eq_true rfl) rfl (S_move rfl) ?_ | refine TL.sk_g rfl rfl rfl (Nat.le_of_ble_eq_true rfl) rfl rfl ?_
          intro σ_ hσ_; simp only [nrm, tev, St.step, putO, setsV, addO, ↓reduceIte, Nat.reduceAdd, logT, atT, intern, internL, kp_ents, fz_ents, fz_bytes, kp_bytes, logR, logE, ← List.map_take, ← List.map_drop, List.take_length, beq_self_eq_true] at hσ_; subst hσ_
          first | refine TL.st_g rfl rfl rfl (Nat.le_of_ble_eq_true rfl) rfl (S_conv_int rfl rfl (tT rfl) (tT rfl) rfl (vi64 (by omega))) ?_ | refine TL.st_g rfl rfl rfl (Nat.le_of_ble_eq_true rfl) rfl (S_conv_int rfl rfl (tT rfl) (tT rfl) rfl (vu64 (by omega))) ?_ | refine TL.st_g rfl rfl rfl (Nat.le_of_ble_eq_true rfl) rfl (S_conv_int rfl rfl (tT rfl) (tT rfl) rfl (vu8 (by omega))) ?_ | refine TL.st_g rfl rfl rfl (Nat.le_of_ble_eq_true rfl) rfl (S_conv_int rfl rfl (tT rfl) (tT rfl) rfl rfl) ?_ | refine TL.st_g rfl rfl rfl (Nat.le_of_ble_eq_true rfl) rfl (S_conv_str rfl rfl (tT rfl) (tT rfl) rfl) ?_ | refine TL.sk_g rfl rfl rfl (Nat.le_of_ble_eq_true rfl) rfl rfl ?_
          intro σ_ hσ_; simp only [nrm, tev, St.step, putO, setsV, addO, ↓reduceIte, Nat.reduceAdd, logT, atT, intern, internL, kp_ents, fz_ents, fz_bytes, kp_bytes, logR, logE, ← List.map_take, ← List.map_drop, List.take_length, beq_self_eq_true] at hσ_; subst hσ_
          first | refine TL.st_g rfl rfl rfl (Nat.le_of_ble_eq_true rfl) rfl (S_int rfl rfl rfl rfl (vi64 (by omega))) ?_ | refine TL.st_g rfl rfl rfl (Nat.le_of_ble_eq_true rfl) rfl (S_int rfl rfl rfl rfl (vu64 (by omega))) ?_ | refine TL.st_g rfl rfl rfl (Nat.le_of_ble_eq_true rfl) rfl (S_int rfl rfl rfl rfl rfl) ?_ | refine TL.sk_g rfl rfl rfl (Nat.le_of_ble_eq_true rfl) rfl rfl ?_
          intro σ_ hσ_; simp only [nrm, tev, St.step, putO, setsV, addO, ↓reduceIte, Nat.reduceAdd, logT, atT, intern, internL, kp_ents, fz_ents, fz_bytes, kp_bytes, logR, logE, ← List.map_take, ← List.map_drop, List.take_length, beq_self_eq_true] at hσ_; subst hσ_
          first | refine TL.st_g rfl rfl rfl (Nat.le_of_ble_eq_true rfl) rfl (S_int rfl rfl rfl rfl (vbt (by omega))) ?_ | refine TL.st_g rfl rfl rfl (Nat.le_of_ble_eq_true rfl) rfl (S_int rfl rfl rfl rfl (vbf (by omega))) ?_ | refine TL.st_g rfl rfl rfl (Nat.le_of_ble_eq_true rfl) rfl (S_int rfl rfl rfl rfl rfl) ?_ | refine TL.sk_g rfl rfl rfl (Nat.le_of_ble_eq_true rfl) rfl rfl ?_
          intro σ_ hσ_; simp only [nrm, tev, St.step, putO, setsV, addO, ↓reduceIte, Nat.reduceAdd, logT, atT, intern, internL, kp_ents, fz_ents, fz_bytes, kp_bytes, logR, logE, ← List.map_take, ← List.map_drop, List.take_length, beq_self_eq_true] at hσ_; subst hσ_
          refine TL.st rfl (S_pick rfl rfl rfl) ?_
          intro σ_ hσ_; simp only [nrm, tev, St.step, putO, setsV, addO, ↓reduceIte, Nat.reduceAdd, logT, atT, intern, internL, kp_ents, fz_ents, fz_bytes, kp_bytes, logR, logE, ← List.map_take, ← List.map_drop, List.take_length, beq_self_eq_true] at hσ_; subst hσ_
          refine TL.nil ?_
          try simp (decide := true) only [thenT, inBlockT, noGotoT, jumpT, ↓reduceIte, true_and]
          refine hK23_ _ ?_
          refine TW.cond_f rfl (rfl) ?_
          refine TW.skip ?_
          try simp (decide := true) only [thenT, inBlockT, noGotoT, jumpT, ↓reduceIte, true_and]
          refine hK22_ _ ?_
          refine TW.seq_k ?_
          intro K31_ hK31_
          refine TW.reg ?_
          first | refine TL.st rfl (S_load rfl rfl rfl (tT rfl) rfl) ?_ | refine TL.st rfl (S_load_eptr rfl rfl (tT rfl) rfl) ?_ | refine TL.st rfl (S_load_row rfl rfl rfl rfl (by assumption) (tT rfl) rfl) ?_ | refine TL.st rfl (S_load_row (j := 0) rfl rfl rfl rfl (by assumption) (tT rfl) rfl) ?_
          intro σ_ hσ_; simp only [nrm, tev, St.step, putO, setsV, addO, ↓reduceIte, Nat.reduceAdd, logT, atT, intern, internL, kp_ents, fz_ents, fz_bytes, kp_bytes, logR, logE, ← List.map_take, ← List.map_drop, List.take_length, beq_self_eq_true] at hσ_; subst hσ_
          refine TL.st rfl (S_move rfl) ?_
          intro σ_ hσ_; simp only [nrm, tev, St.step, putO, setsV, addO, ↓reduceIte, Nat.reduceAdd, logT, atT, intern, internL, kp_ents, fz_ents, fz_bytes, kp_bytes, logR, logE, ← List.map_take, ← List.map_drop, List.take_length, beq_self_eq_true] at hσ_; subst hσ_
          first | refine TL.st rfl (S_call_row rfl rfl rfl (by kernel_rfl) rfl ((term_T _ _ x.i x.t es xf.w xf.n9 hi0 hi1 (x.i + k)).eq rfl (by rw [kp1])) rfl) ?_ | refine TL.st rfl (S_call rfl rfl rfl (by kernel_rfl) rfl ((term_T _ _ x.i x.t es xf.w xf.n9 hi0 hi1 (x.i + k)).eq rfl (by rw [kp1]))) ?_ | refine TL.st rfl (S_call_row rfl rfl rfl (by kernel_rfl) rfl ((term_T _ _ x.i x.t X okX.w okX.n9 hi0 hi1 (x.i + k)).eq rfl (by rw [kp2])) rfl) ?_ | refine TL.st rfl (S_call rfl rfl rfl (by kernel_rfl) rfl ((term_T _ _ x.i x.t X okX.w okX.n9 hi0 hi1 (x.i + k)).eq rfl (by rw [kp2]))) ?_
          intro σ_ hσ_; simp only [nrm, tev, St.step, putO, setsV, addO, ↓reduceIte, Nat.reduceAdd, logT, atT, intern, internL, kp_ents, fz_ents, fz_bytes, kp_bytes, logR, logE, ← List.map_take, ← List.map_drop, List.take_length, beq_self_eq_true] at hσ_; subst hσ_
          refine TL.st rfl (S_move rfl) ?_
          intro σ_ hσ_; simp only [nrm, tev, St.step, putO, setsV, addO, ↓reduceIte, Nat.reduceAdd, logT, atT, intern, internL, kp_ents, fz_ents, fz_bytes, kp_bytes, logR, logE, ← List.map_take, ← List.map_drop, List.take_length, beq_self_eq_true] at hσ_; subst hσ_
          refine TL.st rfl (S_extract rfl rfl rfl) ?_
          intro σ_ hσ_; simp only [nrm, tev, St.step, putO, setsV, addO, ↓reduceIte, Nat.reduceAdd, logT, atT, intern, internL, kp_ents, fz_ents, fz_bytes, kp_bytes, logR, logE, ← List.map_take, ← List.map_drop, List.take_length, beq_self_eq_true] at hσ_; subst hσ_
          refine TL.st rfl (S_extract rfl rfl rfl) ?_
          intro σ_ hσ_; simp only [nrm, tev, St.step, putO, setsV, addO, ↓reduceIte, Nat.reduceAdd, logT, atT, intern, internL, kp_ents, fz_ents, fz_bytes, kp_bytes, logR, logE, ← List.map_take, ← List.map_drop, List.take_length, beq_self_eq_true] at hσ_; subst hσ_
          refine TL.st rfl (S_assign rfl) ?_
          intro σ_ hσ_; simp only [nrm, tev, St.step, putO, setsV, addO, ↓reduceIte, Nat.reduceAdd, logT, atT, intern, internL, kp_ents, fz_ents, fz_bytes, kp_bytes, logR, logE, ← List.map_take, ← List.map_drop, List.take_length, beq_self_eq_true] at hσ_; subst hσ_
          refine TL.st rfl (S_assign rfl) ?_
          intro σ_ hσ_; simp only [nrm, tev, St.step, putO, setsV, addO, ↓reduceIte, Nat.reduceAdd, logT, atT, intern, internL, kp_ents, fz_ents, fz_bytes, kp_bytes, logR, logE, ← List.map_take, ← List.map_drop, List.take_length, beq_self_eq_true] at hσ_; subst hσ_
          refine TL.nil ?_
          try simp (decide := true) only [thenT, inBlockT, noGotoT, jumpT, ↓reduceIte, true_and]
          refine hK31_ _ ?_
          refine TW.seq_k ?_
          intro K32_ hK32_
          refine TW.reg ?_
          first | refine TL.st rfl (S_load rfl rfl rfl (tT rfl) rfl) ?_ | refine TL.st rfl (S_load_eptr rfl rfl (tT rfl) rfl) ?_ | refine TL.st rfl (S_load_row rfl rfl rfl rfl (by assumption) (tT rfl) rfl) ?_ | refine TL.st rfl (S_load_row (j := 0) rfl rfl rfl rfl (by assumption) (tT rfl) rfl) ?_
          intro σ_ hσ_; simp only [nrm, tev, St.step, putO, setsV, addO, ↓reduceIte, Nat.reduceAdd, logT, atT, intern, internL, kp_ents, fz_ents, fz_bytes, kp_bytes, logR, logE, ← List.map_take, ← List.map_drop, List.take_length, beq_self_eq_true] at hσ_; subst hσ_
          refine TL.st rfl (S_move rfl) ?_
          intro σ_ hσ_; simp only [nrm, tev, St.step, putO, setsV, addO, ↓reduceIte, Nat.reduceAdd, logT, atT, intern, internL, kp_ents, fz_ents, fz_bytes, kp_bytes, logR, logE, ← List.map_take, ← List.map_drop, List.take_length, beq_self_eq_true] at hσ_; subst hσ_
          first | refine TL.st rfl (S_call_row rfl rfl rfl (by kernel_rfl) rfl ((term_T _ _ x.i x.t es xf.w xf.n9 hi0 hi1 (x.i + k)).eq rfl (by rw [kp1])) rfl) ?_ | refine TL.st rfl (S_call rfl rfl rfl (by kernel_rfl) rfl ((term_T _ _ x.i x.t es xf.w xf.n9 hi0 hi1 (x.i + k)).eq rfl (by rw [kp1]))) ?_ | refine TL.st rfl (S_call_row rfl rfl rfl (by kernel_rfl) rfl ((term_T _ _ x.i x.t X okX.w okX.n9 hi0 hi1 (x.i + k)).eq rfl (by rw [kp2])) rfl) ?_ | refine TL.st rfl (S_call rfl rfl rfl (by kernel_rfl) rfl ((term_T _ _ x.i x.t X okX.w okX.n9 hi0 hi1 (x.i + k)).eq rfl (by rw [kp2]))) ?_
          intro σ_ hσ_; simp only [nrm, tev, St.step, putO, setsV, addO, ↓reduceIte, Nat.reduceAdd, logT, atT, intern, internL, kp_ents, fz_ents, fz_bytes, kp_bytes, logR, logE, ← List.map_take, ← List.map_drop, List.take_length, beq_self_eq_true] at hσ_; subst hσ_
          refine TL.st rfl (S_move rfl) ?_
          intro σ_ hσ_; simp only [nrm, tev, St.step, putO, setsV, addO, ↓reduceIte, Nat.reduceAdd, logT, atT, intern, internL, kp_ents, fz_ents, fz_bytes, kp_bytes, logR, logE, ← List.map_take, ← List.map_drop, List.take_length, beq_self_eq_true] at hσ_; subst hσ_
          refine TL.st rfl (S_extract rfl rfl rfl) ?_
          intro σ_ hσ_; simp only [nrm, tev, St.step, putO, setsV, addO, ↓reduceIte, Nat.reduceAdd, logT, atT, intern, internL, kp_ents, fz_ents, fz_bytes, kp_bytes, logR, logE, ← List.map_take, ← List.map_drop, List.take_length, beq_self_eq_true] at hσ_; subst hσ_
          refine TL.st rfl (S_extract rfl rfl rfl) ?_
          intro σ_ hσ_; simp only [nrm, tev, St.step, putO, setsV, addO, ↓reduceIte, Nat.reduceAdd, logT, atT, intern, internL, kp_ents, fz_ents, fz_bytes, kp_bytes, logR, logE, ← List.map_take, ← List.map_drop, List.take_length, beq_self_eq_true] at hσ_; subst hσ_
          refine TL.st rfl (S_assign rfl) ?_
          intro σ_ hσ_; simp only [nrm, tev, St.step, putO, setsV, addO, ↓reduceIte, Nat.reduceAdd, logT, atT, intern, internL, kp_ents, fz_ents, fz_bytes, kp_bytes, logR, logE, ← List.map_take, ← List.map_drop, List.take_length, beq_self_eq_true] at hσ_; subst hσ_
          refine TL.st rfl (S_assign rfl) ?_
          intro σ_ hσ_; simp only [nrm, tev, St.step, putO, setsV, addO, ↓reduceIte, Nat.reduceAdd, logT, atT, intern, internL, kp_ents, fz_ents, fz_bytes, kp_bytes, logR, logE, ← List.map_take, ← List.map_drop, List.take_length, beq_self_eq_true] at hσ_; subst hσ_
          refine TL.nil ?_
          try simp (decide := true) only [thenT, inBlockT, noGotoT, jumpT, ↓reduceIte, true_and]
          refine hK32_ _ ?_
          refine TW.seq_k ?_
          intro K33_ hK33_
          refine TW.reg ?_
          refine TL.st rfl (S_move rfl) ?_
          intro σ_ hσ_; simp only [nrm, tev, St.step, putO, setsV, addO, ↓reduceIte, Nat.reduceAdd, logT, atT, intern, internL, kp_ents, fz_ents, fz_bytes, kp_bytes, logR, logE, ← List.map_take, ← List.map_drop, List.take_length, beq_self_eq_true] at hσ_; subst hσ_
          first | refine TL.st rfl (S_not rfl rfl) ?_ | refine TL.st rfl (S_neg rfl rfl) ?_
          intro σ_ hσ_; simp only [nrm, tev, St.step, putO, setsV, addO, ↓reduceIte, Nat.reduceAdd, logT, atT, intern, internL, kp_ents, fz_ents, fz_bytes, kp_bytes, logR, logE, ← List.map_take, ← List.map_drop, List.take_length, beq_self_eq_true] at hσ_; subst hσ_
          refine TL.st rfl (S_move rfl) ?_
          intro σ_ hσ_; simp only [nrm, tev, St.step, putO, setsV, addO, ↓reduceIte, Nat.reduceAdd, logT, atT, intern, internL, kp_ents, fz_ents, fz_bytes, kp_bytes, logR, logE, ← List.map_take, ← List.map_drop, List.take_length, beq_self_eq_true] at hσ_; subst hσ_
          first | refine TL.st_g rfl rfl rfl (Nat.le_of_ble_eq_true rfl) rfl (S_move rfl) ?_ | refine TL.sk_g rfl rfl rfl (Nat.le_of_ble_eq_true rfl) rfl rfl ?_
          intro σ_ hσ_; simp only [nrm, tev, St.step, putO, setsV, addO, ↓reduceIte, Nat.reduceAdd, logT, atT, intern, internL, kp_ents, fz_ents, fz_bytes, kp_bytes, logR, logE, ← List.map_take, ← List.map_drop, List.take_length, beq_self_eq_true] at hσ_; subst hσ_
          first | refine TL.st_g rfl rfl rfl (Nat.le_of_ble_eq_true rfl) rfl (S_not rfl rfl) ?_ | refine TL.st_g rfl rfl rfl (Nat.le_of_ble_eq_true rfl) rfl (S_neg rfl rfl) ?_ | refine TL.sk_g rfl rfl rfl (Nat.le_of_ble_eq_true rfl) rfl rfl ?_
          intro σ_ hσ_; simp only [nrm, tev, St.step, putO, setsV, addO, ↓reduceIte, Nat.reduceAdd, logT, atT, intern, internL, kp_ents, fz_ents, fz_bytes, kp_bytes, logR, logE, ← List.map_take, ← List.map_drop, List.take_length, beq_self_eq_true] at hσ_; subst hσ_
          refine TL.st rfl (S_pick rfl rfl rfl) ?_
          intro σ_ hσ_; simp only [nrm, tev, St.step, putO, setsV, addO, ↓reduceIte, Nat.reduceAdd, logT, atT, intern, internL, kp_ents, fz_ents, fz_bytes, kp_bytes, logR, logE, ← List.map_take, ← List.map_drop, List.take_length, beq_self_eq_true] at hσ_; subst hσ_
          refine TL.st rfl (S_move rfl) ?_
          intro σ_ hσ_; simp only [nrm, tev, St.step, putO, setsV, addO, ↓reduceIte, Nat.reduceAdd, logT, atT, intern, internL, kp_ents, fz_ents, fz_bytes, kp_bytes, logR, logE, ← List.map_take, ← List.map_drop, List.take_length, beq_self_eq_true] at hσ_; subst hσ_
          first | refine TL.st_g rfl rfl rfl (Nat.le_of_ble_eq_true rfl) rfl (S_move rfl) ?_ | refine TL.sk_g rfl rfl rfl (Nat.le_of_ble_eq_true rfl) rfl rfl ?_
          intro σ_ hσ_; simp only [nrm, tev, St.step, putO, setsV, addO, ↓reduceIte, Nat.reduceAdd, logT, atT, intern, internL, kp_ents, fz_ents, fz_bytes, kp_bytes, logR, logE, ← List.map_take, ← List.map_drop, List.take_length, beq_self_eq_true] at hσ_; subst hσ_
          first | refine TL.st_g rfl rfl rfl (Nat.le_of_ble_eq_true rfl) rfl (S_move rfl) ?_ | refine TL.sk_g rfl rfl rfl (Nat.le_of_ble_eq_true rfl) rfl rfl ?_
          intro σ_ hσ_; simp only [nrm, tev, St.step, putO, setsV, addO, ↓reduceIte, Nat.reduceAdd, logT, atT, intern, internL, kp_ents, fz_ents, fz_bytes, kp_bytes, logR, logE, ← List.map_take, ← List.map_drop, List.take_length, beq_self_eq_true] at hσ_; subst hσ_
          first | refine TL.st_g rfl rfl rfl (Nat.le_of_ble_eq_true rfl) rfl (S_int rfl rfl rfl rfl (vnt (by omega))) ?_ | refine TL.st_g rfl rfl rfl (Nat.le_of_ble_eq_true rfl) rfl (S_int rfl rfl rfl rfl (vnf (by omega))) ?_ | refine TL.st_g rfl rfl rfl (Nat.le_of_ble_eq_true rfl) rfl (S_int rfl rfl rfl rfl rfl) ?_ | refine TL.st_g rfl rfl rfl (Nat.le_of_ble_eq_true rfl) rfl (S_boolneq rfl rfl rfl rfl (tT rfl) rfl) ?_ | refine TL.sk_g rfl rfl rfl (Nat.le_of_ble_eq_true rfl) rfl rfl ?_
          intro σ_ hσ_; simp only [nrm, tev, St.step, putO, setsV, addO, ↓reduceIte, Nat.reduceAdd, logT, atT, intern, internL, kp_ents, fz_ents, fz_bytes, kp_bytes, logR, logE, ← List.map_take, ← List.map_drop, List.take_length, beq_self_eq_true] at hσ_; subst hσ_
          refine TL.st rfl (S_pick rfl rfl rfl) ?_
          intro σ_ hσ_; simp only [nrm, tev, St.step, putO, setsV, addO, ↓reduceIte, Nat.reduceAdd, logT, atT, intern, internL, kp_ents, fz_ents, fz_bytes, kp_bytes, logR, logE, ← List.map_take, ← List.map_drop, List.take_length, beq_self_eq_true] at hσ_; subst hσ_
          refine TL.nil ?_
          try simp (decide := true) only [thenT, inBlockT, noGotoT, jumpT, ↓reduceIte, true_and]
          refine hK33_ _ ?_
          refine TW.cond_f rfl (rfl) ?_
          refine TW.skip ?_
          try simp (decide := true) only [thenT, inBlockT, noGotoT, jumpT, ↓reduceIte, true_and]
          refine hK19_ _ ?_
          refine TW.reg ?_
          first | refine TL.st rfl (S_int rfl rfl rfl rfl (vi64 (by omega))) ?_ | refine TL.st rfl (S_int rfl rfl rfl rfl (vu64 (by omega))) ?_ | refine TL.st rfl (S_int rfl rfl rfl rfl rfl) ?_
          intro σ_ hσ_; simp only [nrm, tev, St.step, putO, setsV, addO, ↓reduceIte, Nat.reduceAdd, logT, atT, intern, internL, kp_ents, fz_ents, fz_bytes, kp_bytes, logR, logE, ← List.map_take, ← List.map_drop, List.take_length, beq_self_eq_true] at hσ_; subst hσ_
          refine TL.st rfl (S_move rfl) ?_
          intro σ_ hσ_; simp only [nrm, tev, St.step, putO, setsV, addO, ↓reduceIte, Nat.reduceAdd, logT, atT, intern, internL, kp_ents, fz_ents, fz_bytes, kp_bytes, logR, logE, ← List.map_take, ← List.map_drop, List.take_length, beq_self_eq_true] at hσ_; subst hσ_
          refine TL.nil ?_
          try simp (decide := true) only [thenT, inBlockT, noGotoT, jumpT, ↓reduceIte, true_and]
          refine ⟨(k + 1), by omega, by omega, ?_⟩
          refine SLe.back 8 ?_ ?_ ?_
          · simp [setsL, kpL, kp, low, kpLL, LeL_cons, LeL_nil, LeT_any, LeT_self, LeT_v, LeT_sl, LeT_nil_sl, List.set_cons_zero, List.set_cons_succ, kp_ents]
          · simp [setsL, LB.kp, kpL, kp, low, LeB_self, LeB_nil, kp_ents]
          · simp [kpL, LeL_nil]
        · skip
          have kp1 := (hkeep (k := k) (by omega) (fun hh => hg1 hh.1)).1
          have kp2 := (hkeep (k := k) (by omega) (fun hh => hg1 hh.1)).2
          refine TW.reg ?_
          refine TL.st rfl (S_move rfl) ?_
          intro σ_ hσ_; simp only [nrm, tev, St.step, putO, setsV, addO, ↓reduceIte, Nat.reduceAdd, logT, atT, intern, internL, kp_ents, fz_ents, fz_bytes, kp_bytes, logR, logE, ← List.map_take, ← List.map_drop, List.take_length, beq_self_eq_true] at hσ_; subst hσ_
          refine TL.st rfl (S_move rfl) ?_
          intro σ_ hσ_; simp only [nrm, tev, St.step, putO, setsV, addO, ↓reduceIte, Nat.reduceAdd, logT, atT, intern, internL, kp_ents, fz_ents, fz_bytes, kp_bytes, logR, logE, ← List.map_take, ← List.map_drop, List.take_length, beq_self_eq_true] at hσ_; subst hσ_
          first | refine TL.st rfl (S_len rfl rfl (tT rfl) rfl (.inl ⟨_, _, rfl, rfl⟩)) ?_ | refine TL.st rfl (S_len rfl rfl (tT rfl) rfl (.inr (.inl ⟨_, _, _, _, rfl, rfl, rfl⟩))) ?_ | refine TL.st rfl (S_len rfl rfl (tT rfl) rfl (.inr (.inr ⟨rfl, rfl⟩))) ?_ | refine TL.st rfl (S_len_str rfl rfl (tT rfl) rfl rfl) ?_ | refine TL.st rfl (S_len_arr rfl rfl (tT rfl) rfl) ?_
          intro σ_ hσ_; simp only [nrm, tev, St.step, putO, setsV, addO, ↓reduceIte, Nat.reduceAdd, logT, atT, intern, internL, kp_ents, fz_ents, fz_bytes, kp_bytes, logR, logE, ← List.map_take, ← List.map_drop, List.take_length, beq_self_eq_true] at hσ_; subst hσ_
          first | refine TL.st rfl (S_int rfl rfl rfl rfl (vbt (by omega))) ?_ | refine TL.st rfl (S_int rfl rfl rfl rfl (vbf (by omega))) ?_ | refine TL.st rfl (S_int rfl rfl rfl rfl rfl) ?_
          intro σ_ hσ_; simp only [nrm, tev, St.step, putO, setsV, addO, ↓reduceIte, Nat.reduceAdd, logT, atT, intern, internL, kp_ents, fz_ents, fz_bytes, kp_bytes, logR, logE, ← List.map_take, ← List.map_drop, List.take_length, beq_self_eq_true] at hσ_; subst hσ_
          refine TL.st rfl (S_move rfl) ?_
          intro σ_ hσ_; simp only [nrm, tev, St.step, putO, setsV, addO, ↓reduceIte, Nat.reduceAdd, logT, atT, intern, internL, kp_ents, fz_ents, fz_bytes, kp_bytes, logR, logE, ← List.map_take, ← List.map_drop, List.take_length, beq_self_eq_true] at hσ_; subst hσ_
          first | refine TL.st_g rfl rfl rfl (Nat.le_of_ble_eq_true rfl) rfl (S_move rfl) ?_ | refine TL.sk_g rfl rfl rfl (Nat.le_of_ble_eq_true rfl) rfl rfl ?_
          intro σ_ hσ_; simp only [nrm, tev, St.step, putO, setsV, addO, ↓reduceIte, Nat.reduceAdd, logT, atT, intern, internL, kp_ents, fz_ents, fz_bytes, kp_bytes, logR, logE, ← List.map_take, ← List.map_drop, List.take_length, beq_self_eq_true] at hσ_; subst hσ_
          first | refine TL.st_g rfl rfl rfl (Nat.le_of_ble_eq_true rfl) rfl (S_fieldAddr rfl rfl (tT rfl) rfl rfl (tT rfl) (by decide)) ?_ | refine TL.st_g rfl rfl rfl (Nat.le_of_ble_eq_true rfl) rfl (S_fieldAddr_eptr rfl rfl (tT rfl) rfl rfl (tT rfl) (by decide)) ?_ | refine TL.sk_g rfl rfl rfl (Nat.le_of_ble_eq_true rfl) rfl rfl ?_
          intro σ_ hσ_; simp only [nrm, tev, St.step, putO, setsV, addO, ↓reduceIte, Nat.reduceAdd, logT, atT, intern, internL, kp_ents, fz_ents, fz_bytes, kp_bytes, logR, logE, ← List.map_take, ← List.map_drop, List.take_length, beq_self_eq_true] at hσ_; subst hσ_
          first | refine TL.st_g rfl rfl rfl (Nat.le_of_ble_eq_true rfl) rfl (S_fieldAddr rfl rfl (tT rfl) rfl rfl (tT rfl) (by decide)) ?_ | refine TL.st_g rfl rfl rfl (Nat.le_of_ble_eq_true rfl) rfl (S_fieldAddr_eptr rfl rfl (tT rfl) rfl rfl (tT rfl) (by decide)) ?_ | refine TL.sk_g rfl rfl rfl (Nat.le_of_ble_eq_true rfl) rfl rfl ?_
          intro σ_ hσ_; simp only [nrm, tev, St.step, putO, setsV, addO, ↓reduceIte, Nat.reduceAdd, logT, atT, intern, internL, kp_ents, fz_ents, fz_bytes, kp_bytes, logR, logE, ← List.map_take, ← List.map_drop, List.take_length, beq_self_eq_true] at hσ_; subst hσ_
          first | refine TL.st_g rfl rfl rfl (Nat.le_of_ble_eq_true rfl) rfl (S_load rfl rfl rfl (tT rfl) rfl) ?_ | refine TL.st_g rfl rfl rfl (Nat.le_of_ble_eq_true rfl) rfl (S_load_eptr rfl rfl (tT rfl) rfl) ?_ | refine TL.st_g rfl rfl rfl (Nat.le_of_ble_eq_true rfl) rfl (S_load_row rfl rfl rfl rfl (by assumption) (tT rfl) rfl) ?_ | refine TL.st_g rfl rfl rfl (Nat.le_of_ble_eq_true rfl) rfl (S_load_row (j := 0) rfl rfl rfl rfl (by assumption) (tT rfl) rfl) ?_ | refine TL.sk_g rfl rfl rfl (Nat.le_of_ble_eq_true rfl) rfl rfl ?_
          intro σ_ hσ_; simp only [nrm, tev, St.step, putO, setsV, addO, ↓reduceIte, Nat.reduceAdd, logT, atT, intern, internL, kp_ents, fz_ents, fz_bytes, kp_bytes, logR, logE, ← List.map_take, ← List.map_drop, List.take_length, beq_self_eq_true] at hσ_; subst hσ_
          first | refine TL.st_g rfl rfl rfl (Nat.le_of_ble_eq_true rfl) rfl (S_move rfl) ?_ | refine TL.sk_g rfl rfl rfl (Nat.le_of_ble_eq_true rfl) rfl rfl ?_
          intro σ_ hσ_; simp only [nrm, tev, St.step, putO, setsV, addO, ↓reduceIte, Nat.reduceAdd, logT, atT, intern, internL, kp_ents, fz_ents, fz_bytes, kp_bytes, logR, logE, ← List.map_take, ← List.map_drop, List.take_length, beq_self_eq_true] at hσ_; subst hσ_
          first | refine TL.st_g rfl rfl rfl (Nat.le_of_ble_eq_true rfl) rfl (S_conv_int rfl rfl (tT rfl) (tT rfl) rfl (vi64 (by omega))) ?_ | refine TL.st_g rfl rfl rfl (Nat.le_of_ble_eq_true rfl) rfl (S_conv_int rfl rfl (tT rfl) (tT rfl) rfl (vu64 (by omega))) ?_ | refine TL.st_g rfl rfl rfl (Nat.le_of_ble_eq_true rfl) rfl (S_conv_int rfl rfl (tT rfl) (tT rfl) rfl (vu8 (by omega))) ?_ | refine TL.st_g rfl rfl rfl (Nat.le_of_ble_eq_true rfl) rfl (S_conv_int rfl rfl (tT rfl) (tT rfl) rfl rfl) ?_ | refine TL.st_g rfl rfl rfl (Nat.le_of_ble_eq_true rfl) rfl (S_conv_str rfl rfl (tT rfl) (tT rfl) rfl) ?_ | refine TL.sk_g rfl rfl rfl (Nat.le_of_ble_eq_true rfl) rfl rfl ?_
          intro σ_ hσ_; simp only [nrm, tev, St.step, putO, setsV, addO, ↓reduceIte, Nat.reduceAdd, logT, atT, intern, internL, kp_ents, fz_ents, fz_bytes, kp_bytes, logR, logE, ← List.map_take, ← List.map_drop, List.take_length, beq_self_eq_true] at hσ_; subst hσ_
          first | refine TL.st_g rfl rfl rfl (Nat.le_of_ble_eq_true rfl) rfl (S_int rfl rfl rfl rfl (vi64 (by omega))) ?_ | refine TL.st_g rfl rfl rfl (Nat.le_of_ble_eq_true rfl) rfl (S_int rfl rfl rfl rfl (vu64 (by omega))) ?_ | refine TL.st_g rfl rfl rfl (Nat.le_of_ble_eq_true rfl) rfl (S_int rfl rfl rfl rfl rfl) ?_ | refine TL.sk_g rfl rfl rfl (Nat.le_of_ble_eq_true rfl) rfl rfl ?_
          intro σ_ hσ_; simp only [nrm, tev, St.step, putO, setsV, addO, ↓reduceIte, Nat.reduceAdd, logT, atT, intern, internL, kp_ents, fz_ents, fz_bytes, kp_bytes, logR, logE, ← List.map_take, ← List.map_drop, List.take_length, beq_self_eq_true] at hσ_; subst hσ_
          first | refine TL.st_g rfl rfl rfl (Nat.le_of_ble_eq_true rfl) rfl (S_int rfl rfl rfl rfl (vbt (by omega))) ?_ | refine TL.st_g rfl rfl rfl (Nat.le_of_ble_eq_true rfl) rfl (S_int rfl rfl rfl rfl (vbf (by omega))) ?_ | refine TL.st_g rfl rfl rfl (Nat.le_of_ble_eq_true rfl) rfl (S_int rfl rfl rfl rfl rfl) ?_ | refine TL.sk_g rfl rfl rfl (Nat.le_of_ble_eq_true rfl) rfl rfl ?_
          intro σ_ hσ_; simp only [nrm, tev, St.step, putO, setsV, addO, ↓reduceIte, Nat.reduceAdd, logT, atT, intern, internL, kp_ents, fz_ents, fz_bytes, kp_bytes, logR, logE, ← List.map_take, ← List.map_drop, List.take_length, beq_self_eq_true] at hσ_; subst hσ_
          refine TL.st rfl (S_pick rfl rfl rfl) ?_
          intro σ_ hσ_; simp only [nrm, tev, St.step, putO, setsV, addO, ↓reduceIte, Nat.reduceAdd, logT, atT, intern, internL, kp_ents, fz_ents, fz_bytes, kp_bytes, logR, logE, ← List.map_take, ← List.map_drop, List.take_length, beq_self_eq_true] at hσ_; subst hσ_
          refine TL.nil ?_
          try simp (decide := true) only [thenT, inBlockT, noGotoT, jumpT, ↓reduceIte, true_and]
          refine hK23_ _ ?_
          refine TW.cond_f rfl (rfl) ?_
          refine TW.skip ?_
          try simp (decide := true) only [thenT, inBlockT, noGotoT, jumpT, ↓reduceIte, true_and]
          refine hK22_ _ ?_
          refine TW.seq_k ?_
          intro K34_ hK34_
          refine TW.reg ?_
          first | refine TL.st rfl (S_load rfl rfl rfl (tT rfl) rfl) ?_ | refine TL.st rfl (S_load_eptr rfl rfl (tT rfl) rfl) ?_ | refine TL.st rfl (S_load_row rfl rfl rfl rfl (by assumption) (tT rfl) rfl) ?_ | refine TL.st rfl (S_load_row (j := 0) rfl rfl rfl rfl (by assumption) (tT rfl) rfl) ?_
          intro σ_ hσ_; simp only [nrm, tev, St.step, putO, setsV, addO, ↓reduceIte, Nat.reduceAdd, logT, atT, intern, internL, kp_ents, fz_ents, fz_bytes, kp_bytes, logR, logE, ← List.map_take, ← List.map_drop, List.take_length, beq_self_eq_true] at hσ_; subst hσ_
          refine TL.st rfl (S_move rfl) ?_
          intro σ_ hσ_; simp only [nrm, tev, St.step, putO, setsV, addO, ↓reduceIte, Nat.reduceAdd, logT, atT, intern, internL, kp_ents, fz_ents, fz_bytes, kp_bytes, logR, logE, ← List.map_take, ← List.map_drop, List.take_length, beq_self_eq_true] at hσ_; subst hσ_
          first | refine TL.st rfl (S_call_row rfl rfl rfl (by kernel_rfl) rfl ((term_T _ _ x.i x.t es xf.w xf.n9 hi0 hi1 (x.i + k)).eq rfl (by rw [kp1])) rfl) ?_ | refine TL.st rfl (S_call rfl rfl rfl (by kernel_rfl) rfl ((term_T _ _ x.i x.t es xf.w xf.n9 hi0 hi1 (x.i + k)).eq rfl (by rw [kp1]))) ?_ | refine TL.st rfl (S_call_row rfl rfl rfl (by kernel_rfl) rfl ((term_T _ _ x.i x.t X okX.w okX.n9 hi0 hi1 (x.i + k)).eq rfl (by rw [kp2])) rfl) ?_ | refine TL.st rfl (S_call rfl rfl rfl (by kernel_rfl) rfl ((term_T _ _ x.i x.t X okX.w okX.n9 hi0 hi1 (x.i + k)).eq rfl (by rw [kp2]))) ?_
          intro σ_ hσ_; simp only [nrm, tev, St.step, putO, setsV, addO, ↓reduceIte, Nat.reduceAdd, logT, atT, intern, internL, kp_ents, fz_ents, fz_bytes, kp_bytes, logR, logE, ← List.map_take, ← List.map_drop, List.take_length, beq_self_eq_true] at hσ_; subst hσ_
          refine TL.st rfl (S_move rfl) ?_
          intro σ_ hσ_; simp only [nrm, tev, St.step, putO, setsV, addO, ↓reduceIte, Nat.reduceAdd, logT, atT, intern, internL, kp_ents, fz_ents, fz_bytes, kp_bytes, logR, logE, ← List.map_take, ← List.map_drop, List.take_length, beq_self_eq_true] at hσ_; subst hσ_
          refine TL.st rfl (S_extract rfl rfl rfl) ?_
          intro σ_ hσ_; simp only [nrm, tev, St.step, putO, setsV, addO, ↓reduceIte, Nat.reduceAdd, logT, atT, intern, internL, kp_ents, fz_ents, fz_bytes, kp_bytes, logR, logE, ← List.map_take, ← List.map_drop, List.take_length, beq_self_eq_true] at hσ_; subst hσ_
          refine TL.st rfl (S_extract rfl rfl rfl) ?_
          intro σ_ hσ_; simp only [nrm, tev, St.step, putO, setsV, addO, ↓reduceIte, Nat.reduceAdd, logT, atT, intern, internL, kp_ents, fz_ents, fz_bytes, kp_bytes, logR, logE, ← List.map_take, ← List.map_drop, List.take_length, beq_self_eq_true] at hσ_; subst hσ_
          refine TL.st rfl (S_assign rfl) ?_
          intro σ_ hσ_; simp only [nrm, tev, St.step, putO, setsV, addO, ↓reduceIte, Nat.reduceAdd, logT, atT, intern, internL, kp_ents, fz_ents, fz_bytes, kp_bytes, logR, logE, ← List.map_take, ← List.map_drop, List.take_length, beq_self_eq_true] at hσ_; subst hσ_
          refine TL.st rfl (S_assign rfl) ?_
          intro σ_ hσ_; simp only [nrm, tev, St.step, putO, setsV, addO, ↓reduceIte, Nat.reduceAdd, logT, atT, intern, internL, kp_ents, fz_ents, fz_bytes, kp_bytes, logR, logE, ← List.map_take, ← List.map_drop, List.take_length, beq_self_eq_true] at hσ_; subst hσ_
          refine TL.nil ?_
          try simp (decide := true) only [thenT, inBlockT, noGotoT, jumpT, ↓reduceIte, true_and]
          refine hK34_ _ ?_
          refine TW.seq_k ?_
          intro K35_ hK35_
          refine TW.reg ?_
          first | refine TL.st rfl (S_load rfl rfl rfl (tT rfl) rfl) ?_ | refine TL.st rfl (S_load_eptr rfl rfl (tT rfl) rfl) ?_ | refine TL.st rfl (S_load_row rfl rfl rfl rfl (by assumption) (tT rfl) rfl) ?_ | refine TL.st rfl (S_load_row (j := 0) rfl rfl rfl rfl (by assumption) (tT rfl) rfl) ?_
          intro σ_ hσ_; simp only [nrm, tev, St.step, putO, setsV, addO, ↓reduceIte, Nat.reduceAdd, logT, atT, intern, internL, kp_ents, fz_ents, fz_bytes, kp_bytes, logR, logE, ← List.map_take, ← List.map_drop, List.take_length, beq_self_eq_true] at hσ_; subst hσ_
          refine TL.st rfl (S_move rfl) ?_
          intro σ_ hσ_; simp only [nrm, tev, St.step, putO, setsV, addO, ↓reduceIte, Nat.reduceAdd, logT, atT, intern, internL, kp_ents, fz_ents, fz_bytes, kp_bytes, logR, logE, ← List.map_take, ← List.map_drop, List.take_length, beq_self_eq_true] at hσ_; subst hσ_
          first | refine TL.st rfl (S_call_row rfl rfl rfl (by kernel_rfl) rfl ((term_T _ _ x.i x.t es xf.w xf.n9 hi0 hi1 (x.i + k)).eq rfl (by rw [kp1])) rfl) ?_ | refine TL.st rfl (S_call rfl rfl rfl (by kernel_rfl) rfl ((term_T _ _ x.i x.t es xf.w xf.n9 hi0 hi1 (x.i + k)).eq rfl (by rw [kp1]))) ?_ | refine TL.st rfl (S_call_row rfl rfl rfl (by kernel_rfl) rfl ((term_T _ _ x.i x.t X okX.w okX.n9 hi0 hi1 (x.i + k)).eq rfl (by rw [kp2])) rfl) ?_ | refine TL.st rfl (S_call rfl rfl rfl (by kernel_rfl) rfl ((term_T _ _ x.i x.t X okX.w okX.n9 hi0 hi1 (x.i + k)).eq rfl (by rw [kp2]))) ?_
          intro σ_ hσ_; simp only [nrm, tev, St.step, putO, setsV, addO, ↓reduceIte, Nat.reduceAdd, logT, atT, intern, internL, kp_ents, fz_ents, fz_bytes, kp_bytes, logR, logE, ← List.map_take, ← List.map_drop, List.take_length, beq_self_eq_true] at hσ_; subst hσ_
          refine TL.st rfl (S_move rfl) ?_
          intro σ_ hσ_; simp only [nrm, tev, St.step, putO, setsV, addO, ↓reduceIte, Nat.reduceAdd, logT, atT, intern, internL, kp_ents, fz_ents, fz_bytes, kp_bytes, logR, logE, ← List.map_take, ← List.map_drop, List.take_length, beq_self_eq_true] at hσ_; subst hσ_
          refine TL.st rfl (S_extract rfl rfl rfl) ?_
          intro σ_ hσ_; simp only [nrm, tev, St.step, putO, setsV, addO, ↓reduceIte, Nat.reduceAdd, logT, atT, intern, internL, kp_ents, fz_ents, fz_bytes, kp_bytes, logR, logE, ← List.map_take, ← List.map_drop, List.take_length, beq_self_eq_true] at hσ_; subst hσ_
          refine TL.st rfl (S_extract rfl rfl rfl) ?_
          intro σ_ hσ_; simp only [nrm, tev, St.step, putO, setsV, addO, ↓reduceIte, Nat.reduceAdd, logT, atT, intern, internL, kp_ents, fz_ents, fz_bytes, kp_bytes, logR, logE, ← List.map_take, ← List.map_drop, List.take_length, beq_self_eq_true] at hσ_; subst hσ_
          refine TL.st rfl (S_assign rfl) ?_
          intro σ_ hσ_; simp only [nrm, tev, St.step, putO, setsV, addO, ↓reduceIte, Nat.reduceAdd, logT, atT, intern, internL, kp_ents, fz_ents, fz_bytes, kp_bytes, logR, logE, ← List.map_take, ← List.map_drop, List.take_length, beq_self_eq_true] at hσ_; subst hσ_
          refine TL.st rfl (S_assign rfl) ?_
          intro σ_ hσ_; simp only [nrm, tev, St.step, putO, setsV, addO, ↓reduceIte, Nat.reduceAdd, logT, atT, intern, internL, kp_ents, fz_ents, fz_bytes, kp_bytes, logR, logE, ← List.map_take, ← List.map_drop, List.take_length, beq_self_eq_true] at hσ_; subst hσ_
          refine TL.nil ?_
          try simp (decide := true) only [thenT, inBlockT, noGotoT, jumpT, ↓reduceIte, true_and]
          refine hK35_ _ ?_
          refine TW.seq_k ?_
          intro K36_ hK36_
          refine TW.reg ?_
          refine TL.st rfl (S_move rfl) ?_
          intro σ_ hσ_; simp only [nrm, tev, St.step, putO, setsV, addO, ↓reduceIte, Nat.reduceAdd, logT, atT, intern, internL, kp_ents, fz_ents, fz_bytes, kp_bytes, logR, logE, ← List.map_take, ← List.map_drop, List.take_length, beq_self_eq_true] at hσ_; subst hσ_
          first | refine TL.st rfl (S_not rfl rfl) ?_ | refine TL.st rfl (S_neg rfl rfl) ?_
          intro σ_ hσ_; simp only [nrm, tev, St.step, putO, setsV, addO, ↓reduceIte, Nat.reduceAdd, logT, atT, intern, internL, kp_ents, fz_ents, fz_bytes, kp_bytes, logR, logE, ← List.map_take, ← List.map_drop, List.take_length, beq_self_eq_true] at hσ_; subst hσ_
          refine TL.st rfl (S_move rfl) ?_
          intro σ_ hσ_; simp only [nrm, tev, St.step, putO, setsV, addO, ↓reduceIte, Nat.reduceAdd, logT, atT, intern, internL, kp_ents, fz_ents, fz_bytes, kp_bytes, logR, logE, ← List.map_take, ← List.map_drop, List.take_length, beq_self_eq_true] at hσ_; subst hσ_
          first | refine TL.st_g rfl rfl rfl (Nat.le_of_ble_eq_true rfl) rfl (S_move rfl) ?_ | refine TL.sk_g rfl rfl rfl (Nat.le_of_ble_eq_true rfl) rfl rfl ?_
          intro σ_ hσ_; simp only [nrm, tev, St.step, putO, setsV, addO, ↓reduceIte, Nat.reduceAdd, logT, atT, intern, internL, kp_ents, fz_ents, fz_bytes, kp_bytes, logR, logE, ← List.map_take, ← List.map_drop, List.take_length, beq_self_eq_true] at hσ_; subst hσ_
          first | refine TL.st_g rfl rfl rfl (Nat.le_of_ble_eq_true rfl) rfl (S_not rfl rfl) ?_ | refine TL.st_g rfl rfl rfl (Nat.le_of_ble_eq_true rfl) rfl (S_neg rfl rfl) ?_ | refine TL.sk_g rfl rfl rfl (Nat.le_of_ble_eq_true rfl) rfl rfl ?_
          intro σ_ hσ_; simp only [nrm, tev, St.step, putO, setsV, addO, ↓reduceIte, Nat.reduceAdd, logT, atT, intern, internL, kp_ents, fz_ents, fz_bytes, kp_bytes, logR, logE, ← List.map_take, ← List.map_drop, List.take_length, beq_self_eq_true] at hσ_; subst hσ_
          refine TL.st rfl (S_pick rfl rfl rfl) ?_
          intro σ_ hσ_; simp only [nrm, tev, St.step, putO, setsV, addO, ↓reduceIte, Nat.reduceAdd, logT, atT, intern, internL, kp_ents, fz_ents, fz_bytes, kp_bytes, logR, logE, ← List.map_take, ← List.map_drop, List.take_length, beq_self_eq_true] at hσ_; subst hσ_
          refine TL.st rfl (S_move rfl) ?_
          intro σ_ hσ_; simp only [nrm, tev, St.step, putO, setsV, addO, ↓reduceIte, Nat.reduceAdd, logT, atT, intern, internL, kp_ents, fz_ents, fz_bytes, kp_bytes, logR, logE, ← List.map_take, ← List.map_drop, List.take_length, beq_self_eq_true] at hσ_; subst hσ_
          first | refine TL.st_g rfl rfl rfl (Nat.le_of_ble_eq_true rfl) rfl (S_move rfl) ?_ | refine TL.sk_g rfl rfl rfl (Nat.le_of_ble_eq_true rfl) rfl rfl ?_
          intro σ_ hσ_; simp only [nrm, tev, St.step, putO, setsV, addO, ↓reduceIte, Nat.reduceAdd, logT, atT, intern, internL, kp_ents, fz_ents, fz_bytes, kp_bytes, logR, logE, ← List.map_take, ← List.map_drop, List.take_length, beq_self_eq_true] at hσ_; subst hσ_
          first | refine TL.st_g rfl rfl rfl (Nat.le_of_ble_eq_true rfl) rfl (S_move rfl) ?_ | refine TL.sk_g rfl rfl rfl (Nat.le_of_ble_eq_true rfl) rfl rfl ?_
          intro σ_ hσ_; simp only [nrm, tev, St.step, putO, setsV, addO, ↓reduceIte, Nat.reduceAdd, logT, atT, intern, internL, kp_ents, fz_ents, fz_bytes, kp_bytes, logR, logE, ← List.map_take, ← List.map_drop, List.take_length, beq_self_eq_true] at hσ_; subst hσ_
          first | refine TL.st_g rfl rfl rfl (Nat.le_of_ble_eq_true rfl) rfl (S_int rfl rfl rfl rfl (vnt (by omega))) ?_ | refine TL.st_g rfl rfl rfl (Nat.le_of_ble_eq_true rfl) rfl (S_int rfl rfl rfl rfl (vnf (by omega))) ?_ | refine TL.st_g rfl rfl rfl (Nat.le_of_ble_eq_true rfl) rfl (S_int rfl rfl rfl rfl rfl) ?_ | refine TL.st_g rfl rfl rfl (Nat.le_of_ble_eq_true rfl) rfl (S_boolneq rfl rfl rfl rfl (tT rfl) rfl) ?_ | refine TL.sk_g rfl rfl rfl (Nat.le_of_ble_eq_true rfl) rfl rfl ?_
          intro σ_ hσ_; simp only [nrm, tev, St.step, putO, setsV, addO, ↓reduceIte, Nat.reduceAdd, logT, atT, intern, internL, kp_ents, fz_ents, fz_bytes, kp_bytes, logR, logE, ← List.map_take, ← List.map_drop, List.take_length, beq_self_eq_true] at hσ_; subst hσ_
          refine TL.st rfl (S_pick rfl rfl rfl) ?_
          intro σ_ hσ_; simp only [nrm, tev, St.step, putO, setsV, addO, ↓reduceIte, Nat.reduceAdd, logT, atT, intern, internL, kp_ents, fz_ents, fz_bytes, kp_bytes, logR, logE, ← List.map_take, ← List.map_drop, List.take_length, beq_self_eq_true] at hσ_; subst hσ_
          refine TL.nil ?_
          try simp (decide := true) only [thenT, inBlockT, noGotoT, jumpT, ↓reduceIte, true_and]
          refine hK36_ _ ?_
          refine TW.cond_f rfl (rfl) ?_
          refine TW.skip ?_
          try simp (decide := true) only [thenT, inBlockT, noGotoT, jumpT, ↓reduceIte, true_and]
          refine hK19_ _ ?_
          refine TW.reg ?_
          first | refine TL.st rfl (S_int rfl rfl rfl rfl (vi64 (by omega))) ?_ | refine TL.st rfl (S_int rfl rfl rfl rfl (vu64 (by omega))) ?_ | refine TL.st rfl (S_int rfl rfl rfl rfl rfl) ?_
          intro σ_ hσ_; simp only [nrm, tev, St.step, putO, setsV, addO, ↓reduceIte, Nat.reduceAdd, logT, atT, intern, internL, kp_ents, fz_ents, fz_bytes, kp_bytes, logR, logE, ← List.map_take, ← List.map_drop, List.take_length, beq_self_eq_true] at hσ_; subst hσ_
          refine TL.st rfl (S_move rfl) ?_
          intro σ_ hσ_; simp only [nrm, tev, St.step, putO, setsV, addO, ↓reduceIte, Nat.reduceAdd, logT, atT, intern, internL, kp_ents, fz_ents, fz_bytes, kp_bytes, logR, logE, ← List.map_take, ← List.map_drop, List.take_length, beq_self_eq_true] at hσ_; subst hσ_
          refine TL.nil ?_
          try simp (decide := true) only [thenT, inBlockT, noGotoT, jumpT, ↓reduceIte, true_and]
          refine ⟨(k + 1), by omega, by omega, ?_⟩
          refine SLe.back 8 ?_ ?_ ?_
          · simp [setsL, kpL, kp, low, kpLL, LeL_cons, LeL_nil, LeT_any, LeT_self, LeT_v, LeT_sl, LeT_nil_sl, List.set_cons_zero, List.set_cons_succ, kp_ents]
          · simp [setsL, LB.kp, kpL, kp, low, LeB_self, LeB_nil, kp_ents]
          · simp [kpL, LeL_nil]
      · skip
        refine TW.reg ?_
        first | refine TL.st rfl (S_int rfl rfl rfl rfl (vbt (by omega))) ?_ | refine TL.st rfl (S_int rfl rfl rfl rfl (vbf (by omega))) ?_ | refine TL.st rfl (S_int rfl rfl rfl rfl rfl) ?_
        intro σ_ hσ_; simp only [nrm, tev, St.step, putO, setsV, addO, ↓reduceIte, Nat.reduceAdd, logT, atT, intern, internL, kp_ents, fz_ents, fz_bytes, kp_bytes, logR, logE, ← List.map_take, ← List.map_drop, List.take_length, beq_self_eq_true] at hσ_; subst hσ_
        refine TL.nil ?_
        try simp (decide := true) only [thenT, inBlockT, noGotoT, jumpT, ↓reduceIte, true_and]
        refine hK17_ _ ?_
        refine TW.seq_k ?_
        intro K37_ hK37_
        refine TW.cond_f rfl (rfl) ?_
        refine TW.exit ?_
        try simp (decide := true) only [thenT, inBlockT, noGotoT, jumpT, ↓reduceIte, true_and]
        refine hK15_ _ ?_
        refine TW.seq_k ?_
        intro K38_ hK38_
        refine TW.seq_k ?_
        intro K39_ hK39_
        refine TW.reg ?_
        refine TL.st rfl (S_move rfl) ?_
        intro σ_ hσ_; simp only [nrm, tev, St.step, putO, setsV, addO, ↓reduceIte, Nat.reduceAdd, logT, atT, intern, internL, kp_ents, fz_ents, fz_bytes, kp_bytes, logR, logE, ← List.map_take, ← List.map_drop, List.take_length, beq_self_eq_true] at hσ_; subst hσ_
        refine TL.st rfl (S_assign rfl) ?_
        intro σ_ hσ_; simp only [nrm, tev, St.step, putO, setsV, addO, ↓reduceIte, Nat.reduceAdd, logT, atT, intern, internL, kp_ents, fz_ents, fz_bytes, kp_bytes, logR, logE, ← List.map_take, ← List.map_drop, List.take_length, beq_self_eq_true] at hσ_; subst hσ_
        refine TL.nil ?_
        try simp (decide := true) only [thenT, inBlockT, noGotoT, jumpT, ↓reduceIte, true_and]
        refine hK39_ _ ?_
        refine TW.block ?_
        refine TW.loopS (X := Nat) (fun k => n ≤ k ∧ k ≤ more.length) (fun k => more.length - k) (fun k => [(4, .any), (20, .v (.int .i64 k)), (180, .any), (181, .any), (182, .any), (183, .any), (184, .any), (185, .any), (186, .any), (187, .any), (188, .any), (189, .any), (190, .any), (191, .any), (192, .any), (193, .any), (194, .any), (195, .any), (196, .any), (197, .any), (198, .any), (199, .any), (200, .any), (201, .any)]) (fun k => []) n ⟨Nat.le_refl _, hnl⟩ ?_ ?_
        · refine SLe.of ?_ ?_ ?_
          · simp [setsL, LeL_cons, LeL_nil, LeT_any, LeT_self, LeT_v, LeT_sl, LeT_nil_sl, List.set_cons_zero, List.set_cons_succ, kp_ents]
          · simp [setsL, LeB_self, LeB_nil]
          · exact LeL.refl _
        · rintro k ⟨hk1, hk⟩ σ_ hσ_
          simp only [nrm, tev, St.step, putO, setsV, addO, ↓reduceIte, Nat.reduceAdd, logT, atT, intern, internL, kp_ents, fz_ents, fz_bytes, kp_bytes, logR, logE, ← List.map_take, ← List.map_drop, List.take_length, beq_self_eq_true, setsL_nil, setsL_cons] at hσ_; subst hσ_
          refine TW.seq_k ?_
          intro K40_ hK40_
          refine TW.seq_k ?_
          intro K41_ hK41_
          by_cases hlt : k < more.length
          · skip
            obtain ⟨u, hu⟩ : ∃ u, more[k]? = some u := ⟨more[k]'hlt, List.getElem?_eq_getElem _⟩
            have hc : (more.map (entC true))[k]? = some (entC true u) := by rw [List.getElem?_map, hu]; rfl
            simp only [entC] at hc
            have hml := ent_len true more
            have hj1 := (hhigh (j := k) (by omega) hlt).2.2
            have hasj := hhas (j := k) hlt (by omega)
            rw [hu] at hasj
            simp only [Option.map_some, Option.getD_some] at hasj
            refine TW.reg ?_
            refine TL.st rfl (S_move rfl) ?_
            intro σ_ hσ_; simp only [nrm, tev, St.step, putO, setsV, addO, ↓reduceIte, Nat.reduceAdd, logT, atT, intern, internL, kp_ents, fz_ents, fz_bytes, kp_bytes, logR, logE, ← List.map_take, ← List.map_drop, List.take_length, beq_self_eq_true] at hσ_; subst hσ_
            refine TL.st rfl (S_move rfl) ?_
            intro σ_ hσ_; simp only [nrm, tev, St.step, putO, setsV, addO, ↓reduceIte, Nat.reduceAdd, logT, atT, intern, internL, kp_ents, fz_ents, fz_bytes, kp_bytes, logR, logE, ← List.map_take, ← List.map_drop, List.take_length, beq_self_eq_true] at hσ_; subst hσ_
            first | refine TL.st rfl (S_len rfl rfl (tT rfl) rfl (.inl ⟨_, _, rfl, rfl⟩)) ?_ | refine TL.st rfl (S_len rfl rfl (tT rfl) rfl (.inr (.inl ⟨_, _, _, _, rfl, rfl, rfl⟩))) ?_ | refine TL.st rfl (S_len rfl rfl (tT rfl) rfl (.inr (.inr ⟨rfl, rfl⟩))) ?_ | refine TL.st rfl (S_len_str rfl rfl (tT rfl) rfl rfl) ?_ | refine TL.st rfl (S_len_arr rfl rfl (tT rfl) rfl) ?_
            intro σ_ hσ_; simp only [nrm, tev, St.step, putO, setsV, addO, ↓reduceIte, Nat.reduceAdd, logT, atT, intern, internL, kp_ents, fz_ents, fz_bytes, kp_bytes, logR, logE, ← List.map_take, ← List.map_drop, List.take_length, beq_self_eq_true] at hσ_; subst hσ_
            first | refine TL.st rfl (S_int rfl rfl rfl rfl (vbt (by omega))) ?_ | refine TL.st rfl (S_int rfl rfl rfl rfl (vbf (by omega))) ?_ | refine TL.st rfl (S_int rfl rfl rfl rfl rfl) ?_
            intro σ_ hσ_; simp only [nrm, tev, St.step, putO, setsV, addO, ↓reduceIte, Nat.reduceAdd, logT, atT, intern, internL, kp_ents, fz_ents, fz_bytes, kp_bytes, logR, logE, ← List.map_take, ← List.map_drop, List.take_length, beq_self_eq_true] at hσ_; subst hσ_
            refine TL.nil ?_
            try simp (decide := true) only [thenT, inBlockT, noGotoT, jumpT, ↓reduceIte, true_and]
            refine hK41_ _ ?_
            refine TW.cond_t rfl (rfl) ?_
            refine TW.skip ?_
            try simp (decide := true) only [thenT, inBlockT, noGotoT, jumpT, ↓reduceIte, true_and]
            refine hK40_ _ ?_
            refine TW.seq_k ?_
            intro K42_ hK42_
            refine TW.block ?_
            refine TW.seq_k ?_
            intro K43_ hK43_
            refine TW.region_par 16 (by kernel_rfl) (by kernel_rfl) ?_
            simp only [List.take_succ_cons, List.take_zero, List.drop_succ_cons, List.drop_zero, List.take_nil, List.drop_nil]
            first | refine TPar.st rfl (S_load rfl rfl rfl (tT rfl) rfl) ?_ | refine TPar.st rfl (S_load_eptr rfl rfl (tT rfl) rfl) ?_ | refine TPar.st rfl (S_load_row rfl rfl rfl rfl (by assumption) (tT rfl) rfl) ?_ | refine TPar.st rfl (S_load_row (j := 0) rfl rfl rfl rfl (by assumption) (tT rfl) rfl) ?_
            intro s_ h_ hs_ hh_; simp only [nrm, tev, St.step, putO, setsV, addO, ↓reduceIte, Nat.reduceAdd, logT, atT, intern, internL, kp_ents, fz_ents, fz_bytes, kp_bytes, logR, logE, ← List.map_take, ← List.map_drop, List.take_length, beq_self_eq_true] at hs_ hh_; subst hs_; subst hh_
            first | refine TPar.st rfl (S_fieldAddr rfl rfl (tT rfl) rfl rfl (tT rfl) (by decide)) ?_ | refine TPar.st rfl (S_fieldAddr_eptr rfl rfl (tT rfl) rfl rfl (tT rfl) (by decide)) ?_
            intro s_ h_ hs_ hh_; simp only [nrm, tev, St.step, putO, setsV, addO, ↓reduceIte, Nat.reduceAdd, logT, atT, intern, internL, kp_ents, fz_ents, fz_bytes, kp_bytes, logR, logE, ← List.map_take, ← List.map_drop, List.take_length, beq_self_eq_true] at hs_ hh_; subst hs_; subst hh_
            first | refine TPar.st rfl (S_fieldAddr rfl rfl (tT rfl) rfl rfl (tT rfl) (by decide)) ?_ | refine TPar.st rfl (S_fieldAddr_eptr rfl rfl (tT rfl) rfl rfl (tT rfl) (by decide)) ?_
            intro s_ h_ hs_ hh_; simp only [nrm, tev, St.step, putO, setsV, addO, ↓reduceIte, Nat.reduceAdd, logT, atT, intern, internL, kp_ents, fz_ents, fz_bytes, kp_bytes, logR, logE, ← List.map_take, ← List.map_drop, List.take_length, beq_self_eq_true] at hs_ hh_; subst hs_; subst hh_
            first | refine TPar.st rfl (S_load rfl rfl rfl (tT rfl) rfl) ?_ | refine TPar.st rfl (S_load_eptr rfl rfl (tT rfl) rfl) ?_ | refine TPar.st rfl (S_load_row rfl rfl rfl rfl (by assumption) (tT rfl) rfl) ?_ | refine TPar.st rfl (S_load_row (j := 0) rfl rfl rfl rfl (by assumption) (tT rfl) rfl) ?_
            intro s_ h_ hs_ hh_; simp only [nrm, tev, St.step, putO, setsV, addO, ↓reduceIte, Nat.reduceAdd, logT, atT, intern, internL, kp_ents, fz_ents, fz_bytes, kp_bytes, logR, logE, ← List.map_take, ← List.map_drop, List.take_length, beq_self_eq_true] at hs_ hh_; subst hs_; subst hh_
            refine TPar.st rfl (S_move rfl) ?_
            intro s_ h_ hs_ hh_; simp only [nrm, tev, St.step, putO, setsV, addO, ↓reduceIte, Nat.reduceAdd, logT, atT, intern, internL, kp_ents, fz_ents, fz_bytes, kp_bytes, logR, logE, ← List.map_take, ← List.map_drop, List.take_length, beq_self_eq_true] at hs_ hh_; subst hs_; subst hh_
            first | refine TPar.st rfl (S_conv_int rfl rfl (tT rfl) (tT rfl) rfl (vi64 (by omega))) ?_ | refine TPar.st rfl (S_conv_int rfl rfl (tT rfl) (tT rfl) rfl (vu64 (by omega))) ?_ | refine TPar.st rfl (S_conv_int rfl rfl (tT rfl) (tT rfl) rfl (vu8 (by omega))) ?_ | refine TPar.st rfl (S_conv_int rfl rfl (tT rfl) (tT rfl) rfl rfl) ?_ | refine TPar.st rfl (S_conv_str rfl rfl (tT rfl) (tT rfl) rfl) ?_
            intro s_ h_ hs_ hh_; simp only [nrm, tev, St.step, putO, setsV, addO, ↓reduceIte, Nat.reduceAdd, logT, atT, intern, internL, kp_ents, fz_ents, fz_bytes, kp_bytes, logR, logE, ← List.map_take, ← List.map_drop, List.take_length, beq_self_eq_true] at hs_ hh_; subst hs_; subst hh_
            first | refine TPar.st rfl (S_int rfl rfl rfl rfl (vi64 (by omega))) ?_ | refine TPar.st rfl (S_int rfl rfl rfl rfl (vu64 (by omega))) ?_ | refine TPar.st rfl (S_int rfl rfl rfl rfl rfl) ?_
            intro s_ h_ hs_ hh_; simp only [nrm, tev, St.step, putO, setsV, addO, ↓reduceIte, Nat.reduceAdd, logT, atT, intern, internL, kp_ents, fz_ents, fz_bytes, kp_bytes, logR, logE, ← List.map_take, ← List.map_drop, List.take_length, beq_self_eq_true] at hs_ hh_; subst hs_; subst hh_
            first | refine TPar.st rfl (S_int rfl rfl rfl rfl (vi64 (by omega))) ?_ | refine TPar.st rfl (S_int rfl rfl rfl rfl (vu64 (by omega))) ?_ | refine TPar.st rfl (S_int rfl rfl rfl rfl rfl) ?_
            intro s_ h_ hs_ hh_; simp only [nrm, tev, St.step, putO, setsV, addO, ↓reduceIte, Nat.reduceAdd, logT, atT, intern, internL, kp_ents, fz_ents, fz_bytes, kp_bytes, logR, logE, ← List.map_take, ← List.map_drop, List.take_length, beq_self_eq_true] at hs_ hh_; subst hs_; subst hh_
            refine TPar.st rfl (S_move rfl) ?_
            intro s_ h_ hs_ hh_; simp only [nrm, tev, St.step, putO, setsV, addO, ↓reduceIte, Nat.reduceAdd, logT, atT, intern, internL, kp_ents, fz_ents, fz_bytes, kp_bytes, logR, logE, ← List.map_take, ← List.map_drop, List.take_length, beq_self_eq_true] at hs_ hh_; subst hs_; subst hh_
            refine TPar.st rfl (S_move rfl) ?_
            intro s_ h_ hs_ hh_; simp only [nrm, tev, St.step, putO, setsV, addO, ↓reduceIte, Nat.reduceAdd, logT, atT, intern, internL, kp_ents, fz_ents, fz_bytes, kp_bytes, logR, logE, ← List.map_take, ← List.map_drop, List.take_length, beq_self_eq_true] at hs_ hh_; subst hs_; subst hh_
            first | refine TPar.st rfl (S_index_sl rfl rfl rfl (tT rfl) rfl (tT rfl) (by assumption) rfl rfl (by decide)) ?_ | refine TPar.st rfl (S_index_sl rfl rfl rfl (tT rfl) rfl (tT rfl) (by assumption) (by first | rfl | omega) rfl (by decide)) ?_ | refine TPar.st rfl (S_index_row rfl rfl rfl rfl (tT rfl) rfl (tT rfl) rfl rfl (by first | assumption | omega)) ?_ | refine TPar.st rfl (S_index_arr rfl rfl rfl (tT rfl) rfl (tT rfl) rfl (by first | assumption | decide | omega)) ?_
            intro s_ h_ hs_ hh_; simp only [nrm, tev, St.step, putO, setsV, addO, ↓reduceIte, Nat.reduceAdd, logT, atT, intern, internL, kp_ents, fz_ents, fz_bytes, kp_bytes, logR, logE, ← List.map_take, ← List.map_drop, List.take_length, beq_self_eq_true] at hs_ hh_; subst hs_; subst hh_
            first | refine TPar.st rfl (S_fieldAddr rfl rfl (tT rfl) rfl rfl (tT rfl) (by decide)) ?_ | refine TPar.st rfl (S_fieldAddr_eptr rfl rfl (tT rfl) rfl rfl (tT rfl) (by decide)) ?_
            intro s_ h_ hs_ hh_; simp only [nrm, tev, St.step, putO, setsV, addO, ↓reduceIte, Nat.reduceAdd, logT, atT, intern, internL, kp_ents, fz_ents, fz_bytes, kp_bytes, logR, logE, ← List.map_take, ← List.map_drop, List.take_length, beq_self_eq_true] at hs_ hh_; subst hs_; subst hh_
            first | refine TPar.st rfl (S_load rfl rfl rfl (tT rfl) rfl) ?_ | refine TPar.st rfl (S_load_eptr rfl rfl (tT rfl) rfl) ?_ | refine TPar.st rfl (S_load_row rfl rfl rfl rfl (by assumption) (tT rfl) rfl) ?_ | refine TPar.st rfl (S_load_row (j := 0) rfl rfl rfl rfl (by assumption) (tT rfl) rfl) ?_
            intro s_ h_ hs_ hh_; simp only [nrm, tev, St.step, putO, setsV, addO, ↓reduceIte, Nat.reduceAdd, logT, atT, intern, internL, kp_ents, fz_ents, fz_bytes, kp_bytes, logR, logE, ← List.map_take, ← List.map_drop, List.take_length, beq_self_eq_true] at hs_ hh_; subst hs_; subst hh_
            refine TPar.st rfl (S_build rfl (tT rfl) rfl (zT rfl) rfl (by repeat (first | exact PlOk.nil | (apply PlOk.cons; exact tT rfl))) rfl rfl) ?_
            intro s_ h_ hs_ hh_; simp only [nrm, tev, St.step, putO, setsV, addO, ↓reduceIte, Nat.reduceAdd, logT, atT, intern, internL, kp_ents, fz_ents, fz_bytes, kp_bytes, logR, logE, ← List.map_take, ← List.map_drop, List.take_length, beq_self_eq_true] at hs_ hh_; subst hs_; subst hh_
            first | refine TPar.st rfl (S_call_row rfl rfl rfl (by kernel_rfl) rfl ((hasx_T _ _ x.i x.t X okX.w okX.n9 hi0 hi1 (p.1 + k + 1, u.T)).eq rfl (by simp only [mayX, hasj]; rfl)) rfl) ?_ | refine TPar.st rfl (S_call rfl rfl rfl (by kernel_rfl) rfl ((hasx_T _ _ x.i x.t X okX.w okX.n9 hi0 hi1 (p.1 + k + 1, u.T)).eq rfl (by simp only [mayX, hasj]; rfl))) ?_
            intro s_ h_ hs_ hh_; simp only [nrm, tev, St.step, putO, setsV, addO, ↓reduceIte, Nat.reduceAdd, logT, atT, intern, internL, kp_ents, fz_ents, fz_bytes, kp_bytes, logR, logE, ← List.map_take, ← List.map_drop, List.take_length, beq_self_eq_true] at hs_ hh_; subst hs_; subst hh_
            first | refine TPar.st rfl (S_not rfl rfl) ?_ | refine TPar.st rfl (S_neg rfl rfl) ?_
            intro s_ h_ hs_ hh_; simp only [nrm, tev, St.step, putO, setsV, addO, ↓reduceIte, Nat.reduceAdd, logT, atT, intern, internL, kp_ents, fz_ents, fz_bytes, kp_bytes, logR, logE, ← List.map_take, ← List.map_drop, List.take_length, beq_self_eq_true] at hs_ hh_; subst hs_; subst hh_
            unfold TPar
            refine TL.nil ?_
            try simp (decide := true) only [thenT, inBlockT, noGotoT, jumpT, ↓reduceIte, true_and]
            refine hK43_ _ ?_
            refine TW.cond_f rfl (rfl) ?_
            refine TW.skip ?_
            try simp (decide := true) only [thenT, inBlockT, noGotoT, jumpT, ↓reduceIte, true_and]
            refine hK42_ _ ?_
            refine TW.reg ?_
            refine TL.st rfl (S_move rfl) ?_
            intro σ_ hσ_; simp only [nrm, tev, St.step, putO, setsV, addO, ↓reduceIte, Nat.reduceAdd, logT, atT, intern, internL, kp_ents, fz_ents, fz_bytes, kp_bytes, logR, logE, ← List.map_take, ← List.map_drop, List.take_length, beq_self_eq_true] at hσ_; subst hσ_
            first | refine TL.st rfl (S_int rfl rfl rfl rfl (vi64 (by omega))) ?_ | refine TL.st rfl (S_int rfl rfl rfl rfl (vu64 (by omega))) ?_ | refine TL.st rfl (S_int rfl rfl rfl rfl rfl) ?_
            intro σ_ hσ_; simp only [nrm, tev, St.step, putO, setsV, addO, ↓reduceIte, Nat.reduceAdd, logT, atT, intern, internL, kp_ents, fz_ents, fz_bytes, kp_bytes, logR, logE, ← List.map_take, ← List.map_drop, List.take_length, beq_self_eq_true] at hσ_; subst hσ_
            refine TL.st rfl (S_assign rfl) ?_
            intro σ_ hσ_; simp only [nrm, tev, St.step, putO, setsV, addO, ↓reduceIte, Nat.reduceAdd, logT, atT, intern, internL, kp_ents, fz_ents, fz_bytes, kp_bytes, logR, logE, ← List.map_take, ← List.map_drop, List.take_length, beq_self_eq_true] at hσ_; subst hσ_
            refine TL.nil ?_
            try simp (decide := true) only [thenT, inBlockT, noGotoT, jumpT, ↓reduceIte, true_and]
            refine ⟨(k + 1), ⟨by omega, by omega⟩, by omega, ?_⟩
            refine SLe.back 8 ?_ ?_ ?_
            · simp [setsL, kpL, kp, low, kpLL, LeL_cons, LeL_nil, LeT_any, LeT_self, LeT_v, LeT_sl, LeT_nil_sl, List.set_cons_zero, List.set_cons_succ, kp_ents]
            · simp [setsL, LB.kp, kpL, kp, low, LeB_self, LeB_nil, kp_ents]
            · simp [kpL, LeL_nil]
          · skip
            have hke : k = more.length := by omega
            refine TW.reg ?_
            refine TL.st rfl (S_move rfl) ?_
            intro σ_ hσ_; simp only [nrm, tev, St.step, putO, setsV, addO, ↓reduceIte, Nat.reduceAdd, logT, atT, intern, internL, kp_ents, fz_ents, fz_bytes, kp_bytes, logR, logE, ← List.map_take, ← List.map_drop, List.take_length, beq_self_eq_true] at hσ_; subst hσ_
            refine TL.st rfl (S_move rfl) ?_
            intro σ_ hσ_; simp only [nrm, tev, St.step, putO, setsV, addO, ↓reduceIte, Nat.reduceAdd, logT, atT, intern, internL, kp_ents, fz_ents, fz_bytes, kp_bytes, logR, logE, ← List.map_take, ← List.map_drop, List.take_length, beq_self_eq_true] at hσ_; subst hσ_
            first | refine TL.st rfl (S_len rfl rfl (tT rfl) rfl (.inl ⟨_, _, rfl, rfl⟩)) ?_ | refine TL.st rfl (S_len rfl rfl (tT rfl) rfl (.inr (.inl ⟨_, _, _, _, rfl, rfl, rfl⟩))) ?_ | refine TL.st rfl (S_len rfl rfl (tT rfl) rfl (.inr (.inr ⟨rfl, rfl⟩))) ?_ | refine TL.st rfl (S_len_str rfl rfl (tT rfl) rfl rfl) ?_ | refine TL.st rfl (S_len_arr rfl rfl (tT rfl) rfl) ?_
            intro σ_ hσ_; simp only [nrm, tev, St.step, putO, setsV, addO, ↓reduceIte, Nat.reduceAdd, logT, atT, intern, internL, kp_ents, fz_ents, fz_bytes, kp_bytes, logR, logE, ← List.map_take, ← List.map_drop, List.take_length, beq_self_eq_true] at hσ_; subst hσ_
            first | refine TL.st rfl (S_int rfl rfl rfl rfl (vbt (by omega))) ?_ | refine TL.st rfl (S_int rfl rfl rfl rfl (vbf (by omega))) ?_ | refine TL.st rfl (S_int rfl rfl rfl rfl rfl) ?_
            intro σ_ hσ_; simp only [nrm, tev, St.step, putO, setsV, addO, ↓reduceIte, Nat.reduceAdd, logT, atT, intern, internL, kp_ents, fz_ents, fz_bytes, kp_bytes, logR, logE, ← List.map_take, ← List.map_drop, List.take_length, beq_self_eq_true] at hσ_; subst hσ_
            refine TL.nil ?_
            try simp (decide := true) only [thenT, inBlockT, noGotoT, jumpT, ↓reduceIte, true_and]
            refine hK41_ _ ?_
            refine TW.cond_f rfl (rfl) ?_
            refine TW.exit ?_
            try simp (decide := true) only [thenT, inBlockT, noGotoT, jumpT, ↓reduceIte, true_and]
            refine hK38_ _ ?_
            refine TW.seq_k ?_
            intro K44_ hK44_
            by_cases hn : n = more.length
            · skip
              refine TW.reg ?_
              refine TL.st rfl (S_move rfl) ?_
              intro σ_ hσ_; simp only [nrm, tev, St.step, putO, setsV, addO, ↓reduceIte, Nat.reduceAdd, logT, atT, intern, internL, kp_ents, fz_ents, fz_bytes, kp_bytes, logR, logE, ← List.map_take, ← List.map_drop, List.take_length, beq_self_eq_true] at hσ_; subst hσ_
              refine TL.st rfl (S_move rfl) ?_
              intro σ_ hσ_; simp only [nrm, tev, St.step, putO, setsV, addO, ↓reduceIte, Nat.reduceAdd, logT, atT, intern, internL, kp_ents, fz_ents, fz_bytes, kp_bytes, logR, logE, ← List.map_take, ← List.map_drop, List.take_length, beq_self_eq_true] at hσ_; subst hσ_
              first | refine TL.st rfl (S_len rfl rfl (tT rfl) rfl (.inl ⟨_, _, rfl, rfl⟩)) ?_ | refine TL.st rfl (S_len rfl rfl (tT rfl) rfl (.inr (.inl ⟨_, _, _, _, rfl, rfl, rfl⟩))) ?_ | refine TL.st rfl (S_len rfl rfl (tT rfl) rfl (.inr (.inr ⟨rfl, rfl⟩))) ?_ | refine TL.st rfl (S_len_str rfl rfl (tT rfl) rfl rfl) ?_ | refine TL.st rfl (S_len_arr rfl rfl (tT rfl) rfl) ?_
              intro σ_ hσ_; simp only [nrm, tev, St.step, putO, setsV, addO, ↓reduceIte, Nat.reduceAdd, logT, atT, intern, internL, kp_ents, fz_ents, fz_bytes, kp_bytes, logR, logE, ← List.map_take, ← List.map_drop, List.take_length, beq_self_eq_true] at hσ_; subst hσ_
              first | refine TL.st rfl (S_int rfl rfl rfl rfl (vbt (by omega))) ?_ | refine TL.st rfl (S_int rfl rfl rfl rfl (vbf (by omega))) ?_ | refine TL.st rfl (S_int rfl rfl rfl rfl rfl) ?_ | refine TL.st rfl (S_boolop rfl rfl rfl rfl (tT rfl) rfl) ?_
              intro σ_ hσ_; simp only [nrm, tev, St.step, putO, setsV, addO, ↓reduceIte, Nat.reduceAdd, logT, atT, intern, internL, kp_ents, fz_ents, fz_bytes, kp_bytes, logR, logE, ← List.map_take, ← List.map_drop, List.take_length, beq_self_eq_true] at hσ_; subst hσ_
              refine TL.st rfl (S_move rfl) ?_
              intro σ_ hσ_; simp only [nrm, tev, St.step, putO, setsV, addO, ↓reduceIte, Nat.reduceAdd, logT, atT, intern, internL, kp_ents, fz_ents, fz_bytes, kp_bytes, logR, logE, ← List.map_take, ← List.map_drop, List.take_length, beq_self_eq_true] at hσ_; subst hσ_
              first | refine TL.st_g rfl rfl rfl (Nat.le_of_ble_eq_true rfl) rfl (S_load rfl rfl rfl (tT rfl) rfl) ?_ | refine TL.st_g rfl rfl rfl (Nat.le_of_ble_eq_true rfl) rfl (S_load_eptr rfl rfl (tT rfl) rfl) ?_ | refine TL.st_g rfl rfl rfl (Nat.le_of_ble_eq_true rfl) rfl (S_load_row rfl rfl rfl rfl (by assumption) (tT rfl) rfl) ?_ | refine TL.st_g rfl rfl rfl (Nat.le_of_ble_eq_true rfl) rfl (S_load_row (j := 0) rfl rfl rfl rfl (by assumption) (tT rfl) rfl) ?_ | refine TL.sk_g rfl rfl rfl (Nat.le_of_ble_eq_true rfl) rfl rfl ?_
              intro σ_ hσ_; simp only [nrm, tev, St.step, putO, setsV, addO, ↓reduceIte, Nat.reduceAdd, logT, atT, intern, internL, kp_ents, fz_ents, fz_bytes, kp_bytes, logR, logE, ← List.map_take, ← List.map_drop, List.take_length, beq_self_eq_true] at hσ_; subst hσ_
              first | refine TL.st_g rfl rfl rfl (Nat.le_of_ble_eq_true rfl) rfl (S_call_row rfl rfl rfl (by kernel_rfl) rfl (last_T _ _ x.i x.t X okX.w okX.n9 hi0 hi1) rfl) ?_ | refine TL.st_g rfl rfl rfl (Nat.le_of_ble_eq_true rfl) rfl (S_call rfl rfl rfl (by kernel_rfl) rfl (last_T _ _ x.i x.t X okX.w okX.n9 hi0 hi1)) ?_ | refine TL.sk_g rfl rfl rfl (Nat.le_of_ble_eq_true rfl) rfl rfl ?_
              intro σ_ hσ_; simp only [nrm, tev, St.step, putO, setsV, addO, ↓reduceIte, Nat.reduceAdd, logT, atT, intern, internL, kp_ents, fz_ents, fz_bytes, kp_bytes, logR, logE, ← List.map_take, ← List.map_drop, List.take_length, beq_self_eq_true] at hσ_; subst hσ_
              first | refine TL.st_g rfl rfl rfl (Nat.le_of_ble_eq_true rfl) rfl (S_field rfl rfl (tT rfl) rfl rfl (tT rfl) rfl) ?_ | refine TL.sk_g rfl rfl rfl (Nat.le_of_ble_eq_true rfl) rfl rfl ?_
              intro σ_ hσ_; simp only [nrm, tev, St.step, putO, setsV, addO, ↓reduceIte, Nat.reduceAdd, logT, atT, intern, internL, kp_ents, fz_ents, fz_bytes, kp_bytes, logR, logE, ← List.map_take, ← List.map_drop, List.take_length, beq_self_eq_true] at hσ_; subst hσ_
              first | refine TL.st_g rfl rfl rfl (Nat.le_of_ble_eq_true rfl) rfl (S_move rfl) ?_ | refine TL.sk_g rfl rfl rfl (Nat.le_of_ble_eq_true rfl) rfl rfl ?_
              intro σ_ hσ_; simp only [nrm, tev, St.step, putO, setsV, addO, ↓reduceIte, Nat.reduceAdd, logT, atT, intern, internL, kp_ents, fz_ents, fz_bytes, kp_bytes, logR, logE, ← List.map_take, ← List.map_drop, List.take_length, beq_self_eq_true] at hσ_; subst hσ_
              first | refine TL.st_g rfl rfl rfl (Nat.le_of_ble_eq_true rfl) rfl (S_int rfl rfl rfl rfl (vbt (by omega))) ?_ | refine TL.st_g rfl rfl rfl (Nat.le_of_ble_eq_true rfl) rfl (S_int rfl rfl rfl rfl (vbf (by omega))) ?_ | refine TL.st_g rfl rfl rfl (Nat.le_of_ble_eq_true rfl) rfl (S_int rfl rfl rfl rfl rfl) ?_ | refine TL.st_g rfl rfl rfl (Nat.le_of_ble_eq_true rfl) rfl (S_boolop rfl rfl rfl rfl (tT rfl) rfl) ?_ | refine TL.sk_g rfl rfl rfl (Nat.le_of_ble_eq_true rfl) rfl rfl ?_
              intro σ_ hσ_; simp only [nrm, tev, St.step, putO, setsV, addO, ↓reduceIte, Nat.reduceAdd, logT, atT, intern, internL, kp_ents, fz_ents, fz_bytes, kp_bytes, logR, logE, ← List.map_take, ← List.map_drop, List.take_length, beq_self_eq_true] at hσ_; subst hσ_
              refine TL.st rfl (S_pick rfl rfl rfl) ?_
              intro σ_ hσ_; simp only [nrm, tev, St.step, putO, setsV, addO, ↓reduceIte, Nat.reduceAdd, logT, atT, intern, internL, kp_ents, fz_ents, fz_bytes, kp_bytes, logR, logE, ← List.map_take, ← List.map_drop, List.take_length, beq_self_eq_true] at hσ_; subst hσ_
              refine TL.st rfl (S_assign rfl) ?_
              intro σ_ hσ_; simp only [nrm, tev, St.step, putO, setsV, addO, ↓reduceIte, Nat.reduceAdd, logT, atT, intern, internL, kp_ents, fz_ents, fz_bytes, kp_bytes, logR, logE, ← List.map_take, ← List.map_drop, List.take_length, beq_self_eq_true] at hσ_; subst hσ_
              refine TL.nil ?_
              try simp (decide := true) only [thenT, inBlockT, noGotoT, jumpT, ↓reduceIte, true_and]
              refine hK44_ _ ?_
              refine TW.ret ?_
              try simp (decide := true) only [thenT, inBlockT, noGotoT, jumpT, ↓reduceIte, true_and]
              refine ⟨.inr rfl, _, none, (ResT.one Try.results8 rfl), ?_, (by rintro _ ⟨⟩)⟩
              simp only [nrm, tev, Out_v, Out_agg, Out_tup, OutL_nil, OutL_cons, Out_sl, Out_row_osl, Out_nil_osl, Out_nil_sl, Out_nil_nil, and_true, true_and, logT, atT, logR, logE, fr_ents, hf, List.getD_cons_zero, List.getD_cons_succ]
              done
            · skip
              have hend := hends hn
              refine TW.reg ?_
              refine TL.st rfl (S_move rfl) ?_
              intro σ_ hσ_; simp only [nrm, tev, St.step, putO, setsV, addO, ↓reduceIte, Nat.reduceAdd, logT, atT, intern, internL, kp_ents, fz_ents, fz_bytes, kp_bytes, logR, logE, ← List.map_take, ← List.map_drop, List.take_length, beq_self_eq_true] at hσ_; subst hσ_
              refine TL.st rfl (S_move rfl) ?_
              intro σ_ hσ_; simp only [nrm, tev, St.step, putO, setsV, addO, ↓reduceIte, Nat.reduceAdd, logT, atT, intern, internL, kp_ents, fz_ents, fz_bytes, kp_bytes, logR, logE, ← List.map_take, ← List.map_drop, List.take_length, beq_self_eq_true] at hσ_; subst hσ_
              first | refine TL.st rfl (S_len rfl rfl (tT rfl) rfl (.inl ⟨_, _, rfl, rfl⟩)) ?_ | refine TL.st rfl (S_len rfl rfl (tT rfl) rfl (.inr (.inl ⟨_, _, _, _, rfl, rfl, rfl⟩))) ?_ | refine TL.st rfl (S_len rfl rfl (tT rfl) rfl (.inr (.inr ⟨rfl, rfl⟩))) ?_ | refine TL.st rfl (S_len_str rfl rfl (tT rfl) rfl rfl) ?_ | refine TL.st rfl (S_len_arr rfl rfl (tT rfl) rfl) ?_
              intro σ_ hσ_; simp only [nrm, tev, St.step, putO, setsV, addO, ↓reduceIte, Nat.reduceAdd, logT, atT, intern, internL, kp_ents, fz_ents, fz_bytes, kp_bytes, logR, logE, ← List.map_take, ← List.map_drop, List.take_length, beq_self_eq_true] at hσ_; subst hσ_
              first | refine TL.st rfl (S_int rfl rfl rfl rfl (vbt (by omega))) ?_ | refine TL.st rfl (S_int rfl rfl rfl rfl (vbf (by omega))) ?_ | refine TL.st rfl (S_int rfl rfl rfl rfl rfl) ?_ | refine TL.st rfl (S_boolop rfl rfl rfl rfl (tT rfl) rfl) ?_
              intro σ_ hσ_; simp only [nrm, tev, St.step, putO, setsV, addO, ↓reduceIte, Nat.reduceAdd, logT, atT, intern, internL, kp_ents, fz_ents, fz_bytes, kp_bytes, logR, logE, ← List.map_take, ← List.map_drop, List.take_length, beq_self_eq_true] at hσ_; subst hσ_
              refine TL.st rfl (S_move rfl) ?_
              intro σ_ hσ_; simp only [nrm, tev, St.step, putO, setsV, addO, ↓reduceIte, Nat.reduceAdd, logT, atT, intern, internL, kp_ents, fz_ents, fz_bytes, kp_bytes, logR, logE, ← List.map_take, ← List.map_drop, List.take_length, beq_self_eq_true] at hσ_; subst hσ_
              first | refine TL.st_g rfl rfl rfl (Nat.le_of_ble_eq_true rfl) rfl (S_load rfl rfl rfl (tT rfl) rfl) ?_ | refine TL.st_g rfl rfl rfl (Nat.le_of_ble_eq_true rfl) rfl (S_load_eptr rfl rfl (tT rfl) rfl) ?_ | refine TL.st_g rfl rfl rfl (Nat.le_of_ble_eq_true rfl) rfl (S_load_row rfl rfl rfl rfl (by assumption) (tT rfl) rfl) ?_ | refine TL.st_g rfl rfl rfl (Nat.le_of_ble_eq_true rfl) rfl (S_load_row (j := 0) rfl rfl rfl rfl (by assumption) (tT rfl) rfl) ?_ | refine TL.sk_g rfl rfl rfl (Nat.le_of_ble_eq_true rfl) rfl rfl ?_
              intro σ_ hσ_; simp only [nrm, tev, St.step, putO, setsV, addO, ↓reduceIte, Nat.reduceAdd, logT, atT, intern, internL, kp_ents, fz_ents, fz_bytes, kp_bytes, logR, logE, ← List.map_take, ← List.map_drop, List.take_length, beq_self_eq_true] at hσ_; subst hσ_
              first | refine TL.st_g rfl rfl rfl (Nat.le_of_ble_eq_true rfl) rfl (S_call_row rfl rfl rfl (by kernel_rfl) rfl (last_T _ _ x.i x.t X okX.w okX.n9 hi0 hi1) rfl) ?_ | refine TL.st_g rfl rfl rfl (Nat.le_of_ble_eq_true rfl) rfl (S_call rfl rfl rfl (by kernel_rfl) rfl (last_T _ _ x.i x.t X okX.w okX.n9 hi0 hi1)) ?_ | refine TL.sk_g rfl rfl rfl (Nat.le_of_ble_eq_true rfl) rfl rfl ?_
              intro σ_ hσ_; simp only [nrm, tev, St.step, putO, setsV, addO, ↓reduceIte, Nat.reduceAdd, logT, atT, intern, internL, kp_ents, fz_ents, fz_bytes, kp_bytes, logR, logE, ← List.map_take, ← List.map_drop, List.take_length, beq_self_eq_true] at hσ_; subst hσ_
              first | refine TL.st_g rfl rfl rfl (Nat.le_of_ble_eq_true rfl) rfl (S_field rfl rfl (tT rfl) rfl rfl (tT rfl) rfl) ?_ | refine TL.sk_g rfl rfl rfl (Nat.le_of_ble_eq_true rfl) rfl rfl ?_
              intro σ_ hσ_; simp only [nrm, tev, St.step, putO, setsV, addO, ↓reduceIte, Nat.reduceAdd, logT, atT, intern, internL, kp_ents, fz_ents, fz_bytes, kp_bytes, logR, logE, ← List.map_take, ← List.map_drop, List.take_length, beq_self_eq_true] at hσ_; subst hσ_
              first | refine TL.st_g rfl rfl rfl (Nat.le_of_ble_eq_true rfl) rfl (S_move rfl) ?_ | refine TL.sk_g rfl rfl rfl (Nat.le_of_ble_eq_true rfl) rfl rfl ?_
              intro σ_ hσ_; simp only [nrm, tev, St.step, putO, setsV, addO, ↓reduceIte, Nat.reduceAdd, logT, atT, intern, internL, kp_ents, fz_ents, fz_bytes, kp_bytes, logR, logE, ← List.map_take, ← List.map_drop, List.take_length, beq_self_eq_true] at hσ_; subst hσ_
              first | refine TL.st_g rfl rfl rfl (Nat.le_of_ble_eq_true rfl) rfl (S_int rfl rfl rfl rfl (vbt (by omega))) ?_ | refine TL.st_g rfl rfl rfl (Nat.le_of_ble_eq_true rfl) rfl (S_int rfl rfl rfl rfl (vbf (by omega))) ?_ | refine TL.st_g rfl rfl rfl (Nat.le_of_ble_eq_true rfl) rfl (S_int rfl rfl rfl rfl rfl) ?_ | refine TL.st_g rfl rfl rfl (Nat.le_of_ble_eq_true rfl) rfl (S_boolop rfl rfl rfl rfl (tT rfl) rfl) ?_ | refine TL.sk_g rfl rfl rfl (Nat.le_of_ble_eq_true rfl) rfl rfl ?_
              intro σ_ hσ_; simp only [nrm, tev, St.step, putO, setsV, addO, ↓reduceIte, Nat.reduceAdd, logT, atT, intern, internL, kp_ents, fz_ents, fz_bytes, kp_bytes, logR, logE, ← List.map_take, ← List.map_drop, List.take_length, beq_self_eq_true] at hσ_; subst hσ_
              refine TL.st rfl (S_pick rfl rfl rfl) ?_
              intro σ_ hσ_; simp only [nrm, tev, St.step, putO, setsV, addO, ↓reduceIte, Nat.reduceAdd, logT, atT, intern, internL, kp_ents, fz_ents, fz_bytes, kp_bytes, logR, logE, ← List.map_take, ← List.map_drop, List.take_length, beq_self_eq_true] at hσ_; subst hσ_
              refine TL.st rfl (S_assign rfl) ?_
              intro σ_ hσ_; simp only [nrm, tev, St.step, putO, setsV, addO, ↓reduceIte, Nat.reduceAdd, logT, atT, intern, internL, kp_ents, fz_ents, fz_bytes, kp_bytes, logR, logE, ← List.map_take, ← List.map_drop, List.take_length, beq_self_eq_true] at hσ_; subst hσ_
              refine TL.nil ?_
              try simp (decide := true) only [thenT, inBlockT, noGotoT, jumpT, ↓reduceIte, true_and]
              refine hK44_ _ ?_
              refine TW.ret ?_
              try simp (decide := true) only [thenT, inBlockT, noGotoT, jumpT, ↓reduceIte, true_and]
              refine ⟨.inr rfl, _, none, (ResT.one Try.results8 rfl), ?_, (by rintro _ ⟨⟩)⟩
              simp only [nrm, tev, Out_v, Out_agg, Out_tup, OutL_nil, OutL_cons, Out_sl, Out_row_osl, Out_nil_osl, Out_nil_sl, Out_nil_nil, and_true, true_and, logT, atT, logR, logE, fr_ents, hf, List.getD_cons_zero, List.getD_cons_succ]
              done
  · skip
    have hTA : takeA x.i x.t es p more = 0 := by rw [takeA, if_neg hT]
    obtain ⟨X, hX⟩ : ∃ X, takeL x.i x.t es p more = X := ⟨_, rfl⟩
    refine TW.frz 2 rfl ?_
    intro σ_ hσ_; simp (decide := true) only [nrm, tev, St.step, putO, setsV, addO, ↓reduceIte, Nat.reduceAdd, logT, atT, intern, internL, kp_ents, fz_ents, fz_bytes, kp_bytes, logR, logE, ← List.map_take, ← List.map_drop, List.take_length, beq_self_eq_true, fz, fzL, fzLL, LB.fz, kpL, kp, bar, LB.kp, kpLL_append, kpLL, List.map_cons, List.map_nil, List.set_cons_zero, List.set_cons_succ, ↓reduceIte] at hσ_; subst hσ_
    refine TW.frz 3 rfl ?_
    intro σ_ hσ_; simp (decide := true) only [nrm, tev, St.step, putO, setsV, addO, ↓reduceIte, Nat.reduceAdd, logT, atT, intern, internL, kp_ents, fz_ents, fz_bytes, kp_bytes, logR, logE, ← List.map_take, ← List.map_drop, List.take_length, beq_self_eq_true, fz, fzL, fzLL, LB.fz, kpL, kp, bar, LB.kp, kpLL_append, kpLL, List.map_cons, List.map_nil, List.set_cons_zero, List.set_cons_succ, ↓reduceIte] at hσ_; subst hσ_
    refine TW.reg ?_
    first | refine TL.st rfl (S_load rfl rfl rfl (tT rfl) rfl) ?_ | refine TL.st rfl (S_load_eptr rfl rfl (tT rfl) rfl) ?_ | refine TL.st rfl (S_load_row rfl rfl rfl rfl (by assumption) (tT rfl) rfl) ?_ | refine TL.st rfl (S_load_row (j := 0) rfl rfl rfl rfl (by assumption) (tT rfl) rfl) ?_
    intro σ_ hσ_; simp only [nrm, tev, St.step, putO, setsV, addO, ↓reduceIte, Nat.reduceAdd, logT, atT, intern, internL, kp_ents, fz_ents, fz_bytes, kp_bytes, logR, logE, ← List.map_take, ← List.map_drop, List.take_length, beq_self_eq_true] at hσ_; subst hσ_
    first | refine TL.st rfl (S_fieldAddr rfl rfl (tT rfl) rfl rfl (tT rfl) (by decide)) ?_ | refine TL.st rfl (S_fieldAddr_eptr rfl rfl (tT rfl) rfl rfl (tT rfl) (by decide)) ?_
    intro σ_ hσ_; simp only [nrm, tev, St.step, putO, setsV, addO, ↓reduceIte, Nat.reduceAdd, logT, atT, intern, internL, kp_ents, fz_ents, fz_bytes, kp_bytes, logR, logE, ← List.map_take, ← List.map_drop, List.take_length, beq_self_eq_true] at hσ_; subst hσ_
    first | refine TL.st rfl (S_load rfl rfl rfl (tT rfl) rfl) ?_ | refine TL.st rfl (S_load_eptr rfl rfl (tT rfl) rfl) ?_ | refine TL.st rfl (S_load_row rfl rfl rfl rfl (by assumption) (tT rfl) rfl) ?_ | refine TL.st rfl (S_load_row (j := 0) rfl rfl rfl rfl (by assumption) (tT rfl) rfl) ?_
    intro σ_ hσ_; simp only [nrm, tev, St.step, putO, setsV, addO, ↓reduceIte, Nat.reduceAdd, logT, atT, intern, internL, kp_ents, fz_ents, fz_bytes, kp_bytes, logR, logE, ← List.map_take, ← List.map_drop, List.take_length, beq_self_eq_true] at hσ_; subst hσ_
    refine TL.st rfl (S_move rfl) ?_
    intro σ_ hσ_; simp only [nrm, tev, St.step, putO, setsV, addO, ↓reduceIte, Nat.reduceAdd, logT, atT, intern, internL, kp_ents, fz_ents, fz_bytes, kp_bytes, logR, logE, ← List.map_take, ← List.map_drop, List.take_length, beq_self_eq_true] at hσ_; subst hσ_
    first | refine TL.st rfl (S_call_row rfl rfl rfl (by kernel_rfl) rfl ((meet_T _ _ x.i x.t es xf hi0 hi1 _ _ more mf p hp0 hp1).eq rfl (by rw [hm1, hm0])) rfl) ?_ | refine TL.st rfl (S_call rfl rfl rfl (by kernel_rfl) rfl ((meet_T _ _ x.i x.t es xf hi0 hi1 _ _ more mf p hp0 hp1).eq rfl (by rw [hm1, hm0]))) ?_ | refine TL.st rfl (S_call_row rfl rfl rfl (by kernel_rfl) rfl ((meet_T _ _ x.i x.t X okX hi0 hi1 _ _ more mf p hp0 hp1).eq rfl (by rw [hm2, ag1])) rfl) ?_ | refine TL.st rfl (S_call rfl rfl rfl (by kernel_rfl) rfl ((meet_T _ _ x.i x.t X okX hi0 hi1 _ _ more mf p hp0 hp1).eq rfl (by rw [hm2, ag1]))) ?_ | refine TL.st rfl (S_call_row rfl rfl rfl (by kernel_rfl) rfl ((meet_T _ _ x.i x.t es xf hi0 hi1 _ _ more mf p hp0 hp1).eq rfl (by rw [meetR_of he, he])) rfl) ?_ | refine TL.st rfl (S_call rfl rfl rfl (by kernel_rfl) rfl ((meet_T _ _ x.i x.t es xf hi0 hi1 _ _ more mf p hp0 hp1).eq rfl (by rw [meetR_of he, he]))) ?_ | refine TL.st rfl (S_call_row rfl rfl rfl (by kernel_rfl) rfl ((meet_T _ _ x.i x.t es xf hi0 hi1 _ _ more mf p hp0 hp1).eq rfl (by rw [meetR_ne he])) rfl) ?_ | refine TL.st rfl (S_call rfl rfl rfl (by kernel_rfl) rfl ((meet_T _ _ x.i x.t es xf hi0 hi1 _ _ more mf p hp0 hp1).eq rfl (by rw [meetR_ne he]))) ?_
    intro σ_ hσ_; simp only [nrm, tev, St.step, putO, setsV, addO, ↓reduceIte, Nat.reduceAdd, logT, atT, intern, internL, kp_ents, fz_ents, fz_bytes, kp_bytes, logR, logE, ← List.map_take, ← List.map_drop, List.take_length, beq_self_eq_true] at hσ_; subst hσ_
    refine TL.st rfl (S_move rfl) ?_
    intro σ_ hσ_; simp only [nrm, tev, St.step, putO, setsV, addO, ↓reduceIte, Nat.reduceAdd, logT, atT, intern, internL, kp_ents, fz_ents, fz_bytes, kp_bytes, logR, logE, ← List.map_take, ← List.map_drop, List.take_length, beq_self_eq_true] at hσ_; subst hσ_
    refine TL.st rfl (S_extract rfl rfl rfl) ?_
    intro σ_ hσ_; simp only [nrm, tev, St.step, putO, setsV, addO, ↓reduceIte, Nat.reduceAdd, logT, atT, intern, internL, kp_ents, fz_ents, fz_bytes, kp_bytes, logR, logE, ← List.map_take, ← List.map_drop, List.take_length, beq_self_eq_true] at hσ_; subst hσ_
    refine TL.st rfl (S_extract rfl rfl rfl) ?_
    intro σ_ hσ_; simp only [nrm, tev, St.step, putO, setsV, addO, ↓reduceIte, Nat.reduceAdd, logT, atT, intern, internL, kp_ents, fz_ents, fz_bytes, kp_bytes, logR, logE, ← List.map_take, ← List.map_drop, List.take_length, beq_self_eq_true] at hσ_; subst hσ_
    refine TL.st rfl (S_assign rfl) ?_
    intro σ_ hσ_; simp only [nrm, tev, St.step, putO, setsV, addO, ↓reduceIte, Nat.reduceAdd, logT, atT, intern, internL, kp_ents, fz_ents, fz_bytes, kp_bytes, logR, logE, ← List.map_take, ← List.map_drop, List.take_length, beq_self_eq_true] at hσ_; subst hσ_
    refine TL.st rfl (S_assign rfl) ?_
    intro σ_ hσ_; simp only [nrm, tev, St.step, putO, setsV, addO, ↓reduceIte, Nat.reduceAdd, logT, atT, intern, internL, kp_ents, fz_ents, fz_bytes, kp_bytes, logR, logE, ← List.map_take, ← List.map_drop, List.take_length, beq_self_eq_true] at hσ_; subst hσ_
    refine TL.nil ?_
    try simp (decide := true) only [thenT, inBlockT, noGotoT, jumpT, ↓reduceIte, true_and]
    refine hK5_ _ ?_
    refine TW.seq_k ?_
    intro K45_ hK45_
    refine TW.reg ?_
    first | refine TL.st rfl (S_load rfl rfl rfl (tT rfl) rfl) ?_ | refine TL.st rfl (S_load_eptr rfl rfl (tT rfl) rfl) ?_ | refine TL.st rfl (S_load_row rfl rfl rfl rfl (by assumption) (tT rfl) rfl) ?_ | refine TL.st rfl (S_load_row (j := 0) rfl rfl rfl rfl (by assumption) (tT rfl) rfl) ?_
    intro σ_ hσ_; simp only [nrm, tev, St.step, putO, setsV, addO, ↓reduceIte, Nat.reduceAdd, logT, atT, intern, internL, kp_ents, fz_ents, fz_bytes, kp_bytes, logR, logE, ← List.map_take, ← List.map_drop, List.take_length, beq_self_eq_true] at hσ_; subst hσ_
    first | refine TL.st rfl (S_fieldAddr rfl rfl (tT rfl) rfl rfl (tT rfl) (by decide)) ?_ | refine TL.st rfl (S_fieldAddr_eptr rfl rfl (tT rfl) rfl rfl (tT rfl) (by decide)) ?_
    intro σ_ hσ_; simp only [nrm, tev, St.step, putO, setsV, addO, ↓reduceIte, Nat.reduceAdd, logT, atT, intern, internL, kp_ents, fz_ents, fz_bytes, kp_bytes, logR, logE, ← List.map_take, ← List.map_drop, List.take_length, beq_self_eq_true] at hσ_; subst hσ_
    first | refine TL.st rfl (S_load rfl rfl rfl (tT rfl) rfl) ?_ | refine TL.st rfl (S_load_eptr rfl rfl (tT rfl) rfl) ?_ | refine TL.st rfl (S_load_row rfl rfl rfl rfl (by assumption) (tT rfl) rfl) ?_ | refine TL.st rfl (S_load_row (j := 0) rfl rfl rfl rfl (by assumption) (tT rfl) rfl) ?_
    intro σ_ hσ_; simp only [nrm, tev, St.step, putO, setsV, addO, ↓reduceIte, Nat.reduceAdd, logT, atT, intern, internL, kp_ents, fz_ents, fz_bytes, kp_bytes, logR, logE, ← List.map_take, ← List.map_drop, List.take_length, beq_self_eq_true] at hσ_; subst hσ_
    refine TL.st rfl (S_move rfl) ?_
    intro σ_ hσ_; simp only [nrm, tev, St.step, putO, setsV, addO, ↓reduceIte, Nat.reduceAdd, logT, atT, intern, internL, kp_ents, fz_ents, fz_bytes, kp_bytes, logR, logE, ← List.map_take, ← List.map_drop, List.take_length, beq_self_eq_true] at hσ_; subst hσ_
    first | refine TL.st rfl (S_call_row rfl rfl rfl (by kernel_rfl) rfl ((take_T _ _ x.i x.t es xf hi0 hi1 _ _ more mf p hp0 hp1).eq rfl (by simp only [logE, hT, hTA, hX, ↓reduceIte]; rfl)) rfl) ?_ | refine TL.st rfl (S_call rfl rfl rfl (by kernel_rfl) rfl ((take_T _ _ x.i x.t es xf hi0 hi1 _ _ more mf p hp0 hp1).eq rfl (by simp only [logE, hT, hTA, hX, ↓reduceIte]; rfl))) ?_ | refine TL.st rfl (S_call_row rfl rfl rfl (by kernel_rfl) rfl ((take_T _ _ x.i x.t X okX hi0 hi1 _ _ more mf p hp0 hp1).eq rfl (by simp only [logE, tw1, tw2, hTA2, ↓reduceIte]; rfl)) rfl) ?_ | refine TL.st rfl (S_call rfl rfl rfl (by kernel_rfl) rfl ((take_T _ _ x.i x.t X okX hi0 hi1 _ _ more mf p hp0 hp1).eq rfl (by simp only [logE, tw1, tw2, hTA2, ↓reduceIte]; rfl))) ?_ | refine TL.st rfl (S_call_row rfl rfl rfl (by kernel_rfl) rfl ((take_T _ _ x.i x.t es xf hi0 hi1 _ _ more mf p hp0 hp1).eq rfl (by simp only [logE, hT, hTA, ↓reduceIte]; rfl)) rfl) ?_ | refine TL.st rfl (S_call rfl rfl rfl (by kernel_rfl) rfl ((take_T _ _ x.i x.t es xf hi0 hi1 _ _ more mf p hp0 hp1).eq rfl (by simp only [logE, hT, hTA, ↓reduceIte]; rfl))) ?_
    intro σ_ hσ_; simp only [nrm, tev, St.step, putO, setsV, addO, ↓reduceIte, Nat.reduceAdd, logT, atT, intern, internL, kp_ents, fz_ents, fz_bytes, kp_bytes, logR, logE, ← List.map_take, ← List.map_drop, List.take_length, beq_self_eq_true] at hσ_; subst hσ_
    refine TL.st rfl (S_move rfl) ?_
    intro σ_ hσ_; simp only [nrm, tev, St.step, putO, setsV, addO, ↓reduceIte, Nat.reduceAdd, logT, atT, intern, internL, kp_ents, fz_ents, fz_bytes, kp_bytes, logR, logE, ← List.map_take, ← List.map_drop, List.take_length, beq_self_eq_true] at hσ_; subst hσ_
    refine TL.st rfl (S_extract rfl rfl rfl) ?_
    intro σ_ hσ_; simp only [nrm, tev, St.step, putO, setsV, addO, ↓reduceIte, Nat.reduceAdd, logT, atT, intern, internL, kp_ents, fz_ents, fz_bytes, kp_bytes, logR, logE, ← List.map_take, ← List.map_drop, List.take_length, beq_self_eq_true] at hσ_; subst hσ_
    refine TL.st rfl (S_extract rfl rfl rfl) ?_
    intro σ_ hσ_; simp only [nrm, tev, St.step, putO, setsV, addO, ↓reduceIte, Nat.reduceAdd, logT, atT, intern, internL, kp_ents, fz_ents, fz_bytes, kp_bytes, logR, logE, ← List.map_take, ← List.map_drop, List.take_length, beq_self_eq_true] at hσ_; subst hσ_
    refine TL.st rfl (S_extract rfl rfl rfl) ?_
    intro σ_ hσ_; simp only [nrm, tev, St.step, putO, setsV, addO, ↓reduceIte, Nat.reduceAdd, logT, atT, intern, internL, kp_ents, fz_ents, fz_bytes, kp_bytes, logR, logE, ← List.map_take, ← List.map_drop, List.take_length, beq_self_eq_true] at hσ_; subst hσ_
    refine TL.st rfl (S_alloc rfl (zT rfl) rfl) ?_
    intro σ_ hσ_; simp only [nrm, tev, St.step, putO, setsV, addO, ↓reduceIte, Nat.reduceAdd, logT, atT, intern, internL, kp_ents, fz_ents, fz_bytes, kp_bytes, logR, logE, ← List.map_take, ← List.map_drop, List.take_length, beq_self_eq_true] at hσ_; subst hσ_
    first | refine TL.sto rfl rfl rfl rfl (tT rfl) rfl rfl rfl (Nat.le_of_ble_eq_true rfl) ?_ | refine TL.sto_row rfl rfl rfl rfl rfl (by assumption) (tT rfl) rfl rfl rfl (Nat.le_of_ble_eq_true rfl) ?_ | refine TL.sto_row (j := 0) rfl rfl rfl rfl rfl (by assumption) (tT rfl) rfl rfl rfl (Nat.le_of_ble_eq_true rfl) ?_
    intro σ_ hσ_; simp only [nrm, tev, St.step, putO, setsV, addO, ↓reduceIte, Nat.reduceAdd, logT, atT, intern, internL, kp_ents, fz_ents, fz_bytes, kp_bytes, logR, logE, ← List.map_take, ← List.map_drop, List.take_length, beq_self_eq_true] at hσ_; subst hσ_
    refine TL.st rfl (S_assign rfl) ?_
    intro σ_ hσ_; simp only [nrm, tev, St.step, putO, setsV, addO, ↓reduceIte, Nat.reduceAdd, logT, atT, intern, internL, kp_ents, fz_ents, fz_bytes, kp_bytes, logR, logE, ← List.map_take, ← List.map_drop, List.take_length, beq_self_eq_true] at hσ_; subst hσ_
    refine TL.st rfl (S_assign rfl) ?_
    intro σ_ hσ_; simp only [nrm, tev, St.step, putO, setsV, addO, ↓reduceIte, Nat.reduceAdd, logT, atT, intern, internL, kp_ents, fz_ents, fz_bytes, kp_bytes, logR, logE, ← List.map_take, ← List.map_drop, List.take_length, beq_self_eq_true] at hσ_; subst hσ_
    refine TL.nil ?_
    try simp (decide := true) only [thenT, inBlockT, noGotoT, jumpT, ↓reduceIte, true_and]
    refine hK45_ _ ?_
    refine TW.seq_k ?_
    intro K46_ hK46_
    refine TW.seq_k ?_
    intro K47_ hK47_
    refine TW.frz 4 rfl ?_
    intro σ_ hσ_; simp (decide := true) only [nrm, tev, St.step, putO, setsV, addO, ↓reduceIte, Nat.reduceAdd, logT, atT, intern, internL, kp_ents, fz_ents, fz_bytes, kp_bytes, logR, logE, ← List.map_take, ← List.map_drop, List.take_length, beq_self_eq_true, fz, fzL, fzLL, LB.fz, kpL, kp, bar, LB.kp, kpLL_append, kpLL, List.map_cons, List.map_nil, List.set_cons_zero, List.set_cons_succ, ↓reduceIte] at hσ_; subst hσ_
    refine TW.reg ?_
    refine TL.st rfl (S_move rfl) ?_
    intro σ_ hσ_; simp only [nrm, tev, St.step, putO, setsV, addO, ↓reduceIte, Nat.reduceAdd, logT, atT, intern, internL, kp_ents, fz_ents, fz_bytes, kp_bytes, logR, logE, ← List.map_take, ← List.map_drop, List.take_length, beq_self_eq_true] at hσ_; subst hσ_
    first | refine TL.st rfl (S_int rfl rfl rfl rfl (vnt (by omega))) ?_ | refine TL.st rfl (S_int rfl rfl rfl rfl (vnf (by omega))) ?_ | refine TL.st rfl (S_int rfl rfl rfl rfl rfl) ?_ | refine TL.st rfl (S_boolneq rfl rfl rfl rfl (tT rfl) rfl) ?_
    intro σ_ hσ_; simp only [nrm, tev, St.step, putO, setsV, addO, ↓reduceIte, Nat.reduceAdd, logT, atT, intern, internL, kp_ents, fz_ents, fz_bytes, kp_bytes, logR, logE, ← List.map_take, ← List.map_drop, List.take_length, beq_self_eq_true] at hσ_; subst hσ_
    refine TL.nil ?_
    try simp (decide := true) only [thenT, inBlockT, noGotoT, jumpT, ↓reduceIte, true_and]
    refine hK47_ _ ?_
    refine TW.cond_t rfl (rfl) ?_
    refine TW.seq_k ?_
    intro K48_ hK48_
    refine TW.reg ?_
    first | refine TL.st rfl (S_fieldAddr rfl rfl (tT rfl) rfl rfl (tT rfl) (by decide)) ?_ | refine TL.st rfl (S_fieldAddr_eptr rfl rfl (tT rfl) rfl rfl (tT rfl) (by decide)) ?_
    intro σ_ hσ_; simp only [nrm, tev, St.step, putO, setsV, addO, ↓reduceIte, Nat.reduceAdd, logT, atT, intern, internL, kp_ents, fz_ents, fz_bytes, kp_bytes, logR, logE, ← List.map_take, ← List.map_drop, List.take_length, beq_self_eq_true] at hσ_; subst hσ_
    first | refine TL.st rfl (S_load rfl rfl rfl (tT rfl) rfl) ?_ | refine TL.st rfl (S_load_eptr rfl rfl (tT rfl) rfl) ?_ | refine TL.st rfl (S_load_row rfl rfl rfl rfl (by assumption) (tT rfl) rfl) ?_ | refine TL.st rfl (S_load_row (j := 0) rfl rfl rfl rfl (by assumption) (tT rfl) rfl) ?_
    intro σ_ hσ_; simp only [nrm, tev, St.step, putO, setsV, addO, ↓reduceIte, Nat.reduceAdd, logT, atT, intern, internL, kp_ents, fz_ents, fz_bytes, kp_bytes, logR, logE, ← List.map_take, ← List.map_drop, List.take_length, beq_self_eq_true] at hσ_; subst hσ_
    first | refine TL.st rfl (S_len rfl rfl (tT rfl) rfl (.inl ⟨_, _, rfl, rfl⟩)) ?_ | refine TL.st rfl (S_len rfl rfl (tT rfl) rfl (.inr (.inl ⟨_, _, _, _, rfl, rfl, rfl⟩))) ?_ | refine TL.st rfl (S_len rfl rfl (tT rfl) rfl (.inr (.inr ⟨rfl, rfl⟩))) ?_ | refine TL.st rfl (S_len_str rfl rfl (tT rfl) rfl rfl) ?_ | refine TL.st rfl (S_len_arr rfl rfl (tT rfl) rfl) ?_
    intro σ_ hσ_; simp only [nrm, tev, St.step, putO, setsV, addO, ↓reduceIte, Nat.reduceAdd, logT, atT, intern, internL, kp_ents, fz_ents, fz_bytes, kp_bytes, logR, logE, ← List.map_take, ← List.map_drop, List.take_length, beq_self_eq_true] at hσ_; subst hσ_
    first | refine TL.st rfl (S_int rfl rfl rfl rfl (vbt (by omega))) ?_ | refine TL.st rfl (S_int rfl rfl rfl rfl (vbf (by omega))) ?_ | refine TL.st rfl (S_int rfl rfl rfl rfl rfl) ?_ | refine TL.st rfl (S_boolop rfl rfl rfl rfl (tT rfl) rfl) ?_
    intro σ_ hσ_; simp only [nrm, tev, St.step, putO, setsV, addO, ↓reduceIte, Nat.reduceAdd, logT, atT, intern, internL, kp_ents, fz_ents, fz_bytes, kp_bytes, logR, logE, ← List.map_take, ← List.map_drop, List.take_length, beq_self_eq_true] at hσ_; subst hσ_
    refine TL.st rfl (S_move rfl) ?_
    intro σ_ hσ_; simp only [nrm, tev, St.step, putO, setsV, addO, ↓reduceIte, Nat.reduceAdd, logT, atT, intern, internL, kp_ents, fz_ents, fz_bytes, kp_bytes, logR, logE, ← List.map_take, ← List.map_drop, List.take_length, beq_self_eq_true] at hσ_; subst hσ_
    first | refine TL.st_g rfl rfl rfl (Nat.le_of_ble_eq_true rfl) rfl (S_move rfl) ?_ | refine TL.sk_g rfl rfl rfl (Nat.le_of_ble_eq_true rfl) rfl rfl ?_
    intro σ_ hσ_; simp only [nrm, tev, St.step, putO, setsV, addO, ↓reduceIte, Nat.reduceAdd, logT, atT, intern, internL, kp_ents, fz_ents, fz_bytes, kp_bytes, logR, logE, ← List.map_take, ← List.map_drop, List.take_length, beq_self_eq_true] at hσ_; subst hσ_
    first | refine TL.st_g rfl rfl rfl (Nat.le_of_ble_eq_true rfl) rfl (S_int rfl rfl rfl rfl (vbt (by omega))) ?_ | refine TL.st_g rfl rfl rfl (Nat.le_of_ble_eq_true rfl) rfl (S_int rfl rfl rfl rfl (vbf (by omega))) ?_ | refine TL.st_g rfl rfl rfl (Nat.le_of_ble_eq_true rfl) rfl (S_int rfl rfl rfl rfl rfl) ?_ | refine TL.st_g rfl rfl rfl (Nat.le_of_ble_eq_true rfl) rfl (S_boolop rfl rfl rfl rfl (tT rfl) rfl) ?_ | refine TL.sk_g rfl rfl rfl (Nat.le_of_ble_eq_true rfl) rfl rfl ?_
    intro σ_ hσ_; simp only [nrm, tev, St.step, putO, setsV, addO, ↓reduceIte, Nat.reduceAdd, logT, atT, intern, internL, kp_ents, fz_ents, fz_bytes, kp_bytes, logR, logE, ← List.map_take, ← List.map_drop, List.take_length, beq_self_eq_true] at hσ_; subst hσ_
    refine TL.st rfl (S_pick rfl rfl rfl) ?_
    intro σ_ hσ_; simp only [nrm, tev, St.step, putO, setsV, addO, ↓reduceIte, Nat.reduceAdd, logT, atT, intern, internL, kp_ents, fz_ents, fz_bytes, kp_bytes, logR, logE, ← List.map_take, ← List.map_drop, List.take_length, beq_self_eq_true] at hσ_; subst hσ_
    refine TL.st rfl (S_move rfl) ?_
    intro σ_ hσ_; simp only [nrm, tev, St.step, putO, setsV, addO, ↓reduceIte, Nat.reduceAdd, logT, atT, intern, internL, kp_ents, fz_ents, fz_bytes, kp_bytes, logR, logE, ← List.map_take, ← List.map_drop, List.take_length, beq_self_eq_true] at hσ_; subst hσ_
    first | refine TL.st_g rfl rfl rfl (Nat.le_of_ble_eq_true rfl) rfl (S_move rfl) ?_ | refine TL.sk_g rfl rfl rfl (Nat.le_of_ble_eq_true rfl) rfl rfl ?_
    intro σ_ hσ_; simp only [nrm, tev, St.step, putO, setsV, addO, ↓reduceIte, Nat.reduceAdd, logT, atT, intern, internL, kp_ents, fz_ents, fz_bytes, kp_bytes, logR, logE, ← List.map_take, ← List.map_drop, List.take_length, beq_self_eq_true] at hσ_; subst hσ_
    first | refine TL.st_g rfl rfl rfl (Nat.le_of_ble_eq_true rfl) rfl (S_int rfl rfl rfl rfl (vbt (by omega))) ?_ | refine TL.st_g rfl rfl rfl (Nat.le_of_ble_eq_true rfl) rfl (S_int rfl rfl rfl rfl (vbf (by omega))) ?_ | refine TL.st_g rfl rfl rfl (Nat.le_of_ble_eq_true rfl) rfl (S_int rfl rfl rfl rfl rfl) ?_ | refine TL.st_g rfl rfl rfl (Nat.le_of_ble_eq_true rfl) rfl (S_boolop rfl rfl rfl rfl (tT rfl) rfl) ?_ | refine TL.sk_g rfl rfl rfl (Nat.le_of_ble_eq_true rfl) rfl rfl ?_
    intro σ_ hσ_; simp only [nrm, tev, St.step, putO, setsV, addO, ↓reduceIte, Nat.reduceAdd, logT, atT, intern, internL, kp_ents, fz_ents, fz_bytes, kp_bytes, logR, logE, ← List.map_take, ← List.map_drop, List.take_length, beq_self_eq_true] at hσ_; subst hσ_
    first | refine TL.st_g rfl rfl rfl (Nat.le_of_ble_eq_true rfl) rfl (S_move rfl) ?_ | refine TL.sk_g rfl rfl rfl (Nat.le_of_ble_eq_true rfl) rfl rfl ?_
    intro σ_ hσ_; simp only [nrm, tev, St.step, putO, setsV, addO, ↓reduceIte, Nat.reduceAdd, logT, atT, intern, internL, kp_ents, fz_ents, fz_bytes, kp_bytes, logR, logE, ← List.map_take, ← List.map_drop, List.take_length, beq_self_eq_true] at hσ_; subst hσ_
    first | refine TL.st_g rfl rfl rfl (Nat.le_of_ble_eq_true rfl) rfl (S_move rfl) ?_ | refine TL.sk_g rfl rfl rfl (Nat.le_of_ble_eq_true rfl) rfl rfl ?_
    intro σ_ hσ_; simp only [nrm, tev, St.step, putO, setsV, addO, ↓reduceIte, Nat.reduceAdd, logT, atT, intern, internL, kp_ents, fz_ents, fz_bytes, kp_bytes, logR, logE, ← List.map_take, ← List.map_drop, List.take_length, beq_self_eq_true] at hσ_; subst hσ_
    first | refine TL.st_g rfl rfl rfl (Nat.le_of_ble_eq_true rfl) rfl (S_move rfl) ?_ | refine TL.sk_g rfl rfl rfl (Nat.le_of_ble_eq_true rfl) rfl rfl ?_
    intro σ_ hσ_; simp only [nrm, tev, St.step, putO, setsV, addO, ↓reduceIte, Nat.reduceAdd, logT, atT, intern, internL, kp_ents, fz_ents, fz_bytes, kp_bytes, logR, logE, ← List.map_take, ← List.map_drop, List.take_length, beq_self_eq_true] at hσ_; subst hσ_
    first | refine TL.st_g rfl rfl rfl (Nat.le_of_ble_eq_true rfl) rfl (S_int rfl rfl rfl rfl (vbt (by omega))) ?_ | refine TL.st_g rfl rfl rfl (Nat.le_of_ble_eq_true rfl) rfl (S_int rfl rfl rfl rfl (vbf (by omega))) ?_ | refine TL.st_g rfl rfl rfl (Nat.le_of_ble_eq_true rfl) rfl (S_int rfl rfl rfl rfl rfl) ?_ | refine TL.st_g rfl rfl rfl (Nat.le_of_ble_eq_true rfl) rfl (S_boolop rfl rfl rfl rfl (tT rfl) rfl) ?_ | refine TL.sk_g rfl rfl rfl (Nat.le_of_ble_eq_true rfl) rfl rfl ?_
    intro σ_ hσ_; simp only [nrm, tev, St.step, putO, setsV, addO, ↓reduceIte, Nat.reduceAdd, logT, atT, intern, internL, kp_ents, fz_ents, fz_bytes, kp_bytes, logR, logE, ← List.map_take, ← List.map_drop, List.take_length, beq_self_eq_true] at hσ_; subst hσ_
    first | refine TL.st_g rfl rfl rfl (Nat.le_of_ble_eq_true rfl) rfl (S_pick rfl rfl rfl) ?_ | refine TL.sk_g rfl rfl rfl (Nat.le_of_ble_eq_true rfl) rfl rfl ?_
    intro σ_ hσ_; simp only [nrm, tev, St.step, putO, setsV, addO, ↓reduceIte, Nat.reduceAdd, logT, atT, intern, internL, kp_ents, fz_ents, fz_bytes, kp_bytes, logR, logE, ← List.map_take, ← List.map_drop, List.take_length, beq_self_eq_true] at hσ_; subst hσ_
    refine TL.st rfl (S_pick rfl rfl rfl) ?_
    intro σ_ hσ_; simp only [nrm, tev, St.step, putO, setsV, addO, ↓reduceIte, Nat.reduceAdd, logT, atT, intern, internL, kp_ents, fz_ents, fz_bytes, kp_bytes, logR, logE, ← List.map_take, ← List.map_drop, List.take_length, beq_self_eq_true] at hσ_; subst hσ_
    refine TL.st rfl (S_assign rfl) ?_
    intro σ_ hσ_; simp only [nrm, tev, St.step, putO, setsV, addO, ↓reduceIte, Nat.reduceAdd, logT, atT, intern, internL, kp_ents, fz_ents, fz_bytes, kp_bytes, logR, logE, ← List.map_take, ← List.map_drop, List.take_length, beq_self_eq_true] at hσ_; subst hσ_
    refine TL.nil ?_
    try simp (decide := true) only [thenT, inBlockT, noGotoT, jumpT, ↓reduceIte, true_and]
    refine hK48_ _ ?_
    refine TW.ret ?_
    try simp (decide := true) only [thenT, inBlockT, noGotoT, jumpT, ↓reduceIte, true_and]
    refine ⟨.inr rfl, _, none, (ResT.one Try.results8 rfl), ?_, (by rintro _ ⟨⟩)⟩
    simp only [nrm, tev, Out_v, Out_agg, Out_tup, OutL_nil, OutL_cons, Out_sl, Out_row_osl, Out_nil_osl, Out_nil_sl, Out_nil_nil, and_true, true_and, logT, atT, logR, logE, fr_ents, hf, List.getD_cons_zero, List.getD_cons_succ]
    done
  · skip
    have hTA : takeA x.i x.t es p more = 0 := by rw [takeA, if_neg hT]
    obtain ⟨X, hX⟩ : ∃ X, takeL x.i x.t es p more = X := ⟨_, rfl⟩
    have hTE : takeE x.i x.t es p more = meetE x.i x.t es p more := by rw [takeE, if_neg he]
    refine TW.frz 2 rfl ?_
    intro σ_ hσ_; simp (decide := true) only [nrm, tev, St.step, putO, setsV, addO, ↓reduceIte, Nat.reduceAdd, logT, atT, intern, internL, kp_ents, fz_ents, fz_bytes, kp_bytes, logR, logE, ← List.map_take, ← List.map_drop, List.take_length, beq_self_eq_true, fz, fzL, fzLL, LB.fz, kpL, kp, bar, LB.kp, kpLL_append, kpLL, List.map_cons, List.map_nil, List.set_cons_zero, List.set_cons_succ, ↓reduceIte] at hσ_; subst hσ_
    refine TW.frz 3 rfl ?_
    intro σ_ hσ_; simp (decide := true) only [nrm, tev, St.step, putO, setsV, addO, ↓reduceIte, Nat.reduceAdd, logT, atT, intern, internL, kp_ents, fz_ents, fz_bytes, kp_bytes, logR, logE, ← List.map_take, ← List.map_drop, List.take_length, beq_self_eq_true, fz, fzL, fzLL, LB.fz, kpL, kp, bar, LB.kp, kpLL_append, kpLL, List.map_cons, List.map_nil, List.set_cons_zero, List.set_cons_succ, ↓reduceIte] at hσ_; subst hσ_
    refine TW.reg ?_
    first | refine TL.st rfl (S_load rfl rfl rfl (tT rfl) rfl) ?_ | refine TL.st rfl (S_load_eptr rfl rfl (tT rfl) rfl) ?_ | refine TL.st rfl (S_load_row rfl rfl rfl rfl (by assumption) (tT rfl) rfl) ?_ | refine TL.st rfl (S_load_row (j := 0) rfl rfl rfl rfl (by assumption) (tT rfl) rfl) ?_
    intro σ_ hσ_; simp only [nrm, tev, St.step, putO, setsV, addO, ↓reduceIte, Nat.reduceAdd, logT, atT, intern, internL, kp_ents, fz_ents, fz_bytes, kp_bytes, logR, logE, ← List.map_take, ← List.map_drop, List.take_length, beq_self_eq_true] at hσ_; subst hσ_
    first | refine TL.st rfl (S_fieldAddr rfl rfl (tT rfl) rfl rfl (tT rfl) (by decide)) ?_ | refine TL.st rfl (S_fieldAddr_eptr rfl rfl (tT rfl) rfl rfl (tT rfl) (by decide)) ?_
    intro σ_ hσ_; simp only [nrm, tev, St.step, putO, setsV, addO, ↓reduceIte, Nat.reduceAdd, logT, atT, intern, internL, kp_ents, fz_ents, fz_bytes, kp_bytes, logR, logE, ← List.map_take, ← List.map_drop, List.take_length, beq_self_eq_true] at hσ_; subst hσ_
    first | refine TL.st rfl (S_load rfl rfl rfl (tT rfl) rfl) ?_ | refine TL.st rfl (S_load_eptr rfl rfl (tT rfl) rfl) ?_ | refine TL.st rfl (S_load_row rfl rfl rfl rfl (by assumption) (tT rfl) rfl) ?_ | refine TL.st rfl (S_load_row (j := 0) rfl rfl rfl rfl (by assumption) (tT rfl) rfl) ?_
    intro σ_ hσ_; simp only [nrm, tev, St.step, putO, setsV, addO, ↓reduceIte, Nat.reduceAdd, logT, atT, intern, internL, kp_ents, fz_ents, fz_bytes, kp_bytes, logR, logE, ← List.map_take, ← List.map_drop, List.take_length, beq_self_eq_true] at hσ_; subst hσ_
    refine TL.st rfl (S_move rfl) ?_
    intro σ_ hσ_; simp only [nrm, tev, St.step, putO, setsV, addO, ↓reduceIte, Nat.reduceAdd, logT, atT, intern, internL, kp_ents, fz_ents, fz_bytes, kp_bytes, logR, logE, ← List.map_take, ← List.map_drop, List.take_length, beq_self_eq_true] at hσ_; subst hσ_
    first | refine TL.st rfl (S_call_row rfl rfl rfl (by kernel_rfl) rfl ((meet_T _ _ x.i x.t es xf hi0 hi1 _ _ more mf p hp0 hp1).eq rfl (by rw [hm1, hm0])) rfl) ?_ | refine TL.st rfl (S_call rfl rfl rfl (by kernel_rfl) rfl ((meet_T _ _ x.i x.t es xf hi0 hi1 _ _ more mf p hp0 hp1).eq rfl (by rw [hm1, hm0]))) ?_ | refine TL.st rfl (S_call_row rfl rfl rfl (by kernel_rfl) rfl ((meet_T _ _ x.i x.t X okX hi0 hi1 _ _ more mf p hp0 hp1).eq rfl (by rw [hm2, ag1])) rfl) ?_ | refine TL.st rfl (S_call rfl rfl rfl (by kernel_rfl) rfl ((meet_T _ _ x.i x.t X okX hi0 hi1 _ _ more mf p hp0 hp1).eq rfl (by rw [hm2, ag1]))) ?_ | refine TL.st rfl (S_call_row rfl rfl rfl (by kernel_rfl) rfl ((meet_T _ _ x.i x.t es xf hi0 hi1 _ _ more mf p hp0 hp1).eq rfl (by rw [meetR_of he, he])) rfl) ?_ | refine TL.st rfl (S_call rfl rfl rfl (by kernel_rfl) rfl ((meet_T _ _ x.i x.t es xf hi0 hi1 _ _ more mf p hp0 hp1).eq rfl (by rw [meetR_of he, he]))) ?_ | refine TL.st rfl (S_call_row rfl rfl rfl (by kernel_rfl) rfl ((meet_T _ _ x.i x.t es xf hi0 hi1 _ _ more mf p hp0 hp1).eq rfl (by rw [meetR_ne he])) rfl) ?_ | refine TL.st rfl (S_call rfl rfl rfl (by kernel_rfl) rfl ((meet_T _ _ x.i x.t es xf hi0 hi1 _ _ more mf p hp0 hp1).eq rfl (by rw [meetR_ne he]))) ?_
    intro σ_ hσ_; simp only [nrm, tev, St.step, putO, setsV, addO, ↓reduceIte, Nat.reduceAdd, logT, atT, intern, internL, kp_ents, fz_ents, fz_bytes, kp_bytes, logR, logE, ← List.map_take, ← List.map_drop, List.take_length, beq_self_eq_true] at hσ_; subst hσ_
    refine TL.st rfl (S_move rfl) ?_
    intro σ_ hσ_; simp only [nrm, tev, St.step, putO, setsV, addO, ↓reduceIte, Nat.reduceAdd, logT, atT, intern, internL, kp_ents, fz_ents, fz_bytes, kp_bytes, logR, logE, ← List.map_take, ← List.map_drop, List.take_length, beq_self_eq_true] at hσ_; subst hσ_
    refine TL.st rfl (S_extract rfl rfl rfl) ?_
    intro σ_ hσ_; simp only [nrm, tev, St.step, putO, setsV, addO, ↓reduceIte, Nat.reduceAdd, logT, atT, intern, internL, kp_ents, fz_ents, fz_bytes, kp_bytes, logR, logE, ← List.map_take, ← List.map_drop, List.take_length, beq_self_eq_true] at hσ_; subst hσ_
    refine TL.st rfl (S_extract rfl rfl rfl) ?_
    intro σ_ hσ_; simp only [nrm, tev, St.step, putO, setsV, addO, ↓reduceIte, Nat.reduceAdd, logT, atT, intern, internL, kp_ents, fz_ents, fz_bytes, kp_bytes, logR, logE, ← List.map_take, ← List.map_drop, List.take_length, beq_self_eq_true] at hσ_; subst hσ_
    refine TL.st rfl (S_assign rfl) ?_
    intro σ_ hσ_; simp only [nrm, tev, St.step, putO, setsV, addO, ↓reduceIte, Nat.reduceAdd, logT, atT, intern, internL, kp_ents, fz_ents, fz_bytes, kp_bytes, logR, logE, ← List.map_take, ← List.map_drop, List.take_length, beq_self_eq_true] at hσ_; subst hσ_
    refine TL.st rfl (S_assign rfl) ?_
    intro σ_ hσ_; simp only [nrm, tev, St.step, putO, setsV, addO, ↓reduceIte, Nat.reduceAdd, logT, atT, intern, internL, kp_ents, fz_ents, fz_bytes, kp_bytes, logR, logE, ← List.map_take, ← List.map_drop, List.take_length, beq_self_eq_true] at hσ_; subst hσ_
    refine TL.nil ?_
    try simp (decide := true) only [thenT, inBlockT, noGotoT, jumpT, ↓reduceIte, true_and]
    refine hK5_ _ ?_
    refine TW.seq_k ?_
    intro K49_ hK49_
    refine TW.reg ?_
    first | refine TL.st rfl (S_load rfl rfl rfl (tT rfl) rfl) ?_ | refine TL.st rfl (S_load_eptr rfl rfl (tT rfl) rfl) ?_ | refine TL.st rfl (S_load_row rfl rfl rfl rfl (by assumption) (tT rfl) rfl) ?_ | refine TL.st rfl (S_load_row (j := 0) rfl rfl rfl rfl (by assumption) (tT rfl) rfl) ?_
    intro σ_ hσ_; simp only [nrm, tev, St.step, putO, setsV, addO, ↓reduceIte, Nat.reduceAdd, logT, atT, intern, internL, kp_ents, fz_ents, fz_bytes, kp_bytes, logR, logE, ← List.map_take, ← List.map_drop, List.take_length, beq_self_eq_true] at hσ_; subst hσ_
    first | refine TL.st rfl (S_fieldAddr rfl rfl (tT rfl) rfl rfl (tT rfl) (by decide)) ?_ | refine TL.st rfl (S_fieldAddr_eptr rfl rfl (tT rfl) rfl rfl (tT rfl) (by decide)) ?_
    intro σ_ hσ_; simp only [nrm, tev, St.step, putO, setsV, addO, ↓reduceIte, Nat.reduceAdd, logT, atT, intern, internL, kp_ents, fz_ents, fz_bytes, kp_bytes, logR, logE, ← List.map_take, ← List.map_drop, List.take_length, beq_self_eq_true] at hσ_; subst hσ_
    first | refine TL.st rfl (S_load rfl rfl rfl (tT rfl) rfl) ?_ | refine TL.st rfl (S_load_eptr rfl rfl (tT rfl) rfl) ?_ | refine TL.st rfl (S_load_row rfl rfl rfl rfl (by assumption) (tT rfl) rfl) ?_ | refine TL.st rfl (S_load_row (j := 0) rfl rfl rfl rfl (by assumption) (tT rfl) rfl) ?_
    intro σ_ hσ_; simp only [nrm, tev, St.step, putO, setsV, addO, ↓reduceIte, Nat.reduceAdd, logT, atT, intern, internL, kp_ents, fz_ents, fz_bytes, kp_bytes, logR, logE, ← List.map_take, ← List.map_drop, List.take_length, beq_self_eq_true] at hσ_; subst hσ_
    refine TL.st rfl (S_move rfl) ?_
    intro σ_ hσ_; simp only [nrm, tev, St.step, putO, setsV, addO, ↓reduceIte, Nat.reduceAdd, logT, atT, intern, internL, kp_ents, fz_ents, fz_bytes, kp_bytes, logR, logE, ← List.map_take, ← List.map_drop, List.take_length, beq_self_eq_true] at hσ_; subst hσ_
    first | refine TL.st rfl (S_call_row rfl rfl rfl (by kernel_rfl) rfl ((take_T _ _ x.i x.t es xf hi0 hi1 _ _ more mf p hp0 hp1).eq rfl (by simp only [logE, hT, hTA, hX, ↓reduceIte]; rfl)) rfl) ?_ | refine TL.st rfl (S_call rfl rfl rfl (by kernel_rfl) rfl ((take_T _ _ x.i x.t es xf hi0 hi1 _ _ more mf p hp0 hp1).eq rfl (by simp only [logE, hT, hTA, hX, ↓reduceIte]; rfl))) ?_ | refine TL.st rfl (S_call_row rfl rfl rfl (by kernel_rfl) rfl ((take_T _ _ x.i x.t X okX hi0 hi1 _ _ more mf p hp0 hp1).eq rfl (by simp only [logE, tw1, tw2, hTA2, ↓reduceIte]; rfl)) rfl) ?_ | refine TL.st rfl (S_call rfl rfl rfl (by kernel_rfl) rfl ((take_T _ _ x.i x.t X okX hi0 hi1 _ _ more mf p hp0 hp1).eq rfl (by simp only [logE, tw1, tw2, hTA2, ↓reduceIte]; rfl))) ?_ | refine TL.st rfl (S_call_row rfl rfl rfl (by kernel_rfl) rfl ((take_T _ _ x.i x.t es xf hi0 hi1 _ _ more mf p hp0 hp1).eq rfl (by simp only [logE, hT, hTA, ↓reduceIte]; rfl)) rfl) ?_ | refine TL.st rfl (S_call rfl rfl rfl (by kernel_rfl) rfl ((take_T _ _ x.i x.t es xf hi0 hi1 _ _ more mf p hp0 hp1).eq rfl (by simp only [logE, hT, hTA, ↓reduceIte]; rfl))) ?_
    intro σ_ hσ_; simp only [nrm, tev, St.step, putO, setsV, addO, ↓reduceIte, Nat.reduceAdd, logT, atT, intern, internL, kp_ents, fz_ents, fz_bytes, kp_bytes, logR, logE, ← List.map_take, ← List.map_drop, List.take_length, beq_self_eq_true] at hσ_; subst hσ_
    refine TL.st rfl (S_move rfl) ?_
    intro σ_ hσ_; simp only [nrm, tev, St.step, putO, setsV, addO, ↓reduceIte, Nat.reduceAdd, logT, atT, intern, internL, kp_ents, fz_ents, fz_bytes, kp_bytes, logR, logE, ← List.map_take, ← List.map_drop, List.take_length, beq_self_eq_true] at hσ_; subst hσ_
    refine TL.st rfl (S_extract rfl rfl rfl) ?_
    intro σ_ hσ_; simp only [nrm, tev, St.step, putO, setsV, addO, ↓reduceIte, Nat.reduceAdd, logT, atT, intern, internL, kp_ents, fz_ents, fz_bytes, kp_bytes, logR, logE, ← List.map_take, ← List.map_drop, List.take_length, beq_self_eq_true] at hσ_; subst hσ_
    refine TL.st rfl (S_extract rfl rfl rfl) ?_
    intro σ_ hσ_; simp only [nrm, tev, St.step, putO, setsV, addO, ↓reduceIte, Nat.reduceAdd, logT, atT, intern, internL, kp_ents, fz_ents, fz_bytes, kp_bytes, logR, logE, ← List.map_take, ← List.map_drop, List.take_length, beq_self_eq_true] at hσ_; subst hσ_
    refine TL.st rfl (S_extract rfl rfl rfl) ?_
    intro σ_ hσ_; simp only [nrm, tev, St.step, putO, setsV, addO, ↓reduceIte, Nat.reduceAdd, logT, atT, intern, internL, kp_ents, fz_ents, fz_bytes, kp_bytes, logR, logE, ← List.map_take, ← List.map_drop, List.take_length, beq_self_eq_true] at hσ_; subst hσ_
    refine TL.st rfl (S_alloc rfl (zT rfl) rfl) ?_
    intro σ_ hσ_; simp only [nrm, tev, St.step, putO, setsV, addO, ↓reduceIte, Nat.reduceAdd, logT, atT, intern, internL, kp_ents, fz_ents, fz_bytes, kp_bytes, logR, logE, ← List.map_take, ← List.map_drop, List.take_length, beq_self_eq_true] at hσ_; subst hσ_
    first | refine TL.sto rfl rfl rfl rfl (tT rfl) rfl rfl rfl (Nat.le_of_ble_eq_true rfl) ?_ | refine TL.sto_row rfl rfl rfl rfl rfl (by assumption) (tT rfl) rfl rfl rfl (Nat.le_of_ble_eq_true rfl) ?_ | refine TL.sto_row (j := 0) rfl rfl rfl rfl rfl (by assumption) (tT rfl) rfl rfl rfl (Nat.le_of_ble_eq_true rfl) ?_
    intro σ_ hσ_; simp only [nrm, tev, St.step, putO, setsV, addO, ↓reduceIte, Nat.reduceAdd, logT, atT, intern, internL, kp_ents, fz_ents, fz_bytes, kp_bytes, logR, logE, ← List.map_take, ← List.map_drop, List.take_length, beq_self_eq_true] at hσ_; subst hσ_
    refine TL.st rfl (S_assign rfl) ?_
    intro σ_ hσ_; simp only [nrm, tev, St.step, putO, setsV, addO, ↓reduceIte, Nat.reduceAdd, logT, atT, intern, internL, kp_ents, fz_ents, fz_bytes, kp_bytes, logR, logE, ← List.map_take, ← List.map_drop, List.take_length, beq_self_eq_true] at hσ_; subst hσ_
    refine TL.st rfl (S_assign rfl) ?_
    intro σ_ hσ_; simp only [nrm, tev, St.step, putO, setsV, addO, ↓reduceIte, Nat.reduceAdd, logT, atT, intern, internL, kp_ents, fz_ents, fz_bytes, kp_bytes, logR, logE, ← List.map_take, ← List.map_drop, List.take_length, beq_self_eq_true] at hσ_; subst hσ_
    refine TL.nil ?_
    try simp (decide := true) only [thenT, inBlockT, noGotoT, jumpT, ↓reduceIte, true_and]
    refine hK49_ _ ?_
    refine TW.seq_k ?_
    intro K50_ hK50_
    refine TW.seq_k ?_
    intro K51_ hK51_
    refine TW.frz 4 rfl ?_
    intro σ_ hσ_; simp (decide := true) only [nrm, tev, St.step, putO, setsV, addO, ↓reduceIte, Nat.reduceAdd, logT, atT, intern, internL, kp_ents, fz_ents, fz_bytes, kp_bytes, logR, logE, ← List.map_take, ← List.map_drop, List.take_length, beq_self_eq_true, fz, fzL, fzLL, LB.fz, kpL, kp, bar, LB.kp, kpLL_append, kpLL, List.map_cons, List.map_nil, List.set_cons_zero, List.set_cons_succ, ↓reduceIte] at hσ_; subst hσ_
    refine TW.reg ?_
    refine TL.st rfl (S_move rfl) ?_
    intro σ_ hσ_; simp only [nrm, tev, St.step, putO, setsV, addO, ↓reduceIte, Nat.reduceAdd, logT, atT, intern, internL, kp_ents, fz_ents, fz_bytes, kp_bytes, logR, logE, ← List.map_take, ← List.map_drop, List.take_length, beq_self_eq_true] at hσ_; subst hσ_
    first | refine TL.st rfl (S_int rfl rfl rfl rfl (vnt (by omega))) ?_ | refine TL.st rfl (S_int rfl rfl rfl rfl (vnf (by omega))) ?_ | refine TL.st rfl (S_int rfl rfl rfl rfl rfl) ?_ | refine TL.st rfl (S_boolneq rfl rfl rfl rfl (tT rfl) rfl) ?_
    intro σ_ hσ_; simp only [nrm, tev, St.step, putO, setsV, addO, ↓reduceIte, Nat.reduceAdd, logT, atT, intern, internL, kp_ents, fz_ents, fz_bytes, kp_bytes, logR, logE, ← List.map_take, ← List.map_drop, List.take_length, beq_self_eq_true] at hσ_; subst hσ_
    refine TL.nil ?_
    try simp (decide := true) only [thenT, inBlockT, noGotoT, jumpT, ↓reduceIte, true_and]
    refine hK51_ _ ?_
    refine TW.cond_t rfl (rfl) ?_
    refine TW.seq_k ?_
    intro K52_ hK52_
    refine TW.reg ?_
    first | refine TL.st rfl (S_fieldAddr rfl rfl (tT rfl) rfl rfl (tT rfl) (by decide)) ?_ | refine TL.st rfl (S_fieldAddr_eptr rfl rfl (tT rfl) rfl rfl (tT rfl) (by decide)) ?_
    intro σ_ hσ_; simp only [nrm, tev, St.step, putO, setsV, addO, ↓reduceIte, Nat.reduceAdd, logT, atT, intern, internL, kp_ents, fz_ents, fz_bytes, kp_bytes, logR, logE, ← List.map_take, ← List.map_drop, List.take_length, beq_self_eq_true] at hσ_; subst hσ_
    first | refine TL.st rfl (S_load rfl rfl rfl (tT rfl) rfl) ?_ | refine TL.st rfl (S_load_eptr rfl rfl (tT rfl) rfl) ?_ | refine TL.st rfl (S_load_row rfl rfl rfl rfl (by assumption) (tT rfl) rfl) ?_ | refine TL.st rfl (S_load_row (j := 0) rfl rfl rfl rfl (by assumption) (tT rfl) rfl) ?_
    intro σ_ hσ_; simp only [nrm, tev, St.step, putO, setsV, addO, ↓reduceIte, Nat.reduceAdd, logT, atT, intern, internL, kp_ents, fz_ents, fz_bytes, kp_bytes, logR, logE, ← List.map_take, ← List.map_drop, List.take_length, beq_self_eq_true] at hσ_; subst hσ_
    first | refine TL.st rfl (S_len rfl rfl (tT rfl) rfl (.inl ⟨_, _, rfl, rfl⟩)) ?_ | refine TL.st rfl (S_len rfl rfl (tT rfl) rfl (.inr (.inl ⟨_, _, _, _, rfl, rfl, rfl⟩))) ?_ | refine TL.st rfl (S_len rfl rfl (tT rfl) rfl (.inr (.inr ⟨rfl, rfl⟩))) ?_ | refine TL.st rfl (S_len_str rfl rfl (tT rfl) rfl rfl) ?_ | refine TL.st rfl (S_len_arr rfl rfl (tT rfl) rfl) ?_
    intro σ_ hσ_; simp only [nrm, tev, St.step, putO, setsV, addO, ↓reduceIte, Nat.reduceAdd, logT, atT, intern, internL, kp_ents, fz_ents, fz_bytes, kp_bytes, logR, logE, ← List.map_take, ← List.map_drop, List.take_length, beq_self_eq_true] at hσ_; subst hσ_
    first | refine TL.st rfl (S_int rfl rfl rfl rfl (vbt (by omega))) ?_ | refine TL.st rfl (S_int rfl rfl rfl rfl (vbf (by omega))) ?_ | refine TL.st rfl (S_int rfl rfl rfl rfl rfl) ?_ | refine TL.st rfl (S_boolop rfl rfl rfl rfl (tT rfl) rfl) ?_
    intro σ_ hσ_; simp only [nrm, tev, St.step, putO, setsV, addO, ↓reduceIte, Nat.reduceAdd, logT, atT, intern, internL, kp_ents, fz_ents, fz_bytes, kp_bytes, logR, logE, ← List.map_take, ← List.map_drop, List.take_length, beq_self_eq_true] at hσ_; subst hσ_
    refine TL.st rfl (S_move rfl) ?_
    intro σ_ hσ_; simp only [nrm, tev, St.step, putO, setsV, addO, ↓reduceIte, Nat.reduceAdd, logT, atT, intern, internL, kp_ents, fz_ents, fz_bytes, kp_bytes, logR, logE, ← List.map_take, ← List.map_drop, List.take_length, beq_self_eq_true] at hσ_; subst hσ_
    first | refine TL.st_g rfl rfl rfl (Nat.le_of_ble_eq_true rfl) rfl (S_move rfl) ?_ | refine TL.sk_g rfl rfl rfl (Nat.le_of_ble_eq_true rfl) rfl rfl ?_
    intro σ_ hσ_; simp only [nrm, tev, St.step, putO, setsV, addO, ↓reduceIte, Nat.reduceAdd, logT, atT, intern, internL, kp_ents, fz_ents, fz_bytes, kp_bytes, logR, logE, ← List.map_take, ← List.map_drop, List.take_length, beq_self_eq_true] at hσ_; subst hσ_
    first | refine TL.st_g rfl rfl rfl (Nat.le_of_ble_eq_true rfl) rfl (S_int rfl rfl rfl rfl (vbt (by omega))) ?_ | refine TL.st_g rfl rfl rfl (Nat.le_of_ble_eq_true rfl) rfl (S_int rfl rfl rfl rfl (vbf (by omega))) ?_ | refine TL.st_g rfl rfl rfl (Nat.le_of_ble_eq_true rfl) rfl (S_int rfl rfl rfl rfl rfl) ?_ | refine TL.st_g rfl rfl rfl (Nat.le_of_ble_eq_true rfl) rfl (S_boolop rfl rfl rfl rfl (tT rfl) rfl) ?_ | refine TL.sk_g rfl rfl rfl (Nat.le_of_ble_eq_true rfl) rfl rfl ?_
    intro σ_ hσ_; simp only [nrm, tev, St.step, putO, setsV, addO, ↓reduceIte, Nat.reduceAdd, logT, atT, intern, internL, kp_ents, fz_ents, fz_bytes, kp_bytes, logR, logE, ← List.map_take, ← List.map_drop, List.take_length, beq_self_eq_true] at hσ_; subst hσ_
    refine TL.st rfl (S_pick rfl rfl rfl) ?_
    intro σ_ hσ_; simp only [nrm, tev, St.step, putO, setsV, addO, ↓reduceIte, Nat.reduceAdd, logT, atT, intern, internL, kp_ents, fz_ents, fz_bytes, kp_bytes, logR, logE, ← List.map_take, ← List.map_drop, List.take_length, beq_self_eq_true] at hσ_; subst hσ_
    refine TL.st rfl (S_move rfl) ?_
    intro σ_ hσ_; simp only [nrm, tev, St.step, putO, setsV, addO, ↓reduceIte, Nat.reduceAdd, logT, atT, intern, internL, kp_ents, fz_ents, fz_bytes, kp_bytes, logR, logE, ← List.map_take, ← List.map_drop, List.take_length, beq_self_eq_true] at hσ_; subst hσ_
    first | refine TL.st_g rfl rfl rfl (Nat.le_of_ble_eq_true rfl) rfl (S_move rfl) ?_ | refine TL.sk_g rfl rfl rfl (Nat.le_of_ble_eq_true rfl) rfl rfl ?_
    intro σ_ hσ_; simp only [nrm, tev, St.step, putO, setsV, addO, ↓reduceIte, Nat.reduceAdd, logT, atT, intern, internL, kp_ents, fz_ents, fz_bytes, kp_bytes, logR, logE, ← List.map_take, ← List.map_drop, List.take_length, beq_self_eq_true] at hσ_; subst hσ_
    first | refine TL.st_g rfl rfl rfl (Nat.le_of_ble_eq_true rfl) rfl (S_int rfl rfl rfl rfl (vbt (by omega))) ?_ | refine TL.st_g rfl rfl rfl (Nat.le_of_ble_eq_true rfl) rfl (S_int rfl rfl rfl rfl (vbf (by omega))) ?_ | refine TL.st_g rfl rfl rfl (Nat.le_of_ble_eq_true rfl) rfl (S_int rfl rfl rfl rfl rfl) ?_ | refine TL.st_g rfl rfl rfl (Nat.le_of_ble_eq_true rfl) rfl (S_boolop rfl rfl rfl rfl (tT rfl) rfl) ?_ | refine TL.sk_g rfl rfl rfl (Nat.le_of_ble_eq_true rfl) rfl rfl ?_
    intro σ_ hσ_; simp only [nrm, tev, St.step, putO, setsV, addO, ↓reduceIte, Nat.reduceAdd, logT, atT, intern, internL, kp_ents, fz_ents, fz_bytes, kp_bytes, logR, logE, ← List.map_take, ← List.map_drop, List.take_length, beq_self_eq_true] at hσ_; subst hσ_
    first | refine TL.st_g rfl rfl rfl (Nat.le_of_ble_eq_true rfl) rfl (S_move rfl) ?_ | refine TL.sk_g rfl rfl rfl (Nat.le_of_ble_eq_true rfl) rfl rfl ?_
    intro σ_ hσ_; simp only [nrm, tev, St.step, putO, setsV, addO, ↓reduceIte, Nat.reduceAdd, logT, atT, intern, internL, kp_ents, fz_ents, fz_bytes, kp_bytes, logR, logE, ← List.map_take, ← List.map_drop, List.take_length, beq_self_eq_true] at hσ_; subst hσ_
    first | refine TL.st_g rfl rfl rfl (Nat.le_of_ble_eq_true rfl) rfl (S_move rfl) ?_ | refine TL.sk_g rfl rfl rfl (Nat.le_of_ble_eq_true rfl) rfl rfl ?_
    intro σ_ hσ_; simp only [nrm, tev, St.step, putO, setsV, addO, ↓reduceIte, Nat.reduceAdd, logT, atT, intern, internL, kp_ents, fz_ents, fz_bytes, kp_bytes, logR, logE, ← List.map_take, ← List.map_drop, List.take_length, beq_self_eq_true] at hσ_; subst hσ_
    first | refine TL.st_g rfl rfl rfl (Nat.le_of_ble_eq_true rfl) rfl (S_move rfl) ?_ | refine TL.sk_g rfl rfl rfl (Nat.le_of_ble_eq_true rfl) rfl rfl ?_
    intro σ_ hσ_; simp only [nrm, tev, St.step, putO, setsV, addO, ↓reduceIte, Nat.reduceAdd, logT, atT, intern, internL, kp_ents, fz_ents, fz_bytes, kp_bytes, logR, logE, ← List.map_take, ← List.map_drop, List.take_length, beq_self_eq_true] at hσ_; subst hσ_
    first | refine TL.st_g rfl rfl rfl (Nat.le_of_ble_eq_true rfl) rfl (S_int rfl rfl rfl rfl (vbt (by omega))) ?_ | refine TL.st_g rfl rfl rfl (Nat.le_of_ble_eq_true rfl) rfl (S_int rfl rfl rfl rfl (vbf (by omega))) ?_ | refine TL.st_g rfl rfl rfl (Nat.le_of_ble_eq_true rfl) rfl (S_int rfl rfl rfl rfl rfl) ?_ | refine TL.st_g rfl rfl rfl (Nat.le_of_ble_eq_true rfl) rfl (S_boolop rfl rfl rfl rfl (tT rfl) rfl) ?_ | refine TL.sk_g rfl rfl rfl (Nat.le_of_ble_eq_true rfl) rfl rfl ?_
    intro σ_ hσ_; simp only [nrm, tev, St.step, putO, setsV, addO, ↓reduceIte, Nat.reduceAdd, logT, atT, intern, internL, kp_ents, fz_ents, fz_bytes, kp_bytes, logR, logE, ← List.map_take, ← List.map_drop, List.take_length, beq_self_eq_true] at hσ_; subst hσ_
    first | refine TL.st_g rfl rfl rfl (Nat.le_of_ble_eq_true rfl) rfl (S_pick rfl rfl rfl) ?_ | refine TL.sk_g rfl rfl rfl (Nat.le_of_ble_eq_true rfl) rfl rfl ?_
    intro σ_ hσ_; simp only [nrm, tev, St.step, putO, setsV, addO, ↓reduceIte, Nat.reduceAdd, logT, atT, intern, internL, kp_ents, fz_ents, fz_bytes, kp_bytes, logR, logE, ← List.map_take, ← List.map_drop, List.take_length, beq_self_eq_true] at hσ_; subst hσ_
    refine TL.st rfl (S_pick rfl rfl rfl) ?_
    intro σ_ hσ_; simp only [nrm, tev, St.step, putO, setsV, addO, ↓reduceIte, Nat.reduceAdd, logT, atT, intern, internL, kp_ents, fz_ents, fz_bytes, kp_bytes, logR, logE, ← List.map_take, ← List.map_drop, List.take_length, beq_self_eq_true] at hσ_; subst hσ_
    refine TL.st rfl (S_assign rfl) ?_
    intro σ_ hσ_; simp only [nrm, tev, St.step, putO, setsV, addO, ↓reduceIte, Nat.reduceAdd, logT, atT, intern, internL, kp_ents, fz_ents, fz_bytes, kp_bytes, logR, logE, ← List.map_take, ← List.map_drop, List.take_length, beq_self_eq_true] at hσ_; subst hσ_
    refine TL.nil ?_
    try simp (decide := true) only [thenT, inBlockT, noGotoT, jumpT, ↓reduceIte, true_and]
    refine hK52_ _ ?_
    refine TW.ret ?_
    try simp (decide := true) only [thenT, inBlockT, noGotoT, jumpT, ↓reduceIte, true_and]
    refine ⟨.inr rfl, _, none, (ResT.one Try.results8 rfl), ?_, (by rintro _ ⟨⟩)⟩
    simp only [nrm, tev, Out_v, Out_agg, Out_tup, OutL_nil, OutL_cons, Out_sl, Out_row_osl, Out_nil_osl, Out_nil_sl, Out_nil_nil, and_true, true_and, logT, atT, logR, logE, fr_ents, hf, List.getD_cons_zero, List.getD_cons_succ]
    done

end Go.Proofs.Ytpckkajodpiiaaa
