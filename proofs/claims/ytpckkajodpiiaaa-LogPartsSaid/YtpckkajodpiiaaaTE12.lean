/- What is cut off a log, and what is given up: the walk. No condition. -/
import Derived.Test.YtpckkajodpiiaaaTEB
import Derived.Test.YtpckkajodpiiaaaTP2
namespace Go.Proofs.Ytpckkajodpiiaaa
open Go.RowKit
set_option linter.unusedVariables false
set_option linter.unusedSimpArgs false


set_option maxRecDepth 20000 in
set_option maxHeartbeats 1000000 in
theorem logParts_T (b : Bool) (x : LogA) (xok : x.Ok) (y : Int) (hy0 : 0 ≤ y) (hy1 : y < 18446744073709551616) :
    TMeets Try.prog 9 [.agg (logC b x), .v (.int .u64 y)] (.v (.bool true)) := by
  refine TMeets.of_TW Try.func9 rfl (by simp [PuL, Pu, logT, atT, pu_ents, entC, pu_bytes, logC]) ?_
  intro B w0
  rw [Try.ntmps9]
  simp only [untagL, untag, List.length_cons, List.length_nil, List.replicate_succ, List.replicate_zero, Nat.reduceAdd, Nat.reduceSub, List.cons_append, List.nil_append, logT, atT, untag_ents, untag_bytes, entC, logC]
  have xf := few_ok xok.w
  obtain ⟨es, hes⟩ : ∃ es, fewL x.es = es := ⟨_, rfl⟩
  have hsz1 := few_small x.es
  rw [hes] at xf hsz1
  have hi0 := xok.i0
  have hi1 := xok.i1
  have ht0 := xok.t0
  have ht1 := xok.t1
  refine TW.seq_k ?_
  intro K1_ hK1_
  refine TW.reg ?_
  refine TL.st rfl (S_box rfl rfl) ?_
  intro σ_ hσ_; simp only [nrm, tev, St.step, putO, setsV, addO, ↓reduceIte, Nat.reduceAdd, logT, atT, intern, internL, kp_ents, fz_ents, fz_bytes, kp_bytes, logR, logE, ← List.map_take, ← List.map_drop, List.take_length, beq_self_eq_true, eq_self, decide_true, Bool.and_self] at hσ_; subst hσ_
  refine TL.st rfl (S_assign rfl) ?_
  intro σ_ hσ_; simp only [nrm, tev, St.step, putO, setsV, addO, ↓reduceIte, Nat.reduceAdd, logT, atT, intern, internL, kp_ents, fz_ents, fz_bytes, kp_bytes, logR, logE, ← List.map_take, ← List.map_drop, List.take_length, beq_self_eq_true, eq_self, decide_true, Bool.and_self] at hσ_; subst hσ_
  refine TL.nil ?_
  try simp (decide := true) only [thenT, inBlockT, noGotoT, jumpT, ↓reduceIte, true_and]
  refine hK1_ _ ?_
  refine TW.seq_k ?_
  intro K2_ hK2_
  refine TW.seq_k ?_
  intro K3_ hK3_
  refine TW.reg ?_
  first | refine TL.st rfl (S_call_row rfl rfl rfl (by kernel_rfl) rfl (wakes_T) rfl) ?_ | refine TL.st rfl (S_call rfl rfl rfl (by kernel_rfl) rfl (wakes_T)) ?_
  intro σ_ hσ_; simp only [nrm, tev, St.step, putO, setsV, addO, ↓reduceIte, Nat.reduceAdd, logT, atT, intern, internL, kp_ents, fz_ents, fz_bytes, kp_bytes, logR, logE, ← List.map_take, ← List.map_drop, List.take_length, beq_self_eq_true, eq_self, decide_true, Bool.and_self] at hσ_; subst hσ_
  first | refine TL.st rfl (S_not rfl rfl) ?_ | refine TL.st rfl (S_neg rfl rfl) ?_
  intro σ_ hσ_; simp only [nrm, tev, St.step, putO, setsV, addO, ↓reduceIte, Nat.reduceAdd, logT, atT, intern, internL, kp_ents, fz_ents, fz_bytes, kp_bytes, logR, logE, ← List.map_take, ← List.map_drop, List.take_length, beq_self_eq_true, eq_self, decide_true, Bool.and_self] at hσ_; subst hσ_
  refine TL.nil ?_
  try simp (decide := true) only [thenT, inBlockT, noGotoT, jumpT, ↓reduceIte, true_and]
  refine hK3_ _ ?_
  refine TW.cond_f rfl (rfl) ?_
  refine TW.skip ?_
  try simp (decide := true) only [thenT, inBlockT, noGotoT, jumpT, ↓reduceIte, true_and]
  refine hK2_ _ ?_
  refine TW.seq_k ?_
  intro K4_ hK4_
  refine TW.reg ?_
  first | refine TL.st rfl (S_load rfl rfl rfl (tT rfl) rfl) ?_ | refine TL.st rfl (S_load_eptr rfl rfl (tT rfl) rfl) ?_ | refine TL.st rfl (S_load_row rfl rfl rfl rfl (by assumption) (tT rfl) rfl) ?_ | refine TL.st rfl (S_load_row (j := 0) rfl rfl rfl rfl (by assumption) (tT rfl) rfl) ?_
  intro σ_ hσ_; simp only [nrm, tev, St.step, putO, setsV, addO, ↓reduceIte, Nat.reduceAdd, logT, atT, intern, internL, kp_ents, fz_ents, fz_bytes, kp_bytes, logR, logE, ← List.map_take, ← List.map_drop, List.take_length, beq_self_eq_true, eq_self, decide_true, Bool.and_self] at hσ_; subst hσ_
  first | refine TL.st rfl (S_call_row rfl rfl rfl (by kernel_rfl) rfl ((own_T _ _ x.i x.t x.es xok.n).eq rfl (by rw [hes])) rfl) ?_ | refine TL.st rfl (S_call rfl rfl rfl (by kernel_rfl) rfl ((own_T _ _ x.i x.t x.es xok.n).eq rfl (by rw [hes]))) ?_
  intro σ_ hσ_; simp only [nrm, tev, St.step, putO, setsV, addO, ↓reduceIte, Nat.reduceAdd, logT, atT, intern, internL, kp_ents, fz_ents, fz_bytes, kp_bytes, logR, logE, ← List.map_take, ← List.map_drop, List.take_length, beq_self_eq_true, eq_self, decide_true, Bool.and_self] at hσ_; subst hσ_
  first | refine TL.sto rfl rfl rfl rfl (tT rfl) rfl rfl rfl (Nat.le_of_ble_eq_true rfl) ?_ | refine TL.sto_row rfl rfl rfl rfl rfl (by assumption) (tT rfl) rfl rfl rfl (Nat.le_of_ble_eq_true rfl) ?_ | refine TL.sto_row (j := 0) rfl rfl rfl rfl rfl (by assumption) (tT rfl) rfl rfl rfl (Nat.le_of_ble_eq_true rfl) ?_
  intro σ_ hσ_; simp only [nrm, tev, St.step, putO, setsV, addO, ↓reduceIte, Nat.reduceAdd, logT, atT, intern, internL, kp_ents, fz_ents, fz_bytes, kp_bytes, logR, logE, ← List.map_take, ← List.map_drop, List.take_length, beq_self_eq_true, eq_self, decide_true, Bool.and_self] at hσ_; subst hσ_
  refine TL.nil ?_
  try simp (decide := true) only [thenT, inBlockT, noGotoT, jumpT, ↓reduceIte, true_and]
  refine hK4_ _ ?_
  refine TW.seq_k ?_
  intro K5_ hK5_
  refine TW.seq_k ?_
  intro K6_ hK6_
  cases hm : mayB x.i x.t es
  · skip
    refine TW.reg ?_
    first | refine TL.st rfl (S_load rfl rfl rfl (tT rfl) rfl) ?_ | refine TL.st rfl (S_load_eptr rfl rfl (tT rfl) rfl) ?_ | refine TL.st rfl (S_load_row rfl rfl rfl rfl (by assumption) (tT rfl) rfl) ?_ | refine TL.st rfl (S_load_row (j := 0) rfl rfl rfl rfl (by assumption) (tT rfl) rfl) ?_
    intro σ_ hσ_; simp only [nrm, tev, St.step, putO, setsV, addO, ↓reduceIte, Nat.reduceAdd, logT, atT, intern, internL, kp_ents, fz_ents, fz_bytes, kp_bytes, logR, logE, ← List.map_take, ← List.map_drop, List.take_length, beq_self_eq_true, eq_self, decide_true, Bool.and_self] at hσ_; subst hσ_
    first | refine TL.st rfl (S_call_row rfl rfl rfl (by kernel_rfl) rfl ((may6_T _ _ x.i x.t es xf hi0 hi1 ht0 ht1).eq rfl (by rw [hm])) rfl) ?_ | refine TL.st rfl (S_call rfl rfl rfl (by kernel_rfl) rfl ((may6_T _ _ x.i x.t es xf hi0 hi1 ht0 ht1).eq rfl (by rw [hm]))) ?_ | refine TL.st rfl (S_call_row rfl rfl rfl (by kernel_rfl) rfl ((may6_T _ _ x.i x.t (es.take k) okX hi0 hi1 ht0 ht1).eq rfl (by rw [hhd])) rfl) ?_ | refine TL.st rfl (S_call rfl rfl rfl (by kernel_rfl) rfl ((may6_T _ _ x.i x.t (es.take k) okX hi0 hi1 ht0 ht1).eq rfl (by rw [hhd]))) ?_ | refine TL.st rfl (S_call_row rfl rfl rfl (by kernel_rfl) rfl ((may6_T _ _ (x.i + j) (tm x.t es j) (es.drop j) okZ hj0 hj1 htm.1 htm.2).eq rfl (by rw [htl])) rfl) ?_ | refine TL.st rfl (S_call rfl rfl rfl (by kernel_rfl) rfl ((may6_T _ _ (x.i + j) (tm x.t es j) (es.drop j) okZ hj0 hj1 htm.1 htm.2).eq rfl (by rw [htl]))) ?_
    intro σ_ hσ_; simp only [nrm, tev, St.step, putO, setsV, addO, ↓reduceIte, Nat.reduceAdd, logT, atT, intern, internL, kp_ents, fz_ents, fz_bytes, kp_bytes, logR, logE, ← List.map_take, ← List.map_drop, List.take_length, beq_self_eq_true, eq_self, decide_true, Bool.and_self] at hσ_; subst hσ_
    first | refine TL.st rfl (S_not rfl rfl) ?_ | refine TL.st rfl (S_neg rfl rfl) ?_
    intro σ_ hσ_; simp only [nrm, tev, St.step, putO, setsV, addO, ↓reduceIte, Nat.reduceAdd, logT, atT, intern, internL, kp_ents, fz_ents, fz_bytes, kp_bytes, logR, logE, ← List.map_take, ← List.map_drop, List.take_length, beq_self_eq_true, eq_self, decide_true, Bool.and_self] at hσ_; subst hσ_
    refine TL.nil ?_
    try simp (decide := true) only [thenT, inBlockT, noGotoT, jumpT, ↓reduceIte, true_and]
    refine hK6_ _ ?_
    refine TW.cond_t rfl (rfl) ?_
    refine TW.seq_k ?_
    intro K7_ hK7_
    refine TW.reg ?_
    refine TL.st rfl (S_assign rfl) ?_
    intro σ_ hσ_; simp only [nrm, tev, St.step, putO, setsV, addO, ↓reduceIte, Nat.reduceAdd, logT, atT, intern, internL, kp_ents, fz_ents, fz_bytes, kp_bytes, logR, logE, ← List.map_take, ← List.map_drop, List.take_length, beq_self_eq_true, eq_self, decide_true, Bool.and_self] at hσ_; subst hσ_
    refine TL.nil ?_
    try simp (decide := true) only [thenT, inBlockT, noGotoT, jumpT, ↓reduceIte, true_and]
    refine hK7_ _ ?_
    refine TW.ret ?_
    try simp (decide := true) only [thenT, inBlockT, noGotoT, jumpT, ↓reduceIte, true_and]
    refine ⟨.inr rfl, _, none, (ResT.one Try.results9 rfl), ?_, (by rintro _ ⟨⟩)⟩
    simp only [nrm, tev, Out_v, Out_agg, Out_tup, OutL_nil, OutL_cons, Out_sl, Out_row_osl, Out_nil_osl, Out_nil_sl, Out_nil_nil, and_true, true_and, logT, atT, logR, logE, fr_ents, hf, List.getD_cons_zero, List.getD_cons_succ]
    done
  · skip
    have hla := last_at hi0 hm
    have hmr := may_room hm
    refine TW.reg ?_
    first | refine TL.st rfl (S_load rfl rfl rfl (tT rfl) rfl) ?_ | refine TL.st rfl (S_load_eptr rfl rfl (tT rfl) rfl) ?_ | refine TL.st rfl (S_load_row rfl rfl rfl rfl (by assumption) (tT rfl) rfl) ?_ | refine TL.st rfl (S_load_row (j := 0) rfl rfl rfl rfl (by assumption) (tT rfl) rfl) ?_
    intro σ_ hσ_; simp only [nrm, tev, St.step, putO, setsV, addO, ↓reduceIte, Nat.reduceAdd, logT, atT, intern, internL, kp_ents, fz_ents, fz_bytes, kp_bytes, logR, logE, ← List.map_take, ← List.map_drop, List.take_length, beq_self_eq_true, eq_self, decide_true, Bool.and_self] at hσ_; subst hσ_
    first | refine TL.st rfl (S_call_row rfl rfl rfl (by kernel_rfl) rfl ((may6_T _ _ x.i x.t es xf hi0 hi1 ht0 ht1).eq rfl (by rw [hm])) rfl) ?_ | refine TL.st rfl (S_call rfl rfl rfl (by kernel_rfl) rfl ((may6_T _ _ x.i x.t es xf hi0 hi1 ht0 ht1).eq rfl (by rw [hm]))) ?_ | refine TL.st rfl (S_call_row rfl rfl rfl (by kernel_rfl) rfl ((may6_T _ _ x.i x.t (es.take k) okX hi0 hi1 ht0 ht1).eq rfl (by rw [hhd])) rfl) ?_ | refine TL.st rfl (S_call rfl rfl rfl (by kernel_rfl) rfl ((may6_T _ _ x.i x.t (es.take k) okX hi0 hi1 ht0 ht1).eq rfl (by rw [hhd]))) ?_ | refine TL.st rfl (S_call_row rfl rfl rfl (by kernel_rfl) rfl ((may6_T _ _ (x.i + j) (tm x.t es j) (es.drop j) okZ hj0 hj1 htm.1 htm.2).eq rfl (by rw [htl])) rfl) ?_ | refine TL.st rfl (S_call rfl rfl rfl (by kernel_rfl) rfl ((may6_T _ _ (x.i + j) (tm x.t es j) (es.drop j) okZ hj0 hj1 htm.1 htm.2).eq rfl (by rw [htl]))) ?_
    intro σ_ hσ_; simp only [nrm, tev, St.step, putO, setsV, addO, ↓reduceIte, Nat.reduceAdd, logT, atT, intern, internL, kp_ents, fz_ents, fz_bytes, kp_bytes, logR, logE, ← List.map_take, ← List.map_drop, List.take_length, beq_self_eq_true, eq_self, decide_true, Bool.and_self] at hσ_; subst hσ_
    first | refine TL.st rfl (S_not rfl rfl) ?_ | refine TL.st rfl (S_neg rfl rfl) ?_
    intro σ_ hσ_; simp only [nrm, tev, St.step, putO, setsV, addO, ↓reduceIte, Nat.reduceAdd, logT, atT, intern, internL, kp_ents, fz_ents, fz_bytes, kp_bytes, logR, logE, ← List.map_take, ← List.map_drop, List.take_length, beq_self_eq_true, eq_self, decide_true, Bool.and_self] at hσ_; subst hσ_
    refine TL.nil ?_
    try simp (decide := true) only [thenT, inBlockT, noGotoT, jumpT, ↓reduceIte, true_and]
    refine hK6_ _ ?_
    refine TW.cond_f rfl (rfl) ?_
    refine TW.skip ?_
    try simp (decide := true) only [thenT, inBlockT, noGotoT, jumpT, ↓reduceIte, true_and]
    refine hK5_ _ ?_
    refine TW.seq_k ?_
    intro K8_ hK8_
    rcases ahead_cases x.i x.t es y with ⟨k, hkn, hk, hk1, hk2, hk3⟩ | ⟨e, he, hk⟩
    · skip
      have hcE : (aheadN x.i x.t es y).2 = 0 := by rw [hk]
      have hcL : cutL x.i x.t es y = es.take k := by rw [cutL, hk]; rfl
      have hfE : fromE x.i x.t es y 16 = 0 := by rw [fromE, hcE]; rfl
      have hfA : fromA x.i x.t es y 16 = (x.i + k, tm x.t es k) := by rw [fromA, if_pos hfE, hk]; exact spot_in hi0 hm hkn
      have hfL : fromL x.i x.t es y 16 = es.drop k := by
        rw [fromL, if_pos hfE, hk]
        exact List.take_of_length_le (by have := (may_room hm).2; simp; omega)
      have okX := xf.take k
      have hCut : TV.tup [logE (aheadN x.i x.t es y).2 x.i x.t (cutL x.i x.t es y), .v (.int .i64 (aheadN x.i x.t es y).2)] = .tup [logR x.i x.t (es.take k), .v (.int .i64 0)] := by rw [hcE, hcL]; rfl
      have okY := xf.drop k
      have hhd := may_head hi0 hm hkn
      have hb1 := (back_E hi0 hm hkn).1
      have hb2 := (back_E hi0 hm hkn).2
      have hlh := last_head hi0 hm hkn
      have hb3 : endN 0 x.i x.t es = (x.i + es.length, tm x.t es es.length) := by rw [hb1, List.take_append_drop] at hb2; exact hb2
      refine TW.reg ?_
      first | refine TL.st rfl (S_load rfl rfl rfl (tT rfl) rfl) ?_ | refine TL.st rfl (S_load_eptr rfl rfl (tT rfl) rfl) ?_ | refine TL.st rfl (S_load_row rfl rfl rfl rfl (by assumption) (tT rfl) rfl) ?_ | refine TL.st rfl (S_load_row (j := 0) rfl rfl rfl rfl (by assumption) (tT rfl) rfl) ?_
      intro σ_ hσ_; simp only [nrm, tev, St.step, putO, setsV, addO, ↓reduceIte, Nat.reduceAdd, logT, atT, intern, internL, kp_ents, fz_ents, fz_bytes, kp_bytes, logR, logE, ← List.map_take, ← List.map_drop, List.take_length, beq_self_eq_true, eq_self, decide_true, Bool.and_self] at hσ_; subst hσ_
      refine TL.st rfl (S_move rfl) ?_
      intro σ_ hσ_; simp only [nrm, tev, St.step, putO, setsV, addO, ↓reduceIte, Nat.reduceAdd, logT, atT, intern, internL, kp_ents, fz_ents, fz_bytes, kp_bytes, logR, logE, ← List.map_take, ← List.map_drop, List.take_length, beq_self_eq_true, eq_self, decide_true, Bool.and_self] at hσ_; subst hσ_
      first | refine TL.st rfl (S_call_row rfl rfl rfl (by kernel_rfl) rfl ((cut_T _ _ x.i x.t es xf hi0 hi1 y hy0 hy1).eq rfl hCut) rfl) ?_ | refine TL.st rfl (S_call rfl rfl rfl (by kernel_rfl) rfl ((cut_T _ _ x.i x.t es xf hi0 hi1 y hy0 hy1).eq rfl hCut)) ?_
      intro σ_ hσ_; simp only [nrm, tev, St.step, putO, setsV, addO, ↓reduceIte, Nat.reduceAdd, logT, atT, intern, internL, kp_ents, fz_ents, fz_bytes, kp_bytes, logR, logE, ← List.map_take, ← List.map_drop, List.take_length, beq_self_eq_true, eq_self, decide_true, Bool.and_self] at hσ_; subst hσ_
      refine TL.st rfl (S_move rfl) ?_
      intro σ_ hσ_; simp only [nrm, tev, St.step, putO, setsV, addO, ↓reduceIte, Nat.reduceAdd, logT, atT, intern, internL, kp_ents, fz_ents, fz_bytes, kp_bytes, logR, logE, ← List.map_take, ← List.map_drop, List.take_length, beq_self_eq_true, eq_self, decide_true, Bool.and_self] at hσ_; subst hσ_
      refine TL.st rfl (S_extract rfl rfl rfl) ?_
      intro σ_ hσ_; simp only [nrm, tev, St.step, putO, setsV, addO, ↓reduceIte, Nat.reduceAdd, logT, atT, intern, internL, kp_ents, fz_ents, fz_bytes, kp_bytes, logR, logE, ← List.map_take, ← List.map_drop, List.take_length, beq_self_eq_true, eq_self, decide_true, Bool.and_self] at hσ_; subst hσ_
      refine TL.st rfl (S_extract rfl rfl rfl) ?_
      intro σ_ hσ_; simp only [nrm, tev, St.step, putO, setsV, addO, ↓reduceIte, Nat.reduceAdd, logT, atT, intern, internL, kp_ents, fz_ents, fz_bytes, kp_bytes, logR, logE, ← List.map_take, ← List.map_drop, List.take_length, beq_self_eq_true, eq_self, decide_true, Bool.and_self] at hσ_; subst hσ_
      refine TL.st rfl (S_alloc rfl (zT rfl) rfl) ?_
      intro σ_ hσ_; simp only [nrm, tev, St.step, putO, setsV, addO, ↓reduceIte, Nat.reduceAdd, logT, atT, intern, internL, kp_ents, fz_ents, fz_bytes, kp_bytes, logR, logE, ← List.map_take, ← List.map_drop, List.take_length, beq_self_eq_true, eq_self, decide_true, Bool.and_self] at hσ_; subst hσ_
      first | refine TL.sto rfl rfl rfl rfl (tT rfl) rfl rfl rfl (Nat.le_of_ble_eq_true rfl) ?_ | refine TL.sto_row rfl rfl rfl rfl rfl (by assumption) (tT rfl) rfl rfl rfl (Nat.le_of_ble_eq_true rfl) ?_ | refine TL.sto_row (j := 0) rfl rfl rfl rfl rfl (by assumption) (tT rfl) rfl rfl rfl (Nat.le_of_ble_eq_true rfl) ?_
      intro σ_ hσ_; simp only [nrm, tev, St.step, putO, setsV, addO, ↓reduceIte, Nat.reduceAdd, logT, atT, intern, internL, kp_ents, fz_ents, fz_bytes, kp_bytes, logR, logE, ← List.map_take, ← List.map_drop, List.take_length, beq_self_eq_true, eq_self, decide_true, Bool.and_self] at hσ_; subst hσ_
      refine TL.st rfl (S_assign rfl) ?_
      intro σ_ hσ_; simp only [nrm, tev, St.step, putO, setsV, addO, ↓reduceIte, Nat.reduceAdd, logT, atT, intern, internL, kp_ents, fz_ents, fz_bytes, kp_bytes, logR, logE, ← List.map_take, ← List.map_drop, List.take_length, beq_self_eq_true, eq_self, decide_true, Bool.and_self] at hσ_; subst hσ_
      refine TL.nil ?_
      try simp (decide := true) only [thenT, inBlockT, noGotoT, jumpT, ↓reduceIte, true_and]
      refine hK8_ _ ?_
      refine TW.seq_k ?_
      intro K9_ hK9_
      refine TW.reg ?_
      first | refine TL.st rfl (S_load rfl rfl rfl (tT rfl) rfl) ?_ | refine TL.st rfl (S_load_eptr rfl rfl (tT rfl) rfl) ?_ | refine TL.st rfl (S_load_row rfl rfl rfl rfl (by assumption) (tT rfl) rfl) ?_ | refine TL.st rfl (S_load_row (j := 0) rfl rfl rfl rfl (by assumption) (tT rfl) rfl) ?_
      intro σ_ hσ_; simp only [nrm, tev, St.step, putO, setsV, addO, ↓reduceIte, Nat.reduceAdd, logT, atT, intern, internL, kp_ents, fz_ents, fz_bytes, kp_bytes, logR, logE, ← List.map_take, ← List.map_drop, List.take_length, beq_self_eq_true, eq_self, decide_true, Bool.and_self] at hσ_; subst hσ_
      refine TL.st rfl (S_move rfl) ?_
      intro σ_ hσ_; simp only [nrm, tev, St.step, putO, setsV, addO, ↓reduceIte, Nat.reduceAdd, logT, atT, intern, internL, kp_ents, fz_ents, fz_bytes, kp_bytes, logR, logE, ← List.map_take, ← List.map_drop, List.take_length, beq_self_eq_true, eq_self, decide_true, Bool.and_self] at hσ_; subst hσ_
      first | refine TL.st rfl (S_call_row rfl rfl rfl (by kernel_rfl) rfl ((from_T _ _ x.i x.t es xf hi0 hi1 y hy0 hy1 16 (by omega)).eq rfl (by rw [hfE, hfA, hfL])) rfl) ?_ | refine TL.st rfl (S_call rfl rfl rfl (by kernel_rfl) rfl ((from_T _ _ x.i x.t es xf hi0 hi1 y hy0 hy1 16 (by omega)).eq rfl (by rw [hfE, hfA, hfL]))) ?_
      intro σ_ hσ_; simp only [nrm, tev, St.step, putO, setsV, addO, ↓reduceIte, Nat.reduceAdd, logT, atT, intern, internL, kp_ents, fz_ents, fz_bytes, kp_bytes, logR, logE, ← List.map_take, ← List.map_drop, List.take_length, beq_self_eq_true, eq_self, decide_true, Bool.and_self] at hσ_; subst hσ_
      refine TL.st rfl (S_move rfl) ?_
      intro σ_ hσ_; simp only [nrm, tev, St.step, putO, setsV, addO, ↓reduceIte, Nat.reduceAdd, logT, atT, intern, internL, kp_ents, fz_ents, fz_bytes, kp_bytes, logR, logE, ← List.map_take, ← List.map_drop, List.take_length, beq_self_eq_true, eq_self, decide_true, Bool.and_self] at hσ_; subst hσ_
      refine TL.st rfl (S_extract rfl rfl rfl) ?_
      intro σ_ hσ_; simp only [nrm, tev, St.step, putO, setsV, addO, ↓reduceIte, Nat.reduceAdd, logT, atT, intern, internL, kp_ents, fz_ents, fz_bytes, kp_bytes, logR, logE, ← List.map_take, ← List.map_drop, List.take_length, beq_self_eq_true, eq_self, decide_true, Bool.and_self] at hσ_; subst hσ_
      refine TL.st rfl (S_extract rfl rfl rfl) ?_
      intro σ_ hσ_; simp only [nrm, tev, St.step, putO, setsV, addO, ↓reduceIte, Nat.reduceAdd, logT, atT, intern, internL, kp_ents, fz_ents, fz_bytes, kp_bytes, logR, logE, ← List.map_take, ← List.map_drop, List.take_length, beq_self_eq_true, eq_self, decide_true, Bool.and_self] at hσ_; subst hσ_
      refine TL.st rfl (S_extract rfl rfl rfl) ?_
      intro σ_ hσ_; simp only [nrm, tev, St.step, putO, setsV, addO, ↓reduceIte, Nat.reduceAdd, logT, atT, intern, internL, kp_ents, fz_ents, fz_bytes, kp_bytes, logR, logE, ← List.map_take, ← List.map_drop, List.take_length, beq_self_eq_true, eq_self, decide_true, Bool.and_self] at hσ_; subst hσ_
      refine TL.st rfl (S_alloc rfl (zT rfl) rfl) ?_
      intro σ_ hσ_; simp only [nrm, tev, St.step, putO, setsV, addO, ↓reduceIte, Nat.reduceAdd, logT, atT, intern, internL, kp_ents, fz_ents, fz_bytes, kp_bytes, logR, logE, ← List.map_take, ← List.map_drop, List.take_length, beq_self_eq_true, eq_self, decide_true, Bool.and_self] at hσ_; subst hσ_
      first | refine TL.sto rfl rfl rfl rfl (tT rfl) rfl rfl rfl (Nat.le_of_ble_eq_true rfl) ?_ | refine TL.sto_row rfl rfl rfl rfl rfl (by assumption) (tT rfl) rfl rfl rfl (Nat.le_of_ble_eq_true rfl) ?_ | refine TL.sto_row (j := 0) rfl rfl rfl rfl rfl (by assumption) (tT rfl) rfl rfl rfl (Nat.le_of_ble_eq_true rfl) ?_
      intro σ_ hσ_; simp only [nrm, tev, St.step, putO, setsV, addO, ↓reduceIte, Nat.reduceAdd, logT, atT, intern, internL, kp_ents, fz_ents, fz_bytes, kp_bytes, logR, logE, ← List.map_take, ← List.map_drop, List.take_length, beq_self_eq_true, eq_self, decide_true, Bool.and_self] at hσ_; subst hσ_
      refine TL.st rfl (S_assign rfl) ?_
      intro σ_ hσ_; simp only [nrm, tev, St.step, putO, setsV, addO, ↓reduceIte, Nat.reduceAdd, logT, atT, intern, internL, kp_ents, fz_ents, fz_bytes, kp_bytes, logR, logE, ← List.map_take, ← List.map_drop, List.take_length, beq_self_eq_true, eq_self, decide_true, Bool.and_self] at hσ_; subst hσ_
      refine TL.st rfl (S_assign rfl) ?_
      intro σ_ hσ_; simp only [nrm, tev, St.step, putO, setsV, addO, ↓reduceIte, Nat.reduceAdd, logT, atT, intern, internL, kp_ents, fz_ents, fz_bytes, kp_bytes, logR, logE, ← List.map_take, ← List.map_drop, List.take_length, beq_self_eq_true, eq_self, decide_true, Bool.and_self] at hσ_; subst hσ_
      refine TL.nil ?_
      try simp (decide := true) only [thenT, inBlockT, noGotoT, jumpT, ↓reduceIte, true_and]
      refine hK9_ _ ?_
      refine TW.seq_k ?_
      intro K10_ hK10_
      refine TW.seq_k ?_
      intro K11_ hK11_
      refine TW.reg ?_
      refine TL.st rfl (S_move rfl) ?_
      intro σ_ hσ_; simp only [nrm, tev, St.step, putO, setsV, addO, ↓reduceIte, Nat.reduceAdd, logT, atT, intern, internL, kp_ents, fz_ents, fz_bytes, kp_bytes, logR, logE, ← List.map_take, ← List.map_drop, List.take_length, beq_self_eq_true, eq_self, decide_true, Bool.and_self] at hσ_; subst hσ_
      refine TL.st rfl (S_move rfl) ?_
      intro σ_ hσ_; simp only [nrm, tev, St.step, putO, setsV, addO, ↓reduceIte, Nat.reduceAdd, logT, atT, intern, internL, kp_ents, fz_ents, fz_bytes, kp_bytes, logR, logE, ← List.map_take, ← List.map_drop, List.take_length, beq_self_eq_true, eq_self, decide_true, Bool.and_self] at hσ_; subst hσ_
      first | refine TL.st rfl (S_int rfl rfl rfl rfl (vnt (by omega))) ?_ | refine TL.st rfl (S_int rfl rfl rfl rfl (vnf (by omega))) ?_ | refine TL.st rfl (S_int rfl rfl rfl rfl rfl) ?_ | refine TL.st rfl (S_boolneq rfl rfl rfl rfl (tT rfl) rfl) ?_
      intro σ_ hσ_; simp only [nrm, tev, St.step, putO, setsV, addO, ↓reduceIte, Nat.reduceAdd, logT, atT, intern, internL, kp_ents, fz_ents, fz_bytes, kp_bytes, logR, logE, ← List.map_take, ← List.map_drop, List.take_length, beq_self_eq_true, eq_self, decide_true, Bool.and_self] at hσ_; subst hσ_
      refine TL.nil ?_
      try simp (decide := true) only [thenT, inBlockT, noGotoT, jumpT, ↓reduceIte, true_and]
      refine hK11_ _ ?_
      refine TW.cond_f rfl (rfl) ?_
      refine TW.skip ?_
      try simp (decide := true) only [thenT, inBlockT, noGotoT, jumpT, ↓reduceIte, true_and]
      refine hK10_ _ ?_
      refine TW.seq_k ?_
      intro K12_ hK12_
      refine TW.seq_k ?_
      intro K13_ hK13_
      refine TW.reg ?_
      refine TL.st rfl (S_move rfl) ?_
      intro σ_ hσ_; simp only [nrm, tev, St.step, putO, setsV, addO, ↓reduceIte, Nat.reduceAdd, logT, atT, intern, internL, kp_ents, fz_ents, fz_bytes, kp_bytes, logR, logE, ← List.map_take, ← List.map_drop, List.take_length, beq_self_eq_true, eq_self, decide_true, Bool.and_self] at hσ_; subst hσ_
      first | refine TL.st rfl (S_int rfl rfl rfl rfl (vbt (by omega))) ?_ | refine TL.st rfl (S_int rfl rfl rfl rfl (vbf (by omega))) ?_ | refine TL.st rfl (S_int rfl rfl rfl rfl rfl) ?_ | refine TL.st rfl (S_boolop rfl rfl rfl rfl (tT rfl) rfl) ?_
      intro σ_ hσ_; simp only [nrm, tev, St.step, putO, setsV, addO, ↓reduceIte, Nat.reduceAdd, logT, atT, intern, internL, kp_ents, fz_ents, fz_bytes, kp_bytes, logR, logE, ← List.map_take, ← List.map_drop, List.take_length, beq_self_eq_true, eq_self, decide_true, Bool.and_self] at hσ_; subst hσ_
      refine TL.nil ?_
      try simp (decide := true) only [thenT, inBlockT, noGotoT, jumpT, ↓reduceIte, true_and]
      refine hK13_ _ ?_
      refine TW.cond_t rfl (rfl) ?_
      refine TW.seq_k ?_
      intro K14_ hK14_
      refine TW.reg ?_
      first | refine TL.st rfl (S_load rfl rfl rfl (tT rfl) rfl) ?_ | refine TL.st rfl (S_load_eptr rfl rfl (tT rfl) rfl) ?_ | refine TL.st rfl (S_load_row rfl rfl rfl rfl (by assumption) (tT rfl) rfl) ?_ | refine TL.st rfl (S_load_row (j := 0) rfl rfl rfl rfl (by assumption) (tT rfl) rfl) ?_
      intro σ_ hσ_; simp only [nrm, tev, St.step, putO, setsV, addO, ↓reduceIte, Nat.reduceAdd, logT, atT, intern, internL, kp_ents, fz_ents, fz_bytes, kp_bytes, logR, logE, ← List.map_take, ← List.map_drop, List.take_length, beq_self_eq_true, eq_self, decide_true, Bool.and_self] at hσ_; subst hσ_
      refine TL.st rfl (S_move rfl) ?_
      intro σ_ hσ_; simp only [nrm, tev, St.step, putO, setsV, addO, ↓reduceIte, Nat.reduceAdd, logT, atT, intern, internL, kp_ents, fz_ents, fz_bytes, kp_bytes, logR, logE, ← List.map_take, ← List.map_drop, List.take_length, beq_self_eq_true, eq_self, decide_true, Bool.and_self] at hσ_; subst hσ_
      first | refine TL.st rfl (S_call_row rfl rfl rfl (by kernel_rfl) rfl ((extend_T _ _ x.i x.t (es.take k) okX hi0 hi1 _ _ (es.drop k) okY).eq rfl (by simp only [hb1, logE, ↓reduceIte, List.take_append_drop, hb3]; rfl)) rfl) ?_ | refine TL.st rfl (S_call rfl rfl rfl (by kernel_rfl) rfl ((extend_T _ _ x.i x.t (es.take k) okX hi0 hi1 _ _ (es.drop k) okY).eq rfl (by simp only [hb1, logE, ↓reduceIte, List.take_append_drop, hb3]; rfl))) ?_
      intro σ_ hσ_; simp only [nrm, tev, St.step, putO, setsV, addO, ↓reduceIte, Nat.reduceAdd, logT, atT, intern, internL, kp_ents, fz_ents, fz_bytes, kp_bytes, logR, logE, ← List.map_take, ← List.map_drop, List.take_length, beq_self_eq_true, eq_self, decide_true, Bool.and_self] at hσ_; subst hσ_
      refine TL.st rfl (S_move rfl) ?_
      intro σ_ hσ_; simp only [nrm, tev, St.step, putO, setsV, addO, ↓reduceIte, Nat.reduceAdd, logT, atT, intern, internL, kp_ents, fz_ents, fz_bytes, kp_bytes, logR, logE, ← List.map_take, ← List.map_drop, List.take_length, beq_self_eq_true, eq_self, decide_true, Bool.and_self] at hσ_; subst hσ_
      refine TL.st rfl (S_extract rfl rfl rfl) ?_
      intro σ_ hσ_; simp only [nrm, tev, St.step, putO, setsV, addO, ↓reduceIte, Nat.reduceAdd, logT, atT, intern, internL, kp_ents, fz_ents, fz_bytes, kp_bytes, logR, logE, ← List.map_take, ← List.map_drop, List.take_length, beq_self_eq_true, eq_self, decide_true, Bool.and_self] at hσ_; subst hσ_
      refine TL.st rfl (S_extract rfl rfl rfl) ?_
      intro σ_ hσ_; simp only [nrm, tev, St.step, putO, setsV, addO, ↓reduceIte, Nat.reduceAdd, logT, atT, intern, internL, kp_ents, fz_ents, fz_bytes, kp_bytes, logR, logE, ← List.map_take, ← List.map_drop, List.take_length, beq_self_eq_true, eq_self, decide_true, Bool.and_self] at hσ_; subst hσ_
      refine TL.st rfl (S_extract rfl rfl rfl) ?_
      intro σ_ hσ_; simp only [nrm, tev, St.step, putO, setsV, addO, ↓reduceIte, Nat.reduceAdd, logT, atT, intern, internL, kp_ents, fz_ents, fz_bytes, kp_bytes, logR, logE, ← List.map_take, ← List.map_drop, List.take_length, beq_self_eq_true, eq_self, decide_true, Bool.and_self] at hσ_; subst hσ_
      refine TL.st rfl (S_alloc rfl (zT rfl) rfl) ?_
      intro σ_ hσ_; simp only [nrm, tev, St.step, putO, setsV, addO, ↓reduceIte, Nat.reduceAdd, logT, atT, intern, internL, kp_ents, fz_ents, fz_bytes, kp_bytes, logR, logE, ← List.map_take, ← List.map_drop, List.take_length, beq_self_eq_true, eq_self, decide_true, Bool.and_self] at hσ_; subst hσ_
      refine TL.st rfl (S_alloc rfl (zT rfl) rfl) ?_
      intro σ_ hσ_; simp only [nrm, tev, St.step, putO, setsV, addO, ↓reduceIte, Nat.reduceAdd, logT, atT, intern, internL, kp_ents, fz_ents, fz_bytes, kp_bytes, logR, logE, ← List.map_take, ← List.map_drop, List.take_length, beq_self_eq_true, eq_self, decide_true, Bool.and_self] at hσ_; subst hσ_
      first | refine TL.sto rfl rfl rfl rfl (tT rfl) rfl rfl rfl (Nat.le_of_ble_eq_true rfl) ?_ | refine TL.sto_row rfl rfl rfl rfl rfl (by assumption) (tT rfl) rfl rfl rfl (Nat.le_of_ble_eq_true rfl) ?_ | refine TL.sto_row (j := 0) rfl rfl rfl rfl rfl (by assumption) (tT rfl) rfl rfl rfl (Nat.le_of_ble_eq_true rfl) ?_
      intro σ_ hσ_; simp only [nrm, tev, St.step, putO, setsV, addO, ↓reduceIte, Nat.reduceAdd, logT, atT, intern, internL, kp_ents, fz_ents, fz_bytes, kp_bytes, logR, logE, ← List.map_take, ← List.map_drop, List.take_length, beq_self_eq_true, eq_self, decide_true, Bool.and_self] at hσ_; subst hσ_
      first | refine TL.sto rfl rfl rfl rfl (tT rfl) rfl rfl rfl (Nat.le_of_ble_eq_true rfl) ?_ | refine TL.sto_row rfl rfl rfl rfl rfl (by assumption) (tT rfl) rfl rfl rfl (Nat.le_of_ble_eq_true rfl) ?_ | refine TL.sto_row (j := 0) rfl rfl rfl rfl rfl (by assumption) (tT rfl) rfl rfl rfl (Nat.le_of_ble_eq_true rfl) ?_
      intro σ_ hσ_; simp only [nrm, tev, St.step, putO, setsV, addO, ↓reduceIte, Nat.reduceAdd, logT, atT, intern, internL, kp_ents, fz_ents, fz_bytes, kp_bytes, logR, logE, ← List.map_take, ← List.map_drop, List.take_length, beq_self_eq_true, eq_self, decide_true, Bool.and_self] at hσ_; subst hσ_
      refine TL.st rfl (S_assign rfl) ?_
      intro σ_ hσ_; simp only [nrm, tev, St.step, putO, setsV, addO, ↓reduceIte, Nat.reduceAdd, logT, atT, intern, internL, kp_ents, fz_ents, fz_bytes, kp_bytes, logR, logE, ← List.map_take, ← List.map_drop, List.take_length, beq_self_eq_true, eq_self, decide_true, Bool.and_self] at hσ_; subst hσ_
      refine TL.nil ?_
      try simp (decide := true) only [thenT, inBlockT, noGotoT, jumpT, ↓reduceIte, true_and]
      refine hK14_ _ ?_
      refine TW.seq_k ?_
      intro K15_ hK15_
      refine TW.region_par 25 (by kernel_rfl) (by kernel_rfl) ?_
      simp only [List.take_succ_cons, List.take_zero, List.drop_succ_cons, List.drop_zero, List.take_nil, List.drop_nil]
      refine TPar.st rfl (S_move rfl) ?_
      intro s_ h_ hs_ hh_; simp only [nrm, tev, St.step, putO, setsV, addO, ↓reduceIte, Nat.reduceAdd, logT, atT, intern, internL, kp_ents, fz_ents, fz_bytes, kp_bytes, logR, logE, ← List.map_take, ← List.map_drop, List.take_length, beq_self_eq_true, eq_self, decide_true, Bool.and_self] at hs_ hh_; subst hs_; subst hh_
      first | refine TPar.st rfl (S_int rfl rfl rfl rfl (vnt (by omega))) ?_ | refine TPar.st rfl (S_int rfl rfl rfl rfl (vnf (by omega))) ?_ | refine TPar.st rfl (S_int rfl rfl rfl rfl rfl) ?_ | refine TPar.st rfl (S_boolneq rfl rfl rfl rfl (tT rfl) rfl) ?_
      intro s_ h_ hs_ hh_; simp only [nrm, tev, St.step, putO, setsV, addO, ↓reduceIte, Nat.reduceAdd, logT, atT, intern, internL, kp_ents, fz_ents, fz_bytes, kp_bytes, logR, logE, ← List.map_take, ← List.map_drop, List.take_length, beq_self_eq_true, eq_self, decide_true, Bool.and_self] at hs_ hh_; subst hs_; subst hh_
      refine TPar.st rfl (S_move rfl) ?_
      intro s_ h_ hs_ hh_; simp only [nrm, tev, St.step, putO, setsV, addO, ↓reduceIte, Nat.reduceAdd, logT, atT, intern, internL, kp_ents, fz_ents, fz_bytes, kp_bytes, logR, logE, ← List.map_take, ← List.map_drop, List.take_length, beq_self_eq_true, eq_self, decide_true, Bool.and_self] at hs_ hh_; subst hs_; subst hh_
      first | refine TPar.st_g rfl rfl rfl (Nat.le_of_ble_eq_true rfl) rfl (S_load rfl rfl rfl (tT rfl) rfl) ?_ | refine TPar.st_g rfl rfl rfl (Nat.le_of_ble_eq_true rfl) rfl (S_load_eptr rfl rfl (tT rfl) rfl) ?_ | refine TPar.st_g rfl rfl rfl (Nat.le_of_ble_eq_true rfl) rfl (S_load_row rfl rfl rfl rfl (by assumption) (tT rfl) rfl) ?_ | refine TPar.st_g rfl rfl rfl (Nat.le_of_ble_eq_true rfl) rfl (S_load_row (j := 0) rfl rfl rfl rfl (by assumption) (tT rfl) rfl) ?_ | refine TPar.sk_g rfl rfl rfl (Nat.le_of_ble_eq_true rfl) rfl rfl ?_
      intro s_ h_ hs_ hh_; simp only [nrm, tev, St.step, putO, setsV, addO, ↓reduceIte, Nat.reduceAdd, logT, atT, intern, internL, kp_ents, fz_ents, fz_bytes, kp_bytes, logR, logE, ← List.map_take, ← List.map_drop, List.take_length, beq_self_eq_true, eq_self, decide_true, Bool.and_self] at hs_ hh_; subst hs_; subst hh_
      first | refine TPar.st_g rfl rfl rfl (Nat.le_of_ble_eq_true rfl) rfl (S_call_row rfl rfl rfl (by kernel_rfl) rfl ((may6_T _ _ x.i x.t es xf hi0 hi1 ht0 ht1).eq rfl (by rw [hm])) rfl) ?_ | refine TPar.st_g rfl rfl rfl (Nat.le_of_ble_eq_true rfl) rfl (S_call rfl rfl rfl (by kernel_rfl) rfl ((may6_T _ _ x.i x.t es xf hi0 hi1 ht0 ht1).eq rfl (by rw [hm]))) ?_ | refine TPar.st_g rfl rfl rfl (Nat.le_of_ble_eq_true rfl) rfl (S_call_row rfl rfl rfl (by kernel_rfl) rfl ((may6_T _ _ x.i x.t (es.take k) okX hi0 hi1 ht0 ht1).eq rfl (by rw [hhd])) rfl) ?_ | refine TPar.st_g rfl rfl rfl (Nat.le_of_ble_eq_true rfl) rfl (S_call rfl rfl rfl (by kernel_rfl) rfl ((may6_T _ _ x.i x.t (es.take k) okX hi0 hi1 ht0 ht1).eq rfl (by rw [hhd]))) ?_ | refine TPar.st_g rfl rfl rfl (Nat.le_of_ble_eq_true rfl) rfl (S_call_row rfl rfl rfl (by kernel_rfl) rfl ((may6_T _ _ (x.i + j) (tm x.t es j) (es.drop j) okZ hj0 hj1 htm.1 htm.2).eq rfl (by rw [htl])) rfl) ?_ | refine TPar.st_g rfl rfl rfl (Nat.le_of_ble_eq_true rfl) rfl (S_call rfl rfl rfl (by kernel_rfl) rfl ((may6_T _ _ (x.i + j) (tm x.t es j) (es.drop j) okZ hj0 hj1 htm.1 htm.2).eq rfl (by rw [htl]))) ?_ | refine TPar.sk_g rfl rfl rfl (Nat.le_of_ble_eq_true rfl) rfl rfl ?_
      intro s_ h_ hs_ hh_; simp only [nrm, tev, St.step, putO, setsV, addO, ↓reduceIte, Nat.reduceAdd, logT, atT, intern, internL, kp_ents, fz_ents, fz_bytes, kp_bytes, logR, logE, ← List.map_take, ← List.map_drop, List.take_length, beq_self_eq_true, eq_self, decide_true, Bool.and_self] at hs_ hh_; subst hs_; subst hh_
      first | refine TPar.st_g rfl rfl rfl (Nat.le_of_ble_eq_true rfl) rfl (S_not rfl rfl) ?_ | refine TPar.st_g rfl rfl rfl (Nat.le_of_ble_eq_true rfl) rfl (S_neg rfl rfl) ?_ | refine TPar.sk_g rfl rfl rfl (Nat.le_of_ble_eq_true rfl) rfl rfl ?_
      intro s_ h_ hs_ hh_; simp only [nrm, tev, St.step, putO, setsV, addO, ↓reduceIte, Nat.reduceAdd, logT, atT, intern, internL, kp_ents, fz_ents, fz_bytes, kp_bytes, logR, logE, ← List.map_take, ← List.map_drop, List.take_length, beq_self_eq_true, eq_self, decide_true, Bool.and_self] at hs_ hh_; subst hs_; subst hh_
      refine TPar.st rfl (S_pick rfl rfl rfl) ?_
      intro s_ h_ hs_ hh_; simp only [nrm, tev, St.step, putO, setsV, addO, ↓reduceIte, Nat.reduceAdd, logT, atT, intern, internL, kp_ents, fz_ents, fz_bytes, kp_bytes, logR, logE, ← List.map_take, ← List.map_drop, List.take_length, beq_self_eq_true, eq_self, decide_true, Bool.and_self] at hs_ hh_; subst hs_; subst hh_
      refine TPar.st rfl (S_move rfl) ?_
      intro s_ h_ hs_ hh_; simp only [nrm, tev, St.step, putO, setsV, addO, ↓reduceIte, Nat.reduceAdd, logT, atT, intern, internL, kp_ents, fz_ents, fz_bytes, kp_bytes, logR, logE, ← List.map_take, ← List.map_drop, List.take_length, beq_self_eq_true, eq_self, decide_true, Bool.and_self] at hs_ hh_; subst hs_; subst hh_
      first | refine TPar.st_g rfl rfl rfl (Nat.le_of_ble_eq_true rfl) rfl (S_load rfl rfl rfl (tT rfl) rfl) ?_ | refine TPar.st_g rfl rfl rfl (Nat.le_of_ble_eq_true rfl) rfl (S_load_eptr rfl rfl (tT rfl) rfl) ?_ | refine TPar.st_g rfl rfl rfl (Nat.le_of_ble_eq_true rfl) rfl (S_load_row rfl rfl rfl rfl (by assumption) (tT rfl) rfl) ?_ | refine TPar.st_g rfl rfl rfl (Nat.le_of_ble_eq_true rfl) rfl (S_load_row (j := 0) rfl rfl rfl rfl (by assumption) (tT rfl) rfl) ?_ | refine TPar.sk_g rfl rfl rfl (Nat.le_of_ble_eq_true rfl) rfl rfl ?_
      intro s_ h_ hs_ hh_; simp only [nrm, tev, St.step, putO, setsV, addO, ↓reduceIte, Nat.reduceAdd, logT, atT, intern, internL, kp_ents, fz_ents, fz_bytes, kp_bytes, logR, logE, ← List.map_take, ← List.map_drop, List.take_length, beq_self_eq_true, eq_self, decide_true, Bool.and_self] at hs_ hh_; subst hs_; subst hh_
      first | refine TPar.st_g rfl rfl rfl (Nat.le_of_ble_eq_true rfl) rfl (S_call_row rfl rfl rfl (by kernel_rfl) rfl ((last_T _ _ x.i x.t (es.take k) okX.w okX.n9 hi0 hi1).eq rfl (by rw [hlh])) rfl) ?_ | refine TPar.st_g rfl rfl rfl (Nat.le_of_ble_eq_true rfl) rfl (S_call rfl rfl rfl (by kernel_rfl) rfl ((last_T _ _ x.i x.t (es.take k) okX.w okX.n9 hi0 hi1).eq rfl (by rw [hlh]))) ?_ | refine TPar.st_g rfl rfl rfl (Nat.le_of_ble_eq_true rfl) rfl (S_call_row rfl rfl rfl (by kernel_rfl) rfl ((last_T _ _ x.i x.t es xf.w xf.n9 hi0 hi1).eq rfl (by rw [hla])) rfl) ?_ | refine TPar.st_g rfl rfl rfl (Nat.le_of_ble_eq_true rfl) rfl (S_call rfl rfl rfl (by kernel_rfl) rfl ((last_T _ _ x.i x.t es xf.w xf.n9 hi0 hi1).eq rfl (by rw [hla]))) ?_ | refine TPar.st_g rfl rfl rfl (Nat.le_of_ble_eq_true rfl) rfl (S_call_row rfl rfl rfl (by kernel_rfl) rfl ((last_T _ _ (x.i + j) (tm x.t es j) (es.drop j) okZ.w okZ.n9 hj0 hj1).eq rfl (by rw [hlt2])) rfl) ?_ | refine TPar.st_g rfl rfl rfl (Nat.le_of_ble_eq_true rfl) rfl (S_call rfl rfl rfl (by kernel_rfl) rfl ((last_T _ _ (x.i + j) (tm x.t es j) (es.drop j) okZ.w okZ.n9 hj0 hj1).eq rfl (by rw [hlt2]))) ?_ | refine TPar.sk_g rfl rfl rfl (Nat.le_of_ble_eq_true rfl) rfl rfl ?_
      intro s_ h_ hs_ hh_; simp only [nrm, tev, St.step, putO, setsV, addO, ↓reduceIte, Nat.reduceAdd, logT, atT, intern, internL, kp_ents, fz_ents, fz_bytes, kp_bytes, logR, logE, ← List.map_take, ← List.map_drop, List.take_length, beq_self_eq_true, eq_self, decide_true, Bool.and_self] at hs_ hh_; subst hs_; subst hh_
      first | refine TPar.st_g rfl rfl rfl (Nat.le_of_ble_eq_true rfl) rfl (S_load rfl rfl rfl (tT rfl) rfl) ?_ | refine TPar.st_g rfl rfl rfl (Nat.le_of_ble_eq_true rfl) rfl (S_load_eptr rfl rfl (tT rfl) rfl) ?_ | refine TPar.st_g rfl rfl rfl (Nat.le_of_ble_eq_true rfl) rfl (S_load_row rfl rfl rfl rfl (by assumption) (tT rfl) rfl) ?_ | refine TPar.st_g rfl rfl rfl (Nat.le_of_ble_eq_true rfl) rfl (S_load_row (j := 0) rfl rfl rfl rfl (by assumption) (tT rfl) rfl) ?_ | refine TPar.sk_g rfl rfl rfl (Nat.le_of_ble_eq_true rfl) rfl rfl ?_
      intro s_ h_ hs_ hh_; simp only [nrm, tev, St.step, putO, setsV, addO, ↓reduceIte, Nat.reduceAdd, logT, atT, intern, internL, kp_ents, fz_ents, fz_bytes, kp_bytes, logR, logE, ← List.map_take, ← List.map_drop, List.take_length, beq_self_eq_true, eq_self, decide_true, Bool.and_self] at hs_ hh_; subst hs_; subst hh_
      first | refine TPar.st_g rfl rfl rfl (Nat.le_of_ble_eq_true rfl) rfl (S_int rfl rfl rfl rfl (vnt (by omega))) ?_ | refine TPar.st_g rfl rfl rfl (Nat.le_of_ble_eq_true rfl) rfl (S_int rfl rfl rfl rfl (vnf (by omega))) ?_ | refine TPar.st_g rfl rfl rfl (Nat.le_of_ble_eq_true rfl) rfl (S_int rfl rfl rfl rfl rfl) ?_ | refine TPar.st_g rfl rfl rfl (Nat.le_of_ble_eq_true rfl) rfl (S_boolneq rfl rfl rfl rfl (tT rfl) rfl) ?_ | refine TPar.st_g rfl rfl rfl (Nat.le_of_ble_eq_true rfl) rfl (S_bin (u := .bool true) rfl rfl rfl (fun w => (neAt_run _ _ _ _ _ _ w).trans (congrArg (fun b => Result.ok (Value.bool b) w) hq_))) ?_ | refine TPar.st_g rfl rfl rfl (Nat.le_of_ble_eq_true rfl) rfl (S_bin (u := .bool false) rfl rfl rfl (fun w => (neAt_run _ _ _ _ _ _ w).trans (congrArg (fun b => Result.ok (Value.bool b) w) hq_))) ?_ | refine TPar.st_g rfl rfl rfl (Nat.le_of_ble_eq_true rfl) rfl (S_bin rfl rfl rfl (neAt_run _ _ _ _ _ _)) ?_ | refine TPar.sk_g rfl rfl rfl (Nat.le_of_ble_eq_true rfl) rfl rfl ?_
      intro s_ h_ hs_ hh_; simp only [nrm, tev, St.step, putO, setsV, addO, ↓reduceIte, Nat.reduceAdd, logT, atT, intern, internL, kp_ents, fz_ents, fz_bytes, kp_bytes, logR, logE, ← List.map_take, ← List.map_drop, List.take_length, beq_self_eq_true, eq_self, decide_true, Bool.and_self] at hs_ hh_; subst hs_; subst hh_
      refine TPar.st rfl (S_pick rfl rfl rfl) ?_
      intro s_ h_ hs_ hh_; simp only [nrm, tev, St.step, putO, setsV, addO, ↓reduceIte, Nat.reduceAdd, logT, atT, intern, internL, kp_ents, fz_ents, fz_bytes, kp_bytes, logR, logE, ← List.map_take, ← List.map_drop, List.take_length, beq_self_eq_true, eq_self, decide_true, Bool.and_self] at hs_ hh_; subst hs_; subst hh_
      refine TPar.st rfl (S_move rfl) ?_
      intro s_ h_ hs_ hh_; simp only [nrm, tev, St.step, putO, setsV, addO, ↓reduceIte, Nat.reduceAdd, logT, atT, intern, internL, kp_ents, fz_ents, fz_bytes, kp_bytes, logR, logE, ← List.map_take, ← List.map_drop, List.take_length, beq_self_eq_true, eq_self, decide_true, Bool.and_self] at hs_ hh_; subst hs_; subst hh_
      first | refine TPar.st_g rfl rfl rfl (Nat.le_of_ble_eq_true rfl) rfl (S_load rfl rfl rfl (tT rfl) rfl) ?_ | refine TPar.st_g rfl rfl rfl (Nat.le_of_ble_eq_true rfl) rfl (S_load_eptr rfl rfl (tT rfl) rfl) ?_ | refine TPar.st_g rfl rfl rfl (Nat.le_of_ble_eq_true rfl) rfl (S_load_row rfl rfl rfl rfl (by assumption) (tT rfl) rfl) ?_ | refine TPar.st_g rfl rfl rfl (Nat.le_of_ble_eq_true rfl) rfl (S_load_row (j := 0) rfl rfl rfl rfl (by assumption) (tT rfl) rfl) ?_ | refine TPar.sk_g rfl rfl rfl (Nat.le_of_ble_eq_true rfl) rfl rfl ?_
      intro s_ h_ hs_ hh_; simp only [nrm, tev, St.step, putO, setsV, addO, ↓reduceIte, Nat.reduceAdd, logT, atT, intern, internL, kp_ents, fz_ents, fz_bytes, kp_bytes, logR, logE, ← List.map_take, ← List.map_drop, List.take_length, beq_self_eq_true, eq_self, decide_true, Bool.and_self] at hs_ hh_; subst hs_; subst hh_
      first | refine TPar.st_g rfl rfl rfl (Nat.le_of_ble_eq_true rfl) rfl (S_load rfl rfl rfl (tT rfl) rfl) ?_ | refine TPar.st_g rfl rfl rfl (Nat.le_of_ble_eq_true rfl) rfl (S_load_eptr rfl rfl (tT rfl) rfl) ?_ | refine TPar.st_g rfl rfl rfl (Nat.le_of_ble_eq_true rfl) rfl (S_load_row rfl rfl rfl rfl (by assumption) (tT rfl) rfl) ?_ | refine TPar.st_g rfl rfl rfl (Nat.le_of_ble_eq_true rfl) rfl (S_load_row (j := 0) rfl rfl rfl rfl (by assumption) (tT rfl) rfl) ?_ | refine TPar.sk_g rfl rfl rfl (Nat.le_of_ble_eq_true rfl) rfl rfl ?_
      intro s_ h_ hs_ hh_; simp only [nrm, tev, St.step, putO, setsV, addO, ↓reduceIte, Nat.reduceAdd, logT, atT, intern, internL, kp_ents, fz_ents, fz_bytes, kp_bytes, logR, logE, ← List.map_take, ← List.map_drop, List.take_length, beq_self_eq_true, eq_self, decide_true, Bool.and_self] at hs_ hh_; subst hs_; subst hh_
      first | refine TPar.st_g rfl rfl rfl (Nat.le_of_ble_eq_true rfl) rfl (S_call_row rfl rfl rfl (by kernel_rfl) rfl ((same_T _ _ x.i x.t es xf _ _ x.i x.t es xf).eq rfl (by rw [sameL_self])) rfl) ?_ | refine TPar.st_g rfl rfl rfl (Nat.le_of_ble_eq_true rfl) rfl (S_call rfl rfl rfl (by kernel_rfl) rfl ((same_T _ _ x.i x.t es xf _ _ x.i x.t es xf).eq rfl (by rw [sameL_self]))) ?_ | refine TPar.sk_g rfl rfl rfl (Nat.le_of_ble_eq_true rfl) rfl rfl ?_
      intro s_ h_ hs_ hh_; simp only [nrm, tev, St.step, putO, setsV, addO, ↓reduceIte, Nat.reduceAdd, logT, atT, intern, internL, kp_ents, fz_ents, fz_bytes, kp_bytes, logR, logE, ← List.map_take, ← List.map_drop, List.take_length, beq_self_eq_true, eq_self, decide_true, Bool.and_self] at hs_ hh_; subst hs_; subst hh_
      first | refine TPar.st_g rfl rfl rfl (Nat.le_of_ble_eq_true rfl) rfl (S_not rfl rfl) ?_ | refine TPar.st_g rfl rfl rfl (Nat.le_of_ble_eq_true rfl) rfl (S_neg rfl rfl) ?_ | refine TPar.sk_g rfl rfl rfl (Nat.le_of_ble_eq_true rfl) rfl rfl ?_
      intro s_ h_ hs_ hh_; simp only [nrm, tev, St.step, putO, setsV, addO, ↓reduceIte, Nat.reduceAdd, logT, atT, intern, internL, kp_ents, fz_ents, fz_bytes, kp_bytes, logR, logE, ← List.map_take, ← List.map_drop, List.take_length, beq_self_eq_true, eq_self, decide_true, Bool.and_self] at hs_ hh_; subst hs_; subst hh_
      refine TPar.st rfl (S_pick rfl rfl rfl) ?_
      intro s_ h_ hs_ hh_; simp only [nrm, tev, St.step, putO, setsV, addO, ↓reduceIte, Nat.reduceAdd, logT, atT, intern, internL, kp_ents, fz_ents, fz_bytes, kp_bytes, logR, logE, ← List.map_take, ← List.map_drop, List.take_length, beq_self_eq_true, eq_self, decide_true, Bool.and_self] at hs_ hh_; subst hs_; subst hh_
      refine TPar.st rfl (S_move rfl) ?_
      intro s_ h_ hs_ hh_; simp only [nrm, tev, St.step, putO, setsV, addO, ↓reduceIte, Nat.reduceAdd, logT, atT, intern, internL, kp_ents, fz_ents, fz_bytes, kp_bytes, logR, logE, ← List.map_take, ← List.map_drop, List.take_length, beq_self_eq_true, eq_self, decide_true, Bool.and_self] at hs_ hh_; subst hs_; subst hh_
      first | refine TPar.st_g rfl rfl rfl (Nat.le_of_ble_eq_true rfl) rfl (S_load rfl rfl rfl (tT rfl) rfl) ?_ | refine TPar.st_g rfl rfl rfl (Nat.le_of_ble_eq_true rfl) rfl (S_load_eptr rfl rfl (tT rfl) rfl) ?_ | refine TPar.st_g rfl rfl rfl (Nat.le_of_ble_eq_true rfl) rfl (S_load_row rfl rfl rfl rfl (by assumption) (tT rfl) rfl) ?_ | refine TPar.st_g rfl rfl rfl (Nat.le_of_ble_eq_true rfl) rfl (S_load_row (j := 0) rfl rfl rfl rfl (by assumption) (tT rfl) rfl) ?_ | refine TPar.sk_g rfl rfl rfl (Nat.le_of_ble_eq_true rfl) rfl rfl ?_
      intro s_ h_ hs_ hh_; simp only [nrm, tev, St.step, putO, setsV, addO, ↓reduceIte, Nat.reduceAdd, logT, atT, intern, internL, kp_ents, fz_ents, fz_bytes, kp_bytes, logR, logE, ← List.map_take, ← List.map_drop, List.take_length, beq_self_eq_true, eq_self, decide_true, Bool.and_self] at hs_ hh_; subst hs_; subst hh_
      first | refine TPar.st_g rfl rfl rfl (Nat.le_of_ble_eq_true rfl) rfl (S_load rfl rfl rfl (tT rfl) rfl) ?_ | refine TPar.st_g rfl rfl rfl (Nat.le_of_ble_eq_true rfl) rfl (S_load_eptr rfl rfl (tT rfl) rfl) ?_ | refine TPar.st_g rfl rfl rfl (Nat.le_of_ble_eq_true rfl) rfl (S_load_row rfl rfl rfl rfl (by assumption) (tT rfl) rfl) ?_ | refine TPar.st_g rfl rfl rfl (Nat.le_of_ble_eq_true rfl) rfl (S_load_row (j := 0) rfl rfl rfl rfl (by assumption) (tT rfl) rfl) ?_ | refine TPar.sk_g rfl rfl rfl (Nat.le_of_ble_eq_true rfl) rfl rfl ?_
      intro s_ h_ hs_ hh_; simp only [nrm, tev, St.step, putO, setsV, addO, ↓reduceIte, Nat.reduceAdd, logT, atT, intern, internL, kp_ents, fz_ents, fz_bytes, kp_bytes, logR, logE, ← List.map_take, ← List.map_drop, List.take_length, beq_self_eq_true, eq_self, decide_true, Bool.and_self] at hs_ hh_; subst hs_; subst hh_
      first | refine TPar.st_g rfl rfl rfl (Nat.le_of_ble_eq_true rfl) rfl (S_call_row rfl rfl rfl (by kernel_rfl) rfl ((last_T _ _ x.i x.t (es.take k) okX.w okX.n9 hi0 hi1).eq rfl (by rw [hlh])) rfl) ?_ | refine TPar.st_g rfl rfl rfl (Nat.le_of_ble_eq_true rfl) rfl (S_call rfl rfl rfl (by kernel_rfl) rfl ((last_T _ _ x.i x.t (es.take k) okX.w okX.n9 hi0 hi1).eq rfl (by rw [hlh]))) ?_ | refine TPar.st_g rfl rfl rfl (Nat.le_of_ble_eq_true rfl) rfl (S_call_row rfl rfl rfl (by kernel_rfl) rfl ((last_T _ _ x.i x.t es xf.w xf.n9 hi0 hi1).eq rfl (by rw [hla])) rfl) ?_ | refine TPar.st_g rfl rfl rfl (Nat.le_of_ble_eq_true rfl) rfl (S_call rfl rfl rfl (by kernel_rfl) rfl ((last_T _ _ x.i x.t es xf.w xf.n9 hi0 hi1).eq rfl (by rw [hla]))) ?_ | refine TPar.st_g rfl rfl rfl (Nat.le_of_ble_eq_true rfl) rfl (S_call_row rfl rfl rfl (by kernel_rfl) rfl ((last_T _ _ (x.i + j) (tm x.t es j) (es.drop j) okZ.w okZ.n9 hj0 hj1).eq rfl (by rw [hlt2])) rfl) ?_ | refine TPar.st_g rfl rfl rfl (Nat.le_of_ble_eq_true rfl) rfl (S_call rfl rfl rfl (by kernel_rfl) rfl ((last_T _ _ (x.i + j) (tm x.t es j) (es.drop j) okZ.w okZ.n9 hj0 hj1).eq rfl (by rw [hlt2]))) ?_ | refine TPar.sk_g rfl rfl rfl (Nat.le_of_ble_eq_true rfl) rfl rfl ?_
      intro s_ h_ hs_ hh_; simp only [nrm, tev, St.step, putO, setsV, addO, ↓reduceIte, Nat.reduceAdd, logT, atT, intern, internL, kp_ents, fz_ents, fz_bytes, kp_bytes, logR, logE, ← List.map_take, ← List.map_drop, List.take_length, beq_self_eq_true, eq_self, decide_true, Bool.and_self] at hs_ hh_; subst hs_; subst hh_
      first | refine TPar.st_g rfl rfl rfl (Nat.le_of_ble_eq_true rfl) rfl (S_int rfl rfl rfl rfl (vnt (by omega))) ?_ | refine TPar.st_g rfl rfl rfl (Nat.le_of_ble_eq_true rfl) rfl (S_int rfl rfl rfl rfl (vnf (by omega))) ?_ | refine TPar.st_g rfl rfl rfl (Nat.le_of_ble_eq_true rfl) rfl (S_int rfl rfl rfl rfl rfl) ?_ | refine TPar.st_g rfl rfl rfl (Nat.le_of_ble_eq_true rfl) rfl (S_boolneq rfl rfl rfl rfl (tT rfl) rfl) ?_ | refine TPar.st_g rfl rfl rfl (Nat.le_of_ble_eq_true rfl) rfl (S_bin (u := .bool true) rfl rfl rfl (fun w => (neAt_run _ _ _ _ _ _ w).trans (congrArg (fun b => Result.ok (Value.bool b) w) hq_))) ?_ | refine TPar.st_g rfl rfl rfl (Nat.le_of_ble_eq_true rfl) rfl (S_bin (u := .bool false) rfl rfl rfl (fun w => (neAt_run _ _ _ _ _ _ w).trans (congrArg (fun b => Result.ok (Value.bool b) w) hq_))) ?_ | refine TPar.st_g rfl rfl rfl (Nat.le_of_ble_eq_true rfl) rfl (S_bin rfl rfl rfl (neAt_run _ _ _ _ _ _)) ?_ | refine TPar.sk_g rfl rfl rfl (Nat.le_of_ble_eq_true rfl) rfl rfl ?_
      intro s_ h_ hs_ hh_; simp only [nrm, tev, St.step, putO, setsV, addO, ↓reduceIte, Nat.reduceAdd, logT, atT, intern, internL, kp_ents, fz_ents, fz_bytes, kp_bytes, logR, logE, ← List.map_take, ← List.map_drop, List.take_length, beq_self_eq_true, eq_self, decide_true, Bool.and_self] at hs_ hh_; subst hs_; subst hh_
      refine TPar.st rfl (S_pick rfl rfl rfl) ?_
      intro s_ h_ hs_ hh_; simp only [nrm, tev, St.step, putO, setsV, addO, ↓reduceIte, Nat.reduceAdd, logT, atT, intern, internL, kp_ents, fz_ents, fz_bytes, kp_bytes, logR, logE, ← List.map_take, ← List.map_drop, List.take_length, beq_self_eq_true, eq_self, decide_true, Bool.and_self] at hs_ hh_; subst hs_; subst hh_
      unfold TPar
      refine TL.nil ?_
      try simp (decide := true) only [thenT, inBlockT, noGotoT, jumpT, ↓reduceIte, true_and]
      refine hK15_ _ ?_
      refine TW.cond_f rfl (rfl) ?_
      refine TW.skip ?_
      try simp (decide := true) only [thenT, inBlockT, noGotoT, jumpT, ↓reduceIte, true_and]
      refine hK12_ _ ?_
      refine TW.seq_k ?_
      intro K16_ hK16_
      rcases comp_cases hi0 hm y with ⟨j, hjl, hj, hpE, hpN, hpT⟩ | ⟨hpE, hpT⟩
      · skip
        subst hj
        have hpS := spot_in hi0 hm hjl
        have hComp : TV.tup [logE (compE x.i x.t es (x.i + (j : Int))) (spotN x.i x.t es (ofN x.i (x.i + (j : Int)) es.length).toNat).1 (spotN x.i x.t es (ofN x.i (x.i + (j : Int)) es.length).toNat).2 (es.drop (ofN x.i (x.i + (j : Int)) es.length).toNat), .v (.int .i64 (compE x.i x.t es (x.i + (j : Int))))] = .tup [logR (x.i + j) (tm x.t es j) (es.drop j), .v (.int .i64 0)] := by rw [hpE, hpN, Int.toNat_natCast, hpS]; rfl
        have okZ := xf.drop j
        have hj0 : 0 ≤ x.i + (j : Int) := by omega
        have hj1 : x.i + (j : Int) < 18446744073709551616 := by omega
        have htm := tm_lt ht0 ht1 xf.w j
        have htl := may_tail hi0 hm hjl ht0
        have hlt2 := last_tail hi0 hm hjl ht0
        refine TW.reg ?_
        first | refine TL.st rfl (S_load rfl rfl rfl (tT rfl) rfl) ?_ | refine TL.st rfl (S_load_eptr rfl rfl (tT rfl) rfl) ?_ | refine TL.st rfl (S_load_row rfl rfl rfl rfl (by assumption) (tT rfl) rfl) ?_ | refine TL.st rfl (S_load_row (j := 0) rfl rfl rfl rfl (by assumption) (tT rfl) rfl) ?_
        intro σ_ hσ_; simp only [nrm, tev, St.step, putO, setsV, addO, ↓reduceIte, Nat.reduceAdd, logT, atT, intern, internL, kp_ents, fz_ents, fz_bytes, kp_bytes, logR, logE, ← List.map_take, ← List.map_drop, List.take_length, beq_self_eq_true, eq_self, decide_true, Bool.and_self] at hσ_; subst hσ_
        refine TL.st rfl (S_move rfl) ?_
        intro σ_ hσ_; simp only [nrm, tev, St.step, putO, setsV, addO, ↓reduceIte, Nat.reduceAdd, logT, atT, intern, internL, kp_ents, fz_ents, fz_bytes, kp_bytes, logR, logE, ← List.map_take, ← List.map_drop, List.take_length, beq_self_eq_true, eq_self, decide_true, Bool.and_self] at hσ_; subst hσ_
        first | refine TL.st rfl (S_call_row rfl rfl rfl (by kernel_rfl) rfl ((comp_T _ _ x.i x.t es xf hi0 hi1 _ hy0 hy1).eq rfl hComp) rfl) ?_ | refine TL.st rfl (S_call rfl rfl rfl (by kernel_rfl) rfl ((comp_T _ _ x.i x.t es xf hi0 hi1 _ hy0 hy1).eq rfl hComp)) ?_
        intro σ_ hσ_; simp only [nrm, tev, St.step, putO, setsV, addO, ↓reduceIte, Nat.reduceAdd, logT, atT, intern, internL, kp_ents, fz_ents, fz_bytes, kp_bytes, logR, logE, ← List.map_take, ← List.map_drop, List.take_length, beq_self_eq_true, eq_self, decide_true, Bool.and_self] at hσ_; subst hσ_
        refine TL.st rfl (S_move rfl) ?_
        intro σ_ hσ_; simp only [nrm, tev, St.step, putO, setsV, addO, ↓reduceIte, Nat.reduceAdd, logT, atT, intern, internL, kp_ents, fz_ents, fz_bytes, kp_bytes, logR, logE, ← List.map_take, ← List.map_drop, List.take_length, beq_self_eq_true, eq_self, decide_true, Bool.and_self] at hσ_; subst hσ_
        refine TL.st rfl (S_extract rfl rfl rfl) ?_
        intro σ_ hσ_; simp only [nrm, tev, St.step, putO, setsV, addO, ↓reduceIte, Nat.reduceAdd, logT, atT, intern, internL, kp_ents, fz_ents, fz_bytes, kp_bytes, logR, logE, ← List.map_take, ← List.map_drop, List.take_length, beq_self_eq_true, eq_self, decide_true, Bool.and_self] at hσ_; subst hσ_
        refine TL.st rfl (S_extract rfl rfl rfl) ?_
        intro σ_ hσ_; simp only [nrm, tev, St.step, putO, setsV, addO, ↓reduceIte, Nat.reduceAdd, logT, atT, intern, internL, kp_ents, fz_ents, fz_bytes, kp_bytes, logR, logE, ← List.map_take, ← List.map_drop, List.take_length, beq_self_eq_true, eq_self, decide_true, Bool.and_self] at hσ_; subst hσ_
        refine TL.st rfl (S_alloc rfl (zT rfl) rfl) ?_
        intro σ_ hσ_; simp only [nrm, tev, St.step, putO, setsV, addO, ↓reduceIte, Nat.reduceAdd, logT, atT, intern, internL, kp_ents, fz_ents, fz_bytes, kp_bytes, logR, logE, ← List.map_take, ← List.map_drop, List.take_length, beq_self_eq_true, eq_self, decide_true, Bool.and_self] at hσ_; subst hσ_
        first | refine TL.sto rfl rfl rfl rfl (tT rfl) rfl rfl rfl (Nat.le_of_ble_eq_true rfl) ?_ | refine TL.sto_row rfl rfl rfl rfl rfl (by assumption) (tT rfl) rfl rfl rfl (Nat.le_of_ble_eq_true rfl) ?_ | refine TL.sto_row (j := 0) rfl rfl rfl rfl rfl (by assumption) (tT rfl) rfl rfl rfl (Nat.le_of_ble_eq_true rfl) ?_
        intro σ_ hσ_; simp only [nrm, tev, St.step, putO, setsV, addO, ↓reduceIte, Nat.reduceAdd, logT, atT, intern, internL, kp_ents, fz_ents, fz_bytes, kp_bytes, logR, logE, ← List.map_take, ← List.map_drop, List.take_length, beq_self_eq_true, eq_self, decide_true, Bool.and_self] at hσ_; subst hσ_
        refine TL.st rfl (S_assign rfl) ?_
        intro σ_ hσ_; simp only [nrm, tev, St.step, putO, setsV, addO, ↓reduceIte, Nat.reduceAdd, logT, atT, intern, internL, kp_ents, fz_ents, fz_bytes, kp_bytes, logR, logE, ← List.map_take, ← List.map_drop, List.take_length, beq_self_eq_true, eq_self, decide_true, Bool.and_self] at hσ_; subst hσ_
        refine TL.nil ?_
        try simp (decide := true) only [thenT, inBlockT, noGotoT, jumpT, ↓reduceIte, true_and]
        refine hK16_ _ ?_
        refine TW.seq_k ?_
        intro K17_ hK17_
        refine TW.reg ?_
        first | refine TL.st rfl (S_load rfl rfl rfl (tT rfl) rfl) ?_ | refine TL.st rfl (S_load_eptr rfl rfl (tT rfl) rfl) ?_ | refine TL.st rfl (S_load_row rfl rfl rfl rfl (by assumption) (tT rfl) rfl) ?_ | refine TL.st rfl (S_load_row (j := 0) rfl rfl rfl rfl (by assumption) (tT rfl) rfl) ?_
        intro σ_ hσ_; simp only [nrm, tev, St.step, putO, setsV, addO, ↓reduceIte, Nat.reduceAdd, logT, atT, intern, internL, kp_ents, fz_ents, fz_bytes, kp_bytes, logR, logE, ← List.map_take, ← List.map_drop, List.take_length, beq_self_eq_true, eq_self, decide_true, Bool.and_self] at hσ_; subst hσ_
        refine TL.st rfl (S_move rfl) ?_
        intro σ_ hσ_; simp only [nrm, tev, St.step, putO, setsV, addO, ↓reduceIte, Nat.reduceAdd, logT, atT, intern, internL, kp_ents, fz_ents, fz_bytes, kp_bytes, logR, logE, ← List.map_take, ← List.map_drop, List.take_length, beq_self_eq_true, eq_self, decide_true, Bool.and_self] at hσ_; subst hσ_
        first | refine TL.st rfl (S_call_row rfl rfl rfl (by kernel_rfl) rfl ((term_T _ _ x.i x.t es xf.w xf.n9 hi0 hi1 _).eq rfl (by rw [hpT])) rfl) ?_ | refine TL.st rfl (S_call rfl rfl rfl (by kernel_rfl) rfl ((term_T _ _ x.i x.t es xf.w xf.n9 hi0 hi1 _).eq rfl (by rw [hpT]))) ?_ | refine TL.st rfl (S_call_row rfl rfl rfl (by kernel_rfl) rfl ((term_T _ _ x.i x.t es xf.w xf.n9 hi0 hi1 (x.i + m)).eq rfl (by rw [hm1])) rfl) ?_ | refine TL.st rfl (S_call rfl rfl rfl (by kernel_rfl) rfl ((term_T _ _ x.i x.t es xf.w xf.n9 hi0 hi1 (x.i + m)).eq rfl (by rw [hm1]))) ?_ | refine TL.st rfl (S_call_row rfl rfl rfl (by kernel_rfl) rfl ((term_T _ _ (x.i + j) (tm x.t es j) (es.drop j) okZ.w okZ.n9 hj0 hj1 (x.i + m)).eq rfl (by rw [hm2])) rfl) ?_ | refine TL.st rfl (S_call rfl rfl rfl (by kernel_rfl) rfl ((term_T _ _ (x.i + j) (tm x.t es j) (es.drop j) okZ.w okZ.n9 hj0 hj1 (x.i + m)).eq rfl (by rw [hm2]))) ?_
        intro σ_ hσ_; simp only [nrm, tev, St.step, putO, setsV, addO, ↓reduceIte, Nat.reduceAdd, logT, atT, intern, internL, kp_ents, fz_ents, fz_bytes, kp_bytes, logR, logE, ← List.map_take, ← List.map_drop, List.take_length, beq_self_eq_true, eq_self, decide_true, Bool.and_self] at hσ_; subst hσ_
        refine TL.st rfl (S_move rfl) ?_
        intro σ_ hσ_; simp only [nrm, tev, St.step, putO, setsV, addO, ↓reduceIte, Nat.reduceAdd, logT, atT, intern, internL, kp_ents, fz_ents, fz_bytes, kp_bytes, logR, logE, ← List.map_take, ← List.map_drop, List.take_length, beq_self_eq_true, eq_self, decide_true, Bool.and_self] at hσ_; subst hσ_
        refine TL.st rfl (S_extract rfl rfl rfl) ?_
        intro σ_ hσ_; simp only [nrm, tev, St.step, putO, setsV, addO, ↓reduceIte, Nat.reduceAdd, logT, atT, intern, internL, kp_ents, fz_ents, fz_bytes, kp_bytes, logR, logE, ← List.map_take, ← List.map_drop, List.take_length, beq_self_eq_true, eq_self, decide_true, Bool.and_self] at hσ_; subst hσ_
        refine TL.st rfl (S_extract rfl rfl rfl) ?_
        intro σ_ hσ_; simp only [nrm, tev, St.step, putO, setsV, addO, ↓reduceIte, Nat.reduceAdd, logT, atT, intern, internL, kp_ents, fz_ents, fz_bytes, kp_bytes, logR, logE, ← List.map_take, ← List.map_drop, List.take_length, beq_self_eq_true, eq_self, decide_true, Bool.and_self] at hσ_; subst hσ_
        refine TL.st rfl (S_assign rfl) ?_
        intro σ_ hσ_; simp only [nrm, tev, St.step, putO, setsV, addO, ↓reduceIte, Nat.reduceAdd, logT, atT, intern, internL, kp_ents, fz_ents, fz_bytes, kp_bytes, logR, logE, ← List.map_take, ← List.map_drop, List.take_length, beq_self_eq_true, eq_self, decide_true, Bool.and_self] at hσ_; subst hσ_
        refine TL.st rfl (S_assign rfl) ?_
        intro σ_ hσ_; simp only [nrm, tev, St.step, putO, setsV, addO, ↓reduceIte, Nat.reduceAdd, logT, atT, intern, internL, kp_ents, fz_ents, fz_bytes, kp_bytes, logR, logE, ← List.map_take, ← List.map_drop, List.take_length, beq_self_eq_true, eq_self, decide_true, Bool.and_self] at hσ_; subst hσ_
        refine TL.nil ?_
        try simp (decide := true) only [thenT, inBlockT, noGotoT, jumpT, ↓reduceIte, true_and]
        refine hK17_ _ ?_
        refine TW.seq_k ?_
        intro K18_ hK18_
        refine TW.seq_k ?_
        intro K19_ hK19_
        refine TW.reg ?_
        refine TL.st rfl (S_move rfl) ?_
        intro σ_ hσ_; simp only [nrm, tev, St.step, putO, setsV, addO, ↓reduceIte, Nat.reduceAdd, logT, atT, intern, internL, kp_ents, fz_ents, fz_bytes, kp_bytes, logR, logE, ← List.map_take, ← List.map_drop, List.take_length, beq_self_eq_true, eq_self, decide_true, Bool.and_self] at hσ_; subst hσ_
        refine TL.st rfl (S_move rfl) ?_
        intro σ_ hσ_; simp only [nrm, tev, St.step, putO, setsV, addO, ↓reduceIte, Nat.reduceAdd, logT, atT, intern, internL, kp_ents, fz_ents, fz_bytes, kp_bytes, logR, logE, ← List.map_take, ← List.map_drop, List.take_length, beq_self_eq_true, eq_self, decide_true, Bool.and_self] at hσ_; subst hσ_
        first | refine TL.st rfl (S_int rfl rfl rfl rfl (vbt (by omega))) ?_ | refine TL.st rfl (S_int rfl rfl rfl rfl (vbf (by omega))) ?_ | refine TL.st rfl (S_int rfl rfl rfl rfl rfl) ?_ | refine TL.st rfl (S_boolop rfl rfl rfl rfl (tT rfl) rfl) ?_
        intro σ_ hσ_; simp only [nrm, tev, St.step, putO, setsV, addO, ↓reduceIte, Nat.reduceAdd, logT, atT, intern, internL, kp_ents, fz_ents, fz_bytes, kp_bytes, logR, logE, ← List.map_take, ← List.map_drop, List.take_length, beq_self_eq_true, eq_self, decide_true, Bool.and_self] at hσ_; subst hσ_
        first | refine TL.st rfl (S_int rfl rfl rfl rfl (vnt (by omega))) ?_ | refine TL.st rfl (S_int rfl rfl rfl rfl (vnf (by omega))) ?_ | refine TL.st rfl (S_int rfl rfl rfl rfl rfl) ?_ | refine TL.st rfl (S_boolneq rfl rfl rfl rfl (tT rfl) rfl) ?_
        intro σ_ hσ_; simp only [nrm, tev, St.step, putO, setsV, addO, ↓reduceIte, Nat.reduceAdd, logT, atT, intern, internL, kp_ents, fz_ents, fz_bytes, kp_bytes, logR, logE, ← List.map_take, ← List.map_drop, List.take_length, beq_self_eq_true, eq_self, decide_true, Bool.and_self] at hσ_; subst hσ_
        refine TL.nil ?_
        try simp (decide := true) only [thenT, inBlockT, noGotoT, jumpT, ↓reduceIte, true_and]
        refine hK19_ _ ?_
        refine TW.cond_f rfl (rfl) ?_
        refine TW.skip ?_
        try simp (decide := true) only [thenT, inBlockT, noGotoT, jumpT, ↓reduceIte, true_and]
        refine hK18_ _ ?_
        refine TW.seq_k ?_
        intro K20_ hK20_
        refine TW.seq_k ?_
        intro K21_ hK21_
        refine TW.reg ?_
        refine TL.st rfl (S_move rfl) ?_
        intro σ_ hσ_; simp only [nrm, tev, St.step, putO, setsV, addO, ↓reduceIte, Nat.reduceAdd, logT, atT, intern, internL, kp_ents, fz_ents, fz_bytes, kp_bytes, logR, logE, ← List.map_take, ← List.map_drop, List.take_length, beq_self_eq_true, eq_self, decide_true, Bool.and_self] at hσ_; subst hσ_
        first | refine TL.st rfl (S_not rfl rfl) ?_ | refine TL.st rfl (S_neg rfl rfl) ?_
        intro σ_ hσ_; simp only [nrm, tev, St.step, putO, setsV, addO, ↓reduceIte, Nat.reduceAdd, logT, atT, intern, internL, kp_ents, fz_ents, fz_bytes, kp_bytes, logR, logE, ← List.map_take, ← List.map_drop, List.take_length, beq_self_eq_true, eq_self, decide_true, Bool.and_self] at hσ_; subst hσ_
        refine TL.nil ?_
        try simp (decide := true) only [thenT, inBlockT, noGotoT, jumpT, ↓reduceIte, true_and]
        refine hK21_ _ ?_
        refine TW.cond_f rfl (rfl) ?_
        refine TW.skip ?_
        try simp (decide := true) only [thenT, inBlockT, noGotoT, jumpT, ↓reduceIte, true_and]
        refine hK20_ _ ?_
        refine TW.seq_k ?_
        intro K22_ hK22_
        refine TW.seq_k ?_
        intro K23_ hK23_
        refine TW.region_par 18 (by kernel_rfl) (by kernel_rfl) ?_
        simp only [List.take_succ_cons, List.take_zero, List.drop_succ_cons, List.drop_zero, List.take_nil, List.drop_nil]
        first | refine TPar.st rfl (S_load rfl rfl rfl (tT rfl) rfl) ?_ | refine TPar.st rfl (S_load_eptr rfl rfl (tT rfl) rfl) ?_ | refine TPar.st rfl (S_load_row rfl rfl rfl rfl (by assumption) (tT rfl) rfl) ?_ | refine TPar.st rfl (S_load_row (j := 0) rfl rfl rfl rfl (by assumption) (tT rfl) rfl) ?_
        intro s_ h_ hs_ hh_; simp only [nrm, tev, St.step, putO, setsV, addO, ↓reduceIte, Nat.reduceAdd, logT, atT, intern, internL, kp_ents, fz_ents, fz_bytes, kp_bytes, logR, logE, ← List.map_take, ← List.map_drop, List.take_length, beq_self_eq_true, eq_self, decide_true, Bool.and_self] at hs_ hh_; subst hs_; subst hh_
        first | refine TPar.st rfl (S_call_row rfl rfl rfl (by kernel_rfl) rfl ((may6_T _ _ x.i x.t es xf hi0 hi1 ht0 ht1).eq rfl (by rw [hm])) rfl) ?_ | refine TPar.st rfl (S_call rfl rfl rfl (by kernel_rfl) rfl ((may6_T _ _ x.i x.t es xf hi0 hi1 ht0 ht1).eq rfl (by rw [hm]))) ?_ | refine TPar.st rfl (S_call_row rfl rfl rfl (by kernel_rfl) rfl ((may6_T _ _ x.i x.t (es.take k) okX hi0 hi1 ht0 ht1).eq rfl (by rw [hhd])) rfl) ?_ | refine TPar.st rfl (S_call rfl rfl rfl (by kernel_rfl) rfl ((may6_T _ _ x.i x.t (es.take k) okX hi0 hi1 ht0 ht1).eq rfl (by rw [hhd]))) ?_ | refine TPar.st rfl (S_call_row rfl rfl rfl (by kernel_rfl) rfl ((may6_T _ _ (x.i + j) (tm x.t es j) (es.drop j) okZ hj0 hj1 htm.1 htm.2).eq rfl (by rw [htl])) rfl) ?_ | refine TPar.st rfl (S_call rfl rfl rfl (by kernel_rfl) rfl ((may6_T _ _ (x.i + j) (tm x.t es j) (es.drop j) okZ hj0 hj1 htm.1 htm.2).eq rfl (by rw [htl]))) ?_
        intro s_ h_ hs_ hh_; simp only [nrm, tev, St.step, putO, setsV, addO, ↓reduceIte, Nat.reduceAdd, logT, atT, intern, internL, kp_ents, fz_ents, fz_bytes, kp_bytes, logR, logE, ← List.map_take, ← List.map_drop, List.take_length, beq_self_eq_true, eq_self, decide_true, Bool.and_self] at hs_ hh_; subst hs_; subst hh_
        first | refine TPar.st rfl (S_not rfl rfl) ?_ | refine TPar.st rfl (S_neg rfl rfl) ?_
        intro s_ h_ hs_ hh_; simp only [nrm, tev, St.step, putO, setsV, addO, ↓reduceIte, Nat.reduceAdd, logT, atT, intern, internL, kp_ents, fz_ents, fz_bytes, kp_bytes, logR, logE, ← List.map_take, ← List.map_drop, List.take_length, beq_self_eq_true, eq_self, decide_true, Bool.and_self] at hs_ hh_; subst hs_; subst hh_
        refine TPar.st rfl (S_move rfl) ?_
        intro s_ h_ hs_ hh_; simp only [nrm, tev, St.step, putO, setsV, addO, ↓reduceIte, Nat.reduceAdd, logT, atT, intern, internL, kp_ents, fz_ents, fz_bytes, kp_bytes, logR, logE, ← List.map_take, ← List.map_drop, List.take_length, beq_self_eq_true, eq_self, decide_true, Bool.and_self] at hs_ hh_; subst hs_; subst hh_
        first | refine TPar.st_g rfl rfl rfl (Nat.le_of_ble_eq_true rfl) rfl (S_fieldAddr rfl rfl (tT rfl) rfl rfl (tT rfl) (by decide)) ?_ | refine TPar.st_g rfl rfl rfl (Nat.le_of_ble_eq_true rfl) rfl (S_fieldAddr_eptr rfl rfl (tT rfl) rfl rfl (tT rfl) (by decide)) ?_ | refine TPar.sk_g rfl rfl rfl (Nat.le_of_ble_eq_true rfl) rfl rfl ?_
        intro s_ h_ hs_ hh_; simp only [nrm, tev, St.step, putO, setsV, addO, ↓reduceIte, Nat.reduceAdd, logT, atT, intern, internL, kp_ents, fz_ents, fz_bytes, kp_bytes, logR, logE, ← List.map_take, ← List.map_drop, List.take_length, beq_self_eq_true, eq_self, decide_true, Bool.and_self] at hs_ hh_; subst hs_; subst hh_
        first | refine TPar.st_g rfl rfl rfl (Nat.le_of_ble_eq_true rfl) rfl (S_load rfl rfl rfl (tT rfl) rfl) ?_ | refine TPar.st_g rfl rfl rfl (Nat.le_of_ble_eq_true rfl) rfl (S_load_eptr rfl rfl (tT rfl) rfl) ?_ | refine TPar.st_g rfl rfl rfl (Nat.le_of_ble_eq_true rfl) rfl (S_load_row rfl rfl rfl rfl (by assumption) (tT rfl) rfl) ?_ | refine TPar.st_g rfl rfl rfl (Nat.le_of_ble_eq_true rfl) rfl (S_load_row (j := 0) rfl rfl rfl rfl (by assumption) (tT rfl) rfl) ?_ | refine TPar.sk_g rfl rfl rfl (Nat.le_of_ble_eq_true rfl) rfl rfl ?_
        intro s_ h_ hs_ hh_; simp only [nrm, tev, St.step, putO, setsV, addO, ↓reduceIte, Nat.reduceAdd, logT, atT, intern, internL, kp_ents, fz_ents, fz_bytes, kp_bytes, logR, logE, ← List.map_take, ← List.map_drop, List.take_length, beq_self_eq_true, eq_self, decide_true, Bool.and_self] at hs_ hh_; subst hs_; subst hh_
        first | refine TPar.st_g rfl rfl rfl (Nat.le_of_ble_eq_true rfl) rfl (S_move rfl) ?_ | refine TPar.sk_g rfl rfl rfl (Nat.le_of_ble_eq_true rfl) rfl rfl ?_
        intro s_ h_ hs_ hh_; simp only [nrm, tev, St.step, putO, setsV, addO, ↓reduceIte, Nat.reduceAdd, logT, atT, intern, internL, kp_ents, fz_ents, fz_bytes, kp_bytes, logR, logE, ← List.map_take, ← List.map_drop, List.take_length, beq_self_eq_true, eq_self, decide_true, Bool.and_self] at hs_ hh_; subst hs_; subst hh_
        first | refine TPar.st_g rfl rfl rfl (Nat.le_of_ble_eq_true rfl) rfl (S_move rfl) ?_ | refine TPar.sk_g rfl rfl rfl (Nat.le_of_ble_eq_true rfl) rfl rfl ?_
        intro s_ h_ hs_ hh_; simp only [nrm, tev, St.step, putO, setsV, addO, ↓reduceIte, Nat.reduceAdd, logT, atT, intern, internL, kp_ents, fz_ents, fz_bytes, kp_bytes, logR, logE, ← List.map_take, ← List.map_drop, List.take_length, beq_self_eq_true, eq_self, decide_true, Bool.and_self] at hs_ hh_; subst hs_; subst hh_
        first | refine TPar.st_g rfl rfl rfl (Nat.le_of_ble_eq_true rfl) rfl (S_build rfl (tT rfl) rfl (zT rfl) rfl (by repeat (first | exact PlOk.nil | (apply PlOk.cons; exact tT rfl))) rfl rfl) ?_ | refine TPar.sk_g rfl rfl rfl (Nat.le_of_ble_eq_true rfl) rfl rfl ?_
        intro s_ h_ hs_ hh_; simp only [nrm, tev, St.step, putO, setsV, addO, ↓reduceIte, Nat.reduceAdd, logT, atT, intern, internL, kp_ents, fz_ents, fz_bytes, kp_bytes, logR, logE, ← List.map_take, ← List.map_drop, List.take_length, beq_self_eq_true, eq_self, decide_true, Bool.and_self] at hs_ hh_; subst hs_; subst hh_
        first | refine TPar.st_g rfl rfl rfl (Nat.le_of_ble_eq_true rfl) rfl (S_int rfl rfl rfl rfl (vnt (by omega))) ?_ | refine TPar.st_g rfl rfl rfl (Nat.le_of_ble_eq_true rfl) rfl (S_int rfl rfl rfl rfl (vnf (by omega))) ?_ | refine TPar.st_g rfl rfl rfl (Nat.le_of_ble_eq_true rfl) rfl (S_int rfl rfl rfl rfl rfl) ?_ | refine TPar.st_g rfl rfl rfl (Nat.le_of_ble_eq_true rfl) rfl (S_boolneq rfl rfl rfl rfl (tT rfl) rfl) ?_ | refine TPar.st_g rfl rfl rfl (Nat.le_of_ble_eq_true rfl) rfl (S_bin (u := .bool true) rfl rfl rfl (fun w => (neAt_run _ _ _ _ _ _ w).trans (congrArg (fun b => Result.ok (Value.bool b) w) hq_))) ?_ | refine TPar.st_g rfl rfl rfl (Nat.le_of_ble_eq_true rfl) rfl (S_bin (u := .bool false) rfl rfl rfl (fun w => (neAt_run _ _ _ _ _ _ w).trans (congrArg (fun b => Result.ok (Value.bool b) w) hq_))) ?_ | refine TPar.st_g rfl rfl rfl (Nat.le_of_ble_eq_true rfl) rfl (S_bin rfl rfl rfl (neAt_run _ _ _ _ _ _)) ?_ | refine TPar.sk_g rfl rfl rfl (Nat.le_of_ble_eq_true rfl) rfl rfl ?_
        intro s_ h_ hs_ hh_; simp only [nrm, tev, St.step, putO, setsV, addO, ↓reduceIte, Nat.reduceAdd, logT, atT, intern, internL, kp_ents, fz_ents, fz_bytes, kp_bytes, logR, logE, ← List.map_take, ← List.map_drop, List.take_length, beq_self_eq_true, eq_self, decide_true, Bool.and_self] at hs_ hh_; subst hs_; subst hh_
        refine TPar.st rfl (S_pick rfl rfl rfl) ?_
        intro s_ h_ hs_ hh_; simp only [nrm, tev, St.step, putO, setsV, addO, ↓reduceIte, Nat.reduceAdd, logT, atT, intern, internL, kp_ents, fz_ents, fz_bytes, kp_bytes, logR, logE, ← List.map_take, ← List.map_drop, List.take_length, beq_self_eq_true, eq_self, decide_true, Bool.and_self] at hs_ hh_; subst hs_; subst hh_
        refine TPar.st rfl (S_move rfl) ?_
        intro s_ h_ hs_ hh_; simp only [nrm, tev, St.step, putO, setsV, addO, ↓reduceIte, Nat.reduceAdd, logT, atT, intern, internL, kp_ents, fz_ents, fz_bytes, kp_bytes, logR, logE, ← List.map_take, ← List.map_drop, List.take_length, beq_self_eq_true, eq_self, decide_true, Bool.and_self] at hs_ hh_; subst hs_; subst hh_
        first | refine TPar.st_g rfl rfl rfl (Nat.le_of_ble_eq_true rfl) rfl (S_load rfl rfl rfl (tT rfl) rfl) ?_ | refine TPar.st_g rfl rfl rfl (Nat.le_of_ble_eq_true rfl) rfl (S_load_eptr rfl rfl (tT rfl) rfl) ?_ | refine TPar.st_g rfl rfl rfl (Nat.le_of_ble_eq_true rfl) rfl (S_load_row rfl rfl rfl rfl (by assumption) (tT rfl) rfl) ?_ | refine TPar.st_g rfl rfl rfl (Nat.le_of_ble_eq_true rfl) rfl (S_load_row (j := 0) rfl rfl rfl rfl (by assumption) (tT rfl) rfl) ?_ | refine TPar.sk_g rfl rfl rfl (Nat.le_of_ble_eq_true rfl) rfl rfl ?_
        intro s_ h_ hs_ hh_; simp only [nrm, tev, St.step, putO, setsV, addO, ↓reduceIte, Nat.reduceAdd, logT, atT, intern, internL, kp_ents, fz_ents, fz_bytes, kp_bytes, logR, logE, ← List.map_take, ← List.map_drop, List.take_length, beq_self_eq_true, eq_self, decide_true, Bool.and_self] at hs_ hh_; subst hs_; subst hh_
        first | refine TPar.st_g rfl rfl rfl (Nat.le_of_ble_eq_true rfl) rfl (S_call_row rfl rfl rfl (by kernel_rfl) rfl ((last_T _ _ x.i x.t (es.take k) okX.w okX.n9 hi0 hi1).eq rfl (by rw [hlh])) rfl) ?_ | refine TPar.st_g rfl rfl rfl (Nat.le_of_ble_eq_true rfl) rfl (S_call rfl rfl rfl (by kernel_rfl) rfl ((last_T _ _ x.i x.t (es.take k) okX.w okX.n9 hi0 hi1).eq rfl (by rw [hlh]))) ?_ | refine TPar.st_g rfl rfl rfl (Nat.le_of_ble_eq_true rfl) rfl (S_call_row rfl rfl rfl (by kernel_rfl) rfl ((last_T _ _ x.i x.t es xf.w xf.n9 hi0 hi1).eq rfl (by rw [hla])) rfl) ?_ | refine TPar.st_g rfl rfl rfl (Nat.le_of_ble_eq_true rfl) rfl (S_call rfl rfl rfl (by kernel_rfl) rfl ((last_T _ _ x.i x.t es xf.w xf.n9 hi0 hi1).eq rfl (by rw [hla]))) ?_ | refine TPar.st_g rfl rfl rfl (Nat.le_of_ble_eq_true rfl) rfl (S_call_row rfl rfl rfl (by kernel_rfl) rfl ((last_T _ _ (x.i + j) (tm x.t es j) (es.drop j) okZ.w okZ.n9 hj0 hj1).eq rfl (by rw [hlt2])) rfl) ?_ | refine TPar.st_g rfl rfl rfl (Nat.le_of_ble_eq_true rfl) rfl (S_call rfl rfl rfl (by kernel_rfl) rfl ((last_T _ _ (x.i + j) (tm x.t es j) (es.drop j) okZ.w okZ.n9 hj0 hj1).eq rfl (by rw [hlt2]))) ?_ | refine TPar.sk_g rfl rfl rfl (Nat.le_of_ble_eq_true rfl) rfl rfl ?_
        intro s_ h_ hs_ hh_; simp only [nrm, tev, St.step, putO, setsV, addO, ↓reduceIte, Nat.reduceAdd, logT, atT, intern, internL, kp_ents, fz_ents, fz_bytes, kp_bytes, logR, logE, ← List.map_take, ← List.map_drop, List.take_length, beq_self_eq_true, eq_self, decide_true, Bool.and_self] at hs_ hh_; subst hs_; subst hh_
        first | refine TPar.st_g rfl rfl rfl (Nat.le_of_ble_eq_true rfl) rfl (S_load rfl rfl rfl (tT rfl) rfl) ?_ | refine TPar.st_g rfl rfl rfl (Nat.le_of_ble_eq_true rfl) rfl (S_load_eptr rfl rfl (tT rfl) rfl) ?_ | refine TPar.st_g rfl rfl rfl (Nat.le_of_ble_eq_true rfl) rfl (S_load_row rfl rfl rfl rfl (by assumption) (tT rfl) rfl) ?_ | refine TPar.st_g rfl rfl rfl (Nat.le_of_ble_eq_true rfl) rfl (S_load_row (j := 0) rfl rfl rfl rfl (by assumption) (tT rfl) rfl) ?_ | refine TPar.sk_g rfl rfl rfl (Nat.le_of_ble_eq_true rfl) rfl rfl ?_
        intro s_ h_ hs_ hh_; simp only [nrm, tev, St.step, putO, setsV, addO, ↓reduceIte, Nat.reduceAdd, logT, atT, intern, internL, kp_ents, fz_ents, fz_bytes, kp_bytes, logR, logE, ← List.map_take, ← List.map_drop, List.take_length, beq_self_eq_true, eq_self, decide_true, Bool.and_self] at hs_ hh_; subst hs_; subst hh_
        first | refine TPar.st_g rfl rfl rfl (Nat.le_of_ble_eq_true rfl) rfl (S_call_row rfl rfl rfl (by kernel_rfl) rfl ((last_T _ _ x.i x.t (es.take k) okX.w okX.n9 hi0 hi1).eq rfl (by rw [hlh])) rfl) ?_ | refine TPar.st_g rfl rfl rfl (Nat.le_of_ble_eq_true rfl) rfl (S_call rfl rfl rfl (by kernel_rfl) rfl ((last_T _ _ x.i x.t (es.take k) okX.w okX.n9 hi0 hi1).eq rfl (by rw [hlh]))) ?_ | refine TPar.st_g rfl rfl rfl (Nat.le_of_ble_eq_true rfl) rfl (S_call_row rfl rfl rfl (by kernel_rfl) rfl ((last_T _ _ x.i x.t es xf.w xf.n9 hi0 hi1).eq rfl (by rw [hla])) rfl) ?_ | refine TPar.st_g rfl rfl rfl (Nat.le_of_ble_eq_true rfl) rfl (S_call rfl rfl rfl (by kernel_rfl) rfl ((last_T _ _ x.i x.t es xf.w xf.n9 hi0 hi1).eq rfl (by rw [hla]))) ?_ | refine TPar.st_g rfl rfl rfl (Nat.le_of_ble_eq_true rfl) rfl (S_call_row rfl rfl rfl (by kernel_rfl) rfl ((last_T _ _ (x.i + j) (tm x.t es j) (es.drop j) okZ.w okZ.n9 hj0 hj1).eq rfl (by rw [hlt2])) rfl) ?_ | refine TPar.st_g rfl rfl rfl (Nat.le_of_ble_eq_true rfl) rfl (S_call rfl rfl rfl (by kernel_rfl) rfl ((last_T _ _ (x.i + j) (tm x.t es j) (es.drop j) okZ.w okZ.n9 hj0 hj1).eq rfl (by rw [hlt2]))) ?_ | refine TPar.sk_g rfl rfl rfl (Nat.le_of_ble_eq_true rfl) rfl rfl ?_
        intro s_ h_ hs_ hh_; simp only [nrm, tev, St.step, putO, setsV, addO, ↓reduceIte, Nat.reduceAdd, logT, atT, intern, internL, kp_ents, fz_ents, fz_bytes, kp_bytes, logR, logE, ← List.map_take, ← List.map_drop, List.take_length, beq_self_eq_true, eq_self, decide_true, Bool.and_self] at hs_ hh_; subst hs_; subst hh_
        first | refine TPar.st_g rfl rfl rfl (Nat.le_of_ble_eq_true rfl) rfl (S_int rfl rfl rfl rfl (vnt (by omega))) ?_ | refine TPar.st_g rfl rfl rfl (Nat.le_of_ble_eq_true rfl) rfl (S_int rfl rfl rfl rfl (vnf (by omega))) ?_ | refine TPar.st_g rfl rfl rfl (Nat.le_of_ble_eq_true rfl) rfl (S_int rfl rfl rfl rfl rfl) ?_ | refine TPar.st_g rfl rfl rfl (Nat.le_of_ble_eq_true rfl) rfl (S_boolneq rfl rfl rfl rfl (tT rfl) rfl) ?_ | refine TPar.st_g rfl rfl rfl (Nat.le_of_ble_eq_true rfl) rfl (S_bin (u := .bool true) rfl rfl rfl (fun w => (neAt_run _ _ _ _ _ _ w).trans (congrArg (fun b => Result.ok (Value.bool b) w) hq_))) ?_ | refine TPar.st_g rfl rfl rfl (Nat.le_of_ble_eq_true rfl) rfl (S_bin (u := .bool false) rfl rfl rfl (fun w => (neAt_run _ _ _ _ _ _ w).trans (congrArg (fun b => Result.ok (Value.bool b) w) hq_))) ?_ | refine TPar.st_g rfl rfl rfl (Nat.le_of_ble_eq_true rfl) rfl (S_bin rfl rfl rfl (neAt_run _ _ _ _ _ _)) ?_ | refine TPar.sk_g rfl rfl rfl (Nat.le_of_ble_eq_true rfl) rfl rfl ?_
        intro s_ h_ hs_ hh_; simp only [nrm, tev, St.step, putO, setsV, addO, ↓reduceIte, Nat.reduceAdd, logT, atT, intern, internL, kp_ents, fz_ents, fz_bytes, kp_bytes, logR, logE, ← List.map_take, ← List.map_drop, List.take_length, beq_self_eq_true, eq_self, decide_true, Bool.and_self] at hs_ hh_; subst hs_; subst hh_
        refine TPar.st rfl (S_pick rfl rfl rfl) ?_
        intro s_ h_ hs_ hh_; simp only [nrm, tev, St.step, putO, setsV, addO, ↓reduceIte, Nat.reduceAdd, logT, atT, intern, internL, kp_ents, fz_ents, fz_bytes, kp_bytes, logR, logE, ← List.map_take, ← List.map_drop, List.take_length, beq_self_eq_true, eq_self, decide_true, Bool.and_self] at hs_ hh_; subst hs_; subst hh_
        unfold TPar
        refine TL.nil ?_
        try simp (decide := true) only [thenT, inBlockT, noGotoT, jumpT, ↓reduceIte, true_and]
        refine hK23_ _ ?_
        refine TW.cond_f rfl (rfl) ?_
        refine TW.skip ?_
        try simp (decide := true) only [thenT, inBlockT, noGotoT, jumpT, ↓reduceIte, true_and]
        refine hK22_ _ ?_
        refine TW.seq_k ?_
        intro K24_ hK24_
        refine TW.seq_k ?_
        intro K25_ hK25_
        refine TW.reg ?_
        first | refine TL.st rfl (S_fieldAddr rfl rfl (tT rfl) rfl rfl (tT rfl) (by decide)) ?_ | refine TL.st rfl (S_fieldAddr_eptr rfl rfl (tT rfl) rfl rfl (tT rfl) (by decide)) ?_
        intro σ_ hσ_; simp only [nrm, tev, St.step, putO, setsV, addO, ↓reduceIte, Nat.reduceAdd, logT, atT, intern, internL, kp_ents, fz_ents, fz_bytes, kp_bytes, logR, logE, ← List.map_take, ← List.map_drop, List.take_length, beq_self_eq_true, eq_self, decide_true, Bool.and_self] at hσ_; subst hσ_
        first | refine TL.st rfl (S_load rfl rfl rfl (tT rfl) rfl) ?_ | refine TL.st rfl (S_load_eptr rfl rfl (tT rfl) rfl) ?_ | refine TL.st rfl (S_load_row rfl rfl rfl rfl (by assumption) (tT rfl) rfl) ?_ | refine TL.st rfl (S_load_row (j := 0) rfl rfl rfl rfl (by assumption) (tT rfl) rfl) ?_
        intro σ_ hσ_; simp only [nrm, tev, St.step, putO, setsV, addO, ↓reduceIte, Nat.reduceAdd, logT, atT, intern, internL, kp_ents, fz_ents, fz_bytes, kp_bytes, logR, logE, ← List.map_take, ← List.map_drop, List.take_length, beq_self_eq_true, eq_self, decide_true, Bool.and_self] at hσ_; subst hσ_
        first | refine TL.st rfl (S_len rfl rfl (tT rfl) rfl (.inl ⟨_, _, rfl, rfl⟩)) ?_ | refine TL.st rfl (S_len rfl rfl (tT rfl) rfl (.inr (.inl ⟨_, _, _, _, rfl, rfl, rfl⟩))) ?_ | refine TL.st rfl (S_len rfl rfl (tT rfl) rfl (.inr (.inr ⟨rfl, rfl⟩))) ?_ | refine TL.st rfl (S_len_str rfl rfl (tT rfl) rfl rfl) ?_ | refine TL.st rfl (S_len_arr rfl rfl (tT rfl) rfl) ?_
        intro σ_ hσ_; simp only [nrm, tev, St.step, putO, setsV, addO, ↓reduceIte, Nat.reduceAdd, logT, atT, intern, internL, kp_ents, fz_ents, fz_bytes, kp_bytes, logR, logE, ← List.map_take, ← List.map_drop, List.take_length, beq_self_eq_true, eq_self, decide_true, Bool.and_self] at hσ_; subst hσ_
        first | refine TL.st rfl (S_int rfl rfl rfl rfl (vi64 (by omega))) ?_ | refine TL.st rfl (S_int rfl rfl rfl rfl (vu64 (by omega))) ?_ | refine TL.st rfl (S_int rfl rfl rfl rfl rfl) ?_
        intro σ_ hσ_; simp only [nrm, tev, St.step, putO, setsV, addO, ↓reduceIte, Nat.reduceAdd, logT, atT, intern, internL, kp_ents, fz_ents, fz_bytes, kp_bytes, logR, logE, ← List.map_take, ← List.map_drop, List.take_length, beq_self_eq_true, eq_self, decide_true, Bool.and_self] at hσ_; subst hσ_
        refine TL.st rfl (S_move rfl) ?_
        intro σ_ hσ_; simp only [nrm, tev, St.step, putO, setsV, addO, ↓reduceIte, Nat.reduceAdd, logT, atT, intern, internL, kp_ents, fz_ents, fz_bytes, kp_bytes, logR, logE, ← List.map_take, ← List.map_drop, List.take_length, beq_self_eq_true, eq_self, decide_true, Bool.and_self] at hσ_; subst hσ_
        refine TL.nil ?_
        try simp (decide := true) only [thenT, inBlockT, noGotoT, jumpT, ↓reduceIte, true_and]
        refine hK25_ _ ?_
        refine TW.block ?_
        refine TW.loopS (X := Nat) (fun m => m ≤ es.length + 1) (fun m => es.length + 1 - m) (fun m => [(4, .any), (16, .any), (17, .any), (18, .any), (19, .any), (20, .any), (21, .any), (123, .v (.int .i64 m)), (124, .any), (125, .any), (126, .any), (127, .any), (128, .any), (129, .any), (130, .any), (131, .any), (132, .any), (133, .any), (134, .any), (135, .any), (136, .any), (137, .any), (138, .any), (139, .any), (140, .any), (141, .any), (142, .any), (143, .any), (144, .any), (145, .any), (146, .any), (147, .any), (148, .any), (149, .any), (150, .any), (151, .any), (152, .any), (153, .any), (154, .any), (155, .any), (156, .any), (157, .any)]) (fun m => []) 0 (Nat.zero_le _) ?_ ?_
        · refine SLe.of ?_ ?_ ?_
          · simp [setsL, LeL_cons, LeL_nil, LeT_any, LeT_self, LeT_v, LeT_sl, LeT_nil_sl, List.set_cons_zero, List.set_cons_succ, kp_ents]
          · simp [setsL, LeB_self, LeB_nil]
          · exact LeL.refl _
        · rintro m hmm σ_ hσ_
          simp only [nrm, tev, St.step, putO, setsV, addO, ↓reduceIte, Nat.reduceAdd, logT, atT, intern, internL, kp_ents, fz_ents, fz_bytes, kp_bytes, logR, logE, ← List.map_take, ← List.map_drop, List.take_length, beq_self_eq_true, eq_self, decide_true, Bool.and_self, setsL_nil, setsL_cons] at hσ_; subst hσ_
          refine TW.seq_k ?_
          intro K26_ hK26_
          by_cases hlt : m < es.length + 1
          · skip
            have hm1 := term_at hi0 hm (show m ≤ es.length by omega)
            have hm2 := term_tail hi0 hm hjl ht0 (show m ≤ es.length by omega)
            refine TW.reg ?_
            first | refine TL.st rfl (S_int rfl rfl rfl rfl (vbt (by omega))) ?_ | refine TL.st rfl (S_int rfl rfl rfl rfl (vbf (by omega))) ?_ | refine TL.st rfl (S_int rfl rfl rfl rfl rfl) ?_
            intro σ_ hσ_; simp only [nrm, tev, St.step, putO, setsV, addO, ↓reduceIte, Nat.reduceAdd, logT, atT, intern, internL, kp_ents, fz_ents, fz_bytes, kp_bytes, logR, logE, ← List.map_take, ← List.map_drop, List.take_length, beq_self_eq_true, eq_self, decide_true, Bool.and_self] at hσ_; subst hσ_
            refine TL.nil ?_
            try simp (decide := true) only [thenT, inBlockT, noGotoT, jumpT, ↓reduceIte, true_and]
            refine hK26_ _ ?_
            refine TW.seq_k ?_
            intro K27_ hK27_
            refine TW.cond_t rfl (rfl) ?_
            refine TW.skip ?_
            try simp (decide := true) only [thenT, inBlockT, noGotoT, jumpT, ↓reduceIte, true_and]
            refine hK27_ _ ?_
            refine TW.seq_k ?_
            intro K28_ hK28_
            refine TW.block ?_
            refine TW.seq_k ?_
            intro K29_ hK29_
            refine TW.reg ?_
            refine TL.st rfl (S_move rfl) ?_
            intro σ_ hσ_; simp only [nrm, tev, St.step, putO, setsV, addO, ↓reduceIte, Nat.reduceAdd, logT, atT, intern, internL, kp_ents, fz_ents, fz_bytes, kp_bytes, logR, logE, ← List.map_take, ← List.map_drop, List.take_length, beq_self_eq_true, eq_self, decide_true, Bool.and_self] at hσ_; subst hσ_
            refine TL.st rfl (S_assign rfl) ?_
            intro σ_ hσ_; simp only [nrm, tev, St.step, putO, setsV, addO, ↓reduceIte, Nat.reduceAdd, logT, atT, intern, internL, kp_ents, fz_ents, fz_bytes, kp_bytes, logR, logE, ← List.map_take, ← List.map_drop, List.take_length, beq_self_eq_true, eq_self, decide_true, Bool.and_self] at hσ_; subst hσ_
            refine TL.nil ?_
            try simp (decide := true) only [thenT, inBlockT, noGotoT, jumpT, ↓reduceIte, true_and]
            refine hK29_ _ ?_
            refine TW.seq_k ?_
            intro K30_ hK30_
            refine TW.reg ?_
            first | refine TL.st rfl (S_fieldAddr rfl rfl (tT rfl) rfl rfl (tT rfl) (by decide)) ?_ | refine TL.st rfl (S_fieldAddr_eptr rfl rfl (tT rfl) rfl rfl (tT rfl) (by decide)) ?_
            intro σ_ hσ_; simp only [nrm, tev, St.step, putO, setsV, addO, ↓reduceIte, Nat.reduceAdd, logT, atT, intern, internL, kp_ents, fz_ents, fz_bytes, kp_bytes, logR, logE, ← List.map_take, ← List.map_drop, List.take_length, beq_self_eq_true, eq_self, decide_true, Bool.and_self] at hσ_; subst hσ_
            first | refine TL.st rfl (S_fieldAddr rfl rfl (tT rfl) rfl rfl (tT rfl) (by decide)) ?_ | refine TL.st rfl (S_fieldAddr_eptr rfl rfl (tT rfl) rfl rfl (tT rfl) (by decide)) ?_
            intro σ_ hσ_; simp only [nrm, tev, St.step, putO, setsV, addO, ↓reduceIte, Nat.reduceAdd, logT, atT, intern, internL, kp_ents, fz_ents, fz_bytes, kp_bytes, logR, logE, ← List.map_take, ← List.map_drop, List.take_length, beq_self_eq_true, eq_self, decide_true, Bool.and_self] at hσ_; subst hσ_
            first | refine TL.st rfl (S_load rfl rfl rfl (tT rfl) rfl) ?_ | refine TL.st rfl (S_load_eptr rfl rfl (tT rfl) rfl) ?_ | refine TL.st rfl (S_load_row rfl rfl rfl rfl (by assumption) (tT rfl) rfl) ?_ | refine TL.st rfl (S_load_row (j := 0) rfl rfl rfl rfl (by assumption) (tT rfl) rfl) ?_
            intro σ_ hσ_; simp only [nrm, tev, St.step, putO, setsV, addO, ↓reduceIte, Nat.reduceAdd, logT, atT, intern, internL, kp_ents, fz_ents, fz_bytes, kp_bytes, logR, logE, ← List.map_take, ← List.map_drop, List.take_length, beq_self_eq_true, eq_self, decide_true, Bool.and_self] at hσ_; subst hσ_
            refine TL.st rfl (S_move rfl) ?_
            intro σ_ hσ_; simp only [nrm, tev, St.step, putO, setsV, addO, ↓reduceIte, Nat.reduceAdd, logT, atT, intern, internL, kp_ents, fz_ents, fz_bytes, kp_bytes, logR, logE, ← List.map_take, ← List.map_drop, List.take_length, beq_self_eq_true, eq_self, decide_true, Bool.and_self] at hσ_; subst hσ_
            first | refine TL.st rfl (S_conv_int rfl rfl (tT rfl) (tT rfl) rfl (vi64 (by omega))) ?_ | refine TL.st rfl (S_conv_int rfl rfl (tT rfl) (tT rfl) rfl (vu64 (by omega))) ?_ | refine TL.st rfl (S_conv_int rfl rfl (tT rfl) (tT rfl) rfl (vu8 (by omega))) ?_ | refine TL.st rfl (S_conv_int rfl rfl (tT rfl) (tT rfl) rfl rfl) ?_ | refine TL.st rfl (S_conv_str rfl rfl (tT rfl) (tT rfl) rfl) ?_
            intro σ_ hσ_; simp only [nrm, tev, St.step, putO, setsV, addO, ↓reduceIte, Nat.reduceAdd, logT, atT, intern, internL, kp_ents, fz_ents, fz_bytes, kp_bytes, logR, logE, ← List.map_take, ← List.map_drop, List.take_length, beq_self_eq_true, eq_self, decide_true, Bool.and_self] at hσ_; subst hσ_
            first | refine TL.st rfl (S_int rfl rfl rfl rfl (vi64 (by omega))) ?_ | refine TL.st rfl (S_int rfl rfl rfl rfl (vu64 (by omega))) ?_ | refine TL.st rfl (S_int rfl rfl rfl rfl rfl) ?_
            intro σ_ hσ_; simp only [nrm, tev, St.step, putO, setsV, addO, ↓reduceIte, Nat.reduceAdd, logT, atT, intern, internL, kp_ents, fz_ents, fz_bytes, kp_bytes, logR, logE, ← List.map_take, ← List.map_drop, List.take_length, beq_self_eq_true, eq_self, decide_true, Bool.and_self] at hσ_; subst hσ_
            refine TL.st rfl (S_assign rfl) ?_
            intro σ_ hσ_; simp only [nrm, tev, St.step, putO, setsV, addO, ↓reduceIte, Nat.reduceAdd, logT, atT, intern, internL, kp_ents, fz_ents, fz_bytes, kp_bytes, logR, logE, ← List.map_take, ← List.map_drop, List.take_length, beq_self_eq_true, eq_self, decide_true, Bool.and_self] at hσ_; subst hσ_
            refine TL.nil ?_
            try simp (decide := true) only [thenT, inBlockT, noGotoT, jumpT, ↓reduceIte, true_and]
            refine hK30_ _ ?_
            refine TW.seq_k ?_
            intro K31_ hK31_
            refine TW.reg ?_
            first | refine TL.st rfl (S_load rfl rfl rfl (tT rfl) rfl) ?_ | refine TL.st rfl (S_load_eptr rfl rfl (tT rfl) rfl) ?_ | refine TL.st rfl (S_load_row rfl rfl rfl rfl (by assumption) (tT rfl) rfl) ?_ | refine TL.st rfl (S_load_row (j := 0) rfl rfl rfl rfl (by assumption) (tT rfl) rfl) ?_
            intro σ_ hσ_; simp only [nrm, tev, St.step, putO, setsV, addO, ↓reduceIte, Nat.reduceAdd, logT, atT, intern, internL, kp_ents, fz_ents, fz_bytes, kp_bytes, logR, logE, ← List.map_take, ← List.map_drop, List.take_length, beq_self_eq_true, eq_self, decide_true, Bool.and_self] at hσ_; subst hσ_
            refine TL.st rfl (S_move rfl) ?_
            intro σ_ hσ_; simp only [nrm, tev, St.step, putO, setsV, addO, ↓reduceIte, Nat.reduceAdd, logT, atT, intern, internL, kp_ents, fz_ents, fz_bytes, kp_bytes, logR, logE, ← List.map_take, ← List.map_drop, List.take_length, beq_self_eq_true, eq_self, decide_true, Bool.and_self] at hσ_; subst hσ_
            first | refine TL.st rfl (S_call_row rfl rfl rfl (by kernel_rfl) rfl ((term_T _ _ x.i x.t es xf.w xf.n9 hi0 hi1 _).eq rfl (by rw [hpT])) rfl) ?_ | refine TL.st rfl (S_call rfl rfl rfl (by kernel_rfl) rfl ((term_T _ _ x.i x.t es xf.w xf.n9 hi0 hi1 _).eq rfl (by rw [hpT]))) ?_ | refine TL.st rfl (S_call_row rfl rfl rfl (by kernel_rfl) rfl ((term_T _ _ x.i x.t es xf.w xf.n9 hi0 hi1 (x.i + m)).eq rfl (by rw [hm1])) rfl) ?_ | refine TL.st rfl (S_call rfl rfl rfl (by kernel_rfl) rfl ((term_T _ _ x.i x.t es xf.w xf.n9 hi0 hi1 (x.i + m)).eq rfl (by rw [hm1]))) ?_ | refine TL.st rfl (S_call_row rfl rfl rfl (by kernel_rfl) rfl ((term_T _ _ (x.i + j) (tm x.t es j) (es.drop j) okZ.w okZ.n9 hj0 hj1 (x.i + m)).eq rfl (by rw [hm2])) rfl) ?_ | refine TL.st rfl (S_call rfl rfl rfl (by kernel_rfl) rfl ((term_T _ _ (x.i + j) (tm x.t es j) (es.drop j) okZ.w okZ.n9 hj0 hj1 (x.i + m)).eq rfl (by rw [hm2]))) ?_
            intro σ_ hσ_; simp only [nrm, tev, St.step, putO, setsV, addO, ↓reduceIte, Nat.reduceAdd, logT, atT, intern, internL, kp_ents, fz_ents, fz_bytes, kp_bytes, logR, logE, ← List.map_take, ← List.map_drop, List.take_length, beq_self_eq_true, eq_self, decide_true, Bool.and_self] at hσ_; subst hσ_
            refine TL.st rfl (S_move rfl) ?_
            intro σ_ hσ_; simp only [nrm, tev, St.step, putO, setsV, addO, ↓reduceIte, Nat.reduceAdd, logT, atT, intern, internL, kp_ents, fz_ents, fz_bytes, kp_bytes, logR, logE, ← List.map_take, ← List.map_drop, List.take_length, beq_self_eq_true, eq_self, decide_true, Bool.and_self] at hσ_; subst hσ_
            refine TL.st rfl (S_extract rfl rfl rfl) ?_
            intro σ_ hσ_; simp only [nrm, tev, St.step, putO, setsV, addO, ↓reduceIte, Nat.reduceAdd, logT, atT, intern, internL, kp_ents, fz_ents, fz_bytes, kp_bytes, logR, logE, ← List.map_take, ← List.map_drop, List.take_length, beq_self_eq_true, eq_self, decide_true, Bool.and_self] at hσ_; subst hσ_
            refine TL.st rfl (S_extract rfl rfl rfl) ?_
            intro σ_ hσ_; simp only [nrm, tev, St.step, putO, setsV, addO, ↓reduceIte, Nat.reduceAdd, logT, atT, intern, internL, kp_ents, fz_ents, fz_bytes, kp_bytes, logR, logE, ← List.map_take, ← List.map_drop, List.take_length, beq_self_eq_true, eq_self, decide_true, Bool.and_self] at hσ_; subst hσ_
            refine TL.st rfl (S_assign rfl) ?_
            intro σ_ hσ_; simp only [nrm, tev, St.step, putO, setsV, addO, ↓reduceIte, Nat.reduceAdd, logT, atT, intern, internL, kp_ents, fz_ents, fz_bytes, kp_bytes, logR, logE, ← List.map_take, ← List.map_drop, List.take_length, beq_self_eq_true, eq_self, decide_true, Bool.and_self] at hσ_; subst hσ_
            refine TL.st rfl (S_assign rfl) ?_
            intro σ_ hσ_; simp only [nrm, tev, St.step, putO, setsV, addO, ↓reduceIte, Nat.reduceAdd, logT, atT, intern, internL, kp_ents, fz_ents, fz_bytes, kp_bytes, logR, logE, ← List.map_take, ← List.map_drop, List.take_length, beq_self_eq_true, eq_self, decide_true, Bool.and_self] at hσ_; subst hσ_
            refine TL.nil ?_
            try simp (decide := true) only [thenT, inBlockT, noGotoT, jumpT, ↓reduceIte, true_and]
            refine hK31_ _ ?_
            refine TW.seq_k ?_
            intro K32_ hK32_
            by_cases hjm : j ≤ m
            · skip
              rw [if_pos hjm] at hm2
              refine TW.reg ?_
              first | refine TL.st rfl (S_load rfl rfl rfl (tT rfl) rfl) ?_ | refine TL.st rfl (S_load_eptr rfl rfl (tT rfl) rfl) ?_ | refine TL.st rfl (S_load_row rfl rfl rfl rfl (by assumption) (tT rfl) rfl) ?_ | refine TL.st rfl (S_load_row (j := 0) rfl rfl rfl rfl (by assumption) (tT rfl) rfl) ?_
              intro σ_ hσ_; simp only [nrm, tev, St.step, putO, setsV, addO, ↓reduceIte, Nat.reduceAdd, logT, atT, intern, internL, kp_ents, fz_ents, fz_bytes, kp_bytes, logR, logE, ← List.map_take, ← List.map_drop, List.take_length, beq_self_eq_true, eq_self, decide_true, Bool.and_self] at hσ_; subst hσ_
              refine TL.st rfl (S_move rfl) ?_
              intro σ_ hσ_; simp only [nrm, tev, St.step, putO, setsV, addO, ↓reduceIte, Nat.reduceAdd, logT, atT, intern, internL, kp_ents, fz_ents, fz_bytes, kp_bytes, logR, logE, ← List.map_take, ← List.map_drop, List.take_length, beq_self_eq_true, eq_self, decide_true, Bool.and_self] at hσ_; subst hσ_
              first | refine TL.st rfl (S_call_row rfl rfl rfl (by kernel_rfl) rfl ((term_T _ _ x.i x.t es xf.w xf.n9 hi0 hi1 _).eq rfl (by rw [hpT])) rfl) ?_ | refine TL.st rfl (S_call rfl rfl rfl (by kernel_rfl) rfl ((term_T _ _ x.i x.t es xf.w xf.n9 hi0 hi1 _).eq rfl (by rw [hpT]))) ?_ | refine TL.st rfl (S_call_row rfl rfl rfl (by kernel_rfl) rfl ((term_T _ _ x.i x.t es xf.w xf.n9 hi0 hi1 (x.i + m)).eq rfl (by rw [hm1])) rfl) ?_ | refine TL.st rfl (S_call rfl rfl rfl (by kernel_rfl) rfl ((term_T _ _ x.i x.t es xf.w xf.n9 hi0 hi1 (x.i + m)).eq rfl (by rw [hm1]))) ?_ | refine TL.st rfl (S_call_row rfl rfl rfl (by kernel_rfl) rfl ((term_T _ _ (x.i + j) (tm x.t es j) (es.drop j) okZ.w okZ.n9 hj0 hj1 (x.i + m)).eq rfl (by rw [hm2])) rfl) ?_ | refine TL.st rfl (S_call rfl rfl rfl (by kernel_rfl) rfl ((term_T _ _ (x.i + j) (tm x.t es j) (es.drop j) okZ.w okZ.n9 hj0 hj1 (x.i + m)).eq rfl (by rw [hm2]))) ?_
              intro σ_ hσ_; simp only [nrm, tev, St.step, putO, setsV, addO, ↓reduceIte, Nat.reduceAdd, logT, atT, intern, internL, kp_ents, fz_ents, fz_bytes, kp_bytes, logR, logE, ← List.map_take, ← List.map_drop, List.take_length, beq_self_eq_true, eq_self, decide_true, Bool.and_self] at hσ_; subst hσ_
              refine TL.st rfl (S_move rfl) ?_
              intro σ_ hσ_; simp only [nrm, tev, St.step, putO, setsV, addO, ↓reduceIte, Nat.reduceAdd, logT, atT, intern, internL, kp_ents, fz_ents, fz_bytes, kp_bytes, logR, logE, ← List.map_take, ← List.map_drop, List.take_length, beq_self_eq_true, eq_self, decide_true, Bool.and_self] at hσ_; subst hσ_
              refine TL.st rfl (S_extract rfl rfl rfl) ?_
              intro σ_ hσ_; simp only [nrm, tev, St.step, putO, setsV, addO, ↓reduceIte, Nat.reduceAdd, logT, atT, intern, internL, kp_ents, fz_ents, fz_bytes, kp_bytes, logR, logE, ← List.map_take, ← List.map_drop, List.take_length, beq_self_eq_true, eq_self, decide_true, Bool.and_self] at hσ_; subst hσ_
              refine TL.st rfl (S_extract rfl rfl rfl) ?_
              intro σ_ hσ_; simp only [nrm, tev, St.step, putO, setsV, addO, ↓reduceIte, Nat.reduceAdd, logT, atT, intern, internL, kp_ents, fz_ents, fz_bytes, kp_bytes, logR, logE, ← List.map_take, ← List.map_drop, List.take_length, beq_self_eq_true, eq_self, decide_true, Bool.and_self] at hσ_; subst hσ_
              refine TL.st rfl (S_assign rfl) ?_
              intro σ_ hσ_; simp only [nrm, tev, St.step, putO, setsV, addO, ↓reduceIte, Nat.reduceAdd, logT, atT, intern, internL, kp_ents, fz_ents, fz_bytes, kp_bytes, logR, logE, ← List.map_take, ← List.map_drop, List.take_length, beq_self_eq_true, eq_self, decide_true, Bool.and_self] at hσ_; subst hσ_
              refine TL.st rfl (S_assign rfl) ?_
              intro σ_ hσ_; simp only [nrm, tev, St.step, putO, setsV, addO, ↓reduceIte, Nat.reduceAdd, logT, atT, intern, internL, kp_ents, fz_ents, fz_bytes, kp_bytes, logR, logE, ← List.map_take, ← List.map_drop, List.take_length, beq_self_eq_true, eq_self, decide_true, Bool.and_self] at hσ_; subst hσ_
              refine TL.nil ?_
              try simp (decide := true) only [thenT, inBlockT, noGotoT, jumpT, ↓reduceIte, true_and]
              refine hK32_ _ ?_
              refine TW.seq_k ?_
              intro K33_ hK33_
              refine TW.reg ?_
              refine TL.st rfl (S_move rfl) ?_
              intro σ_ hσ_; simp only [nrm, tev, St.step, putO, setsV, addO, ↓reduceIte, Nat.reduceAdd, logT, atT, intern, internL, kp_ents, fz_ents, fz_bytes, kp_bytes, logR, logE, ← List.map_take, ← List.map_drop, List.take_length, beq_self_eq_true, eq_self, decide_true, Bool.and_self] at hσ_; subst hσ_
              refine TL.st rfl (S_move rfl) ?_
              intro σ_ hσ_; simp only [nrm, tev, St.step, putO, setsV, addO, ↓reduceIte, Nat.reduceAdd, logT, atT, intern, internL, kp_ents, fz_ents, fz_bytes, kp_bytes, logR, logE, ← List.map_take, ← List.map_drop, List.take_length, beq_self_eq_true, eq_self, decide_true, Bool.and_self] at hσ_; subst hσ_
              refine TL.st rfl (S_move rfl) ?_
              intro σ_ hσ_; simp only [nrm, tev, St.step, putO, setsV, addO, ↓reduceIte, Nat.reduceAdd, logT, atT, intern, internL, kp_ents, fz_ents, fz_bytes, kp_bytes, logR, logE, ← List.map_take, ← List.map_drop, List.take_length, beq_self_eq_true, eq_self, decide_true, Bool.and_self] at hσ_; subst hσ_
              first | refine TL.st rfl (S_int rfl rfl rfl rfl (vbt (by omega))) ?_ | refine TL.st rfl (S_int rfl rfl rfl rfl (vbf (by omega))) ?_ | refine TL.st rfl (S_int rfl rfl rfl rfl rfl) ?_
              intro σ_ hσ_; simp only [nrm, tev, St.step, putO, setsV, addO, ↓reduceIte, Nat.reduceAdd, logT, atT, intern, internL, kp_ents, fz_ents, fz_bytes, kp_bytes, logR, logE, ← List.map_take, ← List.map_drop, List.take_length, beq_self_eq_true, eq_self, decide_true, Bool.and_self] at hσ_; subst hσ_
              first | refine TL.st rfl (S_int rfl rfl rfl rfl (vnt (by omega))) ?_ | refine TL.st rfl (S_int rfl rfl rfl rfl (vnf (by omega))) ?_ | refine TL.st rfl (S_int rfl rfl rfl rfl rfl) ?_ | refine TL.st rfl (S_boolneq rfl rfl rfl rfl (tT rfl) rfl) ?_
              intro σ_ hσ_; simp only [nrm, tev, St.step, putO, setsV, addO, ↓reduceIte, Nat.reduceAdd, logT, atT, intern, internL, kp_ents, fz_ents, fz_bytes, kp_bytes, logR, logE, ← List.map_take, ← List.map_drop, List.take_length, beq_self_eq_true, eq_self, decide_true, Bool.and_self] at hσ_; subst hσ_
              refine TL.st rfl (S_move rfl) ?_
              intro σ_ hσ_; simp only [nrm, tev, St.step, putO, setsV, addO, ↓reduceIte, Nat.reduceAdd, logT, atT, intern, internL, kp_ents, fz_ents, fz_bytes, kp_bytes, logR, logE, ← List.map_take, ← List.map_drop, List.take_length, beq_self_eq_true, eq_self, decide_true, Bool.and_self] at hσ_; subst hσ_
              first | refine TL.st_g rfl rfl rfl (Nat.le_of_ble_eq_true rfl) rfl (S_move rfl) ?_ | refine TL.sk_g rfl rfl rfl (Nat.le_of_ble_eq_true rfl) rfl rfl ?_
              intro σ_ hσ_; simp only [nrm, tev, St.step, putO, setsV, addO, ↓reduceIte, Nat.reduceAdd, logT, atT, intern, internL, kp_ents, fz_ents, fz_bytes, kp_bytes, logR, logE, ← List.map_take, ← List.map_drop, List.take_length, beq_self_eq_true, eq_self, decide_true, Bool.and_self] at hσ_; subst hσ_
              first | refine TL.st_g rfl rfl rfl (Nat.le_of_ble_eq_true rfl) rfl (S_move rfl) ?_ | refine TL.sk_g rfl rfl rfl (Nat.le_of_ble_eq_true rfl) rfl rfl ?_
              intro σ_ hσ_; simp only [nrm, tev, St.step, putO, setsV, addO, ↓reduceIte, Nat.reduceAdd, logT, atT, intern, internL, kp_ents, fz_ents, fz_bytes, kp_bytes, logR, logE, ← List.map_take, ← List.map_drop, List.take_length, beq_self_eq_true, eq_self, decide_true, Bool.and_self] at hσ_; subst hσ_
              first | refine TL.st_g rfl rfl rfl (Nat.le_of_ble_eq_true rfl) rfl (S_move rfl) ?_ | refine TL.sk_g rfl rfl rfl (Nat.le_of_ble_eq_true rfl) rfl rfl ?_
              intro σ_ hσ_; simp only [nrm, tev, St.step, putO, setsV, addO, ↓reduceIte, Nat.reduceAdd, logT, atT, intern, internL, kp_ents, fz_ents, fz_bytes, kp_bytes, logR, logE, ← List.map_take, ← List.map_drop, List.take_length, beq_self_eq_true, eq_self, decide_true, Bool.and_self] at hσ_; subst hσ_
              first | refine TL.st_g rfl rfl rfl (Nat.le_of_ble_eq_true rfl) rfl (S_move rfl) ?_ | refine TL.sk_g rfl rfl rfl (Nat.le_of_ble_eq_true rfl) rfl rfl ?_
              intro σ_ hσ_; simp only [nrm, tev, St.step, putO, setsV, addO, ↓reduceIte, Nat.reduceAdd, logT, atT, intern, internL, kp_ents, fz_ents, fz_bytes, kp_bytes, logR, logE, ← List.map_take, ← List.map_drop, List.take_length, beq_self_eq_true, eq_self, decide_true, Bool.and_self] at hσ_; subst hσ_
              first | refine TL.st_g rfl rfl rfl (Nat.le_of_ble_eq_true rfl) rfl (S_int rfl rfl rfl rfl (vnt (by omega))) ?_ | refine TL.st_g rfl rfl rfl (Nat.le_of_ble_eq_true rfl) rfl (S_int rfl rfl rfl rfl (vnf (by omega))) ?_ | refine TL.st_g rfl rfl rfl (Nat.le_of_ble_eq_true rfl) rfl (S_int rfl rfl rfl rfl rfl) ?_ | refine TL.st_g rfl rfl rfl (Nat.le_of_ble_eq_true rfl) rfl (S_boolneq rfl rfl rfl rfl (tT rfl) rfl) ?_ | refine TL.sk_g rfl rfl rfl (Nat.le_of_ble_eq_true rfl) rfl rfl ?_
              intro σ_ hσ_; simp only [nrm, tev, St.step, putO, setsV, addO, ↓reduceIte, Nat.reduceAdd, logT, atT, intern, internL, kp_ents, fz_ents, fz_bytes, kp_bytes, logR, logE, ← List.map_take, ← List.map_drop, List.take_length, beq_self_eq_true, eq_self, decide_true, Bool.and_self] at hσ_; subst hσ_
              first | refine TL.st_g rfl rfl rfl (Nat.le_of_ble_eq_true rfl) rfl (S_pick rfl rfl rfl) ?_ | refine TL.sk_g rfl rfl rfl (Nat.le_of_ble_eq_true rfl) rfl rfl ?_
              intro σ_ hσ_; simp only [nrm, tev, St.step, putO, setsV, addO, ↓reduceIte, Nat.reduceAdd, logT, atT, intern, internL, kp_ents, fz_ents, fz_bytes, kp_bytes, logR, logE, ← List.map_take, ← List.map_drop, List.take_length, beq_self_eq_true, eq_self, decide_true, Bool.and_self] at hσ_; subst hσ_
              refine TL.st rfl (S_pick rfl rfl rfl) ?_
              intro σ_ hσ_; simp only [nrm, tev, St.step, putO, setsV, addO, ↓reduceIte, Nat.reduceAdd, logT, atT, intern, internL, kp_ents, fz_ents, fz_bytes, kp_bytes, logR, logE, ← List.map_take, ← List.map_drop, List.take_length, beq_self_eq_true, eq_self, decide_true, Bool.and_self] at hσ_; subst hσ_
              refine TL.nil ?_
              try simp (decide := true) only [thenT, inBlockT, noGotoT, jumpT, ↓reduceIte, true_and]
              refine hK33_ _ ?_
              refine TW.cond_f rfl (rfl) ?_
              refine TW.skip ?_
              try simp (decide := true) only [thenT, inBlockT, noGotoT, jumpT, ↓reduceIte, true_and]
              refine hK28_ _ ?_
              refine TW.reg ?_
              first | refine TL.st rfl (S_int rfl rfl rfl rfl (vi64 (by omega))) ?_ | refine TL.st rfl (S_int rfl rfl rfl rfl (vu64 (by omega))) ?_ | refine TL.st rfl (S_int rfl rfl rfl rfl rfl) ?_
              intro σ_ hσ_; simp only [nrm, tev, St.step, putO, setsV, addO, ↓reduceIte, Nat.reduceAdd, logT, atT, intern, internL, kp_ents, fz_ents, fz_bytes, kp_bytes, logR, logE, ← List.map_take, ← List.map_drop, List.take_length, beq_self_eq_true, eq_self, decide_true, Bool.and_self] at hσ_; subst hσ_
              refine TL.st rfl (S_move rfl) ?_
              intro σ_ hσ_; simp only [nrm, tev, St.step, putO, setsV, addO, ↓reduceIte, Nat.reduceAdd, logT, atT, intern, internL, kp_ents, fz_ents, fz_bytes, kp_bytes, logR, logE, ← List.map_take, ← List.map_drop, List.take_length, beq_self_eq_true, eq_self, decide_true, Bool.and_self] at hσ_; subst hσ_
              refine TL.nil ?_
              try simp (decide := true) only [thenT, inBlockT, noGotoT, jumpT, ↓reduceIte, true_and]
              refine ⟨(m + 1), by omega, by omega, ?_⟩
              refine SLe.back 20 ?_ ?_ ?_
              · simp [setsL, kpL, kp, low, kpLL, LeL_cons, LeL_nil, LeT_any, LeT_self, LeT_v, LeT_sl, LeT_nil_sl, List.set_cons_zero, List.set_cons_succ, kp_ents]
              · simp [-List.map_take, -List.map_drop, setsL, LB.kp, kpLL, kpL, kp, low, LeB_self, LeB_nil, kp_ents]
              · simp [kpL, LeL_nil]
            · skip
              rw [if_neg hjm] at hm2
              refine TW.reg ?_
              first | refine TL.st rfl (S_load rfl rfl rfl (tT rfl) rfl) ?_ | refine TL.st rfl (S_load_eptr rfl rfl (tT rfl) rfl) ?_ | refine TL.st rfl (S_load_row rfl rfl rfl rfl (by assumption) (tT rfl) rfl) ?_ | refine TL.st rfl (S_load_row (j := 0) rfl rfl rfl rfl (by assumption) (tT rfl) rfl) ?_
              intro σ_ hσ_; simp only [nrm, tev, St.step, putO, setsV, addO, ↓reduceIte, Nat.reduceAdd, logT, atT, intern, internL, kp_ents, fz_ents, fz_bytes, kp_bytes, logR, logE, ← List.map_take, ← List.map_drop, List.take_length, beq_self_eq_true, eq_self, decide_true, Bool.and_self] at hσ_; subst hσ_
              refine TL.st rfl (S_move rfl) ?_
              intro σ_ hσ_; simp only [nrm, tev, St.step, putO, setsV, addO, ↓reduceIte, Nat.reduceAdd, logT, atT, intern, internL, kp_ents, fz_ents, fz_bytes, kp_bytes, logR, logE, ← List.map_take, ← List.map_drop, List.take_length, beq_self_eq_true, eq_self, decide_true, Bool.and_self] at hσ_; subst hσ_
              first | refine TL.st rfl (S_call_row rfl rfl rfl (by kernel_rfl) rfl ((term_T _ _ x.i x.t es xf.w xf.n9 hi0 hi1 _).eq rfl (by rw [hpT])) rfl) ?_ | refine TL.st rfl (S_call rfl rfl rfl (by kernel_rfl) rfl ((term_T _ _ x.i x.t es xf.w xf.n9 hi0 hi1 _).eq rfl (by rw [hpT]))) ?_ | refine TL.st rfl (S_call_row rfl rfl rfl (by kernel_rfl) rfl ((term_T _ _ x.i x.t es xf.w xf.n9 hi0 hi1 (x.i + m)).eq rfl (by rw [hm1])) rfl) ?_ | refine TL.st rfl (S_call rfl rfl rfl (by kernel_rfl) rfl ((term_T _ _ x.i x.t es xf.w xf.n9 hi0 hi1 (x.i + m)).eq rfl (by rw [hm1]))) ?_ | refine TL.st rfl (S_call_row rfl rfl rfl (by kernel_rfl) rfl ((term_T _ _ (x.i + j) (tm x.t es j) (es.drop j) okZ.w okZ.n9 hj0 hj1 (x.i + m)).eq rfl (by rw [hm2])) rfl) ?_ | refine TL.st rfl (S_call rfl rfl rfl (by kernel_rfl) rfl ((term_T _ _ (x.i + j) (tm x.t es j) (es.drop j) okZ.w okZ.n9 hj0 hj1 (x.i + m)).eq rfl (by rw [hm2]))) ?_
              intro σ_ hσ_; simp only [nrm, tev, St.step, putO, setsV, addO, ↓reduceIte, Nat.reduceAdd, logT, atT, intern, internL, kp_ents, fz_ents, fz_bytes, kp_bytes, logR, logE, ← List.map_take, ← List.map_drop, List.take_length, beq_self_eq_true, eq_self, decide_true, Bool.and_self] at hσ_; subst hσ_
              refine TL.st rfl (S_move rfl) ?_
              intro σ_ hσ_; simp only [nrm, tev, St.step, putO, setsV, addO, ↓reduceIte, Nat.reduceAdd, logT, atT, intern, internL, kp_ents, fz_ents, fz_bytes, kp_bytes, logR, logE, ← List.map_take, ← List.map_drop, List.take_length, beq_self_eq_true, eq_self, decide_true, Bool.and_self] at hσ_; subst hσ_
              refine TL.st rfl (S_extract rfl rfl rfl) ?_
              intro σ_ hσ_; simp only [nrm, tev, St.step, putO, setsV, addO, ↓reduceIte, Nat.reduceAdd, logT, atT, intern, internL, kp_ents, fz_ents, fz_bytes, kp_bytes, logR, logE, ← List.map_take, ← List.map_drop, List.take_length, beq_self_eq_true, eq_self, decide_true, Bool.and_self] at hσ_; subst hσ_
              refine TL.st rfl (S_extract rfl rfl rfl) ?_
              intro σ_ hσ_; simp only [nrm, tev, St.step, putO, setsV, addO, ↓reduceIte, Nat.reduceAdd, logT, atT, intern, internL, kp_ents, fz_ents, fz_bytes, kp_bytes, logR, logE, ← List.map_take, ← List.map_drop, List.take_length, beq_self_eq_true, eq_self, decide_true, Bool.and_self] at hσ_; subst hσ_
              refine TL.st rfl (S_assign rfl) ?_
              intro σ_ hσ_; simp only [nrm, tev, St.step, putO, setsV, addO, ↓reduceIte, Nat.reduceAdd, logT, atT, intern, internL, kp_ents, fz_ents, fz_bytes, kp_bytes, logR, logE, ← List.map_take, ← List.map_drop, List.take_length, beq_self_eq_true, eq_self, decide_true, Bool.and_self] at hσ_; subst hσ_
              refine TL.st rfl (S_assign rfl) ?_
              intro σ_ hσ_; simp only [nrm, tev, St.step, putO, setsV, addO, ↓reduceIte, Nat.reduceAdd, logT, atT, intern, internL, kp_ents, fz_ents, fz_bytes, kp_bytes, logR, logE, ← List.map_take, ← List.map_drop, List.take_length, beq_self_eq_true, eq_self, decide_true, Bool.and_self] at hσ_; subst hσ_
              refine TL.nil ?_
              try simp (decide := true) only [thenT, inBlockT, noGotoT, jumpT, ↓reduceIte, true_and]
              refine hK32_ _ ?_
              refine TW.seq_k ?_
              intro K34_ hK34_
              refine TW.reg ?_
              refine TL.st rfl (S_move rfl) ?_
              intro σ_ hσ_; simp only [nrm, tev, St.step, putO, setsV, addO, ↓reduceIte, Nat.reduceAdd, logT, atT, intern, internL, kp_ents, fz_ents, fz_bytes, kp_bytes, logR, logE, ← List.map_take, ← List.map_drop, List.take_length, beq_self_eq_true, eq_self, decide_true, Bool.and_self] at hσ_; subst hσ_
              refine TL.st rfl (S_move rfl) ?_
              intro σ_ hσ_; simp only [nrm, tev, St.step, putO, setsV, addO, ↓reduceIte, Nat.reduceAdd, logT, atT, intern, internL, kp_ents, fz_ents, fz_bytes, kp_bytes, logR, logE, ← List.map_take, ← List.map_drop, List.take_length, beq_self_eq_true, eq_self, decide_true, Bool.and_self] at hσ_; subst hσ_
              refine TL.st rfl (S_move rfl) ?_
              intro σ_ hσ_; simp only [nrm, tev, St.step, putO, setsV, addO, ↓reduceIte, Nat.reduceAdd, logT, atT, intern, internL, kp_ents, fz_ents, fz_bytes, kp_bytes, logR, logE, ← List.map_take, ← List.map_drop, List.take_length, beq_self_eq_true, eq_self, decide_true, Bool.and_self] at hσ_; subst hσ_
              first | refine TL.st rfl (S_int rfl rfl rfl rfl (vbt (by omega))) ?_ | refine TL.st rfl (S_int rfl rfl rfl rfl (vbf (by omega))) ?_ | refine TL.st rfl (S_int rfl rfl rfl rfl rfl) ?_
              intro σ_ hσ_; simp only [nrm, tev, St.step, putO, setsV, addO, ↓reduceIte, Nat.reduceAdd, logT, atT, intern, internL, kp_ents, fz_ents, fz_bytes, kp_bytes, logR, logE, ← List.map_take, ← List.map_drop, List.take_length, beq_self_eq_true, eq_self, decide_true, Bool.and_self] at hσ_; subst hσ_
              first | refine TL.st rfl (S_int rfl rfl rfl rfl (vnt (by omega))) ?_ | refine TL.st rfl (S_int rfl rfl rfl rfl (vnf (by omega))) ?_ | refine TL.st rfl (S_int rfl rfl rfl rfl rfl) ?_ | refine TL.st rfl (S_boolneq rfl rfl rfl rfl (tT rfl) rfl) ?_
              intro σ_ hσ_; simp only [nrm, tev, St.step, putO, setsV, addO, ↓reduceIte, Nat.reduceAdd, logT, atT, intern, internL, kp_ents, fz_ents, fz_bytes, kp_bytes, logR, logE, ← List.map_take, ← List.map_drop, List.take_length, beq_self_eq_true, eq_self, decide_true, Bool.and_self] at hσ_; subst hσ_
              refine TL.st rfl (S_move rfl) ?_
              intro σ_ hσ_; simp only [nrm, tev, St.step, putO, setsV, addO, ↓reduceIte, Nat.reduceAdd, logT, atT, intern, internL, kp_ents, fz_ents, fz_bytes, kp_bytes, logR, logE, ← List.map_take, ← List.map_drop, List.take_length, beq_self_eq_true, eq_self, decide_true, Bool.and_self] at hσ_; subst hσ_
              first | refine TL.st_g rfl rfl rfl (Nat.le_of_ble_eq_true rfl) rfl (S_move rfl) ?_ | refine TL.sk_g rfl rfl rfl (Nat.le_of_ble_eq_true rfl) rfl rfl ?_
              intro σ_ hσ_; simp only [nrm, tev, St.step, putO, setsV, addO, ↓reduceIte, Nat.reduceAdd, logT, atT, intern, internL, kp_ents, fz_ents, fz_bytes, kp_bytes, logR, logE, ← List.map_take, ← List.map_drop, List.take_length, beq_self_eq_true, eq_self, decide_true, Bool.and_self] at hσ_; subst hσ_
              first | refine TL.st_g rfl rfl rfl (Nat.le_of_ble_eq_true rfl) rfl (S_move rfl) ?_ | refine TL.sk_g rfl rfl rfl (Nat.le_of_ble_eq_true rfl) rfl rfl ?_
              intro σ_ hσ_; simp only [nrm, tev, St.step, putO, setsV, addO, ↓reduceIte, Nat.reduceAdd, logT, atT, intern, internL, kp_ents, fz_ents, fz_bytes, kp_bytes, logR, logE, ← List.map_take, ← List.map_drop, List.take_length, beq_self_eq_true, eq_self, decide_true, Bool.and_self] at hσ_; subst hσ_
              first | refine TL.st_g rfl rfl rfl (Nat.le_of_ble_eq_true rfl) rfl (S_move rfl) ?_ | refine TL.sk_g rfl rfl rfl (Nat.le_of_ble_eq_true rfl) rfl rfl ?_
              intro σ_ hσ_; simp only [nrm, tev, St.step, putO, setsV, addO, ↓reduceIte, Nat.reduceAdd, logT, atT, intern, internL, kp_ents, fz_ents, fz_bytes, kp_bytes, logR, logE, ← List.map_take, ← List.map_drop, List.take_length, beq_self_eq_true, eq_self, decide_true, Bool.and_self] at hσ_; subst hσ_
              first | refine TL.st_g rfl rfl rfl (Nat.le_of_ble_eq_true rfl) rfl (S_move rfl) ?_ | refine TL.sk_g rfl rfl rfl (Nat.le_of_ble_eq_true rfl) rfl rfl ?_
              intro σ_ hσ_; simp only [nrm, tev, St.step, putO, setsV, addO, ↓reduceIte, Nat.reduceAdd, logT, atT, intern, internL, kp_ents, fz_ents, fz_bytes, kp_bytes, logR, logE, ← List.map_take, ← List.map_drop, List.take_length, beq_self_eq_true, eq_self, decide_true, Bool.and_self] at hσ_; subst hσ_
              first | refine TL.st_g rfl rfl rfl (Nat.le_of_ble_eq_true rfl) rfl (S_int rfl rfl rfl rfl (vnt (by omega))) ?_ | refine TL.st_g rfl rfl rfl (Nat.le_of_ble_eq_true rfl) rfl (S_int rfl rfl rfl rfl (vnf (by omega))) ?_ | refine TL.st_g rfl rfl rfl (Nat.le_of_ble_eq_true rfl) rfl (S_int rfl rfl rfl rfl rfl) ?_ | refine TL.st_g rfl rfl rfl (Nat.le_of_ble_eq_true rfl) rfl (S_boolneq rfl rfl rfl rfl (tT rfl) rfl) ?_ | refine TL.sk_g rfl rfl rfl (Nat.le_of_ble_eq_true rfl) rfl rfl ?_
              intro σ_ hσ_; simp only [nrm, tev, St.step, putO, setsV, addO, ↓reduceIte, Nat.reduceAdd, logT, atT, intern, internL, kp_ents, fz_ents, fz_bytes, kp_bytes, logR, logE, ← List.map_take, ← List.map_drop, List.take_length, beq_self_eq_true, eq_self, decide_true, Bool.and_self] at hσ_; subst hσ_
              first | refine TL.st_g rfl rfl rfl (Nat.le_of_ble_eq_true rfl) rfl (S_pick rfl rfl rfl) ?_ | refine TL.sk_g rfl rfl rfl (Nat.le_of_ble_eq_true rfl) rfl rfl ?_
              intro σ_ hσ_; simp only [nrm, tev, St.step, putO, setsV, addO, ↓reduceIte, Nat.reduceAdd, logT, atT, intern, internL, kp_ents, fz_ents, fz_bytes, kp_bytes, logR, logE, ← List.map_take, ← List.map_drop, List.take_length, beq_self_eq_true, eq_self, decide_true, Bool.and_self] at hσ_; subst hσ_
              refine TL.st rfl (S_pick rfl rfl rfl) ?_
              intro σ_ hσ_; simp only [nrm, tev, St.step, putO, setsV, addO, ↓reduceIte, Nat.reduceAdd, logT, atT, intern, internL, kp_ents, fz_ents, fz_bytes, kp_bytes, logR, logE, ← List.map_take, ← List.map_drop, List.take_length, beq_self_eq_true, eq_self, decide_true, Bool.and_self] at hσ_; subst hσ_
              refine TL.nil ?_
              try simp (decide := true) only [thenT, inBlockT, noGotoT, jumpT, ↓reduceIte, true_and]
              refine hK34_ _ ?_
              refine TW.cond_f rfl (rfl) ?_
              refine TW.skip ?_
              try simp (decide := true) only [thenT, inBlockT, noGotoT, jumpT, ↓reduceIte, true_and]
              refine hK28_ _ ?_
              refine TW.reg ?_
              first | refine TL.st rfl (S_int rfl rfl rfl rfl (vi64 (by omega))) ?_ | refine TL.st rfl (S_int rfl rfl rfl rfl (vu64 (by omega))) ?_ | refine TL.st rfl (S_int rfl rfl rfl rfl rfl) ?_
              intro σ_ hσ_; simp only [nrm, tev, St.step, putO, setsV, addO, ↓reduceIte, Nat.reduceAdd, logT, atT, intern, internL, kp_ents, fz_ents, fz_bytes, kp_bytes, logR, logE, ← List.map_take, ← List.map_drop, List.take_length, beq_self_eq_true, eq_self, decide_true, Bool.and_self] at hσ_; subst hσ_
              refine TL.st rfl (S_move rfl) ?_
              intro σ_ hσ_; simp only [nrm, tev, St.step, putO, setsV, addO, ↓reduceIte, Nat.reduceAdd, logT, atT, intern, internL, kp_ents, fz_ents, fz_bytes, kp_bytes, logR, logE, ← List.map_take, ← List.map_drop, List.take_length, beq_self_eq_true, eq_self, decide_true, Bool.and_self] at hσ_; subst hσ_
              refine TL.nil ?_
              try simp (decide := true) only [thenT, inBlockT, noGotoT, jumpT, ↓reduceIte, true_and]
              refine ⟨(m + 1), by omega, by omega, ?_⟩
              refine SLe.back 20 ?_ ?_ ?_
              · simp [setsL, kpL, kp, low, kpLL, LeL_cons, LeL_nil, LeT_any, LeT_self, LeT_v, LeT_sl, LeT_nil_sl, List.set_cons_zero, List.set_cons_succ, kp_ents]
              · simp [-List.map_take, -List.map_drop, setsL, LB.kp, kpLL, kpL, kp, low, LeB_self, LeB_nil, kp_ents]
              · simp [kpL, LeL_nil]
          · skip
            refine TW.reg ?_
            first | refine TL.st rfl (S_int rfl rfl rfl rfl (vbt (by omega))) ?_ | refine TL.st rfl (S_int rfl rfl rfl rfl (vbf (by omega))) ?_ | refine TL.st rfl (S_int rfl rfl rfl rfl rfl) ?_
            intro σ_ hσ_; simp only [nrm, tev, St.step, putO, setsV, addO, ↓reduceIte, Nat.reduceAdd, logT, atT, intern, internL, kp_ents, fz_ents, fz_bytes, kp_bytes, logR, logE, ← List.map_take, ← List.map_drop, List.take_length, beq_self_eq_true, eq_self, decide_true, Bool.and_self] at hσ_; subst hσ_
            refine TL.nil ?_
            try simp (decide := true) only [thenT, inBlockT, noGotoT, jumpT, ↓reduceIte, true_and]
            refine hK26_ _ ?_
            refine TW.seq_k ?_
            intro K35_ hK35_
            refine TW.cond_f rfl (rfl) ?_
            refine TW.exit ?_
            try simp (decide := true) only [thenT, inBlockT, noGotoT, jumpT, ↓reduceIte, true_and]
            refine hK24_ _ ?_
            refine TW.seq_k ?_
            intro K36_ hK36_
            refine TW.reg ?_
            refine TL.st rfl (S_assign rfl) ?_
            intro σ_ hσ_; simp only [nrm, tev, St.step, putO, setsV, addO, ↓reduceIte, Nat.reduceAdd, logT, atT, intern, internL, kp_ents, fz_ents, fz_bytes, kp_bytes, logR, logE, ← List.map_take, ← List.map_drop, List.take_length, beq_self_eq_true, eq_self, decide_true, Bool.and_self] at hσ_; subst hσ_
            refine TL.nil ?_
            try simp (decide := true) only [thenT, inBlockT, noGotoT, jumpT, ↓reduceIte, true_and]
            refine hK36_ _ ?_
            refine TW.ret ?_
            try simp (decide := true) only [thenT, inBlockT, noGotoT, jumpT, ↓reduceIte, true_and]
            refine ⟨.inr rfl, _, none, (ResT.one Try.results9 rfl), ?_, (by rintro _ ⟨⟩)⟩
            simp only [nrm, tev, Out_v, Out_agg, Out_tup, OutL_nil, OutL_cons, Out_sl, Out_row_osl, Out_nil_osl, Out_nil_sl, Out_nil_nil, and_true, true_and, logT, atT, logR, logE, fr_ents, hf, List.getD_cons_zero, List.getD_cons_succ]
            done
      · skip
        have hComp : TV.tup [logE (compE x.i x.t es y) (spotN x.i x.t es (ofN x.i y es.length).toNat).1 (spotN x.i x.t es (ofN x.i y es.length).toNat).2 (es.drop (ofN x.i y es.length).toNat), .v (.int .i64 (compE x.i x.t es y))] = .tup [logR 0 0 [], .v (.int .i64 4)] := by rw [hpE, logE, if_neg (by omega)]
        refine TW.reg ?_
        first | refine TL.st rfl (S_load rfl rfl rfl (tT rfl) rfl) ?_ | refine TL.st rfl (S_load_eptr rfl rfl (tT rfl) rfl) ?_ | refine TL.st rfl (S_load_row rfl rfl rfl rfl (by assumption) (tT rfl) rfl) ?_ | refine TL.st rfl (S_load_row (j := 0) rfl rfl rfl rfl (by assumption) (tT rfl) rfl) ?_
        intro σ_ hσ_; simp only [nrm, tev, St.step, putO, setsV, addO, ↓reduceIte, Nat.reduceAdd, logT, atT, intern, internL, kp_ents, fz_ents, fz_bytes, kp_bytes, logR, logE, ← List.map_take, ← List.map_drop, List.take_length, beq_self_eq_true, eq_self, decide_true, Bool.and_self] at hσ_; subst hσ_
        refine TL.st rfl (S_move rfl) ?_
        intro σ_ hσ_; simp only [nrm, tev, St.step, putO, setsV, addO, ↓reduceIte, Nat.reduceAdd, logT, atT, intern, internL, kp_ents, fz_ents, fz_bytes, kp_bytes, logR, logE, ← List.map_take, ← List.map_drop, List.take_length, beq_self_eq_true, eq_self, decide_true, Bool.and_self] at hσ_; subst hσ_
        first | refine TL.st rfl (S_call_row rfl rfl rfl (by kernel_rfl) rfl ((comp_T _ _ x.i x.t es xf hi0 hi1 _ hy0 hy1).eq rfl hComp) rfl) ?_ | refine TL.st rfl (S_call rfl rfl rfl (by kernel_rfl) rfl ((comp_T _ _ x.i x.t es xf hi0 hi1 _ hy0 hy1).eq rfl hComp)) ?_
        intro σ_ hσ_; simp only [nrm, tev, St.step, putO, setsV, addO, ↓reduceIte, Nat.reduceAdd, logT, atT, intern, internL, kp_ents, fz_ents, fz_bytes, kp_bytes, logR, logE, ← List.map_take, ← List.map_drop, List.take_length, beq_self_eq_true, eq_self, decide_true, Bool.and_self] at hσ_; subst hσ_
        refine TL.st rfl (S_move rfl) ?_
        intro σ_ hσ_; simp only [nrm, tev, St.step, putO, setsV, addO, ↓reduceIte, Nat.reduceAdd, logT, atT, intern, internL, kp_ents, fz_ents, fz_bytes, kp_bytes, logR, logE, ← List.map_take, ← List.map_drop, List.take_length, beq_self_eq_true, eq_self, decide_true, Bool.and_self] at hσ_; subst hσ_
        refine TL.st rfl (S_extract rfl rfl rfl) ?_
        intro σ_ hσ_; simp only [nrm, tev, St.step, putO, setsV, addO, ↓reduceIte, Nat.reduceAdd, logT, atT, intern, internL, kp_ents, fz_ents, fz_bytes, kp_bytes, logR, logE, ← List.map_take, ← List.map_drop, List.take_length, beq_self_eq_true, eq_self, decide_true, Bool.and_self] at hσ_; subst hσ_
        refine TL.st rfl (S_extract rfl rfl rfl) ?_
        intro σ_ hσ_; simp only [nrm, tev, St.step, putO, setsV, addO, ↓reduceIte, Nat.reduceAdd, logT, atT, intern, internL, kp_ents, fz_ents, fz_bytes, kp_bytes, logR, logE, ← List.map_take, ← List.map_drop, List.take_length, beq_self_eq_true, eq_self, decide_true, Bool.and_self] at hσ_; subst hσ_
        refine TL.st rfl (S_alloc rfl (zT rfl) rfl) ?_
        intro σ_ hσ_; simp only [nrm, tev, St.step, putO, setsV, addO, ↓reduceIte, Nat.reduceAdd, logT, atT, intern, internL, kp_ents, fz_ents, fz_bytes, kp_bytes, logR, logE, ← List.map_take, ← List.map_drop, List.take_length, beq_self_eq_true, eq_self, decide_true, Bool.and_self] at hσ_; subst hσ_
        first | refine TL.sto rfl rfl rfl rfl (tT rfl) rfl rfl rfl (Nat.le_of_ble_eq_true rfl) ?_ | refine TL.sto_row rfl rfl rfl rfl rfl (by assumption) (tT rfl) rfl rfl rfl (Nat.le_of_ble_eq_true rfl) ?_ | refine TL.sto_row (j := 0) rfl rfl rfl rfl rfl (by assumption) (tT rfl) rfl rfl rfl (Nat.le_of_ble_eq_true rfl) ?_
        intro σ_ hσ_; simp only [nrm, tev, St.step, putO, setsV, addO, ↓reduceIte, Nat.reduceAdd, logT, atT, intern, internL, kp_ents, fz_ents, fz_bytes, kp_bytes, logR, logE, ← List.map_take, ← List.map_drop, List.take_length, beq_self_eq_true, eq_self, decide_true, Bool.and_self] at hσ_; subst hσ_
        refine TL.st rfl (S_assign rfl) ?_
        intro σ_ hσ_; simp only [nrm, tev, St.step, putO, setsV, addO, ↓reduceIte, Nat.reduceAdd, logT, atT, intern, internL, kp_ents, fz_ents, fz_bytes, kp_bytes, logR, logE, ← List.map_take, ← List.map_drop, List.take_length, beq_self_eq_true, eq_self, decide_true, Bool.and_self] at hσ_; subst hσ_
        refine TL.nil ?_
        try simp (decide := true) only [thenT, inBlockT, noGotoT, jumpT, ↓reduceIte, true_and]
        refine hK16_ _ ?_
        refine TW.seq_k ?_
        intro K37_ hK37_
        refine TW.reg ?_
        first | refine TL.st rfl (S_load rfl rfl rfl (tT rfl) rfl) ?_ | refine TL.st rfl (S_load_eptr rfl rfl (tT rfl) rfl) ?_ | refine TL.st rfl (S_load_row rfl rfl rfl rfl (by assumption) (tT rfl) rfl) ?_ | refine TL.st rfl (S_load_row (j := 0) rfl rfl rfl rfl (by assumption) (tT rfl) rfl) ?_
        intro σ_ hσ_; simp only [nrm, tev, St.step, putO, setsV, addO, ↓reduceIte, Nat.reduceAdd, logT, atT, intern, internL, kp_ents, fz_ents, fz_bytes, kp_bytes, logR, logE, ← List.map_take, ← List.map_drop, List.take_length, beq_self_eq_true, eq_self, decide_true, Bool.and_self] at hσ_; subst hσ_
        refine TL.st rfl (S_move rfl) ?_
        intro σ_ hσ_; simp only [nrm, tev, St.step, putO, setsV, addO, ↓reduceIte, Nat.reduceAdd, logT, atT, intern, internL, kp_ents, fz_ents, fz_bytes, kp_bytes, logR, logE, ← List.map_take, ← List.map_drop, List.take_length, beq_self_eq_true, eq_self, decide_true, Bool.and_self] at hσ_; subst hσ_
        first | refine TL.st rfl (S_call_row rfl rfl rfl (by kernel_rfl) rfl ((term_T _ _ x.i x.t es xf.w xf.n9 hi0 hi1 _).eq rfl (by rw [hpT])) rfl) ?_ | refine TL.st rfl (S_call rfl rfl rfl (by kernel_rfl) rfl ((term_T _ _ x.i x.t es xf.w xf.n9 hi0 hi1 _).eq rfl (by rw [hpT]))) ?_ | refine TL.st rfl (S_call_row rfl rfl rfl (by kernel_rfl) rfl ((term_T _ _ x.i x.t es xf.w xf.n9 hi0 hi1 (x.i + m)).eq rfl (by rw [hm1])) rfl) ?_ | refine TL.st rfl (S_call rfl rfl rfl (by kernel_rfl) rfl ((term_T _ _ x.i x.t es xf.w xf.n9 hi0 hi1 (x.i + m)).eq rfl (by rw [hm1]))) ?_ | refine TL.st rfl (S_call_row rfl rfl rfl (by kernel_rfl) rfl ((term_T _ _ (x.i + j) (tm x.t es j) (es.drop j) okZ.w okZ.n9 hj0 hj1 (x.i + m)).eq rfl (by rw [hm2])) rfl) ?_ | refine TL.st rfl (S_call rfl rfl rfl (by kernel_rfl) rfl ((term_T _ _ (x.i + j) (tm x.t es j) (es.drop j) okZ.w okZ.n9 hj0 hj1 (x.i + m)).eq rfl (by rw [hm2]))) ?_
        intro σ_ hσ_; simp only [nrm, tev, St.step, putO, setsV, addO, ↓reduceIte, Nat.reduceAdd, logT, atT, intern, internL, kp_ents, fz_ents, fz_bytes, kp_bytes, logR, logE, ← List.map_take, ← List.map_drop, List.take_length, beq_self_eq_true, eq_self, decide_true, Bool.and_self] at hσ_; subst hσ_
        refine TL.st rfl (S_move rfl) ?_
        intro σ_ hσ_; simp only [nrm, tev, St.step, putO, setsV, addO, ↓reduceIte, Nat.reduceAdd, logT, atT, intern, internL, kp_ents, fz_ents, fz_bytes, kp_bytes, logR, logE, ← List.map_take, ← List.map_drop, List.take_length, beq_self_eq_true, eq_self, decide_true, Bool.and_self] at hσ_; subst hσ_
        refine TL.st rfl (S_extract rfl rfl rfl) ?_
        intro σ_ hσ_; simp only [nrm, tev, St.step, putO, setsV, addO, ↓reduceIte, Nat.reduceAdd, logT, atT, intern, internL, kp_ents, fz_ents, fz_bytes, kp_bytes, logR, logE, ← List.map_take, ← List.map_drop, List.take_length, beq_self_eq_true, eq_self, decide_true, Bool.and_self] at hσ_; subst hσ_
        refine TL.st rfl (S_extract rfl rfl rfl) ?_
        intro σ_ hσ_; simp only [nrm, tev, St.step, putO, setsV, addO, ↓reduceIte, Nat.reduceAdd, logT, atT, intern, internL, kp_ents, fz_ents, fz_bytes, kp_bytes, logR, logE, ← List.map_take, ← List.map_drop, List.take_length, beq_self_eq_true, eq_self, decide_true, Bool.and_self] at hσ_; subst hσ_
        refine TL.st rfl (S_assign rfl) ?_
        intro σ_ hσ_; simp only [nrm, tev, St.step, putO, setsV, addO, ↓reduceIte, Nat.reduceAdd, logT, atT, intern, internL, kp_ents, fz_ents, fz_bytes, kp_bytes, logR, logE, ← List.map_take, ← List.map_drop, List.take_length, beq_self_eq_true, eq_self, decide_true, Bool.and_self] at hσ_; subst hσ_
        refine TL.st rfl (S_assign rfl) ?_
        intro σ_ hσ_; simp only [nrm, tev, St.step, putO, setsV, addO, ↓reduceIte, Nat.reduceAdd, logT, atT, intern, internL, kp_ents, fz_ents, fz_bytes, kp_bytes, logR, logE, ← List.map_take, ← List.map_drop, List.take_length, beq_self_eq_true, eq_self, decide_true, Bool.and_self] at hσ_; subst hσ_
        refine TL.nil ?_
        try simp (decide := true) only [thenT, inBlockT, noGotoT, jumpT, ↓reduceIte, true_and]
        refine hK37_ _ ?_
        refine TW.seq_k ?_
        intro K38_ hK38_
        refine TW.seq_k ?_
        intro K39_ hK39_
        refine TW.reg ?_
        refine TL.st rfl (S_move rfl) ?_
        intro σ_ hσ_; simp only [nrm, tev, St.step, putO, setsV, addO, ↓reduceIte, Nat.reduceAdd, logT, atT, intern, internL, kp_ents, fz_ents, fz_bytes, kp_bytes, logR, logE, ← List.map_take, ← List.map_drop, List.take_length, beq_self_eq_true, eq_self, decide_true, Bool.and_self] at hσ_; subst hσ_
        refine TL.st rfl (S_move rfl) ?_
        intro σ_ hσ_; simp only [nrm, tev, St.step, putO, setsV, addO, ↓reduceIte, Nat.reduceAdd, logT, atT, intern, internL, kp_ents, fz_ents, fz_bytes, kp_bytes, logR, logE, ← List.map_take, ← List.map_drop, List.take_length, beq_self_eq_true, eq_self, decide_true, Bool.and_self] at hσ_; subst hσ_
        first | refine TL.st rfl (S_int rfl rfl rfl rfl (vbt (by omega))) ?_ | refine TL.st rfl (S_int rfl rfl rfl rfl (vbf (by omega))) ?_ | refine TL.st rfl (S_int rfl rfl rfl rfl rfl) ?_ | refine TL.st rfl (S_boolop rfl rfl rfl rfl (tT rfl) rfl) ?_
        intro σ_ hσ_; simp only [nrm, tev, St.step, putO, setsV, addO, ↓reduceIte, Nat.reduceAdd, logT, atT, intern, internL, kp_ents, fz_ents, fz_bytes, kp_bytes, logR, logE, ← List.map_take, ← List.map_drop, List.take_length, beq_self_eq_true, eq_self, decide_true, Bool.and_self] at hσ_; subst hσ_
        first | refine TL.st rfl (S_int rfl rfl rfl rfl (vnt (by omega))) ?_ | refine TL.st rfl (S_int rfl rfl rfl rfl (vnf (by omega))) ?_ | refine TL.st rfl (S_int rfl rfl rfl rfl rfl) ?_ | refine TL.st rfl (S_boolneq rfl rfl rfl rfl (tT rfl) rfl) ?_
        intro σ_ hσ_; simp only [nrm, tev, St.step, putO, setsV, addO, ↓reduceIte, Nat.reduceAdd, logT, atT, intern, internL, kp_ents, fz_ents, fz_bytes, kp_bytes, logR, logE, ← List.map_take, ← List.map_drop, List.take_length, beq_self_eq_true, eq_self, decide_true, Bool.and_self] at hσ_; subst hσ_
        refine TL.nil ?_
        try simp (decide := true) only [thenT, inBlockT, noGotoT, jumpT, ↓reduceIte, true_and]
        refine hK39_ _ ?_
        refine TW.cond_f rfl (rfl) ?_
        refine TW.skip ?_
        try simp (decide := true) only [thenT, inBlockT, noGotoT, jumpT, ↓reduceIte, true_and]
        refine hK38_ _ ?_
        refine TW.seq_k ?_
        intro K40_ hK40_
        refine TW.seq_k ?_
        intro K41_ hK41_
        refine TW.reg ?_
        refine TL.st rfl (S_move rfl) ?_
        intro σ_ hσ_; simp only [nrm, tev, St.step, putO, setsV, addO, ↓reduceIte, Nat.reduceAdd, logT, atT, intern, internL, kp_ents, fz_ents, fz_bytes, kp_bytes, logR, logE, ← List.map_take, ← List.map_drop, List.take_length, beq_self_eq_true, eq_self, decide_true, Bool.and_self] at hσ_; subst hσ_
        first | refine TL.st rfl (S_not rfl rfl) ?_ | refine TL.st rfl (S_neg rfl rfl) ?_
        intro σ_ hσ_; simp only [nrm, tev, St.step, putO, setsV, addO, ↓reduceIte, Nat.reduceAdd, logT, atT, intern, internL, kp_ents, fz_ents, fz_bytes, kp_bytes, logR, logE, ← List.map_take, ← List.map_drop, List.take_length, beq_self_eq_true, eq_self, decide_true, Bool.and_self] at hσ_; subst hσ_
        refine TL.nil ?_
        try simp (decide := true) only [thenT, inBlockT, noGotoT, jumpT, ↓reduceIte, true_and]
        refine hK41_ _ ?_
        refine TW.cond_t rfl (rfl) ?_
        refine TW.seq_k ?_
        intro K42_ hK42_
        refine TW.reg ?_
        first | refine TL.st rfl (S_fieldAddr rfl rfl (tT rfl) rfl rfl (tT rfl) (by decide)) ?_ | refine TL.st rfl (S_fieldAddr_eptr rfl rfl (tT rfl) rfl rfl (tT rfl) (by decide)) ?_
        intro σ_ hσ_; simp only [nrm, tev, St.step, putO, setsV, addO, ↓reduceIte, Nat.reduceAdd, logT, atT, intern, internL, kp_ents, fz_ents, fz_bytes, kp_bytes, logR, logE, ← List.map_take, ← List.map_drop, List.take_length, beq_self_eq_true, eq_self, decide_true, Bool.and_self] at hσ_; subst hσ_
        first | refine TL.st rfl (S_load rfl rfl rfl (tT rfl) rfl) ?_ | refine TL.st rfl (S_load_eptr rfl rfl (tT rfl) rfl) ?_ | refine TL.st rfl (S_load_row rfl rfl rfl rfl (by assumption) (tT rfl) rfl) ?_ | refine TL.st rfl (S_load_row (j := 0) rfl rfl rfl rfl (by assumption) (tT rfl) rfl) ?_
        intro σ_ hσ_; simp only [nrm, tev, St.step, putO, setsV, addO, ↓reduceIte, Nat.reduceAdd, logT, atT, intern, internL, kp_ents, fz_ents, fz_bytes, kp_bytes, logR, logE, ← List.map_take, ← List.map_drop, List.take_length, beq_self_eq_true, eq_self, decide_true, Bool.and_self] at hσ_; subst hσ_
        first | refine TL.st rfl (S_len rfl rfl (tT rfl) rfl (.inl ⟨_, _, rfl, rfl⟩)) ?_ | refine TL.st rfl (S_len rfl rfl (tT rfl) rfl (.inr (.inl ⟨_, _, _, _, rfl, rfl, rfl⟩))) ?_ | refine TL.st rfl (S_len rfl rfl (tT rfl) rfl (.inr (.inr ⟨rfl, rfl⟩))) ?_ | refine TL.st rfl (S_len_str rfl rfl (tT rfl) rfl rfl) ?_ | refine TL.st rfl (S_len_arr rfl rfl (tT rfl) rfl) ?_
        intro σ_ hσ_; simp only [nrm, tev, St.step, putO, setsV, addO, ↓reduceIte, Nat.reduceAdd, logT, atT, intern, internL, kp_ents, fz_ents, fz_bytes, kp_bytes, logR, logE, ← List.map_take, ← List.map_drop, List.take_length, beq_self_eq_true, eq_self, decide_true, Bool.and_self] at hσ_; subst hσ_
        first | refine TL.st rfl (S_int rfl rfl rfl rfl (vbt (by omega))) ?_ | refine TL.st rfl (S_int rfl rfl rfl rfl (vbf (by omega))) ?_ | refine TL.st rfl (S_int rfl rfl rfl rfl rfl) ?_ | refine TL.st rfl (S_boolop rfl rfl rfl rfl (tT rfl) rfl) ?_
        intro σ_ hσ_; simp only [nrm, tev, St.step, putO, setsV, addO, ↓reduceIte, Nat.reduceAdd, logT, atT, intern, internL, kp_ents, fz_ents, fz_bytes, kp_bytes, logR, logE, ← List.map_take, ← List.map_drop, List.take_length, beq_self_eq_true, eq_self, decide_true, Bool.and_self] at hσ_; subst hσ_
        refine TL.st rfl (S_assign rfl) ?_
        intro σ_ hσ_; simp only [nrm, tev, St.step, putO, setsV, addO, ↓reduceIte, Nat.reduceAdd, logT, atT, intern, internL, kp_ents, fz_ents, fz_bytes, kp_bytes, logR, logE, ← List.map_take, ← List.map_drop, List.take_length, beq_self_eq_true, eq_self, decide_true, Bool.and_self] at hσ_; subst hσ_
        refine TL.nil ?_
        try simp (decide := true) only [thenT, inBlockT, noGotoT, jumpT, ↓reduceIte, true_and]
        refine hK42_ _ ?_
        refine TW.ret ?_
        try simp (decide := true) only [thenT, inBlockT, noGotoT, jumpT, ↓reduceIte, true_and]
        refine ⟨.inr rfl, _, none, (ResT.one Try.results9 rfl), ?_, (by rintro _ ⟨⟩)⟩
        simp only [nrm, tev, Out_v, Out_agg, Out_tup, OutL_nil, OutL_cons, Out_sl, Out_row_osl, Out_nil_osl, Out_nil_sl, Out_nil_nil, and_true, true_and, logT, atT, logR, logE, fr_ents, hf, List.getD_cons_zero, List.getD_cons_succ]
        done
    · skip
      have hcE : (aheadN x.i x.t es y).2 = e := by rw [hk]
      have hne : ¬ e = 0 := by omega
      have hCut : TV.tup [logE (aheadN x.i x.t es y).2 x.i x.t (cutL x.i x.t es y), .v (.int .i64 (aheadN x.i x.t es y).2)] = .tup [logR 0 0 [], .v (.int .i64 e)] := by rw [hcE, logE, if_neg hne]
      have hfE : fromE x.i x.t es y 16 = e := by rw [fromE, hcE, if_neg hne]
      have hfA : fromA x.i x.t es y 16 = (0, 0) := by rw [fromA, hfE, if_neg hne]
      have hfL : fromL x.i x.t es y 16 = [] := by rw [fromL, hfE, if_neg hne]
      refine TW.reg ?_
      first | refine TL.st rfl (S_load rfl rfl rfl (tT rfl) rfl) ?_ | refine TL.st rfl (S_load_eptr rfl rfl (tT rfl) rfl) ?_ | refine TL.st rfl (S_load_row rfl rfl rfl rfl (by assumption) (tT rfl) rfl) ?_ | refine TL.st rfl (S_load_row (j := 0) rfl rfl rfl rfl (by assumption) (tT rfl) rfl) ?_
      intro σ_ hσ_; simp only [nrm, tev, St.step, putO, setsV, addO, ↓reduceIte, Nat.reduceAdd, logT, atT, intern, internL, kp_ents, fz_ents, fz_bytes, kp_bytes, logR, logE, ← List.map_take, ← List.map_drop, List.take_length, beq_self_eq_true, eq_self, decide_true, Bool.and_self] at hσ_; subst hσ_
      refine TL.st rfl (S_move rfl) ?_
      intro σ_ hσ_; simp only [nrm, tev, St.step, putO, setsV, addO, ↓reduceIte, Nat.reduceAdd, logT, atT, intern, internL, kp_ents, fz_ents, fz_bytes, kp_bytes, logR, logE, ← List.map_take, ← List.map_drop, List.take_length, beq_self_eq_true, eq_self, decide_true, Bool.and_self] at hσ_; subst hσ_
      first | refine TL.st rfl (S_call_row rfl rfl rfl (by kernel_rfl) rfl ((cut_T _ _ x.i x.t es xf hi0 hi1 y hy0 hy1).eq rfl hCut) rfl) ?_ | refine TL.st rfl (S_call rfl rfl rfl (by kernel_rfl) rfl ((cut_T _ _ x.i x.t es xf hi0 hi1 y hy0 hy1).eq rfl hCut)) ?_
      intro σ_ hσ_; simp only [nrm, tev, St.step, putO, setsV, addO, ↓reduceIte, Nat.reduceAdd, logT, atT, intern, internL, kp_ents, fz_ents, fz_bytes, kp_bytes, logR, logE, ← List.map_take, ← List.map_drop, List.take_length, beq_self_eq_true, eq_self, decide_true, Bool.and_self] at hσ_; subst hσ_
      refine TL.st rfl (S_move rfl) ?_
      intro σ_ hσ_; simp only [nrm, tev, St.step, putO, setsV, addO, ↓reduceIte, Nat.reduceAdd, logT, atT, intern, internL, kp_ents, fz_ents, fz_bytes, kp_bytes, logR, logE, ← List.map_take, ← List.map_drop, List.take_length, beq_self_eq_true, eq_self, decide_true, Bool.and_self] at hσ_; subst hσ_
      refine TL.st rfl (S_extract rfl rfl rfl) ?_
      intro σ_ hσ_; simp only [nrm, tev, St.step, putO, setsV, addO, ↓reduceIte, Nat.reduceAdd, logT, atT, intern, internL, kp_ents, fz_ents, fz_bytes, kp_bytes, logR, logE, ← List.map_take, ← List.map_drop, List.take_length, beq_self_eq_true, eq_self, decide_true, Bool.and_self] at hσ_; subst hσ_
      refine TL.st rfl (S_extract rfl rfl rfl) ?_
      intro σ_ hσ_; simp only [nrm, tev, St.step, putO, setsV, addO, ↓reduceIte, Nat.reduceAdd, logT, atT, intern, internL, kp_ents, fz_ents, fz_bytes, kp_bytes, logR, logE, ← List.map_take, ← List.map_drop, List.take_length, beq_self_eq_true, eq_self, decide_true, Bool.and_self] at hσ_; subst hσ_
      refine TL.st rfl (S_alloc rfl (zT rfl) rfl) ?_
      intro σ_ hσ_; simp only [nrm, tev, St.step, putO, setsV, addO, ↓reduceIte, Nat.reduceAdd, logT, atT, intern, internL, kp_ents, fz_ents, fz_bytes, kp_bytes, logR, logE, ← List.map_take, ← List.map_drop, List.take_length, beq_self_eq_true, eq_self, decide_true, Bool.and_self] at hσ_; subst hσ_
      first | refine TL.sto rfl rfl rfl rfl (tT rfl) rfl rfl rfl (Nat.le_of_ble_eq_true rfl) ?_ | refine TL.sto_row rfl rfl rfl rfl rfl (by assumption) (tT rfl) rfl rfl rfl (Nat.le_of_ble_eq_true rfl) ?_ | refine TL.sto_row (j := 0) rfl rfl rfl rfl rfl (by assumption) (tT rfl) rfl rfl rfl (Nat.le_of_ble_eq_true rfl) ?_
      intro σ_ hσ_; simp only [nrm, tev, St.step, putO, setsV, addO, ↓reduceIte, Nat.reduceAdd, logT, atT, intern, internL, kp_ents, fz_ents, fz_bytes, kp_bytes, logR, logE, ← List.map_take, ← List.map_drop, List.take_length, beq_self_eq_true, eq_self, decide_true, Bool.and_self] at hσ_; subst hσ_
      refine TL.st rfl (S_assign rfl) ?_
      intro σ_ hσ_; simp only [nrm, tev, St.step, putO, setsV, addO, ↓reduceIte, Nat.reduceAdd, logT, atT, intern, internL, kp_ents, fz_ents, fz_bytes, kp_bytes, logR, logE, ← List.map_take, ← List.map_drop, List.take_length, beq_self_eq_true, eq_self, decide_true, Bool.and_self] at hσ_; subst hσ_
      refine TL.nil ?_
      try simp (decide := true) only [thenT, inBlockT, noGotoT, jumpT, ↓reduceIte, true_and]
      refine hK8_ _ ?_
      refine TW.seq_k ?_
      intro K43_ hK43_
      refine TW.reg ?_
      first | refine TL.st rfl (S_load rfl rfl rfl (tT rfl) rfl) ?_ | refine TL.st rfl (S_load_eptr rfl rfl (tT rfl) rfl) ?_ | refine TL.st rfl (S_load_row rfl rfl rfl rfl (by assumption) (tT rfl) rfl) ?_ | refine TL.st rfl (S_load_row (j := 0) rfl rfl rfl rfl (by assumption) (tT rfl) rfl) ?_
      intro σ_ hσ_; simp only [nrm, tev, St.step, putO, setsV, addO, ↓reduceIte, Nat.reduceAdd, logT, atT, intern, internL, kp_ents, fz_ents, fz_bytes, kp_bytes, logR, logE, ← List.map_take, ← List.map_drop, List.take_length, beq_self_eq_true, eq_self, decide_true, Bool.and_self] at hσ_; subst hσ_
      refine TL.st rfl (S_move rfl) ?_
      intro σ_ hσ_; simp only [nrm, tev, St.step, putO, setsV, addO, ↓reduceIte, Nat.reduceAdd, logT, atT, intern, internL, kp_ents, fz_ents, fz_bytes, kp_bytes, logR, logE, ← List.map_take, ← List.map_drop, List.take_length, beq_self_eq_true, eq_self, decide_true, Bool.and_self] at hσ_; subst hσ_
      first | refine TL.st rfl (S_call_row rfl rfl rfl (by kernel_rfl) rfl ((from_T _ _ x.i x.t es xf hi0 hi1 y hy0 hy1 16 (by omega)).eq rfl (by rw [hfE, hfA, hfL])) rfl) ?_ | refine TL.st rfl (S_call rfl rfl rfl (by kernel_rfl) rfl ((from_T _ _ x.i x.t es xf hi0 hi1 y hy0 hy1 16 (by omega)).eq rfl (by rw [hfE, hfA, hfL]))) ?_
      intro σ_ hσ_; simp only [nrm, tev, St.step, putO, setsV, addO, ↓reduceIte, Nat.reduceAdd, logT, atT, intern, internL, kp_ents, fz_ents, fz_bytes, kp_bytes, logR, logE, ← List.map_take, ← List.map_drop, List.take_length, beq_self_eq_true, eq_self, decide_true, Bool.and_self] at hσ_; subst hσ_
      refine TL.st rfl (S_move rfl) ?_
      intro σ_ hσ_; simp only [nrm, tev, St.step, putO, setsV, addO, ↓reduceIte, Nat.reduceAdd, logT, atT, intern, internL, kp_ents, fz_ents, fz_bytes, kp_bytes, logR, logE, ← List.map_take, ← List.map_drop, List.take_length, beq_self_eq_true, eq_self, decide_true, Bool.and_self] at hσ_; subst hσ_
      refine TL.st rfl (S_extract rfl rfl rfl) ?_
      intro σ_ hσ_; simp only [nrm, tev, St.step, putO, setsV, addO, ↓reduceIte, Nat.reduceAdd, logT, atT, intern, internL, kp_ents, fz_ents, fz_bytes, kp_bytes, logR, logE, ← List.map_take, ← List.map_drop, List.take_length, beq_self_eq_true, eq_self, decide_true, Bool.and_self] at hσ_; subst hσ_
      refine TL.st rfl (S_extract rfl rfl rfl) ?_
      intro σ_ hσ_; simp only [nrm, tev, St.step, putO, setsV, addO, ↓reduceIte, Nat.reduceAdd, logT, atT, intern, internL, kp_ents, fz_ents, fz_bytes, kp_bytes, logR, logE, ← List.map_take, ← List.map_drop, List.take_length, beq_self_eq_true, eq_self, decide_true, Bool.and_self] at hσ_; subst hσ_
      refine TL.st rfl (S_extract rfl rfl rfl) ?_
      intro σ_ hσ_; simp only [nrm, tev, St.step, putO, setsV, addO, ↓reduceIte, Nat.reduceAdd, logT, atT, intern, internL, kp_ents, fz_ents, fz_bytes, kp_bytes, logR, logE, ← List.map_take, ← List.map_drop, List.take_length, beq_self_eq_true, eq_self, decide_true, Bool.and_self] at hσ_; subst hσ_
      refine TL.st rfl (S_alloc rfl (zT rfl) rfl) ?_
      intro σ_ hσ_; simp only [nrm, tev, St.step, putO, setsV, addO, ↓reduceIte, Nat.reduceAdd, logT, atT, intern, internL, kp_ents, fz_ents, fz_bytes, kp_bytes, logR, logE, ← List.map_take, ← List.map_drop, List.take_length, beq_self_eq_true, eq_self, decide_true, Bool.and_self] at hσ_; subst hσ_
      first | refine TL.sto rfl rfl rfl rfl (tT rfl) rfl rfl rfl (Nat.le_of_ble_eq_true rfl) ?_ | refine TL.sto_row rfl rfl rfl rfl rfl (by assumption) (tT rfl) rfl rfl rfl (Nat.le_of_ble_eq_true rfl) ?_ | refine TL.sto_row (j := 0) rfl rfl rfl rfl rfl (by assumption) (tT rfl) rfl rfl rfl (Nat.le_of_ble_eq_true rfl) ?_
      intro σ_ hσ_; simp only [nrm, tev, St.step, putO, setsV, addO, ↓reduceIte, Nat.reduceAdd, logT, atT, intern, internL, kp_ents, fz_ents, fz_bytes, kp_bytes, logR, logE, ← List.map_take, ← List.map_drop, List.take_length, beq_self_eq_true, eq_self, decide_true, Bool.and_self] at hσ_; subst hσ_
      refine TL.st rfl (S_assign rfl) ?_
      intro σ_ hσ_; simp only [nrm, tev, St.step, putO, setsV, addO, ↓reduceIte, Nat.reduceAdd, logT, atT, intern, internL, kp_ents, fz_ents, fz_bytes, kp_bytes, logR, logE, ← List.map_take, ← List.map_drop, List.take_length, beq_self_eq_true, eq_self, decide_true, Bool.and_self] at hσ_; subst hσ_
      refine TL.st rfl (S_assign rfl) ?_
      intro σ_ hσ_; simp only [nrm, tev, St.step, putO, setsV, addO, ↓reduceIte, Nat.reduceAdd, logT, atT, intern, internL, kp_ents, fz_ents, fz_bytes, kp_bytes, logR, logE, ← List.map_take, ← List.map_drop, List.take_length, beq_self_eq_true, eq_self, decide_true, Bool.and_self] at hσ_; subst hσ_
      refine TL.nil ?_
      try simp (decide := true) only [thenT, inBlockT, noGotoT, jumpT, ↓reduceIte, true_and]
      refine hK43_ _ ?_
      refine TW.seq_k ?_
      intro K44_ hK44_
      refine TW.seq_k ?_
      intro K45_ hK45_
      refine TW.reg ?_
      refine TL.st rfl (S_move rfl) ?_
      intro σ_ hσ_; simp only [nrm, tev, St.step, putO, setsV, addO, ↓reduceIte, Nat.reduceAdd, logT, atT, intern, internL, kp_ents, fz_ents, fz_bytes, kp_bytes, logR, logE, ← List.map_take, ← List.map_drop, List.take_length, beq_self_eq_true, eq_self, decide_true, Bool.and_self] at hσ_; subst hσ_
      refine TL.st rfl (S_move rfl) ?_
      intro σ_ hσ_; simp only [nrm, tev, St.step, putO, setsV, addO, ↓reduceIte, Nat.reduceAdd, logT, atT, intern, internL, kp_ents, fz_ents, fz_bytes, kp_bytes, logR, logE, ← List.map_take, ← List.map_drop, List.take_length, beq_self_eq_true, eq_self, decide_true, Bool.and_self] at hσ_; subst hσ_
      first | refine TL.st rfl (S_int rfl rfl rfl rfl (vnt (by omega))) ?_ | refine TL.st rfl (S_int rfl rfl rfl rfl (vnf (by omega))) ?_ | refine TL.st rfl (S_int rfl rfl rfl rfl rfl) ?_ | refine TL.st rfl (S_boolneq rfl rfl rfl rfl (tT rfl) rfl) ?_
      intro σ_ hσ_; simp only [nrm, tev, St.step, putO, setsV, addO, ↓reduceIte, Nat.reduceAdd, logT, atT, intern, internL, kp_ents, fz_ents, fz_bytes, kp_bytes, logR, logE, ← List.map_take, ← List.map_drop, List.take_length, beq_self_eq_true, eq_self, decide_true, Bool.and_self] at hσ_; subst hσ_
      refine TL.nil ?_
      try simp (decide := true) only [thenT, inBlockT, noGotoT, jumpT, ↓reduceIte, true_and]
      refine hK45_ _ ?_
      refine TW.cond_f rfl (rfl) ?_
      refine TW.skip ?_
      try simp (decide := true) only [thenT, inBlockT, noGotoT, jumpT, ↓reduceIte, true_and]
      refine hK44_ _ ?_
      refine TW.seq_k ?_
      intro K46_ hK46_
      refine TW.seq_k ?_
      intro K47_ hK47_
      refine TW.reg ?_
      refine TL.st rfl (S_move rfl) ?_
      intro σ_ hσ_; simp only [nrm, tev, St.step, putO, setsV, addO, ↓reduceIte, Nat.reduceAdd, logT, atT, intern, internL, kp_ents, fz_ents, fz_bytes, kp_bytes, logR, logE, ← List.map_take, ← List.map_drop, List.take_length, beq_self_eq_true, eq_self, decide_true, Bool.and_self] at hσ_; subst hσ_
      first | refine TL.st rfl (S_int rfl rfl rfl rfl (vbt (by omega))) ?_ | refine TL.st rfl (S_int rfl rfl rfl rfl (vbf (by omega))) ?_ | refine TL.st rfl (S_int rfl rfl rfl rfl rfl) ?_ | refine TL.st rfl (S_boolop rfl rfl rfl rfl (tT rfl) rfl) ?_
      intro σ_ hσ_; simp only [nrm, tev, St.step, putO, setsV, addO, ↓reduceIte, Nat.reduceAdd, logT, atT, intern, internL, kp_ents, fz_ents, fz_bytes, kp_bytes, logR, logE, ← List.map_take, ← List.map_drop, List.take_length, beq_self_eq_true, eq_self, decide_true, Bool.and_self] at hσ_; subst hσ_
      refine TL.nil ?_
      try simp (decide := true) only [thenT, inBlockT, noGotoT, jumpT, ↓reduceIte, true_and]
      refine hK47_ _ ?_
      refine TW.cond_f rfl (rfl) ?_
      refine TW.skip ?_
      try simp (decide := true) only [thenT, inBlockT, noGotoT, jumpT, ↓reduceIte, true_and]
      refine hK46_ _ ?_
      refine TW.seq_k ?_
      intro K48_ hK48_
      rcases comp_cases hi0 hm y with ⟨j, hjl, hj, hpE, hpN, hpT⟩ | ⟨hpE, hpT⟩
      · skip
        subst hj
        have hpS := spot_in hi0 hm hjl
        have hComp : TV.tup [logE (compE x.i x.t es (x.i + (j : Int))) (spotN x.i x.t es (ofN x.i (x.i + (j : Int)) es.length).toNat).1 (spotN x.i x.t es (ofN x.i (x.i + (j : Int)) es.length).toNat).2 (es.drop (ofN x.i (x.i + (j : Int)) es.length).toNat), .v (.int .i64 (compE x.i x.t es (x.i + (j : Int))))] = .tup [logR (x.i + j) (tm x.t es j) (es.drop j), .v (.int .i64 0)] := by rw [hpE, hpN, Int.toNat_natCast, hpS]; rfl
        have okZ := xf.drop j
        have hj0 : 0 ≤ x.i + (j : Int) := by omega
        have hj1 : x.i + (j : Int) < 18446744073709551616 := by omega
        have htm := tm_lt ht0 ht1 xf.w j
        have htl := may_tail hi0 hm hjl ht0
        have hlt2 := last_tail hi0 hm hjl ht0
        refine TW.reg ?_
        first | refine TL.st rfl (S_load rfl rfl rfl (tT rfl) rfl) ?_ | refine TL.st rfl (S_load_eptr rfl rfl (tT rfl) rfl) ?_ | refine TL.st rfl (S_load_row rfl rfl rfl rfl (by assumption) (tT rfl) rfl) ?_ | refine TL.st rfl (S_load_row (j := 0) rfl rfl rfl rfl (by assumption) (tT rfl) rfl) ?_
        intro σ_ hσ_; simp only [nrm, tev, St.step, putO, setsV, addO, ↓reduceIte, Nat.reduceAdd, logT, atT, intern, internL, kp_ents, fz_ents, fz_bytes, kp_bytes, logR, logE, ← List.map_take, ← List.map_drop, List.take_length, beq_self_eq_true, eq_self, decide_true, Bool.and_self] at hσ_; subst hσ_
        refine TL.st rfl (S_move rfl) ?_
        intro σ_ hσ_; simp only [nrm, tev, St.step, putO, setsV, addO, ↓reduceIte, Nat.reduceAdd, logT, atT, intern, internL, kp_ents, fz_ents, fz_bytes, kp_bytes, logR, logE, ← List.map_take, ← List.map_drop, List.take_length, beq_self_eq_true, eq_self, decide_true, Bool.and_self] at hσ_; subst hσ_
        first | refine TL.st rfl (S_call_row rfl rfl rfl (by kernel_rfl) rfl ((comp_T _ _ x.i x.t es xf hi0 hi1 _ hy0 hy1).eq rfl hComp) rfl) ?_ | refine TL.st rfl (S_call rfl rfl rfl (by kernel_rfl) rfl ((comp_T _ _ x.i x.t es xf hi0 hi1 _ hy0 hy1).eq rfl hComp)) ?_
        intro σ_ hσ_; simp only [nrm, tev, St.step, putO, setsV, addO, ↓reduceIte, Nat.reduceAdd, logT, atT, intern, internL, kp_ents, fz_ents, fz_bytes, kp_bytes, logR, logE, ← List.map_take, ← List.map_drop, List.take_length, beq_self_eq_true, eq_self, decide_true, Bool.and_self] at hσ_; subst hσ_
        refine TL.st rfl (S_move rfl) ?_
        intro σ_ hσ_; simp only [nrm, tev, St.step, putO, setsV, addO, ↓reduceIte, Nat.reduceAdd, logT, atT, intern, internL, kp_ents, fz_ents, fz_bytes, kp_bytes, logR, logE, ← List.map_take, ← List.map_drop, List.take_length, beq_self_eq_true, eq_self, decide_true, Bool.and_self] at hσ_; subst hσ_
        refine TL.st rfl (S_extract rfl rfl rfl) ?_
        intro σ_ hσ_; simp only [nrm, tev, St.step, putO, setsV, addO, ↓reduceIte, Nat.reduceAdd, logT, atT, intern, internL, kp_ents, fz_ents, fz_bytes, kp_bytes, logR, logE, ← List.map_take, ← List.map_drop, List.take_length, beq_self_eq_true, eq_self, decide_true, Bool.and_self] at hσ_; subst hσ_
        refine TL.st rfl (S_extract rfl rfl rfl) ?_
        intro σ_ hσ_; simp only [nrm, tev, St.step, putO, setsV, addO, ↓reduceIte, Nat.reduceAdd, logT, atT, intern, internL, kp_ents, fz_ents, fz_bytes, kp_bytes, logR, logE, ← List.map_take, ← List.map_drop, List.take_length, beq_self_eq_true, eq_self, decide_true, Bool.and_self] at hσ_; subst hσ_
        refine TL.st rfl (S_alloc rfl (zT rfl) rfl) ?_
        intro σ_ hσ_; simp only [nrm, tev, St.step, putO, setsV, addO, ↓reduceIte, Nat.reduceAdd, logT, atT, intern, internL, kp_ents, fz_ents, fz_bytes, kp_bytes, logR, logE, ← List.map_take, ← List.map_drop, List.take_length, beq_self_eq_true, eq_self, decide_true, Bool.and_self] at hσ_; subst hσ_
        first | refine TL.sto rfl rfl rfl rfl (tT rfl) rfl rfl rfl (Nat.le_of_ble_eq_true rfl) ?_ | refine TL.sto_row rfl rfl rfl rfl rfl (by assumption) (tT rfl) rfl rfl rfl (Nat.le_of_ble_eq_true rfl) ?_ | refine TL.sto_row (j := 0) rfl rfl rfl rfl rfl (by assumption) (tT rfl) rfl rfl rfl (Nat.le_of_ble_eq_true rfl) ?_
        intro σ_ hσ_; simp only [nrm, tev, St.step, putO, setsV, addO, ↓reduceIte, Nat.reduceAdd, logT, atT, intern, internL, kp_ents, fz_ents, fz_bytes, kp_bytes, logR, logE, ← List.map_take, ← List.map_drop, List.take_length, beq_self_eq_true, eq_self, decide_true, Bool.and_self] at hσ_; subst hσ_
        refine TL.st rfl (S_assign rfl) ?_
        intro σ_ hσ_; simp only [nrm, tev, St.step, putO, setsV, addO, ↓reduceIte, Nat.reduceAdd, logT, atT, intern, internL, kp_ents, fz_ents, fz_bytes, kp_bytes, logR, logE, ← List.map_take, ← List.map_drop, List.take_length, beq_self_eq_true, eq_self, decide_true, Bool.and_self] at hσ_; subst hσ_
        refine TL.nil ?_
        try simp (decide := true) only [thenT, inBlockT, noGotoT, jumpT, ↓reduceIte, true_and]
        refine hK48_ _ ?_
        refine TW.seq_k ?_
        intro K49_ hK49_
        refine TW.reg ?_
        first | refine TL.st rfl (S_load rfl rfl rfl (tT rfl) rfl) ?_ | refine TL.st rfl (S_load_eptr rfl rfl (tT rfl) rfl) ?_ | refine TL.st rfl (S_load_row rfl rfl rfl rfl (by assumption) (tT rfl) rfl) ?_ | refine TL.st rfl (S_load_row (j := 0) rfl rfl rfl rfl (by assumption) (tT rfl) rfl) ?_
        intro σ_ hσ_; simp only [nrm, tev, St.step, putO, setsV, addO, ↓reduceIte, Nat.reduceAdd, logT, atT, intern, internL, kp_ents, fz_ents, fz_bytes, kp_bytes, logR, logE, ← List.map_take, ← List.map_drop, List.take_length, beq_self_eq_true, eq_self, decide_true, Bool.and_self] at hσ_; subst hσ_
        refine TL.st rfl (S_move rfl) ?_
        intro σ_ hσ_; simp only [nrm, tev, St.step, putO, setsV, addO, ↓reduceIte, Nat.reduceAdd, logT, atT, intern, internL, kp_ents, fz_ents, fz_bytes, kp_bytes, logR, logE, ← List.map_take, ← List.map_drop, List.take_length, beq_self_eq_true, eq_self, decide_true, Bool.and_self] at hσ_; subst hσ_
        first | refine TL.st rfl (S_call_row rfl rfl rfl (by kernel_rfl) rfl ((term_T _ _ x.i x.t es xf.w xf.n9 hi0 hi1 _).eq rfl (by rw [hpT])) rfl) ?_ | refine TL.st rfl (S_call rfl rfl rfl (by kernel_rfl) rfl ((term_T _ _ x.i x.t es xf.w xf.n9 hi0 hi1 _).eq rfl (by rw [hpT]))) ?_ | refine TL.st rfl (S_call_row rfl rfl rfl (by kernel_rfl) rfl ((term_T _ _ x.i x.t es xf.w xf.n9 hi0 hi1 (x.i + m)).eq rfl (by rw [hm1])) rfl) ?_ | refine TL.st rfl (S_call rfl rfl rfl (by kernel_rfl) rfl ((term_T _ _ x.i x.t es xf.w xf.n9 hi0 hi1 (x.i + m)).eq rfl (by rw [hm1]))) ?_ | refine TL.st rfl (S_call_row rfl rfl rfl (by kernel_rfl) rfl ((term_T _ _ (x.i + j) (tm x.t es j) (es.drop j) okZ.w okZ.n9 hj0 hj1 (x.i + m)).eq rfl (by rw [hm2])) rfl) ?_ | refine TL.st rfl (S_call rfl rfl rfl (by kernel_rfl) rfl ((term_T _ _ (x.i + j) (tm x.t es j) (es.drop j) okZ.w okZ.n9 hj0 hj1 (x.i + m)).eq rfl (by rw [hm2]))) ?_
        intro σ_ hσ_; simp only [nrm, tev, St.step, putO, setsV, addO, ↓reduceIte, Nat.reduceAdd, logT, atT, intern, internL, kp_ents, fz_ents, fz_bytes, kp_bytes, logR, logE, ← List.map_take, ← List.map_drop, List.take_length, beq_self_eq_true, eq_self, decide_true, Bool.and_self] at hσ_; subst hσ_
        refine TL.st rfl (S_move rfl) ?_
        intro σ_ hσ_; simp only [nrm, tev, St.step, putO, setsV, addO, ↓reduceIte, Nat.reduceAdd, logT, atT, intern, internL, kp_ents, fz_ents, fz_bytes, kp_bytes, logR, logE, ← List.map_take, ← List.map_drop, List.take_length, beq_self_eq_true, eq_self, decide_true, Bool.and_self] at hσ_; subst hσ_
        refine TL.st rfl (S_extract rfl rfl rfl) ?_
        intro σ_ hσ_; simp only [nrm, tev, St.step, putO, setsV, addO, ↓reduceIte, Nat.reduceAdd, logT, atT, intern, internL, kp_ents, fz_ents, fz_bytes, kp_bytes, logR, logE, ← List.map_take, ← List.map_drop, List.take_length, beq_self_eq_true, eq_self, decide_true, Bool.and_self] at hσ_; subst hσ_
        refine TL.st rfl (S_extract rfl rfl rfl) ?_
        intro σ_ hσ_; simp only [nrm, tev, St.step, putO, setsV, addO, ↓reduceIte, Nat.reduceAdd, logT, atT, intern, internL, kp_ents, fz_ents, fz_bytes, kp_bytes, logR, logE, ← List.map_take, ← List.map_drop, List.take_length, beq_self_eq_true, eq_self, decide_true, Bool.and_self] at hσ_; subst hσ_
        refine TL.st rfl (S_assign rfl) ?_
        intro σ_ hσ_; simp only [nrm, tev, St.step, putO, setsV, addO, ↓reduceIte, Nat.reduceAdd, logT, atT, intern, internL, kp_ents, fz_ents, fz_bytes, kp_bytes, logR, logE, ← List.map_take, ← List.map_drop, List.take_length, beq_self_eq_true, eq_self, decide_true, Bool.and_self] at hσ_; subst hσ_
        refine TL.st rfl (S_assign rfl) ?_
        intro σ_ hσ_; simp only [nrm, tev, St.step, putO, setsV, addO, ↓reduceIte, Nat.reduceAdd, logT, atT, intern, internL, kp_ents, fz_ents, fz_bytes, kp_bytes, logR, logE, ← List.map_take, ← List.map_drop, List.take_length, beq_self_eq_true, eq_self, decide_true, Bool.and_self] at hσ_; subst hσ_
        refine TL.nil ?_
        try simp (decide := true) only [thenT, inBlockT, noGotoT, jumpT, ↓reduceIte, true_and]
        refine hK49_ _ ?_
        refine TW.seq_k ?_
        intro K50_ hK50_
        refine TW.seq_k ?_
        intro K51_ hK51_
        refine TW.reg ?_
        refine TL.st rfl (S_move rfl) ?_
        intro σ_ hσ_; simp only [nrm, tev, St.step, putO, setsV, addO, ↓reduceIte, Nat.reduceAdd, logT, atT, intern, internL, kp_ents, fz_ents, fz_bytes, kp_bytes, logR, logE, ← List.map_take, ← List.map_drop, List.take_length, beq_self_eq_true, eq_self, decide_true, Bool.and_self] at hσ_; subst hσ_
        refine TL.st rfl (S_move rfl) ?_
        intro σ_ hσ_; simp only [nrm, tev, St.step, putO, setsV, addO, ↓reduceIte, Nat.reduceAdd, logT, atT, intern, internL, kp_ents, fz_ents, fz_bytes, kp_bytes, logR, logE, ← List.map_take, ← List.map_drop, List.take_length, beq_self_eq_true, eq_self, decide_true, Bool.and_self] at hσ_; subst hσ_
        first | refine TL.st rfl (S_int rfl rfl rfl rfl (vbt (by omega))) ?_ | refine TL.st rfl (S_int rfl rfl rfl rfl (vbf (by omega))) ?_ | refine TL.st rfl (S_int rfl rfl rfl rfl rfl) ?_ | refine TL.st rfl (S_boolop rfl rfl rfl rfl (tT rfl) rfl) ?_
        intro σ_ hσ_; simp only [nrm, tev, St.step, putO, setsV, addO, ↓reduceIte, Nat.reduceAdd, logT, atT, intern, internL, kp_ents, fz_ents, fz_bytes, kp_bytes, logR, logE, ← List.map_take, ← List.map_drop, List.take_length, beq_self_eq_true, eq_self, decide_true, Bool.and_self] at hσ_; subst hσ_
        first | refine TL.st rfl (S_int rfl rfl rfl rfl (vnt (by omega))) ?_ | refine TL.st rfl (S_int rfl rfl rfl rfl (vnf (by omega))) ?_ | refine TL.st rfl (S_int rfl rfl rfl rfl rfl) ?_ | refine TL.st rfl (S_boolneq rfl rfl rfl rfl (tT rfl) rfl) ?_
        intro σ_ hσ_; simp only [nrm, tev, St.step, putO, setsV, addO, ↓reduceIte, Nat.reduceAdd, logT, atT, intern, internL, kp_ents, fz_ents, fz_bytes, kp_bytes, logR, logE, ← List.map_take, ← List.map_drop, List.take_length, beq_self_eq_true, eq_self, decide_true, Bool.and_self] at hσ_; subst hσ_
        refine TL.nil ?_
        try simp (decide := true) only [thenT, inBlockT, noGotoT, jumpT, ↓reduceIte, true_and]
        refine hK51_ _ ?_
        refine TW.cond_f rfl (rfl) ?_
        refine TW.skip ?_
        try simp (decide := true) only [thenT, inBlockT, noGotoT, jumpT, ↓reduceIte, true_and]
        refine hK50_ _ ?_
        refine TW.seq_k ?_
        intro K52_ hK52_
        refine TW.seq_k ?_
        intro K53_ hK53_
        refine TW.reg ?_
        refine TL.st rfl (S_move rfl) ?_
        intro σ_ hσ_; simp only [nrm, tev, St.step, putO, setsV, addO, ↓reduceIte, Nat.reduceAdd, logT, atT, intern, internL, kp_ents, fz_ents, fz_bytes, kp_bytes, logR, logE, ← List.map_take, ← List.map_drop, List.take_length, beq_self_eq_true, eq_self, decide_true, Bool.and_self] at hσ_; subst hσ_
        first | refine TL.st rfl (S_not rfl rfl) ?_ | refine TL.st rfl (S_neg rfl rfl) ?_
        intro σ_ hσ_; simp only [nrm, tev, St.step, putO, setsV, addO, ↓reduceIte, Nat.reduceAdd, logT, atT, intern, internL, kp_ents, fz_ents, fz_bytes, kp_bytes, logR, logE, ← List.map_take, ← List.map_drop, List.take_length, beq_self_eq_true, eq_self, decide_true, Bool.and_self] at hσ_; subst hσ_
        refine TL.nil ?_
        try simp (decide := true) only [thenT, inBlockT, noGotoT, jumpT, ↓reduceIte, true_and]
        refine hK53_ _ ?_
        refine TW.cond_f rfl (rfl) ?_
        refine TW.skip ?_
        try simp (decide := true) only [thenT, inBlockT, noGotoT, jumpT, ↓reduceIte, true_and]
        refine hK52_ _ ?_
        refine TW.seq_k ?_
        intro K54_ hK54_
        refine TW.seq_k ?_
        intro K55_ hK55_
        refine TW.region_par 18 (by kernel_rfl) (by kernel_rfl) ?_
        simp only [List.take_succ_cons, List.take_zero, List.drop_succ_cons, List.drop_zero, List.take_nil, List.drop_nil]
        first | refine TPar.st rfl (S_load rfl rfl rfl (tT rfl) rfl) ?_ | refine TPar.st rfl (S_load_eptr rfl rfl (tT rfl) rfl) ?_ | refine TPar.st rfl (S_load_row rfl rfl rfl rfl (by assumption) (tT rfl) rfl) ?_ | refine TPar.st rfl (S_load_row (j := 0) rfl rfl rfl rfl (by assumption) (tT rfl) rfl) ?_
        intro s_ h_ hs_ hh_; simp only [nrm, tev, St.step, putO, setsV, addO, ↓reduceIte, Nat.reduceAdd, logT, atT, intern, internL, kp_ents, fz_ents, fz_bytes, kp_bytes, logR, logE, ← List.map_take, ← List.map_drop, List.take_length, beq_self_eq_true, eq_self, decide_true, Bool.and_self] at hs_ hh_; subst hs_; subst hh_
        first | refine TPar.st rfl (S_call_row rfl rfl rfl (by kernel_rfl) rfl ((may6_T _ _ x.i x.t es xf hi0 hi1 ht0 ht1).eq rfl (by rw [hm])) rfl) ?_ | refine TPar.st rfl (S_call rfl rfl rfl (by kernel_rfl) rfl ((may6_T _ _ x.i x.t es xf hi0 hi1 ht0 ht1).eq rfl (by rw [hm]))) ?_ | refine TPar.st rfl (S_call_row rfl rfl rfl (by kernel_rfl) rfl ((may6_T _ _ x.i x.t (es.take k) okX hi0 hi1 ht0 ht1).eq rfl (by rw [hhd])) rfl) ?_ | refine TPar.st rfl (S_call rfl rfl rfl (by kernel_rfl) rfl ((may6_T _ _ x.i x.t (es.take k) okX hi0 hi1 ht0 ht1).eq rfl (by rw [hhd]))) ?_ | refine TPar.st rfl (S_call_row rfl rfl rfl (by kernel_rfl) rfl ((may6_T _ _ (x.i + j) (tm x.t es j) (es.drop j) okZ hj0 hj1 htm.1 htm.2).eq rfl (by rw [htl])) rfl) ?_ | refine TPar.st rfl (S_call rfl rfl rfl (by kernel_rfl) rfl ((may6_T _ _ (x.i + j) (tm x.t es j) (es.drop j) okZ hj0 hj1 htm.1 htm.2).eq rfl (by rw [htl]))) ?_
        intro s_ h_ hs_ hh_; simp only [nrm, tev, St.step, putO, setsV, addO, ↓reduceIte, Nat.reduceAdd, logT, atT, intern, internL, kp_ents, fz_ents, fz_bytes, kp_bytes, logR, logE, ← List.map_take, ← List.map_drop, List.take_length, beq_self_eq_true, eq_self, decide_true, Bool.and_self] at hs_ hh_; subst hs_; subst hh_
        first | refine TPar.st rfl (S_not rfl rfl) ?_ | refine TPar.st rfl (S_neg rfl rfl) ?_
        intro s_ h_ hs_ hh_; simp only [nrm, tev, St.step, putO, setsV, addO, ↓reduceIte, Nat.reduceAdd, logT, atT, intern, internL, kp_ents, fz_ents, fz_bytes, kp_bytes, logR, logE, ← List.map_take, ← List.map_drop, List.take_length, beq_self_eq_true, eq_self, decide_true, Bool.and_self] at hs_ hh_; subst hs_; subst hh_
        refine TPar.st rfl (S_move rfl) ?_
        intro s_ h_ hs_ hh_; simp only [nrm, tev, St.step, putO, setsV, addO, ↓reduceIte, Nat.reduceAdd, logT, atT, intern, internL, kp_ents, fz_ents, fz_bytes, kp_bytes, logR, logE, ← List.map_take, ← List.map_drop, List.take_length, beq_self_eq_true, eq_self, decide_true, Bool.and_self] at hs_ hh_; subst hs_; subst hh_
        first | refine TPar.st_g rfl rfl rfl (Nat.le_of_ble_eq_true rfl) rfl (S_fieldAddr rfl rfl (tT rfl) rfl rfl (tT rfl) (by decide)) ?_ | refine TPar.st_g rfl rfl rfl (Nat.le_of_ble_eq_true rfl) rfl (S_fieldAddr_eptr rfl rfl (tT rfl) rfl rfl (tT rfl) (by decide)) ?_ | refine TPar.sk_g rfl rfl rfl (Nat.le_of_ble_eq_true rfl) rfl rfl ?_
        intro s_ h_ hs_ hh_; simp only [nrm, tev, St.step, putO, setsV, addO, ↓reduceIte, Nat.reduceAdd, logT, atT, intern, internL, kp_ents, fz_ents, fz_bytes, kp_bytes, logR, logE, ← List.map_take, ← List.map_drop, List.take_length, beq_self_eq_true, eq_self, decide_true, Bool.and_self] at hs_ hh_; subst hs_; subst hh_
        first | refine TPar.st_g rfl rfl rfl (Nat.le_of_ble_eq_true rfl) rfl (S_load rfl rfl rfl (tT rfl) rfl) ?_ | refine TPar.st_g rfl rfl rfl (Nat.le_of_ble_eq_true rfl) rfl (S_load_eptr rfl rfl (tT rfl) rfl) ?_ | refine TPar.st_g rfl rfl rfl (Nat.le_of_ble_eq_true rfl) rfl (S_load_row rfl rfl rfl rfl (by assumption) (tT rfl) rfl) ?_ | refine TPar.st_g rfl rfl rfl (Nat.le_of_ble_eq_true rfl) rfl (S_load_row (j := 0) rfl rfl rfl rfl (by assumption) (tT rfl) rfl) ?_ | refine TPar.sk_g rfl rfl rfl (Nat.le_of_ble_eq_true rfl) rfl rfl ?_
        intro s_ h_ hs_ hh_; simp only [nrm, tev, St.step, putO, setsV, addO, ↓reduceIte, Nat.reduceAdd, logT, atT, intern, internL, kp_ents, fz_ents, fz_bytes, kp_bytes, logR, logE, ← List.map_take, ← List.map_drop, List.take_length, beq_self_eq_true, eq_self, decide_true, Bool.and_self] at hs_ hh_; subst hs_; subst hh_
        first | refine TPar.st_g rfl rfl rfl (Nat.le_of_ble_eq_true rfl) rfl (S_move rfl) ?_ | refine TPar.sk_g rfl rfl rfl (Nat.le_of_ble_eq_true rfl) rfl rfl ?_
        intro s_ h_ hs_ hh_; simp only [nrm, tev, St.step, putO, setsV, addO, ↓reduceIte, Nat.reduceAdd, logT, atT, intern, internL, kp_ents, fz_ents, fz_bytes, kp_bytes, logR, logE, ← List.map_take, ← List.map_drop, List.take_length, beq_self_eq_true, eq_self, decide_true, Bool.and_self] at hs_ hh_; subst hs_; subst hh_
        first | refine TPar.st_g rfl rfl rfl (Nat.le_of_ble_eq_true rfl) rfl (S_move rfl) ?_ | refine TPar.sk_g rfl rfl rfl (Nat.le_of_ble_eq_true rfl) rfl rfl ?_
        intro s_ h_ hs_ hh_; simp only [nrm, tev, St.step, putO, setsV, addO, ↓reduceIte, Nat.reduceAdd, logT, atT, intern, internL, kp_ents, fz_ents, fz_bytes, kp_bytes, logR, logE, ← List.map_take, ← List.map_drop, List.take_length, beq_self_eq_true, eq_self, decide_true, Bool.and_self] at hs_ hh_; subst hs_; subst hh_
        first | refine TPar.st_g rfl rfl rfl (Nat.le_of_ble_eq_true rfl) rfl (S_build rfl (tT rfl) rfl (zT rfl) rfl (by repeat (first | exact PlOk.nil | (apply PlOk.cons; exact tT rfl))) rfl rfl) ?_ | refine TPar.sk_g rfl rfl rfl (Nat.le_of_ble_eq_true rfl) rfl rfl ?_
        intro s_ h_ hs_ hh_; simp only [nrm, tev, St.step, putO, setsV, addO, ↓reduceIte, Nat.reduceAdd, logT, atT, intern, internL, kp_ents, fz_ents, fz_bytes, kp_bytes, logR, logE, ← List.map_take, ← List.map_drop, List.take_length, beq_self_eq_true, eq_self, decide_true, Bool.and_self] at hs_ hh_; subst hs_; subst hh_
        first | refine TPar.st_g rfl rfl rfl (Nat.le_of_ble_eq_true rfl) rfl (S_int rfl rfl rfl rfl (vnt (by omega))) ?_ | refine TPar.st_g rfl rfl rfl (Nat.le_of_ble_eq_true rfl) rfl (S_int rfl rfl rfl rfl (vnf (by omega))) ?_ | refine TPar.st_g rfl rfl rfl (Nat.le_of_ble_eq_true rfl) rfl (S_int rfl rfl rfl rfl rfl) ?_ | refine TPar.st_g rfl rfl rfl (Nat.le_of_ble_eq_true rfl) rfl (S_boolneq rfl rfl rfl rfl (tT rfl) rfl) ?_ | refine TPar.st_g rfl rfl rfl (Nat.le_of_ble_eq_true rfl) rfl (S_bin (u := .bool true) rfl rfl rfl (fun w => (neAt_run _ _ _ _ _ _ w).trans (congrArg (fun b => Result.ok (Value.bool b) w) hq_))) ?_ | refine TPar.st_g rfl rfl rfl (Nat.le_of_ble_eq_true rfl) rfl (S_bin (u := .bool false) rfl rfl rfl (fun w => (neAt_run _ _ _ _ _ _ w).trans (congrArg (fun b => Result.ok (Value.bool b) w) hq_))) ?_ | refine TPar.st_g rfl rfl rfl (Nat.le_of_ble_eq_true rfl) rfl (S_bin rfl rfl rfl (neAt_run _ _ _ _ _ _)) ?_ | refine TPar.sk_g rfl rfl rfl (Nat.le_of_ble_eq_true rfl) rfl rfl ?_
        intro s_ h_ hs_ hh_; simp only [nrm, tev, St.step, putO, setsV, addO, ↓reduceIte, Nat.reduceAdd, logT, atT, intern, internL, kp_ents, fz_ents, fz_bytes, kp_bytes, logR, logE, ← List.map_take, ← List.map_drop, List.take_length, beq_self_eq_true, eq_self, decide_true, Bool.and_self] at hs_ hh_; subst hs_; subst hh_
        refine TPar.st rfl (S_pick rfl rfl rfl) ?_
        intro s_ h_ hs_ hh_; simp only [nrm, tev, St.step, putO, setsV, addO, ↓reduceIte, Nat.reduceAdd, logT, atT, intern, internL, kp_ents, fz_ents, fz_bytes, kp_bytes, logR, logE, ← List.map_take, ← List.map_drop, List.take_length, beq_self_eq_true, eq_self, decide_true, Bool.and_self] at hs_ hh_; subst hs_; subst hh_
        refine TPar.st rfl (S_move rfl) ?_
        intro s_ h_ hs_ hh_; simp only [nrm, tev, St.step, putO, setsV, addO, ↓reduceIte, Nat.reduceAdd, logT, atT, intern, internL, kp_ents, fz_ents, fz_bytes, kp_bytes, logR, logE, ← List.map_take, ← List.map_drop, List.take_length, beq_self_eq_true, eq_self, decide_true, Bool.and_self] at hs_ hh_; subst hs_; subst hh_
        first | refine TPar.st_g rfl rfl rfl (Nat.le_of_ble_eq_true rfl) rfl (S_load rfl rfl rfl (tT rfl) rfl) ?_ | refine TPar.st_g rfl rfl rfl (Nat.le_of_ble_eq_true rfl) rfl (S_load_eptr rfl rfl (tT rfl) rfl) ?_ | refine TPar.st_g rfl rfl rfl (Nat.le_of_ble_eq_true rfl) rfl (S_load_row rfl rfl rfl rfl (by assumption) (tT rfl) rfl) ?_ | refine TPar.st_g rfl rfl rfl (Nat.le_of_ble_eq_true rfl) rfl (S_load_row (j := 0) rfl rfl rfl rfl (by assumption) (tT rfl) rfl) ?_ | refine TPar.sk_g rfl rfl rfl (Nat.le_of_ble_eq_true rfl) rfl rfl ?_
        intro s_ h_ hs_ hh_; simp only [nrm, tev, St.step, putO, setsV, addO, ↓reduceIte, Nat.reduceAdd, logT, atT, intern, internL, kp_ents, fz_ents, fz_bytes, kp_bytes, logR, logE, ← List.map_take, ← List.map_drop, List.take_length, beq_self_eq_true, eq_self, decide_true, Bool.and_self] at hs_ hh_; subst hs_; subst hh_
        first | refine TPar.st_g rfl rfl rfl (Nat.le_of_ble_eq_true rfl) rfl (S_call_row rfl rfl rfl (by kernel_rfl) rfl ((last_T _ _ x.i x.t (es.take k) okX.w okX.n9 hi0 hi1).eq rfl (by rw [hlh])) rfl) ?_ | refine TPar.st_g rfl rfl rfl (Nat.le_of_ble_eq_true rfl) rfl (S_call rfl rfl rfl (by kernel_rfl) rfl ((last_T _ _ x.i x.t (es.take k) okX.w okX.n9 hi0 hi1).eq rfl (by rw [hlh]))) ?_ | refine TPar.st_g rfl rfl rfl (Nat.le_of_ble_eq_true rfl) rfl (S_call_row rfl rfl rfl (by kernel_rfl) rfl ((last_T _ _ x.i x.t es xf.w xf.n9 hi0 hi1).eq rfl (by rw [hla])) rfl) ?_ | refine TPar.st_g rfl rfl rfl (Nat.le_of_ble_eq_true rfl) rfl (S_call rfl rfl rfl (by kernel_rfl) rfl ((last_T _ _ x.i x.t es xf.w xf.n9 hi0 hi1).eq rfl (by rw [hla]))) ?_ | refine TPar.st_g rfl rfl rfl (Nat.le_of_ble_eq_true rfl) rfl (S_call_row rfl rfl rfl (by kernel_rfl) rfl ((last_T _ _ (x.i + j) (tm x.t es j) (es.drop j) okZ.w okZ.n9 hj0 hj1).eq rfl (by rw [hlt2])) rfl) ?_ | refine TPar.st_g rfl rfl rfl (Nat.le_of_ble_eq_true rfl) rfl (S_call rfl rfl rfl (by kernel_rfl) rfl ((last_T _ _ (x.i + j) (tm x.t es j) (es.drop j) okZ.w okZ.n9 hj0 hj1).eq rfl (by rw [hlt2]))) ?_ | refine TPar.sk_g rfl rfl rfl (Nat.le_of_ble_eq_true rfl) rfl rfl ?_
        intro s_ h_ hs_ hh_; simp only [nrm, tev, St.step, putO, setsV, addO, ↓reduceIte, Nat.reduceAdd, logT, atT, intern, internL, kp_ents, fz_ents, fz_bytes, kp_bytes, logR, logE, ← List.map_take, ← List.map_drop, List.take_length, beq_self_eq_true, eq_self, decide_true, Bool.and_self] at hs_ hh_; subst hs_; subst hh_
        first | refine TPar.st_g rfl rfl rfl (Nat.le_of_ble_eq_true rfl) rfl (S_load rfl rfl rfl (tT rfl) rfl) ?_ | refine TPar.st_g rfl rfl rfl (Nat.le_of_ble_eq_true rfl) rfl (S_load_eptr rfl rfl (tT rfl) rfl) ?_ | refine TPar.st_g rfl rfl rfl (Nat.le_of_ble_eq_true rfl) rfl (S_load_row rfl rfl rfl rfl (by assumption) (tT rfl) rfl) ?_ | refine TPar.st_g rfl rfl rfl (Nat.le_of_ble_eq_true rfl) rfl (S_load_row (j := 0) rfl rfl rfl rfl (by assumption) (tT rfl) rfl) ?_ | refine TPar.sk_g rfl rfl rfl (Nat.le_of_ble_eq_true rfl) rfl rfl ?_
        intro s_ h_ hs_ hh_; simp only [nrm, tev, St.step, putO, setsV, addO, ↓reduceIte, Nat.reduceAdd, logT, atT, intern, internL, kp_ents, fz_ents, fz_bytes, kp_bytes, logR, logE, ← List.map_take, ← List.map_drop, List.take_length, beq_self_eq_true, eq_self, decide_true, Bool.and_self] at hs_ hh_; subst hs_; subst hh_
        first | refine TPar.st_g rfl rfl rfl (Nat.le_of_ble_eq_true rfl) rfl (S_call_row rfl rfl rfl (by kernel_rfl) rfl ((last_T _ _ x.i x.t (es.take k) okX.w okX.n9 hi0 hi1).eq rfl (by rw [hlh])) rfl) ?_ | refine TPar.st_g rfl rfl rfl (Nat.le_of_ble_eq_true rfl) rfl (S_call rfl rfl rfl (by kernel_rfl) rfl ((last_T _ _ x.i x.t (es.take k) okX.w okX.n9 hi0 hi1).eq rfl (by rw [hlh]))) ?_ | refine TPar.st_g rfl rfl rfl (Nat.le_of_ble_eq_true rfl) rfl (S_call_row rfl rfl rfl (by kernel_rfl) rfl ((last_T _ _ x.i x.t es xf.w xf.n9 hi0 hi1).eq rfl (by rw [hla])) rfl) ?_ | refine TPar.st_g rfl rfl rfl (Nat.le_of_ble_eq_true rfl) rfl (S_call rfl rfl rfl (by kernel_rfl) rfl ((last_T _ _ x.i x.t es xf.w xf.n9 hi0 hi1).eq rfl (by rw [hla]))) ?_ | refine TPar.st_g rfl rfl rfl (Nat.le_of_ble_eq_true rfl) rfl (S_call_row rfl rfl rfl (by kernel_rfl) rfl ((last_T _ _ (x.i + j) (tm x.t es j) (es.drop j) okZ.w okZ.n9 hj0 hj1).eq rfl (by rw [hlt2])) rfl) ?_ | refine TPar.st_g rfl rfl rfl (Nat.le_of_ble_eq_true rfl) rfl (S_call rfl rfl rfl (by kernel_rfl) rfl ((last_T _ _ (x.i + j) (tm x.t es j) (es.drop j) okZ.w okZ.n9 hj0 hj1).eq rfl (by rw [hlt2]))) ?_ | refine TPar.sk_g rfl rfl rfl (Nat.le_of_ble_eq_true rfl) rfl rfl ?_
        intro s_ h_ hs_ hh_; simp only [nrm, tev, St.step, putO, setsV, addO, ↓reduceIte, Nat.reduceAdd, logT, atT, intern, internL, kp_ents, fz_ents, fz_bytes, kp_bytes, logR, logE, ← List.map_take, ← List.map_drop, List.take_length, beq_self_eq_true, eq_self, decide_true, Bool.and_self] at hs_ hh_; subst hs_; subst hh_
        first | refine TPar.st_g rfl rfl rfl (Nat.le_of_ble_eq_true rfl) rfl (S_int rfl rfl rfl rfl (vnt (by omega))) ?_ | refine TPar.st_g rfl rfl rfl (Nat.le_of_ble_eq_true rfl) rfl (S_int rfl rfl rfl rfl (vnf (by omega))) ?_ | refine TPar.st_g rfl rfl rfl (Nat.le_of_ble_eq_true rfl) rfl (S_int rfl rfl rfl rfl rfl) ?_ | refine TPar.st_g rfl rfl rfl (Nat.le_of_ble_eq_true rfl) rfl (S_boolneq rfl rfl rfl rfl (tT rfl) rfl) ?_ | refine TPar.st_g rfl rfl rfl (Nat.le_of_ble_eq_true rfl) rfl (S_bin (u := .bool true) rfl rfl rfl (fun w => (neAt_run _ _ _ _ _ _ w).trans (congrArg (fun b => Result.ok (Value.bool b) w) hq_))) ?_ | refine TPar.st_g rfl rfl rfl (Nat.le_of_ble_eq_true rfl) rfl (S_bin (u := .bool false) rfl rfl rfl (fun w => (neAt_run _ _ _ _ _ _ w).trans (congrArg (fun b => Result.ok (Value.bool b) w) hq_))) ?_ | refine TPar.st_g rfl rfl rfl (Nat.le_of_ble_eq_true rfl) rfl (S_bin rfl rfl rfl (neAt_run _ _ _ _ _ _)) ?_ | refine TPar.sk_g rfl rfl rfl (Nat.le_of_ble_eq_true rfl) rfl rfl ?_
        intro s_ h_ hs_ hh_; simp only [nrm, tev, St.step, putO, setsV, addO, ↓reduceIte, Nat.reduceAdd, logT, atT, intern, internL, kp_ents, fz_ents, fz_bytes, kp_bytes, logR, logE, ← List.map_take, ← List.map_drop, List.take_length, beq_self_eq_true, eq_self, decide_true, Bool.and_self] at hs_ hh_; subst hs_; subst hh_
        refine TPar.st rfl (S_pick rfl rfl rfl) ?_
        intro s_ h_ hs_ hh_; simp only [nrm, tev, St.step, putO, setsV, addO, ↓reduceIte, Nat.reduceAdd, logT, atT, intern, internL, kp_ents, fz_ents, fz_bytes, kp_bytes, logR, logE, ← List.map_take, ← List.map_drop, List.take_length, beq_self_eq_true, eq_self, decide_true, Bool.and_self] at hs_ hh_; subst hs_; subst hh_
        unfold TPar
        refine TL.nil ?_
        try simp (decide := true) only [thenT, inBlockT, noGotoT, jumpT, ↓reduceIte, true_and]
        refine hK55_ _ ?_
        refine TW.cond_f rfl (rfl) ?_
        refine TW.skip ?_
        try simp (decide := true) only [thenT, inBlockT, noGotoT, jumpT, ↓reduceIte, true_and]
        refine hK54_ _ ?_
        refine TW.seq_k ?_
        intro K56_ hK56_
        refine TW.seq_k ?_
        intro K57_ hK57_
        refine TW.reg ?_
        first | refine TL.st rfl (S_fieldAddr rfl rfl (tT rfl) rfl rfl (tT rfl) (by decide)) ?_ | refine TL.st rfl (S_fieldAddr_eptr rfl rfl (tT rfl) rfl rfl (tT rfl) (by decide)) ?_
        intro σ_ hσ_; simp only [nrm, tev, St.step, putO, setsV, addO, ↓reduceIte, Nat.reduceAdd, logT, atT, intern, internL, kp_ents, fz_ents, fz_bytes, kp_bytes, logR, logE, ← List.map_take, ← List.map_drop, List.take_length, beq_self_eq_true, eq_self, decide_true, Bool.and_self] at hσ_; subst hσ_
        first | refine TL.st rfl (S_load rfl rfl rfl (tT rfl) rfl) ?_ | refine TL.st rfl (S_load_eptr rfl rfl (tT rfl) rfl) ?_ | refine TL.st rfl (S_load_row rfl rfl rfl rfl (by assumption) (tT rfl) rfl) ?_ | refine TL.st rfl (S_load_row (j := 0) rfl rfl rfl rfl (by assumption) (tT rfl) rfl) ?_
        intro σ_ hσ_; simp only [nrm, tev, St.step, putO, setsV, addO, ↓reduceIte, Nat.reduceAdd, logT, atT, intern, internL, kp_ents, fz_ents, fz_bytes, kp_bytes, logR, logE, ← List.map_take, ← List.map_drop, List.take_length, beq_self_eq_true, eq_self, decide_true, Bool.and_self] at hσ_; subst hσ_
        first | refine TL.st rfl (S_len rfl rfl (tT rfl) rfl (.inl ⟨_, _, rfl, rfl⟩)) ?_ | refine TL.st rfl (S_len rfl rfl (tT rfl) rfl (.inr (.inl ⟨_, _, _, _, rfl, rfl, rfl⟩))) ?_ | refine TL.st rfl (S_len rfl rfl (tT rfl) rfl (.inr (.inr ⟨rfl, rfl⟩))) ?_ | refine TL.st rfl (S_len_str rfl rfl (tT rfl) rfl rfl) ?_ | refine TL.st rfl (S_len_arr rfl rfl (tT rfl) rfl) ?_
        intro σ_ hσ_; simp only [nrm, tev, St.step, putO, setsV, addO, ↓reduceIte, Nat.reduceAdd, logT, atT, intern, internL, kp_ents, fz_ents, fz_bytes, kp_bytes, logR, logE, ← List.map_take, ← List.map_drop, List.take_length, beq_self_eq_true, eq_self, decide_true, Bool.and_self] at hσ_; subst hσ_
        first | refine TL.st rfl (S_int rfl rfl rfl rfl (vi64 (by omega))) ?_ | refine TL.st rfl (S_int rfl rfl rfl rfl (vu64 (by omega))) ?_ | refine TL.st rfl (S_int rfl rfl rfl rfl rfl) ?_
        intro σ_ hσ_; simp only [nrm, tev, St.step, putO, setsV, addO, ↓reduceIte, Nat.reduceAdd, logT, atT, intern, internL, kp_ents, fz_ents, fz_bytes, kp_bytes, logR, logE, ← List.map_take, ← List.map_drop, List.take_length, beq_self_eq_true, eq_self, decide_true, Bool.and_self] at hσ_; subst hσ_
        refine TL.st rfl (S_move rfl) ?_
        intro σ_ hσ_; simp only [nrm, tev, St.step, putO, setsV, addO, ↓reduceIte, Nat.reduceAdd, logT, atT, intern, internL, kp_ents, fz_ents, fz_bytes, kp_bytes, logR, logE, ← List.map_take, ← List.map_drop, List.take_length, beq_self_eq_true, eq_self, decide_true, Bool.and_self] at hσ_; subst hσ_
        refine TL.nil ?_
        try simp (decide := true) only [thenT, inBlockT, noGotoT, jumpT, ↓reduceIte, true_and]
        refine hK57_ _ ?_
        refine TW.block ?_
        refine TW.loopS (X := Nat) (fun m => m ≤ es.length + 1) (fun m => es.length + 1 - m) (fun m => [(4, .any), (16, .any), (17, .any), (18, .any), (19, .any), (20, .any), (21, .any), (123, .v (.int .i64 m)), (124, .any), (125, .any), (126, .any), (127, .any), (128, .any), (129, .any), (130, .any), (131, .any), (132, .any), (133, .any), (134, .any), (135, .any), (136, .any), (137, .any), (138, .any), (139, .any), (140, .any), (141, .any), (142, .any), (143, .any), (144, .any), (145, .any), (146, .any), (147, .any), (148, .any), (149, .any), (150, .any), (151, .any), (152, .any), (153, .any), (154, .any), (155, .any), (156, .any), (157, .any)]) (fun m => []) 0 (Nat.zero_le _) ?_ ?_
        · refine SLe.of ?_ ?_ ?_
          · simp [setsL, LeL_cons, LeL_nil, LeT_any, LeT_self, LeT_v, LeT_sl, LeT_nil_sl, List.set_cons_zero, List.set_cons_succ, kp_ents]
          · simp [setsL, LeB_self, LeB_nil]
          · exact LeL.refl _
        · rintro m hmm σ_ hσ_
          simp only [nrm, tev, St.step, putO, setsV, addO, ↓reduceIte, Nat.reduceAdd, logT, atT, intern, internL, kp_ents, fz_ents, fz_bytes, kp_bytes, logR, logE, ← List.map_take, ← List.map_drop, List.take_length, beq_self_eq_true, eq_self, decide_true, Bool.and_self, setsL_nil, setsL_cons] at hσ_; subst hσ_
          refine TW.seq_k ?_
          intro K58_ hK58_
          by_cases hlt : m < es.length + 1
          · skip
            have hm1 := term_at hi0 hm (show m ≤ es.length by omega)
            have hm2 := term_tail hi0 hm hjl ht0 (show m ≤ es.length by omega)
            refine TW.reg ?_
            first | refine TL.st rfl (S_int rfl rfl rfl rfl (vbt (by omega))) ?_ | refine TL.st rfl (S_int rfl rfl rfl rfl (vbf (by omega))) ?_ | refine TL.st rfl (S_int rfl rfl rfl rfl rfl) ?_
            intro σ_ hσ_; simp only [nrm, tev, St.step, putO, setsV, addO, ↓reduceIte, Nat.reduceAdd, logT, atT, intern, internL, kp_ents, fz_ents, fz_bytes, kp_bytes, logR, logE, ← List.map_take, ← List.map_drop, List.take_length, beq_self_eq_true, eq_self, decide_true, Bool.and_self] at hσ_; subst hσ_
            refine TL.nil ?_
            try simp (decide := true) only [thenT, inBlockT, noGotoT, jumpT, ↓reduceIte, true_and]
            refine hK58_ _ ?_
            refine TW.seq_k ?_
            intro K59_ hK59_
            refine TW.cond_t rfl (rfl) ?_
            refine TW.skip ?_
            try simp (decide := true) only [thenT, inBlockT, noGotoT, jumpT, ↓reduceIte, true_and]
            refine hK59_ _ ?_
            refine TW.seq_k ?_
            intro K60_ hK60_
            refine TW.block ?_
            refine TW.seq_k ?_
            intro K61_ hK61_
            refine TW.reg ?_
            refine TL.st rfl (S_move rfl) ?_
            intro σ_ hσ_; simp only [nrm, tev, St.step, putO, setsV, addO, ↓reduceIte, Nat.reduceAdd, logT, atT, intern, internL, kp_ents, fz_ents, fz_bytes, kp_bytes, logR, logE, ← List.map_take, ← List.map_drop, List.take_length, beq_self_eq_true, eq_self, decide_true, Bool.and_self] at hσ_; subst hσ_
            refine TL.st rfl (S_assign rfl) ?_
            intro σ_ hσ_; simp only [nrm, tev, St.step, putO, setsV, addO, ↓reduceIte, Nat.reduceAdd, logT, atT, intern, internL, kp_ents, fz_ents, fz_bytes, kp_bytes, logR, logE, ← List.map_take, ← List.map_drop, List.take_length, beq_self_eq_true, eq_self, decide_true, Bool.and_self] at hσ_; subst hσ_
            refine TL.nil ?_
            try simp (decide := true) only [thenT, inBlockT, noGotoT, jumpT, ↓reduceIte, true_and]
            refine hK61_ _ ?_
            refine TW.seq_k ?_
            intro K62_ hK62_
            refine TW.reg ?_
            first | refine TL.st rfl (S_fieldAddr rfl rfl (tT rfl) rfl rfl (tT rfl) (by decide)) ?_ | refine TL.st rfl (S_fieldAddr_eptr rfl rfl (tT rfl) rfl rfl (tT rfl) (by decide)) ?_
            intro σ_ hσ_; simp only [nrm, tev, St.step, putO, setsV, addO, ↓reduceIte, Nat.reduceAdd, logT, atT, intern, internL, kp_ents, fz_ents, fz_bytes, kp_bytes, logR, logE, ← List.map_take, ← List.map_drop, List.take_length, beq_self_eq_true, eq_self, decide_true, Bool.and_self] at hσ_; subst hσ_
            first | refine TL.st rfl (S_fieldAddr rfl rfl (tT rfl) rfl rfl (tT rfl) (by decide)) ?_ | refine TL.st rfl (S_fieldAddr_eptr rfl rfl (tT rfl) rfl rfl (tT rfl) (by decide)) ?_
            intro σ_ hσ_; simp only [nrm, tev, St.step, putO, setsV, addO, ↓reduceIte, Nat.reduceAdd, logT, atT, intern, internL, kp_ents, fz_ents, fz_bytes, kp_bytes, logR, logE, ← List.map_take, ← List.map_drop, List.take_length, beq_self_eq_true, eq_self, decide_true, Bool.and_self] at hσ_; subst hσ_
            first | refine TL.st rfl (S_load rfl rfl rfl (tT rfl) rfl) ?_ | refine TL.st rfl (S_load_eptr rfl rfl (tT rfl) rfl) ?_ | refine TL.st rfl (S_load_row rfl rfl rfl rfl (by assumption) (tT rfl) rfl) ?_ | refine TL.st rfl (S_load_row (j := 0) rfl rfl rfl rfl (by assumption) (tT rfl) rfl) ?_
            intro σ_ hσ_; simp only [nrm, tev, St.step, putO, setsV, addO, ↓reduceIte, Nat.reduceAdd, logT, atT, intern, internL, kp_ents, fz_ents, fz_bytes, kp_bytes, logR, logE, ← List.map_take, ← List.map_drop, List.take_length, beq_self_eq_true, eq_self, decide_true, Bool.and_self] at hσ_; subst hσ_
            refine TL.st rfl (S_move rfl) ?_
            intro σ_ hσ_; simp only [nrm, tev, St.step, putO, setsV, addO, ↓reduceIte, Nat.reduceAdd, logT, atT, intern, internL, kp_ents, fz_ents, fz_bytes, kp_bytes, logR, logE, ← List.map_take, ← List.map_drop, List.take_length, beq_self_eq_true, eq_self, decide_true, Bool.and_self] at hσ_; subst hσ_
            first | refine TL.st rfl (S_conv_int rfl rfl (tT rfl) (tT rfl) rfl (vi64 (by omega))) ?_ | refine TL.st rfl (S_conv_int rfl rfl (tT rfl) (tT rfl) rfl (vu64 (by omega))) ?_ | refine TL.st rfl (S_conv_int rfl rfl (tT rfl) (tT rfl) rfl (vu8 (by omega))) ?_ | refine TL.st rfl (S_conv_int rfl rfl (tT rfl) (tT rfl) rfl rfl) ?_ | refine TL.st rfl (S_conv_str rfl rfl (tT rfl) (tT rfl) rfl) ?_
            intro σ_ hσ_; simp only [nrm, tev, St.step, putO, setsV, addO, ↓reduceIte, Nat.reduceAdd, logT, atT, intern, internL, kp_ents, fz_ents, fz_bytes, kp_bytes, logR, logE, ← List.map_take, ← List.map_drop, List.take_length, beq_self_eq_true, eq_self, decide_true, Bool.and_self] at hσ_; subst hσ_
            first | refine TL.st rfl (S_int rfl rfl rfl rfl (vi64 (by omega))) ?_ | refine TL.st rfl (S_int rfl rfl rfl rfl (vu64 (by omega))) ?_ | refine TL.st rfl (S_int rfl rfl rfl rfl rfl) ?_
            intro σ_ hσ_; simp only [nrm, tev, St.step, putO, setsV, addO, ↓reduceIte, Nat.reduceAdd, logT, atT, intern, internL, kp_ents, fz_ents, fz_bytes, kp_bytes, logR, logE, ← List.map_take, ← List.map_drop, List.take_length, beq_self_eq_true, eq_self, decide_true, Bool.and_self] at hσ_; subst hσ_
            refine TL.st rfl (S_assign rfl) ?_
            intro σ_ hσ_; simp only [nrm, tev, St.step, putO, setsV, addO, ↓reduceIte, Nat.reduceAdd, logT, atT, intern, internL, kp_ents, fz_ents, fz_bytes, kp_bytes, logR, logE, ← List.map_take, ← List.map_drop, List.take_length, beq_self_eq_true, eq_self, decide_true, Bool.and_self] at hσ_; subst hσ_
            refine TL.nil ?_
            try simp (decide := true) only [thenT, inBlockT, noGotoT, jumpT, ↓reduceIte, true_and]
            refine hK62_ _ ?_
            refine TW.seq_k ?_
            intro K63_ hK63_
            refine TW.reg ?_
            first | refine TL.st rfl (S_load rfl rfl rfl (tT rfl) rfl) ?_ | refine TL.st rfl (S_load_eptr rfl rfl (tT rfl) rfl) ?_ | refine TL.st rfl (S_load_row rfl rfl rfl rfl (by assumption) (tT rfl) rfl) ?_ | refine TL.st rfl (S_load_row (j := 0) rfl rfl rfl rfl (by assumption) (tT rfl) rfl) ?_
            intro σ_ hσ_; simp only [nrm, tev, St.step, putO, setsV, addO, ↓reduceIte, Nat.reduceAdd, logT, atT, intern, internL, kp_ents, fz_ents, fz_bytes, kp_bytes, logR, logE, ← List.map_take, ← List.map_drop, List.take_length, beq_self_eq_true, eq_self, decide_true, Bool.and_self] at hσ_; subst hσ_
            refine TL.st rfl (S_move rfl) ?_
            intro σ_ hσ_; simp only [nrm, tev, St.step, putO, setsV, addO, ↓reduceIte, Nat.reduceAdd, logT, atT, intern, internL, kp_ents, fz_ents, fz_bytes, kp_bytes, logR, logE, ← List.map_take, ← List.map_drop, List.take_length, beq_self_eq_true, eq_self, decide_true, Bool.and_self] at hσ_; subst hσ_
            first | refine TL.st rfl (S_call_row rfl rfl rfl (by kernel_rfl) rfl ((term_T _ _ x.i x.t es xf.w xf.n9 hi0 hi1 _).eq rfl (by rw [hpT])) rfl) ?_ | refine TL.st rfl (S_call rfl rfl rfl (by kernel_rfl) rfl ((term_T _ _ x.i x.t es xf.w xf.n9 hi0 hi1 _).eq rfl (by rw [hpT]))) ?_ | refine TL.st rfl (S_call_row rfl rfl rfl (by kernel_rfl) rfl ((term_T _ _ x.i x.t es xf.w xf.n9 hi0 hi1 (x.i + m)).eq rfl (by rw [hm1])) rfl) ?_ | refine TL.st rfl (S_call rfl rfl rfl (by kernel_rfl) rfl ((term_T _ _ x.i x.t es xf.w xf.n9 hi0 hi1 (x.i + m)).eq rfl (by rw [hm1]))) ?_ | refine TL.st rfl (S_call_row rfl rfl rfl (by kernel_rfl) rfl ((term_T _ _ (x.i + j) (tm x.t es j) (es.drop j) okZ.w okZ.n9 hj0 hj1 (x.i + m)).eq rfl (by rw [hm2])) rfl) ?_ | refine TL.st rfl (S_call rfl rfl rfl (by kernel_rfl) rfl ((term_T _ _ (x.i + j) (tm x.t es j) (es.drop j) okZ.w okZ.n9 hj0 hj1 (x.i + m)).eq rfl (by rw [hm2]))) ?_
            intro σ_ hσ_; simp only [nrm, tev, St.step, putO, setsV, addO, ↓reduceIte, Nat.reduceAdd, logT, atT, intern, internL, kp_ents, fz_ents, fz_bytes, kp_bytes, logR, logE, ← List.map_take, ← List.map_drop, List.take_length, beq_self_eq_true, eq_self, decide_true, Bool.and_self] at hσ_; subst hσ_
            refine TL.st rfl (S_move rfl) ?_
            intro σ_ hσ_; simp only [nrm, tev, St.step, putO, setsV, addO, ↓reduceIte, Nat.reduceAdd, logT, atT, intern, internL, kp_ents, fz_ents, fz_bytes, kp_bytes, logR, logE, ← List.map_take, ← List.map_drop, List.take_length, beq_self_eq_true, eq_self, decide_true, Bool.and_self] at hσ_; subst hσ_
            refine TL.st rfl (S_extract rfl rfl rfl) ?_
            intro σ_ hσ_; simp only [nrm, tev, St.step, putO, setsV, addO, ↓reduceIte, Nat.reduceAdd, logT, atT, intern, internL, kp_ents, fz_ents, fz_bytes, kp_bytes, logR, logE, ← List.map_take, ← List.map_drop, List.take_length, beq_self_eq_true, eq_self, decide_true, Bool.and_self] at hσ_; subst hσ_
            refine TL.st rfl (S_extract rfl rfl rfl) ?_
            intro σ_ hσ_; simp only [nrm, tev, St.step, putO, setsV, addO, ↓reduceIte, Nat.reduceAdd, logT, atT, intern, internL, kp_ents, fz_ents, fz_bytes, kp_bytes, logR, logE, ← List.map_take, ← List.map_drop, List.take_length, beq_self_eq_true, eq_self, decide_true, Bool.and_self] at hσ_; subst hσ_
            refine TL.st rfl (S_assign rfl) ?_
            intro σ_ hσ_; simp only [nrm, tev, St.step, putO, setsV, addO, ↓reduceIte, Nat.reduceAdd, logT, atT, intern, internL, kp_ents, fz_ents, fz_bytes, kp_bytes, logR, logE, ← List.map_take, ← List.map_drop, List.take_length, beq_self_eq_true, eq_self, decide_true, Bool.and_self] at hσ_; subst hσ_
            refine TL.st rfl (S_assign rfl) ?_
            intro σ_ hσ_; simp only [nrm, tev, St.step, putO, setsV, addO, ↓reduceIte, Nat.reduceAdd, logT, atT, intern, internL, kp_ents, fz_ents, fz_bytes, kp_bytes, logR, logE, ← List.map_take, ← List.map_drop, List.take_length, beq_self_eq_true, eq_self, decide_true, Bool.and_self] at hσ_; subst hσ_
            refine TL.nil ?_
            try simp (decide := true) only [thenT, inBlockT, noGotoT, jumpT, ↓reduceIte, true_and]
            refine hK63_ _ ?_
            refine TW.seq_k ?_
            intro K64_ hK64_
            by_cases hjm : j ≤ m
            · skip
              rw [if_pos hjm] at hm2
              refine TW.reg ?_
              first | refine TL.st rfl (S_load rfl rfl rfl (tT rfl) rfl) ?_ | refine TL.st rfl (S_load_eptr rfl rfl (tT rfl) rfl) ?_ | refine TL.st rfl (S_load_row rfl rfl rfl rfl (by assumption) (tT rfl) rfl) ?_ | refine TL.st rfl (S_load_row (j := 0) rfl rfl rfl rfl (by assumption) (tT rfl) rfl) ?_
              intro σ_ hσ_; simp only [nrm, tev, St.step, putO, setsV, addO, ↓reduceIte, Nat.reduceAdd, logT, atT, intern, internL, kp_ents, fz_ents, fz_bytes, kp_bytes, logR, logE, ← List.map_take, ← List.map_drop, List.take_length, beq_self_eq_true, eq_self, decide_true, Bool.and_self] at hσ_; subst hσ_
              refine TL.st rfl (S_move rfl) ?_
              intro σ_ hσ_; simp only [nrm, tev, St.step, putO, setsV, addO, ↓reduceIte, Nat.reduceAdd, logT, atT, intern, internL, kp_ents, fz_ents, fz_bytes, kp_bytes, logR, logE, ← List.map_take, ← List.map_drop, List.take_length, beq_self_eq_true, eq_self, decide_true, Bool.and_self] at hσ_; subst hσ_
              first | refine TL.st rfl (S_call_row rfl rfl rfl (by kernel_rfl) rfl ((term_T _ _ x.i x.t es xf.w xf.n9 hi0 hi1 _).eq rfl (by rw [hpT])) rfl) ?_ | refine TL.st rfl (S_call rfl rfl rfl (by kernel_rfl) rfl ((term_T _ _ x.i x.t es xf.w xf.n9 hi0 hi1 _).eq rfl (by rw [hpT]))) ?_ | refine TL.st rfl (S_call_row rfl rfl rfl (by kernel_rfl) rfl ((term_T _ _ x.i x.t es xf.w xf.n9 hi0 hi1 (x.i + m)).eq rfl (by rw [hm1])) rfl) ?_ | refine TL.st rfl (S_call rfl rfl rfl (by kernel_rfl) rfl ((term_T _ _ x.i x.t es xf.w xf.n9 hi0 hi1 (x.i + m)).eq rfl (by rw [hm1]))) ?_ | refine TL.st rfl (S_call_row rfl rfl rfl (by kernel_rfl) rfl ((term_T _ _ (x.i + j) (tm x.t es j) (es.drop j) okZ.w okZ.n9 hj0 hj1 (x.i + m)).eq rfl (by rw [hm2])) rfl) ?_ | refine TL.st rfl (S_call rfl rfl rfl (by kernel_rfl) rfl ((term_T _ _ (x.i + j) (tm x.t es j) (es.drop j) okZ.w okZ.n9 hj0 hj1 (x.i + m)).eq rfl (by rw [hm2]))) ?_
              intro σ_ hσ_; simp only [nrm, tev, St.step, putO, setsV, addO, ↓reduceIte, Nat.reduceAdd, logT, atT, intern, internL, kp_ents, fz_ents, fz_bytes, kp_bytes, logR, logE, ← List.map_take, ← List.map_drop, List.take_length, beq_self_eq_true, eq_self, decide_true, Bool.and_self] at hσ_; subst hσ_
              refine TL.st rfl (S_move rfl) ?_
              intro σ_ hσ_; simp only [nrm, tev, St.step, putO, setsV, addO, ↓reduceIte, Nat.reduceAdd, logT, atT, intern, internL, kp_ents, fz_ents, fz_bytes, kp_bytes, logR, logE, ← List.map_take, ← List.map_drop, List.take_length, beq_self_eq_true, eq_self, decide_true, Bool.and_self] at hσ_; subst hσ_
              refine TL.st rfl (S_extract rfl rfl rfl) ?_
              intro σ_ hσ_; simp only [nrm, tev, St.step, putO, setsV, addO, ↓reduceIte, Nat.reduceAdd, logT, atT, intern, internL, kp_ents, fz_ents, fz_bytes, kp_bytes, logR, logE, ← List.map_take, ← List.map_drop, List.take_length, beq_self_eq_true, eq_self, decide_true, Bool.and_self] at hσ_; subst hσ_
              refine TL.st rfl (S_extract rfl rfl rfl) ?_
              intro σ_ hσ_; simp only [nrm, tev, St.step, putO, setsV, addO, ↓reduceIte, Nat.reduceAdd, logT, atT, intern, internL, kp_ents, fz_ents, fz_bytes, kp_bytes, logR, logE, ← List.map_take, ← List.map_drop, List.take_length, beq_self_eq_true, eq_self, decide_true, Bool.and_self] at hσ_; subst hσ_
              refine TL.st rfl (S_assign rfl) ?_
              intro σ_ hσ_; simp only [nrm, tev, St.step, putO, setsV, addO, ↓reduceIte, Nat.reduceAdd, logT, atT, intern, internL, kp_ents, fz_ents, fz_bytes, kp_bytes, logR, logE, ← List.map_take, ← List.map_drop, List.take_length, beq_self_eq_true, eq_self, decide_true, Bool.and_self] at hσ_; subst hσ_
              refine TL.st rfl (S_assign rfl) ?_
              intro σ_ hσ_; simp only [nrm, tev, St.step, putO, setsV, addO, ↓reduceIte, Nat.reduceAdd, logT, atT, intern, internL, kp_ents, fz_ents, fz_bytes, kp_bytes, logR, logE, ← List.map_take, ← List.map_drop, List.take_length, beq_self_eq_true, eq_self, decide_true, Bool.and_self] at hσ_; subst hσ_
              refine TL.nil ?_
              try simp (decide := true) only [thenT, inBlockT, noGotoT, jumpT, ↓reduceIte, true_and]
              refine hK64_ _ ?_
              refine TW.seq_k ?_
              intro K65_ hK65_
              refine TW.reg ?_
              refine TL.st rfl (S_move rfl) ?_
              intro σ_ hσ_; simp only [nrm, tev, St.step, putO, setsV, addO, ↓reduceIte, Nat.reduceAdd, logT, atT, intern, internL, kp_ents, fz_ents, fz_bytes, kp_bytes, logR, logE, ← List.map_take, ← List.map_drop, List.take_length, beq_self_eq_true, eq_self, decide_true, Bool.and_self] at hσ_; subst hσ_
              refine TL.st rfl (S_move rfl) ?_
              intro σ_ hσ_; simp only [nrm, tev, St.step, putO, setsV, addO, ↓reduceIte, Nat.reduceAdd, logT, atT, intern, internL, kp_ents, fz_ents, fz_bytes, kp_bytes, logR, logE, ← List.map_take, ← List.map_drop, List.take_length, beq_self_eq_true, eq_self, decide_true, Bool.and_self] at hσ_; subst hσ_
              refine TL.st rfl (S_move rfl) ?_
              intro σ_ hσ_; simp only [nrm, tev, St.step, putO, setsV, addO, ↓reduceIte, Nat.reduceAdd, logT, atT, intern, internL, kp_ents, fz_ents, fz_bytes, kp_bytes, logR, logE, ← List.map_take, ← List.map_drop, List.take_length, beq_self_eq_true, eq_self, decide_true, Bool.and_self] at hσ_; subst hσ_
              first | refine TL.st rfl (S_int rfl rfl rfl rfl (vbt (by omega))) ?_ | refine TL.st rfl (S_int rfl rfl rfl rfl (vbf (by omega))) ?_ | refine TL.st rfl (S_int rfl rfl rfl rfl rfl) ?_
              intro σ_ hσ_; simp only [nrm, tev, St.step, putO, setsV, addO, ↓reduceIte, Nat.reduceAdd, logT, atT, intern, internL, kp_ents, fz_ents, fz_bytes, kp_bytes, logR, logE, ← List.map_take, ← List.map_drop, List.take_length, beq_self_eq_true, eq_self, decide_true, Bool.and_self] at hσ_; subst hσ_
              first | refine TL.st rfl (S_int rfl rfl rfl rfl (vnt (by omega))) ?_ | refine TL.st rfl (S_int rfl rfl rfl rfl (vnf (by omega))) ?_ | refine TL.st rfl (S_int rfl rfl rfl rfl rfl) ?_ | refine TL.st rfl (S_boolneq rfl rfl rfl rfl (tT rfl) rfl) ?_
              intro σ_ hσ_; simp only [nrm, tev, St.step, putO, setsV, addO, ↓reduceIte, Nat.reduceAdd, logT, atT, intern, internL, kp_ents, fz_ents, fz_bytes, kp_bytes, logR, logE, ← List.map_take, ← List.map_drop, List.take_length, beq_self_eq_true, eq_self, decide_true, Bool.and_self] at hσ_; subst hσ_
              refine TL.st rfl (S_move rfl) ?_
              intro σ_ hσ_; simp only [nrm, tev, St.step, putO, setsV, addO, ↓reduceIte, Nat.reduceAdd, logT, atT, intern, internL, kp_ents, fz_ents, fz_bytes, kp_bytes, logR, logE, ← List.map_take, ← List.map_drop, List.take_length, beq_self_eq_true, eq_self, decide_true, Bool.and_self] at hσ_; subst hσ_
              first | refine TL.st_g rfl rfl rfl (Nat.le_of_ble_eq_true rfl) rfl (S_move rfl) ?_ | refine TL.sk_g rfl rfl rfl (Nat.le_of_ble_eq_true rfl) rfl rfl ?_
              intro σ_ hσ_; simp only [nrm, tev, St.step, putO, setsV, addO, ↓reduceIte, Nat.reduceAdd, logT, atT, intern, internL, kp_ents, fz_ents, fz_bytes, kp_bytes, logR, logE, ← List.map_take, ← List.map_drop, List.take_length, beq_self_eq_true, eq_self, decide_true, Bool.and_self] at hσ_; subst hσ_
              first | refine TL.st_g rfl rfl rfl (Nat.le_of_ble_eq_true rfl) rfl (S_move rfl) ?_ | refine TL.sk_g rfl rfl rfl (Nat.le_of_ble_eq_true rfl) rfl rfl ?_
              intro σ_ hσ_; simp only [nrm, tev, St.step, putO, setsV, addO, ↓reduceIte, Nat.reduceAdd, logT, atT, intern, internL, kp_ents, fz_ents, fz_bytes, kp_bytes, logR, logE, ← List.map_take, ← List.map_drop, List.take_length, beq_self_eq_true, eq_self, decide_true, Bool.and_self] at hσ_; subst hσ_
              first | refine TL.st_g rfl rfl rfl (Nat.le_of_ble_eq_true rfl) rfl (S_move rfl) ?_ | refine TL.sk_g rfl rfl rfl (Nat.le_of_ble_eq_true rfl) rfl rfl ?_
              intro σ_ hσ_; simp only [nrm, tev, St.step, putO, setsV, addO, ↓reduceIte, Nat.reduceAdd, logT, atT, intern, internL, kp_ents, fz_ents, fz_bytes, kp_bytes, logR, logE, ← List.map_take, ← List.map_drop, List.take_length, beq_self_eq_true, eq_self, decide_true, Bool.and_self] at hσ_; subst hσ_
              first | refine TL.st_g rfl rfl rfl (Nat.le_of_ble_eq_true rfl) rfl (S_move rfl) ?_ | refine TL.sk_g rfl rfl rfl (Nat.le_of_ble_eq_true rfl) rfl rfl ?_
              intro σ_ hσ_; simp only [nrm, tev, St.step, putO, setsV, addO, ↓reduceIte, Nat.reduceAdd, logT, atT, intern, internL, kp_ents, fz_ents, fz_bytes, kp_bytes, logR, logE, ← List.map_take, ← List.map_drop, List.take_length, beq_self_eq_true, eq_self, decide_true, Bool.and_self] at hσ_; subst hσ_
              first | refine TL.st_g rfl rfl rfl (Nat.le_of_ble_eq_true rfl) rfl (S_int rfl rfl rfl rfl (vnt (by omega))) ?_ | refine TL.st_g rfl rfl rfl (Nat.le_of_ble_eq_true rfl) rfl (S_int rfl rfl rfl rfl (vnf (by omega))) ?_ | refine TL.st_g rfl rfl rfl (Nat.le_of_ble_eq_true rfl) rfl (S_int rfl rfl rfl rfl rfl) ?_ | refine TL.st_g rfl rfl rfl (Nat.le_of_ble_eq_true rfl) rfl (S_boolneq rfl rfl rfl rfl (tT rfl) rfl) ?_ | refine TL.sk_g rfl rfl rfl (Nat.le_of_ble_eq_true rfl) rfl rfl ?_
              intro σ_ hσ_; simp only [nrm, tev, St.step, putO, setsV, addO, ↓reduceIte, Nat.reduceAdd, logT, atT, intern, internL, kp_ents, fz_ents, fz_bytes, kp_bytes, logR, logE, ← List.map_take, ← List.map_drop, List.take_length, beq_self_eq_true, eq_self, decide_true, Bool.and_self] at hσ_; subst hσ_
              first | refine TL.st_g rfl rfl rfl (Nat.le_of_ble_eq_true rfl) rfl (S_pick rfl rfl rfl) ?_ | refine TL.sk_g rfl rfl rfl (Nat.le_of_ble_eq_true rfl) rfl rfl ?_
              intro σ_ hσ_; simp only [nrm, tev, St.step, putO, setsV, addO, ↓reduceIte, Nat.reduceAdd, logT, atT, intern, internL, kp_ents, fz_ents, fz_bytes, kp_bytes, logR, logE, ← List.map_take, ← List.map_drop, List.take_length, beq_self_eq_true, eq_self, decide_true, Bool.and_self] at hσ_; subst hσ_
              refine TL.st rfl (S_pick rfl rfl rfl) ?_
              intro σ_ hσ_; simp only [nrm, tev, St.step, putO, setsV, addO, ↓reduceIte, Nat.reduceAdd, logT, atT, intern, internL, kp_ents, fz_ents, fz_bytes, kp_bytes, logR, logE, ← List.map_take, ← List.map_drop, List.take_length, beq_self_eq_true, eq_self, decide_true, Bool.and_self] at hσ_; subst hσ_
              refine TL.nil ?_
              try simp (decide := true) only [thenT, inBlockT, noGotoT, jumpT, ↓reduceIte, true_and]
              refine hK65_ _ ?_
              refine TW.cond_f rfl (rfl) ?_
              refine TW.skip ?_
              try simp (decide := true) only [thenT, inBlockT, noGotoT, jumpT, ↓reduceIte, true_and]
              refine hK60_ _ ?_
              refine TW.reg ?_
              first | refine TL.st rfl (S_int rfl rfl rfl rfl (vi64 (by omega))) ?_ | refine TL.st rfl (S_int rfl rfl rfl rfl (vu64 (by omega))) ?_ | refine TL.st rfl (S_int rfl rfl rfl rfl rfl) ?_
              intro σ_ hσ_; simp only [nrm, tev, St.step, putO, setsV, addO, ↓reduceIte, Nat.reduceAdd, logT, atT, intern, internL, kp_ents, fz_ents, fz_bytes, kp_bytes, logR, logE, ← List.map_take, ← List.map_drop, List.take_length, beq_self_eq_true, eq_self, decide_true, Bool.and_self] at hσ_; subst hσ_
              refine TL.st rfl (S_move rfl) ?_
              intro σ_ hσ_; simp only [nrm, tev, St.step, putO, setsV, addO, ↓reduceIte, Nat.reduceAdd, logT, atT, intern, internL, kp_ents, fz_ents, fz_bytes, kp_bytes, logR, logE, ← List.map_take, ← List.map_drop, List.take_length, beq_self_eq_true, eq_self, decide_true, Bool.and_self] at hσ_; subst hσ_
              refine TL.nil ?_
              try simp (decide := true) only [thenT, inBlockT, noGotoT, jumpT, ↓reduceIte, true_and]
              refine ⟨(m + 1), by omega, by omega, ?_⟩
              refine SLe.back 20 ?_ ?_ ?_
              · simp [setsL, kpL, kp, low, kpLL, LeL_cons, LeL_nil, LeT_any, LeT_self, LeT_v, LeT_sl, LeT_nil_sl, List.set_cons_zero, List.set_cons_succ, kp_ents]
              · simp [-List.map_take, -List.map_drop, setsL, LB.kp, kpLL, kpL, kp, low, LeB_self, LeB_nil, kp_ents]
              · simp [kpL, LeL_nil]
            · skip
              rw [if_neg hjm] at hm2
              refine TW.reg ?_
              first | refine TL.st rfl (S_load rfl rfl rfl (tT rfl) rfl) ?_ | refine TL.st rfl (S_load_eptr rfl rfl (tT rfl) rfl) ?_ | refine TL.st rfl (S_load_row rfl rfl rfl rfl (by assumption) (tT rfl) rfl) ?_ | refine TL.st rfl (S_load_row (j := 0) rfl rfl rfl rfl (by assumption) (tT rfl) rfl) ?_
              intro σ_ hσ_; simp only [nrm, tev, St.step, putO, setsV, addO, ↓reduceIte, Nat.reduceAdd, logT, atT, intern, internL, kp_ents, fz_ents, fz_bytes, kp_bytes, logR, logE, ← List.map_take, ← List.map_drop, List.take_length, beq_self_eq_true, eq_self, decide_true, Bool.and_self] at hσ_; subst hσ_
              refine TL.st rfl (S_move rfl) ?_
              intro σ_ hσ_; simp only [nrm, tev, St.step, putO, setsV, addO, ↓reduceIte, Nat.reduceAdd, logT, atT, intern, internL, kp_ents, fz_ents, fz_bytes, kp_bytes, logR, logE, ← List.map_take, ← List.map_drop, List.take_length, beq_self_eq_true, eq_self, decide_true, Bool.and_self] at hσ_; subst hσ_
              first | refine TL.st rfl (S_call_row rfl rfl rfl (by kernel_rfl) rfl ((term_T _ _ x.i x.t es xf.w xf.n9 hi0 hi1 _).eq rfl (by rw [hpT])) rfl) ?_ | refine TL.st rfl (S_call rfl rfl rfl (by kernel_rfl) rfl ((term_T _ _ x.i x.t es xf.w xf.n9 hi0 hi1 _).eq rfl (by rw [hpT]))) ?_ | refine TL.st rfl (S_call_row rfl rfl rfl (by kernel_rfl) rfl ((term_T _ _ x.i x.t es xf.w xf.n9 hi0 hi1 (x.i + m)).eq rfl (by rw [hm1])) rfl) ?_ | refine TL.st rfl (S_call rfl rfl rfl (by kernel_rfl) rfl ((term_T _ _ x.i x.t es xf.w xf.n9 hi0 hi1 (x.i + m)).eq rfl (by rw [hm1]))) ?_ | refine TL.st rfl (S_call_row rfl rfl rfl (by kernel_rfl) rfl ((term_T _ _ (x.i + j) (tm x.t es j) (es.drop j) okZ.w okZ.n9 hj0 hj1 (x.i + m)).eq rfl (by rw [hm2])) rfl) ?_ | refine TL.st rfl (S_call rfl rfl rfl (by kernel_rfl) rfl ((term_T _ _ (x.i + j) (tm x.t es j) (es.drop j) okZ.w okZ.n9 hj0 hj1 (x.i + m)).eq rfl (by rw [hm2]))) ?_
              intro σ_ hσ_; simp only [nrm, tev, St.step, putO, setsV, addO, ↓reduceIte, Nat.reduceAdd, logT, atT, intern, internL, kp_ents, fz_ents, fz_bytes, kp_bytes, logR, logE, ← List.map_take, ← List.map_drop, List.take_length, beq_self_eq_true, eq_self, decide_true, Bool.and_self] at hσ_; subst hσ_
              refine TL.st rfl (S_move rfl) ?_
              intro σ_ hσ_; simp only [nrm, tev, St.step, putO, setsV, addO, ↓reduceIte, Nat.reduceAdd, logT, atT, intern, internL, kp_ents, fz_ents, fz_bytes, kp_bytes, logR, logE, ← List.map_take, ← List.map_drop, List.take_length, beq_self_eq_true, eq_self, decide_true, Bool.and_self] at hσ_; subst hσ_
              refine TL.st rfl (S_extract rfl rfl rfl) ?_
              intro σ_ hσ_; simp only [nrm, tev, St.step, putO, setsV, addO, ↓reduceIte, Nat.reduceAdd, logT, atT, intern, internL, kp_ents, fz_ents, fz_bytes, kp_bytes, logR, logE, ← List.map_take, ← List.map_drop, List.take_length, beq_self_eq_true, eq_self, decide_true, Bool.and_self] at hσ_; subst hσ_
              refine TL.st rfl (S_extract rfl rfl rfl) ?_
              intro σ_ hσ_; simp only [nrm, tev, St.step, putO, setsV, addO, ↓reduceIte, Nat.reduceAdd, logT, atT, intern, internL, kp_ents, fz_ents, fz_bytes, kp_bytes, logR, logE, ← List.map_take, ← List.map_drop, List.take_length, beq_self_eq_true, eq_self, decide_true, Bool.and_self] at hσ_; subst hσ_
              refine TL.st rfl (S_assign rfl) ?_
              intro σ_ hσ_; simp only [nrm, tev, St.step, putO, setsV, addO, ↓reduceIte, Nat.reduceAdd, logT, atT, intern, internL, kp_ents, fz_ents, fz_bytes, kp_bytes, logR, logE, ← List.map_take, ← List.map_drop, List.take_length, beq_self_eq_true, eq_self, decide_true, Bool.and_self] at hσ_; subst hσ_
              refine TL.st rfl (S_assign rfl) ?_
              intro σ_ hσ_; simp only [nrm, tev, St.step, putO, setsV, addO, ↓reduceIte, Nat.reduceAdd, logT, atT, intern, internL, kp_ents, fz_ents, fz_bytes, kp_bytes, logR, logE, ← List.map_take, ← List.map_drop, List.take_length, beq_self_eq_true, eq_self, decide_true, Bool.and_self] at hσ_; subst hσ_
              refine TL.nil ?_
              try simp (decide := true) only [thenT, inBlockT, noGotoT, jumpT, ↓reduceIte, true_and]
              refine hK64_ _ ?_
              refine TW.seq_k ?_
              intro K66_ hK66_
              refine TW.reg ?_
              refine TL.st rfl (S_move rfl) ?_
              intro σ_ hσ_; simp only [nrm, tev, St.step, putO, setsV, addO, ↓reduceIte, Nat.reduceAdd, logT, atT, intern, internL, kp_ents, fz_ents, fz_bytes, kp_bytes, logR, logE, ← List.map_take, ← List.map_drop, List.take_length, beq_self_eq_true, eq_self, decide_true, Bool.and_self] at hσ_; subst hσ_
              refine TL.st rfl (S_move rfl) ?_
              intro σ_ hσ_; simp only [nrm, tev, St.step, putO, setsV, addO, ↓reduceIte, Nat.reduceAdd, logT, atT, intern, internL, kp_ents, fz_ents, fz_bytes, kp_bytes, logR, logE, ← List.map_take, ← List.map_drop, List.take_length, beq_self_eq_true, eq_self, decide_true, Bool.and_self] at hσ_; subst hσ_
              refine TL.st rfl (S_move rfl) ?_
              intro σ_ hσ_; simp only [nrm, tev, St.step, putO, setsV, addO, ↓reduceIte, Nat.reduceAdd, logT, atT, intern, internL, kp_ents, fz_ents, fz_bytes, kp_bytes, logR, logE, ← List.map_take, ← List.map_drop, List.take_length, beq_self_eq_true, eq_self, decide_true, Bool.and_self] at hσ_; subst hσ_
              first | refine TL.st rfl (S_int rfl rfl rfl rfl (vbt (by omega))) ?_ | refine TL.st rfl (S_int rfl rfl rfl rfl (vbf (by omega))) ?_ | refine TL.st rfl (S_int rfl rfl rfl rfl rfl) ?_
              intro σ_ hσ_; simp only [nrm, tev, St.step, putO, setsV, addO, ↓reduceIte, Nat.reduceAdd, logT, atT, intern, internL, kp_ents, fz_ents, fz_bytes, kp_bytes, logR, logE, ← List.map_take, ← List.map_drop, List.take_length, beq_self_eq_true, eq_self, decide_true, Bool.and_self] at hσ_; subst hσ_
              first | refine TL.st rfl (S_int rfl rfl rfl rfl (vnt (by omega))) ?_ | refine TL.st rfl (S_int rfl rfl rfl rfl (vnf (by omega))) ?_ | refine TL.st rfl (S_int rfl rfl rfl rfl rfl) ?_ | refine TL.st rfl (S_boolneq rfl rfl rfl rfl (tT rfl) rfl) ?_
              intro σ_ hσ_; simp only [nrm, tev, St.step, putO, setsV, addO, ↓reduceIte, Nat.reduceAdd, logT, atT, intern, internL, kp_ents, fz_ents, fz_bytes, kp_bytes, logR, logE, ← List.map_take, ← List.map_drop, List.take_length, beq_self_eq_true, eq_self, decide_true, Bool.and_self] at hσ_; subst hσ_
              refine TL.st rfl (S_move rfl) ?_
              intro σ_ hσ_; simp only [nrm, tev, St.step, putO, setsV, addO, ↓reduceIte, Nat.reduceAdd, logT, atT, intern, internL, kp_ents, fz_ents, fz_bytes, kp_bytes, logR, logE, ← List.map_take, ← List.map_drop, List.take_length, beq_self_eq_true, eq_self, decide_true, Bool.and_self] at hσ_; subst hσ_
              first | refine TL.st_g rfl rfl rfl (Nat.le_of_ble_eq_true rfl) rfl (S_move rfl) ?_ | refine TL.sk_g rfl rfl rfl (Nat.le_of_ble_eq_true rfl) rfl rfl ?_
              intro σ_ hσ_; simp only [nrm, tev, St.step, putO, setsV, addO, ↓reduceIte, Nat.reduceAdd, logT, atT, intern, internL, kp_ents, fz_ents, fz_bytes, kp_bytes, logR, logE, ← List.map_take, ← List.map_drop, List.take_length, beq_self_eq_true, eq_self, decide_true, Bool.and_self] at hσ_; subst hσ_
              first | refine TL.st_g rfl rfl rfl (Nat.le_of_ble_eq_true rfl) rfl (S_move rfl) ?_ | refine TL.sk_g rfl rfl rfl (Nat.le_of_ble_eq_true rfl) rfl rfl ?_
              intro σ_ hσ_; simp only [nrm, tev, St.step, putO, setsV, addO, ↓reduceIte, Nat.reduceAdd, logT, atT, intern, internL, kp_ents, fz_ents, fz_bytes, kp_bytes, logR, logE, ← List.map_take, ← List.map_drop, List.take_length, beq_self_eq_true, eq_self, decide_true, Bool.and_self] at hσ_; subst hσ_
              first | refine TL.st_g rfl rfl rfl (Nat.le_of_ble_eq_true rfl) rfl (S_move rfl) ?_ | refine TL.sk_g rfl rfl rfl (Nat.le_of_ble_eq_true rfl) rfl rfl ?_
              intro σ_ hσ_; simp only [nrm, tev, St.step, putO, setsV, addO, ↓reduceIte, Nat.reduceAdd, logT, atT, intern, internL, kp_ents, fz_ents, fz_bytes, kp_bytes, logR, logE, ← List.map_take, ← List.map_drop, List.take_length, beq_self_eq_true, eq_self, decide_true, Bool.and_self] at hσ_; subst hσ_
              first | refine TL.st_g rfl rfl rfl (Nat.le_of_ble_eq_true rfl) rfl (S_move rfl) ?_ | refine TL.sk_g rfl rfl rfl (Nat.le_of_ble_eq_true rfl) rfl rfl ?_
              intro σ_ hσ_; simp only [nrm, tev, St.step, putO, setsV, addO, ↓reduceIte, Nat.reduceAdd, logT, atT, intern, internL, kp_ents, fz_ents, fz_bytes, kp_bytes, logR, logE, ← List.map_take, ← List.map_drop, List.take_length, beq_self_eq_true, eq_self, decide_true, Bool.and_self] at hσ_; subst hσ_
              first | refine TL.st_g rfl rfl rfl (Nat.le_of_ble_eq_true rfl) rfl (S_int rfl rfl rfl rfl (vnt (by omega))) ?_ | refine TL.st_g rfl rfl rfl (Nat.le_of_ble_eq_true rfl) rfl (S_int rfl rfl rfl rfl (vnf (by omega))) ?_ | refine TL.st_g rfl rfl rfl (Nat.le_of_ble_eq_true rfl) rfl (S_int rfl rfl rfl rfl rfl) ?_ | refine TL.st_g rfl rfl rfl (Nat.le_of_ble_eq_true rfl) rfl (S_boolneq rfl rfl rfl rfl (tT rfl) rfl) ?_ | refine TL.sk_g rfl rfl rfl (Nat.le_of_ble_eq_true rfl) rfl rfl ?_
              intro σ_ hσ_; simp only [nrm, tev, St.step, putO, setsV, addO, ↓reduceIte, Nat.reduceAdd, logT, atT, intern, internL, kp_ents, fz_ents, fz_bytes, kp_bytes, logR, logE, ← List.map_take, ← List.map_drop, List.take_length, beq_self_eq_true, eq_self, decide_true, Bool.and_self] at hσ_; subst hσ_
              first | refine TL.st_g rfl rfl rfl (Nat.le_of_ble_eq_true rfl) rfl (S_pick rfl rfl rfl) ?_ | refine TL.sk_g rfl rfl rfl (Nat.le_of_ble_eq_true rfl) rfl rfl ?_
              intro σ_ hσ_; simp only [nrm, tev, St.step, putO, setsV, addO, ↓reduceIte, Nat.reduceAdd, logT, atT, intern, internL, kp_ents, fz_ents, fz_bytes, kp_bytes, logR, logE, ← List.map_take, ← List.map_drop, List.take_length, beq_self_eq_true, eq_self, decide_true, Bool.and_self] at hσ_; subst hσ_
              refine TL.st rfl (S_pick rfl rfl rfl) ?_
              intro σ_ hσ_; simp only [nrm, tev, St.step, putO, setsV, addO, ↓reduceIte, Nat.reduceAdd, logT, atT, intern, internL, kp_ents, fz_ents, fz_bytes, kp_bytes, logR, logE, ← List.map_take, ← List.map_drop, List.take_length, beq_self_eq_true, eq_self, decide_true, Bool.and_self] at hσ_; subst hσ_
              refine TL.nil ?_
              try simp (decide := true) only [thenT, inBlockT, noGotoT, jumpT, ↓reduceIte, true_and]
              refine hK66_ _ ?_
              refine TW.cond_f rfl (rfl) ?_
              refine TW.skip ?_
              try simp (decide := true) only [thenT, inBlockT, noGotoT, jumpT, ↓reduceIte, true_and]
              refine hK60_ _ ?_
              refine TW.reg ?_
              first | refine TL.st rfl (S_int rfl rfl rfl rfl (vi64 (by omega))) ?_ | refine TL.st rfl (S_int rfl rfl rfl rfl (vu64 (by omega))) ?_ | refine TL.st rfl (S_int rfl rfl rfl rfl rfl) ?_
              intro σ_ hσ_; simp only [nrm, tev, St.step, putO, setsV, addO, ↓reduceIte, Nat.reduceAdd, logT, atT, intern, internL, kp_ents, fz_ents, fz_bytes, kp_bytes, logR, logE, ← List.map_take, ← List.map_drop, List.take_length, beq_self_eq_true, eq_self, decide_true, Bool.and_self] at hσ_; subst hσ_
              refine TL.st rfl (S_move rfl) ?_
              intro σ_ hσ_; simp only [nrm, tev, St.step, putO, setsV, addO, ↓reduceIte, Nat.reduceAdd, logT, atT, intern, internL, kp_ents, fz_ents, fz_bytes, kp_bytes, logR, logE, ← List.map_take, ← List.map_drop, List.take_length, beq_self_eq_true, eq_self, decide_true, Bool.and_self] at hσ_; subst hσ_
              refine TL.nil ?_
              try simp (decide := true) only [thenT, inBlockT, noGotoT, jumpT, ↓reduceIte, true_and]
              refine ⟨(m + 1), by omega, by omega, ?_⟩
              refine SLe.back 20 ?_ ?_ ?_
              · simp [setsL, kpL, kp, low, kpLL, LeL_cons, LeL_nil, LeT_any, LeT_self, LeT_v, LeT_sl, LeT_nil_sl, List.set_cons_zero, List.set_cons_succ, kp_ents]
              · simp [-List.map_take, -List.map_drop, setsL, LB.kp, kpLL, kpL, kp, low, LeB_self, LeB_nil, kp_ents]
              · simp [kpL, LeL_nil]
          · skip
            refine TW.reg ?_
            first | refine TL.st rfl (S_int rfl rfl rfl rfl (vbt (by omega))) ?_ | refine TL.st rfl (S_int rfl rfl rfl rfl (vbf (by omega))) ?_ | refine TL.st rfl (S_int rfl rfl rfl rfl rfl) ?_
            intro σ_ hσ_; simp only [nrm, tev, St.step, putO, setsV, addO, ↓reduceIte, Nat.reduceAdd, logT, atT, intern, internL, kp_ents, fz_ents, fz_bytes, kp_bytes, logR, logE, ← List.map_take, ← List.map_drop, List.take_length, beq_self_eq_true, eq_self, decide_true, Bool.and_self] at hσ_; subst hσ_
            refine TL.nil ?_
            try simp (decide := true) only [thenT, inBlockT, noGotoT, jumpT, ↓reduceIte, true_and]
            refine hK58_ _ ?_
            refine TW.seq_k ?_
            intro K67_ hK67_
            refine TW.cond_f rfl (rfl) ?_
            refine TW.exit ?_
            try simp (decide := true) only [thenT, inBlockT, noGotoT, jumpT, ↓reduceIte, true_and]
            refine hK56_ _ ?_
            refine TW.seq_k ?_
            intro K68_ hK68_
            refine TW.reg ?_
            refine TL.st rfl (S_assign rfl) ?_
            intro σ_ hσ_; simp only [nrm, tev, St.step, putO, setsV, addO, ↓reduceIte, Nat.reduceAdd, logT, atT, intern, internL, kp_ents, fz_ents, fz_bytes, kp_bytes, logR, logE, ← List.map_take, ← List.map_drop, List.take_length, beq_self_eq_true, eq_self, decide_true, Bool.and_self] at hσ_; subst hσ_
            refine TL.nil ?_
            try simp (decide := true) only [thenT, inBlockT, noGotoT, jumpT, ↓reduceIte, true_and]
            refine hK68_ _ ?_
            refine TW.ret ?_
            try simp (decide := true) only [thenT, inBlockT, noGotoT, jumpT, ↓reduceIte, true_and]
            refine ⟨.inr rfl, _, none, (ResT.one Try.results9 rfl), ?_, (by rintro _ ⟨⟩)⟩
            simp only [nrm, tev, Out_v, Out_agg, Out_tup, OutL_nil, OutL_cons, Out_sl, Out_row_osl, Out_nil_osl, Out_nil_sl, Out_nil_nil, and_true, true_and, logT, atT, logR, logE, fr_ents, hf, List.getD_cons_zero, List.getD_cons_succ]
            done
      · skip
        have hComp : TV.tup [logE (compE x.i x.t es y) (spotN x.i x.t es (ofN x.i y es.length).toNat).1 (spotN x.i x.t es (ofN x.i y es.length).toNat).2 (es.drop (ofN x.i y es.length).toNat), .v (.int .i64 (compE x.i x.t es y))] = .tup [logR 0 0 [], .v (.int .i64 4)] := by rw [hpE, logE, if_neg (by omega)]
        refine TW.reg ?_
        first | refine TL.st rfl (S_load rfl rfl rfl (tT rfl) rfl) ?_ | refine TL.st rfl (S_load_eptr rfl rfl (tT rfl) rfl) ?_ | refine TL.st rfl (S_load_row rfl rfl rfl rfl (by assumption) (tT rfl) rfl) ?_ | refine TL.st rfl (S_load_row (j := 0) rfl rfl rfl rfl (by assumption) (tT rfl) rfl) ?_
        intro σ_ hσ_; simp only [nrm, tev, St.step, putO, setsV, addO, ↓reduceIte, Nat.reduceAdd, logT, atT, intern, internL, kp_ents, fz_ents, fz_bytes, kp_bytes, logR, logE, ← List.map_take, ← List.map_drop, List.take_length, beq_self_eq_true, eq_self, decide_true, Bool.and_self] at hσ_; subst hσ_
        refine TL.st rfl (S_move rfl) ?_
        intro σ_ hσ_; simp only [nrm, tev, St.step, putO, setsV, addO, ↓reduceIte, Nat.reduceAdd, logT, atT, intern, internL, kp_ents, fz_ents, fz_bytes, kp_bytes, logR, logE, ← List.map_take, ← List.map_drop, List.take_length, beq_self_eq_true, eq_self, decide_true, Bool.and_self] at hσ_; subst hσ_
        first | refine TL.st rfl (S_call_row rfl rfl rfl (by kernel_rfl) rfl ((comp_T _ _ x.i x.t es xf hi0 hi1 _ hy0 hy1).eq rfl hComp) rfl) ?_ | refine TL.st rfl (S_call rfl rfl rfl (by kernel_rfl) rfl ((comp_T _ _ x.i x.t es xf hi0 hi1 _ hy0 hy1).eq rfl hComp)) ?_
        intro σ_ hσ_; simp only [nrm, tev, St.step, putO, setsV, addO, ↓reduceIte, Nat.reduceAdd, logT, atT, intern, internL, kp_ents, fz_ents, fz_bytes, kp_bytes, logR, logE, ← List.map_take, ← List.map_drop, List.take_length, beq_self_eq_true, eq_self, decide_true, Bool.and_self] at hσ_; subst hσ_
        refine TL.st rfl (S_move rfl) ?_
        intro σ_ hσ_; simp only [nrm, tev, St.step, putO, setsV, addO, ↓reduceIte, Nat.reduceAdd, logT, atT, intern, internL, kp_ents, fz_ents, fz_bytes, kp_bytes, logR, logE, ← List.map_take, ← List.map_drop, List.take_length, beq_self_eq_true, eq_self, decide_true, Bool.and_self] at hσ_; subst hσ_
        refine TL.st rfl (S_extract rfl rfl rfl) ?_
        intro σ_ hσ_; simp only [nrm, tev, St.step, putO, setsV, addO, ↓reduceIte, Nat.reduceAdd, logT, atT, intern, internL, kp_ents, fz_ents, fz_bytes, kp_bytes, logR, logE, ← List.map_take, ← List.map_drop, List.take_length, beq_self_eq_true, eq_self, decide_true, Bool.and_self] at hσ_; subst hσ_
        refine TL.st rfl (S_extract rfl rfl rfl) ?_
        intro σ_ hσ_; simp only [nrm, tev, St.step, putO, setsV, addO, ↓reduceIte, Nat.reduceAdd, logT, atT, intern, internL, kp_ents, fz_ents, fz_bytes, kp_bytes, logR, logE, ← List.map_take, ← List.map_drop, List.take_length, beq_self_eq_true, eq_self, decide_true, Bool.and_self] at hσ_; subst hσ_
        refine TL.st rfl (S_alloc rfl (zT rfl) rfl) ?_
        intro σ_ hσ_; simp only [nrm, tev, St.step, putO, setsV, addO, ↓reduceIte, Nat.reduceAdd, logT, atT, intern, internL, kp_ents, fz_ents, fz_bytes, kp_bytes, logR, logE, ← List.map_take, ← List.map_drop, List.take_length, beq_self_eq_true, eq_self, decide_true, Bool.and_self] at hσ_; subst hσ_
        first | refine TL.sto rfl rfl rfl rfl (tT rfl) rfl rfl rfl (Nat.le_of_ble_eq_true rfl) ?_ | refine TL.sto_row rfl rfl rfl rfl rfl (by assumption) (tT rfl) rfl rfl rfl (Nat.le_of_ble_eq_true rfl) ?_ | refine TL.sto_row (j := 0) rfl rfl rfl rfl rfl (by assumption) (tT rfl) rfl rfl rfl (Nat.le_of_ble_eq_true rfl) ?_
        intro σ_ hσ_; simp only [nrm, tev, St.step, putO, setsV, addO, ↓reduceIte, Nat.reduceAdd, logT, atT, intern, internL, kp_ents, fz_ents, fz_bytes, kp_bytes, logR, logE, ← List.map_take, ← List.map_drop, List.take_length, beq_self_eq_true, eq_self, decide_true, Bool.and_self] at hσ_; subst hσ_
        refine TL.st rfl (S_assign rfl) ?_
        intro σ_ hσ_; simp only [nrm, tev, St.step, putO, setsV, addO, ↓reduceIte, Nat.reduceAdd, logT, atT, intern, internL, kp_ents, fz_ents, fz_bytes, kp_bytes, logR, logE, ← List.map_take, ← List.map_drop, List.take_length, beq_self_eq_true, eq_self, decide_true, Bool.and_self] at hσ_; subst hσ_
        refine TL.nil ?_
        try simp (decide := true) only [thenT, inBlockT, noGotoT, jumpT, ↓reduceIte, true_and]
        refine hK48_ _ ?_
        refine TW.seq_k ?_
        intro K69_ hK69_
        refine TW.reg ?_
        first | refine TL.st rfl (S_load rfl rfl rfl (tT rfl) rfl) ?_ | refine TL.st rfl (S_load_eptr rfl rfl (tT rfl) rfl) ?_ | refine TL.st rfl (S_load_row rfl rfl rfl rfl (by assumption) (tT rfl) rfl) ?_ | refine TL.st rfl (S_load_row (j := 0) rfl rfl rfl rfl (by assumption) (tT rfl) rfl) ?_
        intro σ_ hσ_; simp only [nrm, tev, St.step, putO, setsV, addO, ↓reduceIte, Nat.reduceAdd, logT, atT, intern, internL, kp_ents, fz_ents, fz_bytes, kp_bytes, logR, logE, ← List.map_take, ← List.map_drop, List.take_length, beq_self_eq_true, eq_self, decide_true, Bool.and_self] at hσ_; subst hσ_
        refine TL.st rfl (S_move rfl) ?_
        intro σ_ hσ_; simp only [nrm, tev, St.step, putO, setsV, addO, ↓reduceIte, Nat.reduceAdd, logT, atT, intern, internL, kp_ents, fz_ents, fz_bytes, kp_bytes, logR, logE, ← List.map_take, ← List.map_drop, List.take_length, beq_self_eq_true, eq_self, decide_true, Bool.and_self] at hσ_; subst hσ_
        first | refine TL.st rfl (S_call_row rfl rfl rfl (by kernel_rfl) rfl ((term_T _ _ x.i x.t es xf.w xf.n9 hi0 hi1 _).eq rfl (by rw [hpT])) rfl) ?_ | refine TL.st rfl (S_call rfl rfl rfl (by kernel_rfl) rfl ((term_T _ _ x.i x.t es xf.w xf.n9 hi0 hi1 _).eq rfl (by rw [hpT]))) ?_ | refine TL.st rfl (S_call_row rfl rfl rfl (by kernel_rfl) rfl ((term_T _ _ x.i x.t es xf.w xf.n9 hi0 hi1 (x.i + m)).eq rfl (by rw [hm1])) rfl) ?_ | refine TL.st rfl (S_call rfl rfl rfl (by kernel_rfl) rfl ((term_T _ _ x.i x.t es xf.w xf.n9 hi0 hi1 (x.i + m)).eq rfl (by rw [hm1]))) ?_ | refine TL.st rfl (S_call_row rfl rfl rfl (by kernel_rfl) rfl ((term_T _ _ (x.i + j) (tm x.t es j) (es.drop j) okZ.w okZ.n9 hj0 hj1 (x.i + m)).eq rfl (by rw [hm2])) rfl) ?_ | refine TL.st rfl (S_call rfl rfl rfl (by kernel_rfl) rfl ((term_T _ _ (x.i + j) (tm x.t es j) (es.drop j) okZ.w okZ.n9 hj0 hj1 (x.i + m)).eq rfl (by rw [hm2]))) ?_
        intro σ_ hσ_; simp only [nrm, tev, St.step, putO, setsV, addO, ↓reduceIte, Nat.reduceAdd, logT, atT, intern, internL, kp_ents, fz_ents, fz_bytes, kp_bytes, logR, logE, ← List.map_take, ← List.map_drop, List.take_length, beq_self_eq_true, eq_self, decide_true, Bool.and_self] at hσ_; subst hσ_
        refine TL.st rfl (S_move rfl) ?_
        intro σ_ hσ_; simp only [nrm, tev, St.step, putO, setsV, addO, ↓reduceIte, Nat.reduceAdd, logT, atT, intern, internL, kp_ents, fz_ents, fz_bytes, kp_bytes, logR, logE, ← List.map_take, ← List.map_drop, List.take_length, beq_self_eq_true, eq_self, decide_true, Bool.and_self] at hσ_; subst hσ_
        refine TL.st rfl (S_extract rfl rfl rfl) ?_
        intro σ_ hσ_; simp only [nrm, tev, St.step, putO, setsV, addO, ↓reduceIte, Nat.reduceAdd, logT, atT, intern, internL, kp_ents, fz_ents, fz_bytes, kp_bytes, logR, logE, ← List.map_take, ← List.map_drop, List.take_length, beq_self_eq_true, eq_self, decide_true, Bool.and_self] at hσ_; subst hσ_
        refine TL.st rfl (S_extract rfl rfl rfl) ?_
        intro σ_ hσ_; simp only [nrm, tev, St.step, putO, setsV, addO, ↓reduceIte, Nat.reduceAdd, logT, atT, intern, internL, kp_ents, fz_ents, fz_bytes, kp_bytes, logR, logE, ← List.map_take, ← List.map_drop, List.take_length, beq_self_eq_true, eq_self, decide_true, Bool.and_self] at hσ_; subst hσ_
        refine TL.st rfl (S_assign rfl) ?_
        intro σ_ hσ_; simp only [nrm, tev, St.step, putO, setsV, addO, ↓reduceIte, Nat.reduceAdd, logT, atT, intern, internL, kp_ents, fz_ents, fz_bytes, kp_bytes, logR, logE, ← List.map_take, ← List.map_drop, List.take_length, beq_self_eq_true, eq_self, decide_true, Bool.and_self] at hσ_; subst hσ_
        refine TL.st rfl (S_assign rfl) ?_
        intro σ_ hσ_; simp only [nrm, tev, St.step, putO, setsV, addO, ↓reduceIte, Nat.reduceAdd, logT, atT, intern, internL, kp_ents, fz_ents, fz_bytes, kp_bytes, logR, logE, ← List.map_take, ← List.map_drop, List.take_length, beq_self_eq_true, eq_self, decide_true, Bool.and_self] at hσ_; subst hσ_
        refine TL.nil ?_
        try simp (decide := true) only [thenT, inBlockT, noGotoT, jumpT, ↓reduceIte, true_and]
        refine hK69_ _ ?_
        refine TW.seq_k ?_
        intro K70_ hK70_
        refine TW.seq_k ?_
        intro K71_ hK71_
        refine TW.reg ?_
        refine TL.st rfl (S_move rfl) ?_
        intro σ_ hσ_; simp only [nrm, tev, St.step, putO, setsV, addO, ↓reduceIte, Nat.reduceAdd, logT, atT, intern, internL, kp_ents, fz_ents, fz_bytes, kp_bytes, logR, logE, ← List.map_take, ← List.map_drop, List.take_length, beq_self_eq_true, eq_self, decide_true, Bool.and_self] at hσ_; subst hσ_
        refine TL.st rfl (S_move rfl) ?_
        intro σ_ hσ_; simp only [nrm, tev, St.step, putO, setsV, addO, ↓reduceIte, Nat.reduceAdd, logT, atT, intern, internL, kp_ents, fz_ents, fz_bytes, kp_bytes, logR, logE, ← List.map_take, ← List.map_drop, List.take_length, beq_self_eq_true, eq_self, decide_true, Bool.and_self] at hσ_; subst hσ_
        first | refine TL.st rfl (S_int rfl rfl rfl rfl (vbt (by omega))) ?_ | refine TL.st rfl (S_int rfl rfl rfl rfl (vbf (by omega))) ?_ | refine TL.st rfl (S_int rfl rfl rfl rfl rfl) ?_ | refine TL.st rfl (S_boolop rfl rfl rfl rfl (tT rfl) rfl) ?_
        intro σ_ hσ_; simp only [nrm, tev, St.step, putO, setsV, addO, ↓reduceIte, Nat.reduceAdd, logT, atT, intern, internL, kp_ents, fz_ents, fz_bytes, kp_bytes, logR, logE, ← List.map_take, ← List.map_drop, List.take_length, beq_self_eq_true, eq_self, decide_true, Bool.and_self] at hσ_; subst hσ_
        first | refine TL.st rfl (S_int rfl rfl rfl rfl (vnt (by omega))) ?_ | refine TL.st rfl (S_int rfl rfl rfl rfl (vnf (by omega))) ?_ | refine TL.st rfl (S_int rfl rfl rfl rfl rfl) ?_ | refine TL.st rfl (S_boolneq rfl rfl rfl rfl (tT rfl) rfl) ?_
        intro σ_ hσ_; simp only [nrm, tev, St.step, putO, setsV, addO, ↓reduceIte, Nat.reduceAdd, logT, atT, intern, internL, kp_ents, fz_ents, fz_bytes, kp_bytes, logR, logE, ← List.map_take, ← List.map_drop, List.take_length, beq_self_eq_true, eq_self, decide_true, Bool.and_self] at hσ_; subst hσ_
        refine TL.nil ?_
        try simp (decide := true) only [thenT, inBlockT, noGotoT, jumpT, ↓reduceIte, true_and]
        refine hK71_ _ ?_
        refine TW.cond_f rfl (rfl) ?_
        refine TW.skip ?_
        try simp (decide := true) only [thenT, inBlockT, noGotoT, jumpT, ↓reduceIte, true_and]
        refine hK70_ _ ?_
        refine TW.seq_k ?_
        intro K72_ hK72_
        refine TW.seq_k ?_
        intro K73_ hK73_
        refine TW.reg ?_
        refine TL.st rfl (S_move rfl) ?_
        intro σ_ hσ_; simp only [nrm, tev, St.step, putO, setsV, addO, ↓reduceIte, Nat.reduceAdd, logT, atT, intern, internL, kp_ents, fz_ents, fz_bytes, kp_bytes, logR, logE, ← List.map_take, ← List.map_drop, List.take_length, beq_self_eq_true, eq_self, decide_true, Bool.and_self] at hσ_; subst hσ_
        first | refine TL.st rfl (S_not rfl rfl) ?_ | refine TL.st rfl (S_neg rfl rfl) ?_
        intro σ_ hσ_; simp only [nrm, tev, St.step, putO, setsV, addO, ↓reduceIte, Nat.reduceAdd, logT, atT, intern, internL, kp_ents, fz_ents, fz_bytes, kp_bytes, logR, logE, ← List.map_take, ← List.map_drop, List.take_length, beq_self_eq_true, eq_self, decide_true, Bool.and_self] at hσ_; subst hσ_
        refine TL.nil ?_
        try simp (decide := true) only [thenT, inBlockT, noGotoT, jumpT, ↓reduceIte, true_and]
        refine hK73_ _ ?_
        refine TW.cond_t rfl (rfl) ?_
        refine TW.seq_k ?_
        intro K74_ hK74_
        refine TW.reg ?_
        first | refine TL.st rfl (S_fieldAddr rfl rfl (tT rfl) rfl rfl (tT rfl) (by decide)) ?_ | refine TL.st rfl (S_fieldAddr_eptr rfl rfl (tT rfl) rfl rfl (tT rfl) (by decide)) ?_
        intro σ_ hσ_; simp only [nrm, tev, St.step, putO, setsV, addO, ↓reduceIte, Nat.reduceAdd, logT, atT, intern, internL, kp_ents, fz_ents, fz_bytes, kp_bytes, logR, logE, ← List.map_take, ← List.map_drop, List.take_length, beq_self_eq_true, eq_self, decide_true, Bool.and_self] at hσ_; subst hσ_
        first | refine TL.st rfl (S_load rfl rfl rfl (tT rfl) rfl) ?_ | refine TL.st rfl (S_load_eptr rfl rfl (tT rfl) rfl) ?_ | refine TL.st rfl (S_load_row rfl rfl rfl rfl (by assumption) (tT rfl) rfl) ?_ | refine TL.st rfl (S_load_row (j := 0) rfl rfl rfl rfl (by assumption) (tT rfl) rfl) ?_
        intro σ_ hσ_; simp only [nrm, tev, St.step, putO, setsV, addO, ↓reduceIte, Nat.reduceAdd, logT, atT, intern, internL, kp_ents, fz_ents, fz_bytes, kp_bytes, logR, logE, ← List.map_take, ← List.map_drop, List.take_length, beq_self_eq_true, eq_self, decide_true, Bool.and_self] at hσ_; subst hσ_
        first | refine TL.st rfl (S_len rfl rfl (tT rfl) rfl (.inl ⟨_, _, rfl, rfl⟩)) ?_ | refine TL.st rfl (S_len rfl rfl (tT rfl) rfl (.inr (.inl ⟨_, _, _, _, rfl, rfl, rfl⟩))) ?_ | refine TL.st rfl (S_len rfl rfl (tT rfl) rfl (.inr (.inr ⟨rfl, rfl⟩))) ?_ | refine TL.st rfl (S_len_str rfl rfl (tT rfl) rfl rfl) ?_ | refine TL.st rfl (S_len_arr rfl rfl (tT rfl) rfl) ?_
        intro σ_ hσ_; simp only [nrm, tev, St.step, putO, setsV, addO, ↓reduceIte, Nat.reduceAdd, logT, atT, intern, internL, kp_ents, fz_ents, fz_bytes, kp_bytes, logR, logE, ← List.map_take, ← List.map_drop, List.take_length, beq_self_eq_true, eq_self, decide_true, Bool.and_self] at hσ_; subst hσ_
        first | refine TL.st rfl (S_int rfl rfl rfl rfl (vbt (by omega))) ?_ | refine TL.st rfl (S_int rfl rfl rfl rfl (vbf (by omega))) ?_ | refine TL.st rfl (S_int rfl rfl rfl rfl rfl) ?_ | refine TL.st rfl (S_boolop rfl rfl rfl rfl (tT rfl) rfl) ?_
        intro σ_ hσ_; simp only [nrm, tev, St.step, putO, setsV, addO, ↓reduceIte, Nat.reduceAdd, logT, atT, intern, internL, kp_ents, fz_ents, fz_bytes, kp_bytes, logR, logE, ← List.map_take, ← List.map_drop, List.take_length, beq_self_eq_true, eq_self, decide_true, Bool.and_self] at hσ_; subst hσ_
        refine TL.st rfl (S_assign rfl) ?_
        intro σ_ hσ_; simp only [nrm, tev, St.step, putO, setsV, addO, ↓reduceIte, Nat.reduceAdd, logT, atT, intern, internL, kp_ents, fz_ents, fz_bytes, kp_bytes, logR, logE, ← List.map_take, ← List.map_drop, List.take_length, beq_self_eq_true, eq_self, decide_true, Bool.and_self] at hσ_; subst hσ_
        refine TL.nil ?_
        try simp (decide := true) only [thenT, inBlockT, noGotoT, jumpT, ↓reduceIte, true_and]
        refine hK74_ _ ?_
        refine TW.ret ?_
        try simp (decide := true) only [thenT, inBlockT, noGotoT, jumpT, ↓reduceIte, true_and]
        refine ⟨.inr rfl, _, none, (ResT.one Try.results9 rfl), ?_, (by rintro _ ⟨⟩)⟩
        simp only [nrm, tev, Out_v, Out_agg, Out_tup, OutL_nil, OutL_cons, Out_sl, Out_row_osl, Out_nil_osl, Out_nil_sl, Out_nil_nil, and_true, true_and, logT, atT, logR, logE, fr_ents, hf, List.getD_cons_zero, List.getD_cons_succ]
        done

end Go.Proofs.Ytpckkajodpiiaaa
