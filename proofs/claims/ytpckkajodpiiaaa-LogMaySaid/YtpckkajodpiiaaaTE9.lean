/- Rows of logs: which may be, and are the same. No condition. -/
import Derived.Test.YtpckkajodpiiaaaTE8
import Derived.Test.YtpckkajodpiiaaaT15
namespace Go.Proofs.Ytpckkajodpiiaaa
open Go.RowKit
set_option linter.unusedVariables false
set_option linter.unusedSimpArgs false

/-- A log: its base, its entries. -/
structure LogA where
  i : Int
  t : Int
  es : List Ent
def logC (b : Bool) (L : LogA) : List TV := [.v (.int .u64 L.i), .v (.int .u64 L.t), .sl b (L.es.map (entC b))]
structure LogA.Ok (L : LogA) : Prop where
  i0 : 0 ≤ L.i
  i1 : L.i < 18446744073709551616
  t0 : 0 ≤ L.t
  t1 : L.t < 18446744073709551616
  w : wfE L.es
  n : L.es.length ≤ 9223372036854775807
theorem untag_logs (b : Bool) : ∀ l : List LogA, untagLL (l.map (logC b)) = l.map (logC false)
  | [] => rfl
  | x :: l => by simp only [List.map_cons, untagLL, untag_logs b l]; simp [logC, untagL, untag, untag_ents]
theorem pu_logs (b : Bool) (l : List LogA) : PuLL (l.map (logC b)) := PuLL_map _ _ fun x _ => by simp [logC, PuL, Pu, pu_ents]
theorem kp_logs (p : Nat → Bool) (b : Bool) : ∀ l : List LogA, kpLL p (l.map (logC b)) = l.map (logC b)
  | [] => rfl
  | x :: l => by simp only [List.map_cons, kpLL, kp_logs p b l]; simp [logC, kpL, kp, kp_ents]
theorem logs_len (b : Bool) (l : List LogA) : ∀ c ∈ l.map (logC b), c.length = 3 := fun c hc => by obtain ⟨e, _, rfl⟩ := List.mem_map.1 hc; rfl
theorem few_ok {es : List Ent} (h : wfE es) : okE (fewL es) := ⟨fun e he => by
    obtain ⟨x, hx, rfl⟩ := List.mem_map.1 he
    exact h x (List.mem_of_mem_take hx), by simp [fewL]; omega, fun e he => by
    obtain ⟨x, hx, rfl⟩ := List.mem_map.1 he
    simp [cutE]; omega⟩
theorem few_few (es : List Ent) : fewL (fewL es) = fewL es := by
  have h1 : (fewL es).length ≤ 32 := by simp [fewL]; omega
  unfold fewL at h1 ⊢
  rw [List.take_of_length_le h1, List.map_map]
  refine List.map_congr_left fun e _ => ?_
  simp [cutE, List.take_take]
theorem sameL_self (i t : Int) (es : List Ent) : sameL i t es i t es = true := by simp [sameL, sameE_iff.2]

set_option maxRecDepth 20000 in
set_option maxHeartbeats 1000000 in
theorem logMay_T (b : Bool) (ls : List LogA) (top : Int) (hls : ∀ L ∈ ls, L.Ok) (hn : ls.length ≤ 9223372036854775807) :
    TMeets Try.prog 5 [.sl b (ls.map (logC b)), .v (.int .u64 top)] (.v (.bool true)) := by
  refine TMeets.of_TW Try.func5 rfl (by simp [PuL, Pu, logT, atT, pu_ents, entC, pu_bytes, pu_logs]) ?_
  intro B w0
  rw [Try.ntmps5]
  simp only [untagL, untag, List.length_cons, List.length_nil, List.replicate_succ, List.replicate_zero, Nat.reduceAdd, Nat.reduceSub, List.cons_append, List.nil_append, logT, atT, untag_ents, untag_bytes, entC, untag_logs]
  refine TW.seq_k ?_
  intro K1_ hK1_
  refine TW.reg ?_
  refine TL.st rfl (S_assign rfl) ?_
  intro σ_ hσ_; simp only [nrm, tev, St.step, putO, setsV, addO, ↓reduceIte, Nat.reduceAdd, logT, atT, intern, internL, kp_ents, fz_ents, fz_bytes, kp_bytes, kp_ats, fz_ats, kp_logs, logR, logE, ← List.map_take, ← List.map_drop, List.take_length, spots_len, beq_self_eq_true] at hσ_; subst hσ_
  refine TL.nil ?_
  try simp (decide := true) only [thenT, inBlockT, noGotoT, jumpT, ↓reduceIte, true_and]
  refine hK1_ _ ?_
  refine TW.seq_k ?_
  intro K2_ hK2_
  refine TW.seq_k ?_
  intro K3_ hK3_
  refine TW.reg ?_
  first | refine TL.st rfl (S_call_row rfl rfl rfl (by kernel_rfl) rfl (wakes_T) rfl) ?_ | refine TL.st rfl (S_call rfl rfl rfl (by kernel_rfl) rfl (wakes_T)) ?_
  intro σ_ hσ_; simp only [nrm, tev, St.step, putO, setsV, addO, ↓reduceIte, Nat.reduceAdd, logT, atT, intern, internL, kp_ents, fz_ents, fz_bytes, kp_bytes, kp_ats, fz_ats, kp_logs, logR, logE, ← List.map_take, ← List.map_drop, List.take_length, spots_len, beq_self_eq_true] at hσ_; subst hσ_
  first | refine TL.st rfl (S_not rfl rfl) ?_ | refine TL.st rfl (S_neg rfl rfl) ?_
  intro σ_ hσ_; simp only [nrm, tev, St.step, putO, setsV, addO, ↓reduceIte, Nat.reduceAdd, logT, atT, intern, internL, kp_ents, fz_ents, fz_bytes, kp_bytes, kp_ats, fz_ats, kp_logs, logR, logE, ← List.map_take, ← List.map_drop, List.take_length, spots_len, beq_self_eq_true] at hσ_; subst hσ_
  refine TL.nil ?_
  try simp (decide := true) only [thenT, inBlockT, noGotoT, jumpT, ↓reduceIte, true_and]
  refine hK3_ _ ?_
  refine TW.cond_f rfl (rfl) ?_
  refine TW.skip ?_
  try simp (decide := true) only [thenT, inBlockT, noGotoT, jumpT, ↓reduceIte, true_and]
  refine hK2_ _ ?_
  refine TW.seq_k ?_
  intro K4_ hK4_
  refine TW.seq_k ?_
  intro K5_ hK5_
  refine TW.reg ?_
  refine TL.st rfl (S_move rfl) ?_
  intro σ_ hσ_; simp only [nrm, tev, St.step, putO, setsV, addO, ↓reduceIte, Nat.reduceAdd, logT, atT, intern, internL, kp_ents, fz_ents, fz_bytes, kp_bytes, kp_ats, fz_ats, kp_logs, logR, logE, ← List.map_take, ← List.map_drop, List.take_length, spots_len, beq_self_eq_true] at hσ_; subst hσ_
  first | refine TL.st rfl (S_len rfl rfl (tT rfl) rfl (.inl ⟨_, _, rfl, rfl⟩)) ?_ | refine TL.st rfl (S_len rfl rfl (tT rfl) rfl (.inr (.inl ⟨_, _, _, _, rfl, rfl, rfl⟩))) ?_ | refine TL.st rfl (S_len rfl rfl (tT rfl) rfl (.inr (.inr ⟨rfl, rfl⟩))) ?_ | refine TL.st rfl (S_len_str rfl rfl (tT rfl) rfl rfl) ?_ | refine TL.st rfl (S_len_arr rfl rfl (tT rfl) rfl) ?_
  intro σ_ hσ_; simp only [nrm, tev, St.step, putO, setsV, addO, ↓reduceIte, Nat.reduceAdd, logT, atT, intern, internL, kp_ents, fz_ents, fz_bytes, kp_bytes, kp_ats, fz_ats, kp_logs, logR, logE, ← List.map_take, ← List.map_drop, List.take_length, spots_len, beq_self_eq_true] at hσ_; subst hσ_
  refine TL.st rfl (S_move rfl) ?_
  intro σ_ hσ_; simp only [nrm, tev, St.step, putO, setsV, addO, ↓reduceIte, Nat.reduceAdd, logT, atT, intern, internL, kp_ents, fz_ents, fz_bytes, kp_bytes, kp_ats, fz_ats, kp_logs, logR, logE, ← List.map_take, ← List.map_drop, List.take_length, spots_len, beq_self_eq_true] at hσ_; subst hσ_
  refine TL.nil ?_
  try simp (decide := true) only [thenT, inBlockT, noGotoT, jumpT, ↓reduceIte, true_and]
  refine hK5_ _ ?_
  refine TW.block ?_
  refine TW.loopS (X := Nat) (fun k => k ≤ ls.length) (fun k => ls.length - k) (fun k => [(4, .any), (5, .any), (6, .any), (7, .any), (8, .any), (9, .any), (14, .v (.int .i64 k)), (15, .any), (16, .any), (17, .any), (18, .any), (19, .any), (20, .any), (21, .any), (22, .any), (23, .any), (24, .any), (25, .any), (26, .any), (27, .any), (28, .any), (29, .any), (30, .any), (31, .any), (32, .any), (33, .any), (34, .any), (35, .any), (36, .any), (37, .any), (38, .any), (39, .any), (40, .any), (41, .any), (42, .any), (43, .any), (44, .any), (45, .any), (46, .any), (47, .any), (48, .any), (49, .any), (50, .any), (51, .any), (52, .any), (53, .any), (54, .any), (55, .any), (56, .any), (57, .any), (58, .any)]) (fun k => []) 0 (Nat.zero_le _) ?_ ?_
  · refine SLe.of ?_ ?_ ?_
    · simp [setsL, LeL_cons, LeL_nil, LeT_any, LeT_self, LeT_v, LeT_sl, LeT_nil_sl, List.set_cons_zero, List.set_cons_succ, kp_logs]
    · exact LeB.refl _
    · exact LeL.refl _
  · rintro k hk σ_ hσ_
    simp only [nrm, tev, St.step, putO, setsV, addO, ↓reduceIte, Nat.reduceAdd, logT, atT, intern, internL, kp_ents, fz_ents, fz_bytes, kp_bytes, kp_ats, fz_ats, kp_logs, logR, logE, ← List.map_take, ← List.map_drop, List.take_length, spots_len, beq_self_eq_true, setsL_nil, setsL_cons] at hσ_; subst hσ_
    refine TW.seq_k ?_
    intro K6_ hK6_
    by_cases hlt : k < ls.length
    · skip
      obtain ⟨x, hx⟩ : ∃ x, ls[k]? = some x := ⟨ls[k]'hlt, List.getElem?_eq_getElem _⟩
      obtain ⟨z, hz⟩ : ∃ z, ls[0]? = some z := ⟨ls[0]'(by omega), List.getElem?_eq_getElem _⟩
      have hc : (ls.map (logC false))[k]? = some (logC false x) := by rw [List.getElem?_map, hx]; rfl
      have hc0 : (ls.map (logC false))[0]? = some (logC false z) := by rw [List.getElem?_map, hz]; rfl
      simp only [logC] at hc hc0
      have xok := hls x (List.mem_of_getElem? hx)
      have zok := hls z (List.mem_of_getElem? hz)
      have xf := few_ok xok.w
      have zf := few_ok zok.w
      have hll := logs_len false ls
      refine TW.reg ?_
      first | refine TL.st rfl (S_int rfl rfl rfl rfl (vbt (by omega))) ?_ | refine TL.st rfl (S_int rfl rfl rfl rfl (vbf (by omega))) ?_ | refine TL.st rfl (S_int rfl rfl rfl rfl rfl) ?_
      intro σ_ hσ_; simp only [nrm, tev, St.step, putO, setsV, addO, ↓reduceIte, Nat.reduceAdd, logT, atT, intern, internL, kp_ents, fz_ents, fz_bytes, kp_bytes, kp_ats, fz_ats, kp_logs, logR, logE, ← List.map_take, ← List.map_drop, List.take_length, spots_len, beq_self_eq_true] at hσ_; subst hσ_
      refine TL.nil ?_
      try simp (decide := true) only [thenT, inBlockT, noGotoT, jumpT, ↓reduceIte, true_and]
      refine hK6_ _ ?_
      refine TW.seq_k ?_
      intro K7_ hK7_
      refine TW.cond_t rfl (rfl) ?_
      refine TW.skip ?_
      try simp (decide := true) only [thenT, inBlockT, noGotoT, jumpT, ↓reduceIte, true_and]
      refine hK7_ _ ?_
      refine TW.seq_k ?_
      intro K8_ hK8_
      refine TW.block ?_
      refine TW.seq_k ?_
      intro K9_ hK9_
      refine TW.reg ?_
      refine TL.st rfl (S_move rfl) ?_
      intro σ_ hσ_; simp only [nrm, tev, St.step, putO, setsV, addO, ↓reduceIte, Nat.reduceAdd, logT, atT, intern, internL, kp_ents, fz_ents, fz_bytes, kp_bytes, kp_ats, fz_ats, kp_logs, logR, logE, ← List.map_take, ← List.map_drop, List.take_length, spots_len, beq_self_eq_true] at hσ_; subst hσ_
      first | refine TL.st rfl (S_index_sl rfl rfl rfl (tT rfl) rfl (tT rfl) (by assumption) rfl rfl (by decide)) ?_ | refine TL.st rfl (S_index_sl rfl rfl rfl (tT rfl) rfl (tT rfl) (by assumption) (by first | rfl | omega) rfl (by decide)) ?_ | refine TL.st rfl (S_index_row rfl rfl rfl rfl (tT rfl) rfl (tT rfl) rfl rfl (by first | assumption | omega)) ?_ | refine TL.st rfl (S_index_arr rfl rfl rfl (tT rfl) rfl (tT rfl) rfl (by first | assumption | decide | omega)) ?_
      intro σ_ hσ_; simp only [nrm, tev, St.step, putO, setsV, addO, ↓reduceIte, Nat.reduceAdd, logT, atT, intern, internL, kp_ents, fz_ents, fz_bytes, kp_bytes, kp_ats, fz_ats, kp_logs, logR, logE, ← List.map_take, ← List.map_drop, List.take_length, spots_len, beq_self_eq_true] at hσ_; subst hσ_
      first | refine TL.st rfl (S_load rfl rfl rfl (tT rfl) rfl) ?_ | refine TL.st rfl (S_load_eptr rfl rfl (tT rfl) rfl) ?_ | refine TL.st rfl (S_load_row rfl rfl rfl rfl (by assumption) (tT rfl) rfl) ?_ | refine TL.st rfl (S_load_row (j := 0) rfl rfl rfl rfl (by assumption) (tT rfl) rfl) ?_
      intro σ_ hσ_; simp only [nrm, tev, St.step, putO, setsV, addO, ↓reduceIte, Nat.reduceAdd, logT, atT, intern, internL, kp_ents, fz_ents, fz_bytes, kp_bytes, kp_ats, fz_ats, kp_logs, logR, logE, ← List.map_take, ← List.map_drop, List.take_length, spots_len, beq_self_eq_true] at hσ_; subst hσ_
      refine TL.st rfl (S_alloc rfl (zT rfl) rfl) ?_
      intro σ_ hσ_; simp only [nrm, tev, St.step, putO, setsV, addO, ↓reduceIte, Nat.reduceAdd, logT, atT, intern, internL, kp_ents, fz_ents, fz_bytes, kp_bytes, kp_ats, fz_ats, kp_logs, logR, logE, ← List.map_take, ← List.map_drop, List.take_length, spots_len, beq_self_eq_true] at hσ_; subst hσ_
      refine TL.st rfl (S_assign rfl) ?_
      intro σ_ hσ_; simp only [nrm, tev, St.step, putO, setsV, addO, ↓reduceIte, Nat.reduceAdd, logT, atT, intern, internL, kp_ents, fz_ents, fz_bytes, kp_bytes, kp_ats, fz_ats, kp_logs, logR, logE, ← List.map_take, ← List.map_drop, List.take_length, spots_len, beq_self_eq_true] at hσ_; subst hσ_
      first | refine TL.sto rfl rfl rfl rfl (tT rfl) rfl rfl rfl (Nat.le_of_ble_eq_true rfl) ?_ | refine TL.sto_row rfl rfl rfl rfl rfl (by assumption) (tT rfl) rfl rfl rfl (Nat.le_of_ble_eq_true rfl) ?_ | refine TL.sto_row (j := 0) rfl rfl rfl rfl rfl (by assumption) (tT rfl) rfl rfl rfl (Nat.le_of_ble_eq_true rfl) ?_
      intro σ_ hσ_; simp only [nrm, tev, St.step, putO, setsV, addO, ↓reduceIte, Nat.reduceAdd, logT, atT, intern, internL, kp_ents, fz_ents, fz_bytes, kp_bytes, kp_ats, fz_ats, kp_logs, logR, logE, ← List.map_take, ← List.map_drop, List.take_length, spots_len, beq_self_eq_true] at hσ_; subst hσ_
      refine TL.nil ?_
      try simp (decide := true) only [thenT, inBlockT, noGotoT, jumpT, ↓reduceIte, true_and]
      refine hK9_ _ ?_
      refine TW.seq_k ?_
      intro K10_ hK10_
      refine TW.seq_k ?_
      intro K11_ hK11_
      by_cases h12 : k = 12
      · skip
        refine TW.reg ?_
        refine TL.st rfl (S_move rfl) ?_
        intro σ_ hσ_; simp only [nrm, tev, St.step, putO, setsV, addO, ↓reduceIte, Nat.reduceAdd, logT, atT, intern, internL, kp_ents, fz_ents, fz_bytes, kp_bytes, kp_ats, fz_ats, kp_logs, logR, logE, ← List.map_take, ← List.map_drop, List.take_length, spots_len, beq_self_eq_true] at hσ_; subst hσ_
        first | refine TL.st rfl (S_int rfl rfl rfl rfl (vbt (by omega))) ?_ | refine TL.st rfl (S_int rfl rfl rfl rfl (vbf (by omega))) ?_ | refine TL.st rfl (S_int rfl rfl rfl rfl rfl) ?_ | refine TL.st rfl (S_boolop rfl rfl rfl rfl (tT rfl) rfl) ?_
        intro σ_ hσ_; simp only [nrm, tev, St.step, putO, setsV, addO, ↓reduceIte, Nat.reduceAdd, logT, atT, intern, internL, kp_ents, fz_ents, fz_bytes, kp_bytes, kp_ats, fz_ats, kp_logs, logR, logE, ← List.map_take, ← List.map_drop, List.take_length, spots_len, beq_self_eq_true] at hσ_; subst hσ_
        refine TL.nil ?_
        try simp (decide := true) only [thenT, inBlockT, noGotoT, jumpT, ↓reduceIte, true_and]
        refine hK11_ _ ?_
        refine TW.cond_t rfl (rfl) ?_
        refine TW.exit ?_
        try simp (decide := true) only [thenT, inBlockT, noGotoT, jumpT, ↓reduceIte, true_and]
        refine hK4_ _ ?_
        refine TW.seq_k ?_
        intro K12_ hK12_
        refine TW.reg ?_
        refine TL.st rfl (S_assign rfl) ?_
        intro σ_ hσ_; simp only [nrm, tev, St.step, putO, setsV, addO, ↓reduceIte, Nat.reduceAdd, logT, atT, intern, internL, kp_ents, fz_ents, fz_bytes, kp_bytes, kp_ats, fz_ats, kp_logs, logR, logE, ← List.map_take, ← List.map_drop, List.take_length, spots_len, beq_self_eq_true] at hσ_; subst hσ_
        refine TL.nil ?_
        try simp (decide := true) only [thenT, inBlockT, noGotoT, jumpT, ↓reduceIte, true_and]
        refine hK12_ _ ?_
        refine TW.ret ?_
        try simp (decide := true) only [thenT, inBlockT, noGotoT, jumpT, ↓reduceIte, true_and]
        refine ⟨.inr rfl, _, none, (ResT.one Try.results5 rfl), ?_, (by rintro _ ⟨⟩)⟩
        simp only [nrm, tev, Out_v, Out_agg, Out_tup, OutL_nil, OutL_cons, Out_sl, Out_row_osl, Out_nil_osl, Out_nil_sl, Out_nil_nil, and_true, true_and, logT, atT, logR, logE, fr_ents, fr_ats, hf, List.getD_cons_zero, List.getD_cons_succ]
        done
      · skip
        refine TW.reg ?_
        refine TL.st rfl (S_move rfl) ?_
        intro σ_ hσ_; simp only [nrm, tev, St.step, putO, setsV, addO, ↓reduceIte, Nat.reduceAdd, logT, atT, intern, internL, kp_ents, fz_ents, fz_bytes, kp_bytes, kp_ats, fz_ats, kp_logs, logR, logE, ← List.map_take, ← List.map_drop, List.take_length, spots_len, beq_self_eq_true] at hσ_; subst hσ_
        first | refine TL.st rfl (S_int rfl rfl rfl rfl (vbt (by omega))) ?_ | refine TL.st rfl (S_int rfl rfl rfl rfl (vbf (by omega))) ?_ | refine TL.st rfl (S_int rfl rfl rfl rfl rfl) ?_ | refine TL.st rfl (S_boolop rfl rfl rfl rfl (tT rfl) rfl) ?_
        intro σ_ hσ_; simp only [nrm, tev, St.step, putO, setsV, addO, ↓reduceIte, Nat.reduceAdd, logT, atT, intern, internL, kp_ents, fz_ents, fz_bytes, kp_bytes, kp_ats, fz_ats, kp_logs, logR, logE, ← List.map_take, ← List.map_drop, List.take_length, spots_len, beq_self_eq_true] at hσ_; subst hσ_
        refine TL.nil ?_
        try simp (decide := true) only [thenT, inBlockT, noGotoT, jumpT, ↓reduceIte, true_and]
        refine hK11_ _ ?_
        refine TW.cond_f rfl (rfl) ?_
        refine TW.skip ?_
        try simp (decide := true) only [thenT, inBlockT, noGotoT, jumpT, ↓reduceIte, true_and]
        refine hK10_ _ ?_
        refine TW.seq_k ?_
        intro K13_ hK13_
        refine TW.region_par 8 (by kernel_rfl) (by kernel_rfl) ?_
        simp only [List.take_succ_cons, List.take_zero, List.drop_succ_cons, List.drop_zero, List.take_nil, List.drop_nil]
        first | refine TPar.st rfl (S_load rfl rfl rfl (tT rfl) rfl) ?_ | refine TPar.st rfl (S_load_eptr rfl rfl (tT rfl) rfl) ?_ | refine TPar.st rfl (S_load_row rfl rfl rfl rfl (by assumption) (tT rfl) rfl) ?_ | refine TPar.st rfl (S_load_row (j := 0) rfl rfl rfl rfl (by assumption) (tT rfl) rfl) ?_
        intro s_ h_ hs_ hh_; simp only [nrm, tev, St.step, putO, setsV, addO, ↓reduceIte, Nat.reduceAdd, logT, atT, intern, internL, kp_ents, fz_ents, fz_bytes, kp_bytes, kp_ats, fz_ats, kp_logs, logR, logE, ← List.map_take, ← List.map_drop, List.take_length, spots_len, beq_self_eq_true] at hs_ hh_; subst hs_; subst hh_
        first | refine TPar.st rfl (S_call_row rfl rfl rfl (by kernel_rfl) rfl (own_T _ _ x.i x.t x.es xok.n) rfl) ?_ | refine TPar.st rfl (S_call rfl rfl rfl (by kernel_rfl) rfl (own_T _ _ x.i x.t x.es xok.n)) ?_ | refine TPar.st rfl (S_call_row rfl rfl rfl (by kernel_rfl) rfl (own_T _ _ z.i z.t z.es zok.n) rfl) ?_ | refine TPar.st rfl (S_call rfl rfl rfl (by kernel_rfl) rfl (own_T _ _ z.i z.t z.es zok.n)) ?_ | refine TPar.st rfl (S_call_row rfl rfl rfl (by kernel_rfl) rfl (own_T _ _ x.i x.t (fewL x.es) (by have := xf.n; omega)) rfl) ?_ | refine TPar.st rfl (S_call rfl rfl rfl (by kernel_rfl) rfl (own_T _ _ x.i x.t (fewL x.es) (by have := xf.n; omega))) ?_
        intro s_ h_ hs_ hh_; simp only [nrm, tev, St.step, putO, setsV, addO, ↓reduceIte, Nat.reduceAdd, logT, atT, intern, internL, kp_ents, fz_ents, fz_bytes, kp_bytes, kp_ats, fz_ats, kp_logs, logR, logE, ← List.map_take, ← List.map_drop, List.take_length, spots_len, beq_self_eq_true] at hs_ hh_; subst hs_; subst hh_
        refine TPar.st rfl (S_move rfl) ?_
        intro s_ h_ hs_ hh_; simp only [nrm, tev, St.step, putO, setsV, addO, ↓reduceIte, Nat.reduceAdd, logT, atT, intern, internL, kp_ents, fz_ents, fz_bytes, kp_bytes, kp_ats, fz_ats, kp_logs, logR, logE, ← List.map_take, ← List.map_drop, List.take_length, spots_len, beq_self_eq_true] at hs_ hh_; subst hs_; subst hh_
        first | refine TPar.st rfl (S_index_sl rfl rfl rfl (tT rfl) rfl (tT rfl) (by assumption) rfl rfl (by decide)) ?_ | refine TPar.st rfl (S_index_sl rfl rfl rfl (tT rfl) rfl (tT rfl) (by assumption) (by first | rfl | omega) rfl (by decide)) ?_ | refine TPar.st rfl (S_index_row rfl rfl rfl rfl (tT rfl) rfl (tT rfl) rfl rfl (by first | assumption | omega)) ?_ | refine TPar.st rfl (S_index_arr rfl rfl rfl (tT rfl) rfl (tT rfl) rfl (by first | assumption | decide | omega)) ?_
        intro s_ h_ hs_ hh_; simp only [nrm, tev, St.step, putO, setsV, addO, ↓reduceIte, Nat.reduceAdd, logT, atT, intern, internL, kp_ents, fz_ents, fz_bytes, kp_bytes, kp_ats, fz_ats, kp_logs, logR, logE, ← List.map_take, ← List.map_drop, List.take_length, spots_len, beq_self_eq_true] at hs_ hh_; subst hs_; subst hh_
        first | refine TPar.st rfl (S_load rfl rfl rfl (tT rfl) rfl) ?_ | refine TPar.st rfl (S_load_eptr rfl rfl (tT rfl) rfl) ?_ | refine TPar.st rfl (S_load_row rfl rfl rfl rfl (by assumption) (tT rfl) rfl) ?_ | refine TPar.st rfl (S_load_row (j := 0) rfl rfl rfl rfl (by assumption) (tT rfl) rfl) ?_
        intro s_ h_ hs_ hh_; simp only [nrm, tev, St.step, putO, setsV, addO, ↓reduceIte, Nat.reduceAdd, logT, atT, intern, internL, kp_ents, fz_ents, fz_bytes, kp_bytes, kp_ats, fz_ats, kp_logs, logR, logE, ← List.map_take, ← List.map_drop, List.take_length, spots_len, beq_self_eq_true] at hs_ hh_; subst hs_; subst hh_
        first | refine TPar.st rfl (S_call_row rfl rfl rfl (by kernel_rfl) rfl (own_T _ _ x.i x.t x.es xok.n) rfl) ?_ | refine TPar.st rfl (S_call rfl rfl rfl (by kernel_rfl) rfl (own_T _ _ x.i x.t x.es xok.n)) ?_ | refine TPar.st rfl (S_call_row rfl rfl rfl (by kernel_rfl) rfl (own_T _ _ z.i z.t z.es zok.n) rfl) ?_ | refine TPar.st rfl (S_call rfl rfl rfl (by kernel_rfl) rfl (own_T _ _ z.i z.t z.es zok.n)) ?_ | refine TPar.st rfl (S_call_row rfl rfl rfl (by kernel_rfl) rfl (own_T _ _ x.i x.t (fewL x.es) (by have := xf.n; omega)) rfl) ?_ | refine TPar.st rfl (S_call rfl rfl rfl (by kernel_rfl) rfl (own_T _ _ x.i x.t (fewL x.es) (by have := xf.n; omega))) ?_
        intro s_ h_ hs_ hh_; simp only [nrm, tev, St.step, putO, setsV, addO, ↓reduceIte, Nat.reduceAdd, logT, atT, intern, internL, kp_ents, fz_ents, fz_bytes, kp_bytes, kp_ats, fz_ats, kp_logs, logR, logE, ← List.map_take, ← List.map_drop, List.take_length, spots_len, beq_self_eq_true] at hs_ hh_; subst hs_; subst hh_
        refine TPar.st rfl (S_alloc rfl (zT rfl) rfl) ?_
        intro s_ h_ hs_ hh_; simp only [nrm, tev, St.step, putO, setsV, addO, ↓reduceIte, Nat.reduceAdd, logT, atT, intern, internL, kp_ents, fz_ents, fz_bytes, kp_bytes, kp_ats, fz_ats, kp_logs, logR, logE, ← List.map_take, ← List.map_drop, List.take_length, spots_len, beq_self_eq_true] at hs_ hh_; subst hs_; subst hh_
        refine TPar.st rfl (S_alloc rfl (zT rfl) rfl) ?_
        intro s_ h_ hs_ hh_; simp only [nrm, tev, St.step, putO, setsV, addO, ↓reduceIte, Nat.reduceAdd, logT, atT, intern, internL, kp_ents, fz_ents, fz_bytes, kp_bytes, kp_ats, fz_ats, kp_logs, logR, logE, ← List.map_take, ← List.map_drop, List.take_length, spots_len, beq_self_eq_true] at hs_ hh_; subst hs_; subst hh_
        unfold TPar
        first | refine TL.sto rfl rfl rfl rfl (tT rfl) rfl rfl rfl (Nat.le_of_ble_eq_true rfl) ?_ | refine TL.sto_row rfl rfl rfl rfl rfl (by assumption) (tT rfl) rfl rfl rfl (Nat.le_of_ble_eq_true rfl) ?_ | refine TL.sto_row (j := 0) rfl rfl rfl rfl rfl (by assumption) (tT rfl) rfl rfl rfl (Nat.le_of_ble_eq_true rfl) ?_
        intro σ_ hσ_; simp only [nrm, tev, St.step, putO, setsV, addO, ↓reduceIte, Nat.reduceAdd, logT, atT, intern, internL, kp_ents, fz_ents, fz_bytes, kp_bytes, kp_ats, fz_ats, kp_logs, logR, logE, ← List.map_take, ← List.map_drop, List.take_length, spots_len, beq_self_eq_true] at hσ_; subst hσ_
        first | refine TL.sto rfl rfl rfl rfl (tT rfl) rfl rfl rfl (Nat.le_of_ble_eq_true rfl) ?_ | refine TL.sto_row rfl rfl rfl rfl rfl (by assumption) (tT rfl) rfl rfl rfl (Nat.le_of_ble_eq_true rfl) ?_ | refine TL.sto_row (j := 0) rfl rfl rfl rfl rfl (by assumption) (tT rfl) rfl rfl rfl (Nat.le_of_ble_eq_true rfl) ?_
        intro σ_ hσ_; simp only [nrm, tev, St.step, putO, setsV, addO, ↓reduceIte, Nat.reduceAdd, logT, atT, intern, internL, kp_ents, fz_ents, fz_bytes, kp_bytes, kp_ats, fz_ats, kp_logs, logR, logE, ← List.map_take, ← List.map_drop, List.take_length, spots_len, beq_self_eq_true] at hσ_; subst hσ_
        refine TL.nil ?_
        try simp (decide := true) only [thenT, inBlockT, noGotoT, jumpT, ↓reduceIte, true_and]
        refine hK13_ _ ?_
        refine TW.seq_k ?_
        intro K14_ hK14_
        refine TW.reg ?_
        refine TL.st rfl (S_assign rfl) ?_
        intro σ_ hσ_; simp only [nrm, tev, St.step, putO, setsV, addO, ↓reduceIte, Nat.reduceAdd, logT, atT, intern, internL, kp_ents, fz_ents, fz_bytes, kp_bytes, kp_ats, fz_ats, kp_logs, logR, logE, ← List.map_take, ← List.map_drop, List.take_length, spots_len, beq_self_eq_true] at hσ_; subst hσ_
        refine TL.nil ?_
        try simp (decide := true) only [thenT, inBlockT, noGotoT, jumpT, ↓reduceIte, true_and]
        refine hK14_ _ ?_
        refine TW.seq_k ?_
        intro K15_ hK15_
        refine TW.block ?_
        refine TW.seq_k ?_
        intro K16_ hK16_
        cases hm : mayB x.i x.t (fewL x.es)
        · skip
          have hck : lcheckE x.i x.t (fewL x.es) top = 160 := by simp [lcheckE, hm]
          refine TW.reg ?_
          first | refine TL.st rfl (S_load rfl rfl rfl (tT rfl) rfl) ?_ | refine TL.st rfl (S_load_eptr rfl rfl (tT rfl) rfl) ?_ | refine TL.st rfl (S_load_row rfl rfl rfl rfl (by assumption) (tT rfl) rfl) ?_ | refine TL.st rfl (S_load_row (j := 0) rfl rfl rfl rfl (by assumption) (tT rfl) rfl) ?_
          intro σ_ hσ_; simp only [nrm, tev, St.step, putO, setsV, addO, ↓reduceIte, Nat.reduceAdd, logT, atT, intern, internL, kp_ents, fz_ents, fz_bytes, kp_bytes, kp_ats, fz_ats, kp_logs, logR, logE, ← List.map_take, ← List.map_drop, List.take_length, spots_len, beq_self_eq_true] at hσ_; subst hσ_
          first | refine TL.st rfl (S_call_row rfl rfl rfl (by kernel_rfl) rfl ((right_T _ _ x.i x.t (fewL x.es) xf.w xf.n9 xok.i0 xok.i1 xok.t0).eq rfl (by rw [hm])) rfl) ?_ | refine TL.st rfl (S_call rfl rfl rfl (by kernel_rfl) rfl ((right_T _ _ x.i x.t (fewL x.es) xf.w xf.n9 xok.i0 xok.i1 xok.t0).eq rfl (by rw [hm]))) ?_
          intro σ_ hσ_; simp only [nrm, tev, St.step, putO, setsV, addO, ↓reduceIte, Nat.reduceAdd, logT, atT, intern, internL, kp_ents, fz_ents, fz_bytes, kp_bytes, kp_ats, fz_ats, kp_logs, logR, logE, ← List.map_take, ← List.map_drop, List.take_length, spots_len, beq_self_eq_true] at hσ_; subst hσ_
          first | refine TL.st rfl (S_not rfl rfl) ?_ | refine TL.st rfl (S_neg rfl rfl) ?_
          intro σ_ hσ_; simp only [nrm, tev, St.step, putO, setsV, addO, ↓reduceIte, Nat.reduceAdd, logT, atT, intern, internL, kp_ents, fz_ents, fz_bytes, kp_bytes, kp_ats, fz_ats, kp_logs, logR, logE, ← List.map_take, ← List.map_drop, List.take_length, spots_len, beq_self_eq_true] at hσ_; subst hσ_
          refine TL.st rfl (S_assign rfl) ?_
          intro σ_ hσ_; simp only [nrm, tev, St.step, putO, setsV, addO, ↓reduceIte, Nat.reduceAdd, logT, atT, intern, internL, kp_ents, fz_ents, fz_bytes, kp_bytes, kp_ats, fz_ats, kp_logs, logR, logE, ← List.map_take, ← List.map_drop, List.take_length, spots_len, beq_self_eq_true] at hσ_; subst hσ_
          refine TL.nil ?_
          try simp (decide := true) only [thenT, inBlockT, noGotoT, jumpT, ↓reduceIte, true_and]
          refine hK16_ _ ?_
          refine TW.cond_t rfl (rfl) ?_
          refine TW.reg ?_
          refine TL.st rfl (S_assign rfl) ?_
          intro σ_ hσ_; simp only [nrm, tev, St.step, putO, setsV, addO, ↓reduceIte, Nat.reduceAdd, logT, atT, intern, internL, kp_ents, fz_ents, fz_bytes, kp_bytes, kp_ats, fz_ats, kp_logs, logR, logE, ← List.map_take, ← List.map_drop, List.take_length, spots_len, beq_self_eq_true] at hσ_; subst hσ_
          refine TL.nil ?_
          try simp (decide := true) only [thenT, inBlockT, noGotoT, jumpT, ↓reduceIte, true_and]
          refine hK15_ _ ?_
          refine TW.seq_k ?_
          intro K17_ hK17_
          refine TW.region_par 21 (by kernel_rfl) (by kernel_rfl) ?_
          simp only [List.take_succ_cons, List.take_zero, List.drop_succ_cons, List.drop_zero, List.take_nil, List.drop_nil]
          first | refine TPar.st rfl (S_load rfl rfl rfl (tT rfl) rfl) ?_ | refine TPar.st rfl (S_load_eptr rfl rfl (tT rfl) rfl) ?_ | refine TPar.st rfl (S_load_row rfl rfl rfl rfl (by assumption) (tT rfl) rfl) ?_ | refine TPar.st rfl (S_load_row (j := 0) rfl rfl rfl rfl (by assumption) (tT rfl) rfl) ?_
          intro s_ h_ hs_ hh_; simp only [nrm, tev, St.step, putO, setsV, addO, ↓reduceIte, Nat.reduceAdd, logT, atT, intern, internL, kp_ents, fz_ents, fz_bytes, kp_bytes, kp_ats, fz_ats, kp_logs, logR, logE, ← List.map_take, ← List.map_drop, List.take_length, spots_len, beq_self_eq_true] at hs_ hh_; subst hs_; subst hh_
          refine TPar.st rfl (S_move rfl) ?_
          intro s_ h_ hs_ hh_; simp only [nrm, tev, St.step, putO, setsV, addO, ↓reduceIte, Nat.reduceAdd, logT, atT, intern, internL, kp_ents, fz_ents, fz_bytes, kp_bytes, kp_ats, fz_ats, kp_logs, logR, logE, ← List.map_take, ← List.map_drop, List.take_length, spots_len, beq_self_eq_true] at hs_ hh_; subst hs_; subst hh_
          first | refine TPar.st rfl (S_call_row rfl rfl rfl (by kernel_rfl) rfl ((lcheck_T _ _ x.i x.t (fewL x.es) xf.w xf.n9 xok.i0 xok.i1 top).eq rfl (by rw [hck])) rfl) ?_ | refine TPar.st rfl (S_call rfl rfl rfl (by kernel_rfl) rfl ((lcheck_T _ _ x.i x.t (fewL x.es) xf.w xf.n9 xok.i0 xok.i1 top).eq rfl (by rw [hck]))) ?_
          intro s_ h_ hs_ hh_; simp only [nrm, tev, St.step, putO, setsV, addO, ↓reduceIte, Nat.reduceAdd, logT, atT, intern, internL, kp_ents, fz_ents, fz_bytes, kp_bytes, kp_ats, fz_ats, kp_logs, logR, logE, ← List.map_take, ← List.map_drop, List.take_length, spots_len, beq_self_eq_true] at hs_ hh_; subst hs_; subst hh_
          refine TPar.st rfl (S_move rfl) ?_
          intro s_ h_ hs_ hh_; simp only [nrm, tev, St.step, putO, setsV, addO, ↓reduceIte, Nat.reduceAdd, logT, atT, intern, internL, kp_ents, fz_ents, fz_bytes, kp_bytes, kp_ats, fz_ats, kp_logs, logR, logE, ← List.map_take, ← List.map_drop, List.take_length, spots_len, beq_self_eq_true] at hs_ hh_; subst hs_; subst hh_
          first | refine TPar.st rfl (S_int rfl rfl rfl rfl (vnt (by omega))) ?_ | refine TPar.st rfl (S_int rfl rfl rfl rfl (vnf (by omega))) ?_ | refine TPar.st rfl (S_int rfl rfl rfl rfl rfl) ?_ | refine TPar.st rfl (S_boolneq rfl rfl rfl rfl (tT rfl) rfl) ?_
          intro s_ h_ hs_ hh_; simp only [nrm, tev, St.step, putO, setsV, addO, ↓reduceIte, Nat.reduceAdd, logT, atT, intern, internL, kp_ents, fz_ents, fz_bytes, kp_bytes, kp_ats, fz_ats, kp_logs, logR, logE, ← List.map_take, ← List.map_drop, List.take_length, spots_len, beq_self_eq_true] at hs_ hh_; subst hs_; subst hh_
          refine TPar.st rfl (S_move rfl) ?_
          intro s_ h_ hs_ hh_; simp only [nrm, tev, St.step, putO, setsV, addO, ↓reduceIte, Nat.reduceAdd, logT, atT, intern, internL, kp_ents, fz_ents, fz_bytes, kp_bytes, kp_ats, fz_ats, kp_logs, logR, logE, ← List.map_take, ← List.map_drop, List.take_length, spots_len, beq_self_eq_true] at hs_ hh_; subst hs_; subst hh_
          first | refine TPar.st_g rfl rfl rfl (Nat.le_of_ble_eq_true rfl) rfl (S_load rfl rfl rfl (tT rfl) rfl) ?_ | refine TPar.st_g rfl rfl rfl (Nat.le_of_ble_eq_true rfl) rfl (S_load_eptr rfl rfl (tT rfl) rfl) ?_ | refine TPar.st_g rfl rfl rfl (Nat.le_of_ble_eq_true rfl) rfl (S_load_row rfl rfl rfl rfl (by assumption) (tT rfl) rfl) ?_ | refine TPar.st_g rfl rfl rfl (Nat.le_of_ble_eq_true rfl) rfl (S_load_row (j := 0) rfl rfl rfl rfl (by assumption) (tT rfl) rfl) ?_ | refine TPar.sk_g rfl rfl rfl (Nat.le_of_ble_eq_true rfl) rfl rfl ?_
          intro s_ h_ hs_ hh_; simp only [nrm, tev, St.step, putO, setsV, addO, ↓reduceIte, Nat.reduceAdd, logT, atT, intern, internL, kp_ents, fz_ents, fz_bytes, kp_bytes, kp_ats, fz_ats, kp_logs, logR, logE, ← List.map_take, ← List.map_drop, List.take_length, spots_len, beq_self_eq_true] at hs_ hh_; subst hs_; subst hh_
          first | refine TPar.st_g rfl rfl rfl (Nat.le_of_ble_eq_true rfl) rfl (S_load rfl rfl rfl (tT rfl) rfl) ?_ | refine TPar.st_g rfl rfl rfl (Nat.le_of_ble_eq_true rfl) rfl (S_load_eptr rfl rfl (tT rfl) rfl) ?_ | refine TPar.st_g rfl rfl rfl (Nat.le_of_ble_eq_true rfl) rfl (S_load_row rfl rfl rfl rfl (by assumption) (tT rfl) rfl) ?_ | refine TPar.st_g rfl rfl rfl (Nat.le_of_ble_eq_true rfl) rfl (S_load_row (j := 0) rfl rfl rfl rfl (by assumption) (tT rfl) rfl) ?_ | refine TPar.sk_g rfl rfl rfl (Nat.le_of_ble_eq_true rfl) rfl rfl ?_
          intro s_ h_ hs_ hh_; simp only [nrm, tev, St.step, putO, setsV, addO, ↓reduceIte, Nat.reduceAdd, logT, atT, intern, internL, kp_ents, fz_ents, fz_bytes, kp_bytes, kp_ats, fz_ats, kp_logs, logR, logE, ← List.map_take, ← List.map_drop, List.take_length, spots_len, beq_self_eq_true] at hs_ hh_; subst hs_; subst hh_
          first | refine TPar.st_g rfl rfl rfl (Nat.le_of_ble_eq_true rfl) rfl (S_call_row rfl rfl rfl (by kernel_rfl) rfl (same_T _ _ x.i x.t (fewL x.es) xf _ _ z.i z.t (fewL z.es) zf) rfl) ?_ | refine TPar.st_g rfl rfl rfl (Nat.le_of_ble_eq_true rfl) rfl (S_call rfl rfl rfl (by kernel_rfl) rfl (same_T _ _ x.i x.t (fewL x.es) xf _ _ z.i z.t (fewL z.es) zf)) ?_ | refine TPar.st_g rfl rfl rfl (Nat.le_of_ble_eq_true rfl) rfl (S_call_row rfl rfl rfl (by kernel_rfl) rfl ((same_T _ _ x.i x.t (fewL x.es) xf _ _ x.i x.t (fewL (fewL x.es)) (few_ok xf.w)).eq rfl (by rw [few_few, sameL_self])) rfl) ?_ | refine TPar.st_g rfl rfl rfl (Nat.le_of_ble_eq_true rfl) rfl (S_call rfl rfl rfl (by kernel_rfl) rfl ((same_T _ _ x.i x.t (fewL x.es) xf _ _ x.i x.t (fewL (fewL x.es)) (few_ok xf.w)).eq rfl (by rw [few_few, sameL_self]))) ?_ | refine TPar.sk_g rfl rfl rfl (Nat.le_of_ble_eq_true rfl) rfl rfl ?_
          intro s_ h_ hs_ hh_; simp only [nrm, tev, St.step, putO, setsV, addO, ↓reduceIte, Nat.reduceAdd, logT, atT, intern, internL, kp_ents, fz_ents, fz_bytes, kp_bytes, kp_ats, fz_ats, kp_logs, logR, logE, ← List.map_take, ← List.map_drop, List.take_length, spots_len, beq_self_eq_true] at hs_ hh_; subst hs_; subst hh_
          first | refine TPar.st_g rfl rfl rfl (Nat.le_of_ble_eq_true rfl) rfl (S_load rfl rfl rfl (tT rfl) rfl) ?_ | refine TPar.st_g rfl rfl rfl (Nat.le_of_ble_eq_true rfl) rfl (S_load_eptr rfl rfl (tT rfl) rfl) ?_ | refine TPar.st_g rfl rfl rfl (Nat.le_of_ble_eq_true rfl) rfl (S_load_row rfl rfl rfl rfl (by assumption) (tT rfl) rfl) ?_ | refine TPar.st_g rfl rfl rfl (Nat.le_of_ble_eq_true rfl) rfl (S_load_row (j := 0) rfl rfl rfl rfl (by assumption) (tT rfl) rfl) ?_ | refine TPar.sk_g rfl rfl rfl (Nat.le_of_ble_eq_true rfl) rfl rfl ?_
          intro s_ h_ hs_ hh_; simp only [nrm, tev, St.step, putO, setsV, addO, ↓reduceIte, Nat.reduceAdd, logT, atT, intern, internL, kp_ents, fz_ents, fz_bytes, kp_bytes, kp_ats, fz_ats, kp_logs, logR, logE, ← List.map_take, ← List.map_drop, List.take_length, spots_len, beq_self_eq_true] at hs_ hh_; subst hs_; subst hh_
          first | refine TPar.st_g rfl rfl rfl (Nat.le_of_ble_eq_true rfl) rfl (S_load rfl rfl rfl (tT rfl) rfl) ?_ | refine TPar.st_g rfl rfl rfl (Nat.le_of_ble_eq_true rfl) rfl (S_load_eptr rfl rfl (tT rfl) rfl) ?_ | refine TPar.st_g rfl rfl rfl (Nat.le_of_ble_eq_true rfl) rfl (S_load_row rfl rfl rfl rfl (by assumption) (tT rfl) rfl) ?_ | refine TPar.st_g rfl rfl rfl (Nat.le_of_ble_eq_true rfl) rfl (S_load_row (j := 0) rfl rfl rfl rfl (by assumption) (tT rfl) rfl) ?_ | refine TPar.sk_g rfl rfl rfl (Nat.le_of_ble_eq_true rfl) rfl rfl ?_
          intro s_ h_ hs_ hh_; simp only [nrm, tev, St.step, putO, setsV, addO, ↓reduceIte, Nat.reduceAdd, logT, atT, intern, internL, kp_ents, fz_ents, fz_bytes, kp_bytes, kp_ats, fz_ats, kp_logs, logR, logE, ← List.map_take, ← List.map_drop, List.take_length, spots_len, beq_self_eq_true] at hs_ hh_; subst hs_; subst hh_
          first | refine TPar.st_g rfl rfl rfl (Nat.le_of_ble_eq_true rfl) rfl (S_call_row rfl rfl rfl (by kernel_rfl) rfl (same6_T _ _ x.i x.t (fewL x.es) xf _ _ z.i z.t (fewL z.es) zf) rfl) ?_ | refine TPar.st_g rfl rfl rfl (Nat.le_of_ble_eq_true rfl) rfl (S_call rfl rfl rfl (by kernel_rfl) rfl (same6_T _ _ x.i x.t (fewL x.es) xf _ _ z.i z.t (fewL z.es) zf)) ?_ | refine TPar.sk_g rfl rfl rfl (Nat.le_of_ble_eq_true rfl) rfl rfl ?_
          intro s_ h_ hs_ hh_; simp only [nrm, tev, St.step, putO, setsV, addO, ↓reduceIte, Nat.reduceAdd, logT, atT, intern, internL, kp_ents, fz_ents, fz_bytes, kp_bytes, kp_ats, fz_ats, kp_logs, logR, logE, ← List.map_take, ← List.map_drop, List.take_length, spots_len, beq_self_eq_true] at hs_ hh_; subst hs_; subst hh_
          first | refine TPar.st_g rfl rfl rfl (Nat.le_of_ble_eq_true rfl) rfl (S_int rfl rfl rfl rfl (vnt (by omega))) ?_ | refine TPar.st_g rfl rfl rfl (Nat.le_of_ble_eq_true rfl) rfl (S_int rfl rfl rfl rfl (vnf (by omega))) ?_ | refine TPar.st_g rfl rfl rfl (Nat.le_of_ble_eq_true rfl) rfl (S_int rfl rfl rfl rfl rfl) ?_ | refine TPar.st_g rfl rfl rfl (Nat.le_of_ble_eq_true rfl) rfl (S_boolneq rfl rfl rfl rfl (tT rfl) rfl) ?_ | refine TPar.sk_g rfl rfl rfl (Nat.le_of_ble_eq_true rfl) rfl rfl ?_
          intro s_ h_ hs_ hh_; simp only [nrm, tev, St.step, putO, setsV, addO, ↓reduceIte, Nat.reduceAdd, logT, atT, intern, internL, kp_ents, fz_ents, fz_bytes, kp_bytes, kp_ats, fz_ats, kp_logs, logR, logE, ← List.map_take, ← List.map_drop, List.take_length, spots_len, beq_self_eq_true] at hs_ hh_; subst hs_; subst hh_
          refine TPar.st rfl (S_pick rfl rfl rfl) ?_
          intro s_ h_ hs_ hh_; simp only [nrm, tev, St.step, putO, setsV, addO, ↓reduceIte, Nat.reduceAdd, logT, atT, intern, internL, kp_ents, fz_ents, fz_bytes, kp_bytes, kp_ats, fz_ats, kp_logs, logR, logE, ← List.map_take, ← List.map_drop, List.take_length, spots_len, beq_self_eq_true] at hs_ hh_; subst hs_; subst hh_
          refine TPar.st rfl (S_move rfl) ?_
          intro s_ h_ hs_ hh_; simp only [nrm, tev, St.step, putO, setsV, addO, ↓reduceIte, Nat.reduceAdd, logT, atT, intern, internL, kp_ents, fz_ents, fz_bytes, kp_bytes, kp_ats, fz_ats, kp_logs, logR, logE, ← List.map_take, ← List.map_drop, List.take_length, spots_len, beq_self_eq_true] at hs_ hh_; subst hs_; subst hh_
          first | refine TPar.st_g rfl rfl rfl (Nat.le_of_ble_eq_true rfl) rfl (S_load rfl rfl rfl (tT rfl) rfl) ?_ | refine TPar.st_g rfl rfl rfl (Nat.le_of_ble_eq_true rfl) rfl (S_load_eptr rfl rfl (tT rfl) rfl) ?_ | refine TPar.st_g rfl rfl rfl (Nat.le_of_ble_eq_true rfl) rfl (S_load_row rfl rfl rfl rfl (by assumption) (tT rfl) rfl) ?_ | refine TPar.st_g rfl rfl rfl (Nat.le_of_ble_eq_true rfl) rfl (S_load_row (j := 0) rfl rfl rfl rfl (by assumption) (tT rfl) rfl) ?_ | refine TPar.sk_g rfl rfl rfl (Nat.le_of_ble_eq_true rfl) rfl rfl ?_
          intro s_ h_ hs_ hh_; simp only [nrm, tev, St.step, putO, setsV, addO, ↓reduceIte, Nat.reduceAdd, logT, atT, intern, internL, kp_ents, fz_ents, fz_bytes, kp_bytes, kp_ats, fz_ats, kp_logs, logR, logE, ← List.map_take, ← List.map_drop, List.take_length, spots_len, beq_self_eq_true] at hs_ hh_; subst hs_; subst hh_
          first | refine TPar.st_g rfl rfl rfl (Nat.le_of_ble_eq_true rfl) rfl (S_load rfl rfl rfl (tT rfl) rfl) ?_ | refine TPar.st_g rfl rfl rfl (Nat.le_of_ble_eq_true rfl) rfl (S_load_eptr rfl rfl (tT rfl) rfl) ?_ | refine TPar.st_g rfl rfl rfl (Nat.le_of_ble_eq_true rfl) rfl (S_load_row rfl rfl rfl rfl (by assumption) (tT rfl) rfl) ?_ | refine TPar.st_g rfl rfl rfl (Nat.le_of_ble_eq_true rfl) rfl (S_load_row (j := 0) rfl rfl rfl rfl (by assumption) (tT rfl) rfl) ?_ | refine TPar.sk_g rfl rfl rfl (Nat.le_of_ble_eq_true rfl) rfl rfl ?_
          intro s_ h_ hs_ hh_; simp only [nrm, tev, St.step, putO, setsV, addO, ↓reduceIte, Nat.reduceAdd, logT, atT, intern, internL, kp_ents, fz_ents, fz_bytes, kp_bytes, kp_ats, fz_ats, kp_logs, logR, logE, ← List.map_take, ← List.map_drop, List.take_length, spots_len, beq_self_eq_true] at hs_ hh_; subst hs_; subst hh_
          first | refine TPar.st_g rfl rfl rfl (Nat.le_of_ble_eq_true rfl) rfl (S_call_row rfl rfl rfl (by kernel_rfl) rfl (own_T _ _ x.i x.t x.es xok.n) rfl) ?_ | refine TPar.st_g rfl rfl rfl (Nat.le_of_ble_eq_true rfl) rfl (S_call rfl rfl rfl (by kernel_rfl) rfl (own_T _ _ x.i x.t x.es xok.n)) ?_ | refine TPar.st_g rfl rfl rfl (Nat.le_of_ble_eq_true rfl) rfl (S_call_row rfl rfl rfl (by kernel_rfl) rfl (own_T _ _ z.i z.t z.es zok.n) rfl) ?_ | refine TPar.st_g rfl rfl rfl (Nat.le_of_ble_eq_true rfl) rfl (S_call rfl rfl rfl (by kernel_rfl) rfl (own_T _ _ z.i z.t z.es zok.n)) ?_ | refine TPar.st_g rfl rfl rfl (Nat.le_of_ble_eq_true rfl) rfl (S_call_row rfl rfl rfl (by kernel_rfl) rfl (own_T _ _ x.i x.t (fewL x.es) (by have := xf.n; omega)) rfl) ?_ | refine TPar.st_g rfl rfl rfl (Nat.le_of_ble_eq_true rfl) rfl (S_call rfl rfl rfl (by kernel_rfl) rfl (own_T _ _ x.i x.t (fewL x.es) (by have := xf.n; omega))) ?_ | refine TPar.sk_g rfl rfl rfl (Nat.le_of_ble_eq_true rfl) rfl rfl ?_
          intro s_ h_ hs_ hh_; simp only [nrm, tev, St.step, putO, setsV, addO, ↓reduceIte, Nat.reduceAdd, logT, atT, intern, internL, kp_ents, fz_ents, fz_bytes, kp_bytes, kp_ats, fz_ats, kp_logs, logR, logE, ← List.map_take, ← List.map_drop, List.take_length, spots_len, beq_self_eq_true] at hs_ hh_; subst hs_; subst hh_
          first | refine TPar.st_g rfl rfl rfl (Nat.le_of_ble_eq_true rfl) rfl (S_call_row rfl rfl rfl (by kernel_rfl) rfl (same_T _ _ x.i x.t (fewL x.es) xf _ _ z.i z.t (fewL z.es) zf) rfl) ?_ | refine TPar.st_g rfl rfl rfl (Nat.le_of_ble_eq_true rfl) rfl (S_call rfl rfl rfl (by kernel_rfl) rfl (same_T _ _ x.i x.t (fewL x.es) xf _ _ z.i z.t (fewL z.es) zf)) ?_ | refine TPar.st_g rfl rfl rfl (Nat.le_of_ble_eq_true rfl) rfl (S_call_row rfl rfl rfl (by kernel_rfl) rfl ((same_T _ _ x.i x.t (fewL x.es) xf _ _ x.i x.t (fewL (fewL x.es)) (few_ok xf.w)).eq rfl (by rw [few_few, sameL_self])) rfl) ?_ | refine TPar.st_g rfl rfl rfl (Nat.le_of_ble_eq_true rfl) rfl (S_call rfl rfl rfl (by kernel_rfl) rfl ((same_T _ _ x.i x.t (fewL x.es) xf _ _ x.i x.t (fewL (fewL x.es)) (few_ok xf.w)).eq rfl (by rw [few_few, sameL_self]))) ?_ | refine TPar.sk_g rfl rfl rfl (Nat.le_of_ble_eq_true rfl) rfl rfl ?_
          intro s_ h_ hs_ hh_; simp only [nrm, tev, St.step, putO, setsV, addO, ↓reduceIte, Nat.reduceAdd, logT, atT, intern, internL, kp_ents, fz_ents, fz_bytes, kp_bytes, kp_ats, fz_ats, kp_logs, logR, logE, ← List.map_take, ← List.map_drop, List.take_length, spots_len, beq_self_eq_true] at hs_ hh_; subst hs_; subst hh_
          first | refine TPar.st_g rfl rfl rfl (Nat.le_of_ble_eq_true rfl) rfl (S_not rfl rfl) ?_ | refine TPar.st_g rfl rfl rfl (Nat.le_of_ble_eq_true rfl) rfl (S_neg rfl rfl) ?_ | refine TPar.sk_g rfl rfl rfl (Nat.le_of_ble_eq_true rfl) rfl rfl ?_
          intro s_ h_ hs_ hh_; simp only [nrm, tev, St.step, putO, setsV, addO, ↓reduceIte, Nat.reduceAdd, logT, atT, intern, internL, kp_ents, fz_ents, fz_bytes, kp_bytes, kp_ats, fz_ats, kp_logs, logR, logE, ← List.map_take, ← List.map_drop, List.take_length, spots_len, beq_self_eq_true] at hs_ hh_; subst hs_; subst hh_
          refine TPar.st rfl (S_pick rfl rfl rfl) ?_
          intro s_ h_ hs_ hh_; simp only [nrm, tev, St.step, putO, setsV, addO, ↓reduceIte, Nat.reduceAdd, logT, atT, intern, internL, kp_ents, fz_ents, fz_bytes, kp_bytes, kp_ats, fz_ats, kp_logs, logR, logE, ← List.map_take, ← List.map_drop, List.take_length, spots_len, beq_self_eq_true] at hs_ hh_; subst hs_; subst hh_
          unfold TPar
          refine TL.nil ?_
          try simp (decide := true) only [thenT, inBlockT, noGotoT, jumpT, ↓reduceIte, true_and]
          refine hK17_ _ ?_
          refine TW.cond_f rfl (rfl) ?_
          refine TW.skip ?_
          try simp (decide := true) only [thenT, inBlockT, noGotoT, jumpT, ↓reduceIte, true_and]
          refine hK8_ _ ?_
          refine TW.reg ?_
          first | refine TL.st rfl (S_int rfl rfl rfl rfl (vi64 (by omega))) ?_ | refine TL.st rfl (S_int rfl rfl rfl rfl (vu64 (by omega))) ?_ | refine TL.st rfl (S_int rfl rfl rfl rfl rfl) ?_
          intro σ_ hσ_; simp only [nrm, tev, St.step, putO, setsV, addO, ↓reduceIte, Nat.reduceAdd, logT, atT, intern, internL, kp_ents, fz_ents, fz_bytes, kp_bytes, kp_ats, fz_ats, kp_logs, logR, logE, ← List.map_take, ← List.map_drop, List.take_length, spots_len, beq_self_eq_true] at hσ_; subst hσ_
          refine TL.st rfl (S_move rfl) ?_
          intro σ_ hσ_; simp only [nrm, tev, St.step, putO, setsV, addO, ↓reduceIte, Nat.reduceAdd, logT, atT, intern, internL, kp_ents, fz_ents, fz_bytes, kp_bytes, kp_ats, fz_ats, kp_logs, logR, logE, ← List.map_take, ← List.map_drop, List.take_length, spots_len, beq_self_eq_true] at hσ_; subst hσ_
          refine TL.nil ?_
          try simp (decide := true) only [thenT, inBlockT, noGotoT, jumpT, ↓reduceIte, true_and]
          refine ⟨(k + 1), by omega, by omega, ?_⟩
          refine SLe.back 0 ?_ ?_ ?_
          · simp [setsL, kpL, kp, low, kpLL, LeL_cons, LeL_nil, LeT_any, LeT_self, LeT_v, LeT_sl, LeT_nil_sl, List.set_cons_zero, List.set_cons_succ, kp_logs]
          · simp [setsL, LB.kp, kpL, kp, low, LeB_self, LeB_nil, kp_logs]
          · simp [kpL, LeL_nil]
        · skip
          refine TW.reg ?_
          first | refine TL.st rfl (S_load rfl rfl rfl (tT rfl) rfl) ?_ | refine TL.st rfl (S_load_eptr rfl rfl (tT rfl) rfl) ?_ | refine TL.st rfl (S_load_row rfl rfl rfl rfl (by assumption) (tT rfl) rfl) ?_ | refine TL.st rfl (S_load_row (j := 0) rfl rfl rfl rfl (by assumption) (tT rfl) rfl) ?_
          intro σ_ hσ_; simp only [nrm, tev, St.step, putO, setsV, addO, ↓reduceIte, Nat.reduceAdd, logT, atT, intern, internL, kp_ents, fz_ents, fz_bytes, kp_bytes, kp_ats, fz_ats, kp_logs, logR, logE, ← List.map_take, ← List.map_drop, List.take_length, spots_len, beq_self_eq_true] at hσ_; subst hσ_
          first | refine TL.st rfl (S_call_row rfl rfl rfl (by kernel_rfl) rfl ((right_T _ _ x.i x.t (fewL x.es) xf.w xf.n9 xok.i0 xok.i1 xok.t0).eq rfl (by rw [hm])) rfl) ?_ | refine TL.st rfl (S_call rfl rfl rfl (by kernel_rfl) rfl ((right_T _ _ x.i x.t (fewL x.es) xf.w xf.n9 xok.i0 xok.i1 xok.t0).eq rfl (by rw [hm]))) ?_
          intro σ_ hσ_; simp only [nrm, tev, St.step, putO, setsV, addO, ↓reduceIte, Nat.reduceAdd, logT, atT, intern, internL, kp_ents, fz_ents, fz_bytes, kp_bytes, kp_ats, fz_ats, kp_logs, logR, logE, ← List.map_take, ← List.map_drop, List.take_length, spots_len, beq_self_eq_true] at hσ_; subst hσ_
          first | refine TL.st rfl (S_not rfl rfl) ?_ | refine TL.st rfl (S_neg rfl rfl) ?_
          intro σ_ hσ_; simp only [nrm, tev, St.step, putO, setsV, addO, ↓reduceIte, Nat.reduceAdd, logT, atT, intern, internL, kp_ents, fz_ents, fz_bytes, kp_bytes, kp_ats, fz_ats, kp_logs, logR, logE, ← List.map_take, ← List.map_drop, List.take_length, spots_len, beq_self_eq_true] at hσ_; subst hσ_
          refine TL.st rfl (S_assign rfl) ?_
          intro σ_ hσ_; simp only [nrm, tev, St.step, putO, setsV, addO, ↓reduceIte, Nat.reduceAdd, logT, atT, intern, internL, kp_ents, fz_ents, fz_bytes, kp_bytes, kp_ats, fz_ats, kp_logs, logR, logE, ← List.map_take, ← List.map_drop, List.take_length, spots_len, beq_self_eq_true] at hσ_; subst hσ_
          refine TL.nil ?_
          try simp (decide := true) only [thenT, inBlockT, noGotoT, jumpT, ↓reduceIte, true_and]
          refine hK16_ _ ?_
          refine TW.cond_f rfl (rfl) ?_
          refine TW.seq_k ?_
          intro K18_ hK18_
          by_cases hgt : (spotN x.i x.t (fewL x.es) (fewL x.es).length).2 > top
          · skip
            have hck : lcheckE x.i x.t (fewL x.es) top = 2 := by simp [lcheckE, hm]; omega
            refine TW.reg ?_
            first | refine TL.st rfl (S_load rfl rfl rfl (tT rfl) rfl) ?_ | refine TL.st rfl (S_load_eptr rfl rfl (tT rfl) rfl) ?_ | refine TL.st rfl (S_load_row rfl rfl rfl rfl (by assumption) (tT rfl) rfl) ?_ | refine TL.st rfl (S_load_row (j := 0) rfl rfl rfl rfl (by assumption) (tT rfl) rfl) ?_
            intro σ_ hσ_; simp only [nrm, tev, St.step, putO, setsV, addO, ↓reduceIte, Nat.reduceAdd, logT, atT, intern, internL, kp_ents, fz_ents, fz_bytes, kp_bytes, kp_ats, fz_ats, kp_logs, logR, logE, ← List.map_take, ← List.map_drop, List.take_length, spots_len, beq_self_eq_true] at hσ_; subst hσ_
            first | refine TL.st rfl (S_call_row rfl rfl rfl (by kernel_rfl) rfl (last6_T _ _ x.i x.t (fewL x.es) xf xok.i0 xok.i1) rfl) ?_ | refine TL.st rfl (S_call rfl rfl rfl (by kernel_rfl) rfl (last6_T _ _ x.i x.t (fewL x.es) xf xok.i0 xok.i1)) ?_
            intro σ_ hσ_; simp only [nrm, tev, St.step, putO, setsV, addO, ↓reduceIte, Nat.reduceAdd, logT, atT, intern, internL, kp_ents, fz_ents, fz_bytes, kp_bytes, kp_ats, fz_ats, kp_logs, logR, logE, ← List.map_take, ← List.map_drop, List.take_length, spots_len, beq_self_eq_true] at hσ_; subst hσ_
            refine TL.st rfl (S_field rfl rfl (tT rfl) rfl rfl (tT rfl) rfl) ?_
            intro σ_ hσ_; simp only [nrm, tev, St.step, putO, setsV, addO, ↓reduceIte, Nat.reduceAdd, logT, atT, intern, internL, kp_ents, fz_ents, fz_bytes, kp_bytes, kp_ats, fz_ats, kp_logs, logR, logE, ← List.map_take, ← List.map_drop, List.take_length, spots_len, beq_self_eq_true] at hσ_; subst hσ_
            refine TL.st rfl (S_move rfl) ?_
            intro σ_ hσ_; simp only [nrm, tev, St.step, putO, setsV, addO, ↓reduceIte, Nat.reduceAdd, logT, atT, intern, internL, kp_ents, fz_ents, fz_bytes, kp_bytes, kp_ats, fz_ats, kp_logs, logR, logE, ← List.map_take, ← List.map_drop, List.take_length, spots_len, beq_self_eq_true] at hσ_; subst hσ_
            first | refine TL.st rfl (S_int rfl rfl rfl rfl (vbt (by omega))) ?_ | refine TL.st rfl (S_int rfl rfl rfl rfl (vbf (by omega))) ?_ | refine TL.st rfl (S_int rfl rfl rfl rfl rfl) ?_
            intro σ_ hσ_; simp only [nrm, tev, St.step, putO, setsV, addO, ↓reduceIte, Nat.reduceAdd, logT, atT, intern, internL, kp_ents, fz_ents, fz_bytes, kp_bytes, kp_ats, fz_ats, kp_logs, logR, logE, ← List.map_take, ← List.map_drop, List.take_length, spots_len, beq_self_eq_true] at hσ_; subst hσ_
            refine TL.st rfl (S_assign rfl) ?_
            intro σ_ hσ_; simp only [nrm, tev, St.step, putO, setsV, addO, ↓reduceIte, Nat.reduceAdd, logT, atT, intern, internL, kp_ents, fz_ents, fz_bytes, kp_bytes, kp_ats, fz_ats, kp_logs, logR, logE, ← List.map_take, ← List.map_drop, List.take_length, spots_len, beq_self_eq_true] at hσ_; subst hσ_
            refine TL.nil ?_
            try simp (decide := true) only [thenT, inBlockT, noGotoT, jumpT, ↓reduceIte, true_and]
            refine hK18_ _ ?_
            refine TW.cond_t rfl (rfl) ?_
            refine TW.reg ?_
            refine TL.st rfl (S_assign rfl) ?_
            intro σ_ hσ_; simp only [nrm, tev, St.step, putO, setsV, addO, ↓reduceIte, Nat.reduceAdd, logT, atT, intern, internL, kp_ents, fz_ents, fz_bytes, kp_bytes, kp_ats, fz_ats, kp_logs, logR, logE, ← List.map_take, ← List.map_drop, List.take_length, spots_len, beq_self_eq_true] at hσ_; subst hσ_
            refine TL.nil ?_
            try simp (decide := true) only [thenT, inBlockT, noGotoT, jumpT, ↓reduceIte, true_and]
            refine hK15_ _ ?_
            refine TW.seq_k ?_
            intro K19_ hK19_
            refine TW.region_par 21 (by kernel_rfl) (by kernel_rfl) ?_
            simp only [List.take_succ_cons, List.take_zero, List.drop_succ_cons, List.drop_zero, List.take_nil, List.drop_nil]
            first | refine TPar.st rfl (S_load rfl rfl rfl (tT rfl) rfl) ?_ | refine TPar.st rfl (S_load_eptr rfl rfl (tT rfl) rfl) ?_ | refine TPar.st rfl (S_load_row rfl rfl rfl rfl (by assumption) (tT rfl) rfl) ?_ | refine TPar.st rfl (S_load_row (j := 0) rfl rfl rfl rfl (by assumption) (tT rfl) rfl) ?_
            intro s_ h_ hs_ hh_; simp only [nrm, tev, St.step, putO, setsV, addO, ↓reduceIte, Nat.reduceAdd, logT, atT, intern, internL, kp_ents, fz_ents, fz_bytes, kp_bytes, kp_ats, fz_ats, kp_logs, logR, logE, ← List.map_take, ← List.map_drop, List.take_length, spots_len, beq_self_eq_true] at hs_ hh_; subst hs_; subst hh_
            refine TPar.st rfl (S_move rfl) ?_
            intro s_ h_ hs_ hh_; simp only [nrm, tev, St.step, putO, setsV, addO, ↓reduceIte, Nat.reduceAdd, logT, atT, intern, internL, kp_ents, fz_ents, fz_bytes, kp_bytes, kp_ats, fz_ats, kp_logs, logR, logE, ← List.map_take, ← List.map_drop, List.take_length, spots_len, beq_self_eq_true] at hs_ hh_; subst hs_; subst hh_
            first | refine TPar.st rfl (S_call_row rfl rfl rfl (by kernel_rfl) rfl ((lcheck_T _ _ x.i x.t (fewL x.es) xf.w xf.n9 xok.i0 xok.i1 top).eq rfl (by rw [hck])) rfl) ?_ | refine TPar.st rfl (S_call rfl rfl rfl (by kernel_rfl) rfl ((lcheck_T _ _ x.i x.t (fewL x.es) xf.w xf.n9 xok.i0 xok.i1 top).eq rfl (by rw [hck]))) ?_
            intro s_ h_ hs_ hh_; simp only [nrm, tev, St.step, putO, setsV, addO, ↓reduceIte, Nat.reduceAdd, logT, atT, intern, internL, kp_ents, fz_ents, fz_bytes, kp_bytes, kp_ats, fz_ats, kp_logs, logR, logE, ← List.map_take, ← List.map_drop, List.take_length, spots_len, beq_self_eq_true] at hs_ hh_; subst hs_; subst hh_
            refine TPar.st rfl (S_move rfl) ?_
            intro s_ h_ hs_ hh_; simp only [nrm, tev, St.step, putO, setsV, addO, ↓reduceIte, Nat.reduceAdd, logT, atT, intern, internL, kp_ents, fz_ents, fz_bytes, kp_bytes, kp_ats, fz_ats, kp_logs, logR, logE, ← List.map_take, ← List.map_drop, List.take_length, spots_len, beq_self_eq_true] at hs_ hh_; subst hs_; subst hh_
            first | refine TPar.st rfl (S_int rfl rfl rfl rfl (vnt (by omega))) ?_ | refine TPar.st rfl (S_int rfl rfl rfl rfl (vnf (by omega))) ?_ | refine TPar.st rfl (S_int rfl rfl rfl rfl rfl) ?_ | refine TPar.st rfl (S_boolneq rfl rfl rfl rfl (tT rfl) rfl) ?_
            intro s_ h_ hs_ hh_; simp only [nrm, tev, St.step, putO, setsV, addO, ↓reduceIte, Nat.reduceAdd, logT, atT, intern, internL, kp_ents, fz_ents, fz_bytes, kp_bytes, kp_ats, fz_ats, kp_logs, logR, logE, ← List.map_take, ← List.map_drop, List.take_length, spots_len, beq_self_eq_true] at hs_ hh_; subst hs_; subst hh_
            refine TPar.st rfl (S_move rfl) ?_
            intro s_ h_ hs_ hh_; simp only [nrm, tev, St.step, putO, setsV, addO, ↓reduceIte, Nat.reduceAdd, logT, atT, intern, internL, kp_ents, fz_ents, fz_bytes, kp_bytes, kp_ats, fz_ats, kp_logs, logR, logE, ← List.map_take, ← List.map_drop, List.take_length, spots_len, beq_self_eq_true] at hs_ hh_; subst hs_; subst hh_
            first | refine TPar.st_g rfl rfl rfl (Nat.le_of_ble_eq_true rfl) rfl (S_load rfl rfl rfl (tT rfl) rfl) ?_ | refine TPar.st_g rfl rfl rfl (Nat.le_of_ble_eq_true rfl) rfl (S_load_eptr rfl rfl (tT rfl) rfl) ?_ | refine TPar.st_g rfl rfl rfl (Nat.le_of_ble_eq_true rfl) rfl (S_load_row rfl rfl rfl rfl (by assumption) (tT rfl) rfl) ?_ | refine TPar.st_g rfl rfl rfl (Nat.le_of_ble_eq_true rfl) rfl (S_load_row (j := 0) rfl rfl rfl rfl (by assumption) (tT rfl) rfl) ?_ | refine TPar.sk_g rfl rfl rfl (Nat.le_of_ble_eq_true rfl) rfl rfl ?_
            intro s_ h_ hs_ hh_; simp only [nrm, tev, St.step, putO, setsV, addO, ↓reduceIte, Nat.reduceAdd, logT, atT, intern, internL, kp_ents, fz_ents, fz_bytes, kp_bytes, kp_ats, fz_ats, kp_logs, logR, logE, ← List.map_take, ← List.map_drop, List.take_length, spots_len, beq_self_eq_true] at hs_ hh_; subst hs_; subst hh_
            first | refine TPar.st_g rfl rfl rfl (Nat.le_of_ble_eq_true rfl) rfl (S_load rfl rfl rfl (tT rfl) rfl) ?_ | refine TPar.st_g rfl rfl rfl (Nat.le_of_ble_eq_true rfl) rfl (S_load_eptr rfl rfl (tT rfl) rfl) ?_ | refine TPar.st_g rfl rfl rfl (Nat.le_of_ble_eq_true rfl) rfl (S_load_row rfl rfl rfl rfl (by assumption) (tT rfl) rfl) ?_ | refine TPar.st_g rfl rfl rfl (Nat.le_of_ble_eq_true rfl) rfl (S_load_row (j := 0) rfl rfl rfl rfl (by assumption) (tT rfl) rfl) ?_ | refine TPar.sk_g rfl rfl rfl (Nat.le_of_ble_eq_true rfl) rfl rfl ?_
            intro s_ h_ hs_ hh_; simp only [nrm, tev, St.step, putO, setsV, addO, ↓reduceIte, Nat.reduceAdd, logT, atT, intern, internL, kp_ents, fz_ents, fz_bytes, kp_bytes, kp_ats, fz_ats, kp_logs, logR, logE, ← List.map_take, ← List.map_drop, List.take_length, spots_len, beq_self_eq_true] at hs_ hh_; subst hs_; subst hh_
            first | refine TPar.st_g rfl rfl rfl (Nat.le_of_ble_eq_true rfl) rfl (S_call_row rfl rfl rfl (by kernel_rfl) rfl (same_T _ _ x.i x.t (fewL x.es) xf _ _ z.i z.t (fewL z.es) zf) rfl) ?_ | refine TPar.st_g rfl rfl rfl (Nat.le_of_ble_eq_true rfl) rfl (S_call rfl rfl rfl (by kernel_rfl) rfl (same_T _ _ x.i x.t (fewL x.es) xf _ _ z.i z.t (fewL z.es) zf)) ?_ | refine TPar.st_g rfl rfl rfl (Nat.le_of_ble_eq_true rfl) rfl (S_call_row rfl rfl rfl (by kernel_rfl) rfl ((same_T _ _ x.i x.t (fewL x.es) xf _ _ x.i x.t (fewL (fewL x.es)) (few_ok xf.w)).eq rfl (by rw [few_few, sameL_self])) rfl) ?_ | refine TPar.st_g rfl rfl rfl (Nat.le_of_ble_eq_true rfl) rfl (S_call rfl rfl rfl (by kernel_rfl) rfl ((same_T _ _ x.i x.t (fewL x.es) xf _ _ x.i x.t (fewL (fewL x.es)) (few_ok xf.w)).eq rfl (by rw [few_few, sameL_self]))) ?_ | refine TPar.sk_g rfl rfl rfl (Nat.le_of_ble_eq_true rfl) rfl rfl ?_
            intro s_ h_ hs_ hh_; simp only [nrm, tev, St.step, putO, setsV, addO, ↓reduceIte, Nat.reduceAdd, logT, atT, intern, internL, kp_ents, fz_ents, fz_bytes, kp_bytes, kp_ats, fz_ats, kp_logs, logR, logE, ← List.map_take, ← List.map_drop, List.take_length, spots_len, beq_self_eq_true] at hs_ hh_; subst hs_; subst hh_
            first | refine TPar.st_g rfl rfl rfl (Nat.le_of_ble_eq_true rfl) rfl (S_load rfl rfl rfl (tT rfl) rfl) ?_ | refine TPar.st_g rfl rfl rfl (Nat.le_of_ble_eq_true rfl) rfl (S_load_eptr rfl rfl (tT rfl) rfl) ?_ | refine TPar.st_g rfl rfl rfl (Nat.le_of_ble_eq_true rfl) rfl (S_load_row rfl rfl rfl rfl (by assumption) (tT rfl) rfl) ?_ | refine TPar.st_g rfl rfl rfl (Nat.le_of_ble_eq_true rfl) rfl (S_load_row (j := 0) rfl rfl rfl rfl (by assumption) (tT rfl) rfl) ?_ | refine TPar.sk_g rfl rfl rfl (Nat.le_of_ble_eq_true rfl) rfl rfl ?_
            intro s_ h_ hs_ hh_; simp only [nrm, tev, St.step, putO, setsV, addO, ↓reduceIte, Nat.reduceAdd, logT, atT, intern, internL, kp_ents, fz_ents, fz_bytes, kp_bytes, kp_ats, fz_ats, kp_logs, logR, logE, ← List.map_take, ← List.map_drop, List.take_length, spots_len, beq_self_eq_true] at hs_ hh_; subst hs_; subst hh_
            first | refine TPar.st_g rfl rfl rfl (Nat.le_of_ble_eq_true rfl) rfl (S_load rfl rfl rfl (tT rfl) rfl) ?_ | refine TPar.st_g rfl rfl rfl (Nat.le_of_ble_eq_true rfl) rfl (S_load_eptr rfl rfl (tT rfl) rfl) ?_ | refine TPar.st_g rfl rfl rfl (Nat.le_of_ble_eq_true rfl) rfl (S_load_row rfl rfl rfl rfl (by assumption) (tT rfl) rfl) ?_ | refine TPar.st_g rfl rfl rfl (Nat.le_of_ble_eq_true rfl) rfl (S_load_row (j := 0) rfl rfl rfl rfl (by assumption) (tT rfl) rfl) ?_ | refine TPar.sk_g rfl rfl rfl (Nat.le_of_ble_eq_true rfl) rfl rfl ?_
            intro s_ h_ hs_ hh_; simp only [nrm, tev, St.step, putO, setsV, addO, ↓reduceIte, Nat.reduceAdd, logT, atT, intern, internL, kp_ents, fz_ents, fz_bytes, kp_bytes, kp_ats, fz_ats, kp_logs, logR, logE, ← List.map_take, ← List.map_drop, List.take_length, spots_len, beq_self_eq_true] at hs_ hh_; subst hs_; subst hh_
            first | refine TPar.st_g rfl rfl rfl (Nat.le_of_ble_eq_true rfl) rfl (S_call_row rfl rfl rfl (by kernel_rfl) rfl (same6_T _ _ x.i x.t (fewL x.es) xf _ _ z.i z.t (fewL z.es) zf) rfl) ?_ | refine TPar.st_g rfl rfl rfl (Nat.le_of_ble_eq_true rfl) rfl (S_call rfl rfl rfl (by kernel_rfl) rfl (same6_T _ _ x.i x.t (fewL x.es) xf _ _ z.i z.t (fewL z.es) zf)) ?_ | refine TPar.sk_g rfl rfl rfl (Nat.le_of_ble_eq_true rfl) rfl rfl ?_
            intro s_ h_ hs_ hh_; simp only [nrm, tev, St.step, putO, setsV, addO, ↓reduceIte, Nat.reduceAdd, logT, atT, intern, internL, kp_ents, fz_ents, fz_bytes, kp_bytes, kp_ats, fz_ats, kp_logs, logR, logE, ← List.map_take, ← List.map_drop, List.take_length, spots_len, beq_self_eq_true] at hs_ hh_; subst hs_; subst hh_
            first | refine TPar.st_g rfl rfl rfl (Nat.le_of_ble_eq_true rfl) rfl (S_int rfl rfl rfl rfl (vnt (by omega))) ?_ | refine TPar.st_g rfl rfl rfl (Nat.le_of_ble_eq_true rfl) rfl (S_int rfl rfl rfl rfl (vnf (by omega))) ?_ | refine TPar.st_g rfl rfl rfl (Nat.le_of_ble_eq_true rfl) rfl (S_int rfl rfl rfl rfl rfl) ?_ | refine TPar.st_g rfl rfl rfl (Nat.le_of_ble_eq_true rfl) rfl (S_boolneq rfl rfl rfl rfl (tT rfl) rfl) ?_ | refine TPar.sk_g rfl rfl rfl (Nat.le_of_ble_eq_true rfl) rfl rfl ?_
            intro s_ h_ hs_ hh_; simp only [nrm, tev, St.step, putO, setsV, addO, ↓reduceIte, Nat.reduceAdd, logT, atT, intern, internL, kp_ents, fz_ents, fz_bytes, kp_bytes, kp_ats, fz_ats, kp_logs, logR, logE, ← List.map_take, ← List.map_drop, List.take_length, spots_len, beq_self_eq_true] at hs_ hh_; subst hs_; subst hh_
            refine TPar.st rfl (S_pick rfl rfl rfl) ?_
            intro s_ h_ hs_ hh_; simp only [nrm, tev, St.step, putO, setsV, addO, ↓reduceIte, Nat.reduceAdd, logT, atT, intern, internL, kp_ents, fz_ents, fz_bytes, kp_bytes, kp_ats, fz_ats, kp_logs, logR, logE, ← List.map_take, ← List.map_drop, List.take_length, spots_len, beq_self_eq_true] at hs_ hh_; subst hs_; subst hh_
            refine TPar.st rfl (S_move rfl) ?_
            intro s_ h_ hs_ hh_; simp only [nrm, tev, St.step, putO, setsV, addO, ↓reduceIte, Nat.reduceAdd, logT, atT, intern, internL, kp_ents, fz_ents, fz_bytes, kp_bytes, kp_ats, fz_ats, kp_logs, logR, logE, ← List.map_take, ← List.map_drop, List.take_length, spots_len, beq_self_eq_true] at hs_ hh_; subst hs_; subst hh_
            first | refine TPar.st_g rfl rfl rfl (Nat.le_of_ble_eq_true rfl) rfl (S_load rfl rfl rfl (tT rfl) rfl) ?_ | refine TPar.st_g rfl rfl rfl (Nat.le_of_ble_eq_true rfl) rfl (S_load_eptr rfl rfl (tT rfl) rfl) ?_ | refine TPar.st_g rfl rfl rfl (Nat.le_of_ble_eq_true rfl) rfl (S_load_row rfl rfl rfl rfl (by assumption) (tT rfl) rfl) ?_ | refine TPar.st_g rfl rfl rfl (Nat.le_of_ble_eq_true rfl) rfl (S_load_row (j := 0) rfl rfl rfl rfl (by assumption) (tT rfl) rfl) ?_ | refine TPar.sk_g rfl rfl rfl (Nat.le_of_ble_eq_true rfl) rfl rfl ?_
            intro s_ h_ hs_ hh_; simp only [nrm, tev, St.step, putO, setsV, addO, ↓reduceIte, Nat.reduceAdd, logT, atT, intern, internL, kp_ents, fz_ents, fz_bytes, kp_bytes, kp_ats, fz_ats, kp_logs, logR, logE, ← List.map_take, ← List.map_drop, List.take_length, spots_len, beq_self_eq_true] at hs_ hh_; subst hs_; subst hh_
            first | refine TPar.st_g rfl rfl rfl (Nat.le_of_ble_eq_true rfl) rfl (S_load rfl rfl rfl (tT rfl) rfl) ?_ | refine TPar.st_g rfl rfl rfl (Nat.le_of_ble_eq_true rfl) rfl (S_load_eptr rfl rfl (tT rfl) rfl) ?_ | refine TPar.st_g rfl rfl rfl (Nat.le_of_ble_eq_true rfl) rfl (S_load_row rfl rfl rfl rfl (by assumption) (tT rfl) rfl) ?_ | refine TPar.st_g rfl rfl rfl (Nat.le_of_ble_eq_true rfl) rfl (S_load_row (j := 0) rfl rfl rfl rfl (by assumption) (tT rfl) rfl) ?_ | refine TPar.sk_g rfl rfl rfl (Nat.le_of_ble_eq_true rfl) rfl rfl ?_
            intro s_ h_ hs_ hh_; simp only [nrm, tev, St.step, putO, setsV, addO, ↓reduceIte, Nat.reduceAdd, logT, atT, intern, internL, kp_ents, fz_ents, fz_bytes, kp_bytes, kp_ats, fz_ats, kp_logs, logR, logE, ← List.map_take, ← List.map_drop, List.take_length, spots_len, beq_self_eq_true] at hs_ hh_; subst hs_; subst hh_
            first | refine TPar.st_g rfl rfl rfl (Nat.le_of_ble_eq_true rfl) rfl (S_call_row rfl rfl rfl (by kernel_rfl) rfl (own_T _ _ x.i x.t x.es xok.n) rfl) ?_ | refine TPar.st_g rfl rfl rfl (Nat.le_of_ble_eq_true rfl) rfl (S_call rfl rfl rfl (by kernel_rfl) rfl (own_T _ _ x.i x.t x.es xok.n)) ?_ | refine TPar.st_g rfl rfl rfl (Nat.le_of_ble_eq_true rfl) rfl (S_call_row rfl rfl rfl (by kernel_rfl) rfl (own_T _ _ z.i z.t z.es zok.n) rfl) ?_ | refine TPar.st_g rfl rfl rfl (Nat.le_of_ble_eq_true rfl) rfl (S_call rfl rfl rfl (by kernel_rfl) rfl (own_T _ _ z.i z.t z.es zok.n)) ?_ | refine TPar.st_g rfl rfl rfl (Nat.le_of_ble_eq_true rfl) rfl (S_call_row rfl rfl rfl (by kernel_rfl) rfl (own_T _ _ x.i x.t (fewL x.es) (by have := xf.n; omega)) rfl) ?_ | refine TPar.st_g rfl rfl rfl (Nat.le_of_ble_eq_true rfl) rfl (S_call rfl rfl rfl (by kernel_rfl) rfl (own_T _ _ x.i x.t (fewL x.es) (by have := xf.n; omega))) ?_ | refine TPar.sk_g rfl rfl rfl (Nat.le_of_ble_eq_true rfl) rfl rfl ?_
            intro s_ h_ hs_ hh_; simp only [nrm, tev, St.step, putO, setsV, addO, ↓reduceIte, Nat.reduceAdd, logT, atT, intern, internL, kp_ents, fz_ents, fz_bytes, kp_bytes, kp_ats, fz_ats, kp_logs, logR, logE, ← List.map_take, ← List.map_drop, List.take_length, spots_len, beq_self_eq_true] at hs_ hh_; subst hs_; subst hh_
            first | refine TPar.st_g rfl rfl rfl (Nat.le_of_ble_eq_true rfl) rfl (S_call_row rfl rfl rfl (by kernel_rfl) rfl (same_T _ _ x.i x.t (fewL x.es) xf _ _ z.i z.t (fewL z.es) zf) rfl) ?_ | refine TPar.st_g rfl rfl rfl (Nat.le_of_ble_eq_true rfl) rfl (S_call rfl rfl rfl (by kernel_rfl) rfl (same_T _ _ x.i x.t (fewL x.es) xf _ _ z.i z.t (fewL z.es) zf)) ?_ | refine TPar.st_g rfl rfl rfl (Nat.le_of_ble_eq_true rfl) rfl (S_call_row rfl rfl rfl (by kernel_rfl) rfl ((same_T _ _ x.i x.t (fewL x.es) xf _ _ x.i x.t (fewL (fewL x.es)) (few_ok xf.w)).eq rfl (by rw [few_few, sameL_self])) rfl) ?_ | refine TPar.st_g rfl rfl rfl (Nat.le_of_ble_eq_true rfl) rfl (S_call rfl rfl rfl (by kernel_rfl) rfl ((same_T _ _ x.i x.t (fewL x.es) xf _ _ x.i x.t (fewL (fewL x.es)) (few_ok xf.w)).eq rfl (by rw [few_few, sameL_self]))) ?_ | refine TPar.sk_g rfl rfl rfl (Nat.le_of_ble_eq_true rfl) rfl rfl ?_
            intro s_ h_ hs_ hh_; simp only [nrm, tev, St.step, putO, setsV, addO, ↓reduceIte, Nat.reduceAdd, logT, atT, intern, internL, kp_ents, fz_ents, fz_bytes, kp_bytes, kp_ats, fz_ats, kp_logs, logR, logE, ← List.map_take, ← List.map_drop, List.take_length, spots_len, beq_self_eq_true] at hs_ hh_; subst hs_; subst hh_
            first | refine TPar.st_g rfl rfl rfl (Nat.le_of_ble_eq_true rfl) rfl (S_not rfl rfl) ?_ | refine TPar.st_g rfl rfl rfl (Nat.le_of_ble_eq_true rfl) rfl (S_neg rfl rfl) ?_ | refine TPar.sk_g rfl rfl rfl (Nat.le_of_ble_eq_true rfl) rfl rfl ?_
            intro s_ h_ hs_ hh_; simp only [nrm, tev, St.step, putO, setsV, addO, ↓reduceIte, Nat.reduceAdd, logT, atT, intern, internL, kp_ents, fz_ents, fz_bytes, kp_bytes, kp_ats, fz_ats, kp_logs, logR, logE, ← List.map_take, ← List.map_drop, List.take_length, spots_len, beq_self_eq_true] at hs_ hh_; subst hs_; subst hh_
            refine TPar.st rfl (S_pick rfl rfl rfl) ?_
            intro s_ h_ hs_ hh_; simp only [nrm, tev, St.step, putO, setsV, addO, ↓reduceIte, Nat.reduceAdd, logT, atT, intern, internL, kp_ents, fz_ents, fz_bytes, kp_bytes, kp_ats, fz_ats, kp_logs, logR, logE, ← List.map_take, ← List.map_drop, List.take_length, spots_len, beq_self_eq_true] at hs_ hh_; subst hs_; subst hh_
            unfold TPar
            refine TL.nil ?_
            try simp (decide := true) only [thenT, inBlockT, noGotoT, jumpT, ↓reduceIte, true_and]
            refine hK19_ _ ?_
            refine TW.cond_f rfl (rfl) ?_
            refine TW.skip ?_
            try simp (decide := true) only [thenT, inBlockT, noGotoT, jumpT, ↓reduceIte, true_and]
            refine hK8_ _ ?_
            refine TW.reg ?_
            first | refine TL.st rfl (S_int rfl rfl rfl rfl (vi64 (by omega))) ?_ | refine TL.st rfl (S_int rfl rfl rfl rfl (vu64 (by omega))) ?_ | refine TL.st rfl (S_int rfl rfl rfl rfl rfl) ?_
            intro σ_ hσ_; simp only [nrm, tev, St.step, putO, setsV, addO, ↓reduceIte, Nat.reduceAdd, logT, atT, intern, internL, kp_ents, fz_ents, fz_bytes, kp_bytes, kp_ats, fz_ats, kp_logs, logR, logE, ← List.map_take, ← List.map_drop, List.take_length, spots_len, beq_self_eq_true] at hσ_; subst hσ_
            refine TL.st rfl (S_move rfl) ?_
            intro σ_ hσ_; simp only [nrm, tev, St.step, putO, setsV, addO, ↓reduceIte, Nat.reduceAdd, logT, atT, intern, internL, kp_ents, fz_ents, fz_bytes, kp_bytes, kp_ats, fz_ats, kp_logs, logR, logE, ← List.map_take, ← List.map_drop, List.take_length, spots_len, beq_self_eq_true] at hσ_; subst hσ_
            refine TL.nil ?_
            try simp (decide := true) only [thenT, inBlockT, noGotoT, jumpT, ↓reduceIte, true_and]
            refine ⟨(k + 1), by omega, by omega, ?_⟩
            refine SLe.back 0 ?_ ?_ ?_
            · simp [setsL, kpL, kp, low, kpLL, LeL_cons, LeL_nil, LeT_any, LeT_self, LeT_v, LeT_sl, LeT_nil_sl, List.set_cons_zero, List.set_cons_succ, kp_logs]
            · simp [setsL, LB.kp, kpL, kp, low, LeB_self, LeB_nil, kp_logs]
            · simp [kpL, LeL_nil]
          · skip
            have hck : lcheckE x.i x.t (fewL x.es) top = 0 := by simp [lcheckE, hm]; omega
            refine TW.reg ?_
            first | refine TL.st rfl (S_load rfl rfl rfl (tT rfl) rfl) ?_ | refine TL.st rfl (S_load_eptr rfl rfl (tT rfl) rfl) ?_ | refine TL.st rfl (S_load_row rfl rfl rfl rfl (by assumption) (tT rfl) rfl) ?_ | refine TL.st rfl (S_load_row (j := 0) rfl rfl rfl rfl (by assumption) (tT rfl) rfl) ?_
            intro σ_ hσ_; simp only [nrm, tev, St.step, putO, setsV, addO, ↓reduceIte, Nat.reduceAdd, logT, atT, intern, internL, kp_ents, fz_ents, fz_bytes, kp_bytes, kp_ats, fz_ats, kp_logs, logR, logE, ← List.map_take, ← List.map_drop, List.take_length, spots_len, beq_self_eq_true] at hσ_; subst hσ_
            first | refine TL.st rfl (S_call_row rfl rfl rfl (by kernel_rfl) rfl (last6_T _ _ x.i x.t (fewL x.es) xf xok.i0 xok.i1) rfl) ?_ | refine TL.st rfl (S_call rfl rfl rfl (by kernel_rfl) rfl (last6_T _ _ x.i x.t (fewL x.es) xf xok.i0 xok.i1)) ?_
            intro σ_ hσ_; simp only [nrm, tev, St.step, putO, setsV, addO, ↓reduceIte, Nat.reduceAdd, logT, atT, intern, internL, kp_ents, fz_ents, fz_bytes, kp_bytes, kp_ats, fz_ats, kp_logs, logR, logE, ← List.map_take, ← List.map_drop, List.take_length, spots_len, beq_self_eq_true] at hσ_; subst hσ_
            refine TL.st rfl (S_field rfl rfl (tT rfl) rfl rfl (tT rfl) rfl) ?_
            intro σ_ hσ_; simp only [nrm, tev, St.step, putO, setsV, addO, ↓reduceIte, Nat.reduceAdd, logT, atT, intern, internL, kp_ents, fz_ents, fz_bytes, kp_bytes, kp_ats, fz_ats, kp_logs, logR, logE, ← List.map_take, ← List.map_drop, List.take_length, spots_len, beq_self_eq_true] at hσ_; subst hσ_
            refine TL.st rfl (S_move rfl) ?_
            intro σ_ hσ_; simp only [nrm, tev, St.step, putO, setsV, addO, ↓reduceIte, Nat.reduceAdd, logT, atT, intern, internL, kp_ents, fz_ents, fz_bytes, kp_bytes, kp_ats, fz_ats, kp_logs, logR, logE, ← List.map_take, ← List.map_drop, List.take_length, spots_len, beq_self_eq_true] at hσ_; subst hσ_
            first | refine TL.st rfl (S_int rfl rfl rfl rfl (vbt (by omega))) ?_ | refine TL.st rfl (S_int rfl rfl rfl rfl (vbf (by omega))) ?_ | refine TL.st rfl (S_int rfl rfl rfl rfl rfl) ?_
            intro σ_ hσ_; simp only [nrm, tev, St.step, putO, setsV, addO, ↓reduceIte, Nat.reduceAdd, logT, atT, intern, internL, kp_ents, fz_ents, fz_bytes, kp_bytes, kp_ats, fz_ats, kp_logs, logR, logE, ← List.map_take, ← List.map_drop, List.take_length, spots_len, beq_self_eq_true] at hσ_; subst hσ_
            refine TL.st rfl (S_assign rfl) ?_
            intro σ_ hσ_; simp only [nrm, tev, St.step, putO, setsV, addO, ↓reduceIte, Nat.reduceAdd, logT, atT, intern, internL, kp_ents, fz_ents, fz_bytes, kp_bytes, kp_ats, fz_ats, kp_logs, logR, logE, ← List.map_take, ← List.map_drop, List.take_length, spots_len, beq_self_eq_true] at hσ_; subst hσ_
            refine TL.nil ?_
            try simp (decide := true) only [thenT, inBlockT, noGotoT, jumpT, ↓reduceIte, true_and]
            refine hK18_ _ ?_
            refine TW.cond_f rfl (rfl) ?_
            refine TW.skip ?_
            try simp (decide := true) only [thenT, inBlockT, noGotoT, jumpT, ↓reduceIte, true_and]
            refine hK15_ _ ?_
            refine TW.seq_k ?_
            intro K20_ hK20_
            refine TW.region_par 21 (by kernel_rfl) (by kernel_rfl) ?_
            simp only [List.take_succ_cons, List.take_zero, List.drop_succ_cons, List.drop_zero, List.take_nil, List.drop_nil]
            first | refine TPar.st rfl (S_load rfl rfl rfl (tT rfl) rfl) ?_ | refine TPar.st rfl (S_load_eptr rfl rfl (tT rfl) rfl) ?_ | refine TPar.st rfl (S_load_row rfl rfl rfl rfl (by assumption) (tT rfl) rfl) ?_ | refine TPar.st rfl (S_load_row (j := 0) rfl rfl rfl rfl (by assumption) (tT rfl) rfl) ?_
            intro s_ h_ hs_ hh_; simp only [nrm, tev, St.step, putO, setsV, addO, ↓reduceIte, Nat.reduceAdd, logT, atT, intern, internL, kp_ents, fz_ents, fz_bytes, kp_bytes, kp_ats, fz_ats, kp_logs, logR, logE, ← List.map_take, ← List.map_drop, List.take_length, spots_len, beq_self_eq_true] at hs_ hh_; subst hs_; subst hh_
            refine TPar.st rfl (S_move rfl) ?_
            intro s_ h_ hs_ hh_; simp only [nrm, tev, St.step, putO, setsV, addO, ↓reduceIte, Nat.reduceAdd, logT, atT, intern, internL, kp_ents, fz_ents, fz_bytes, kp_bytes, kp_ats, fz_ats, kp_logs, logR, logE, ← List.map_take, ← List.map_drop, List.take_length, spots_len, beq_self_eq_true] at hs_ hh_; subst hs_; subst hh_
            first | refine TPar.st rfl (S_call_row rfl rfl rfl (by kernel_rfl) rfl ((lcheck_T _ _ x.i x.t (fewL x.es) xf.w xf.n9 xok.i0 xok.i1 top).eq rfl (by rw [hck])) rfl) ?_ | refine TPar.st rfl (S_call rfl rfl rfl (by kernel_rfl) rfl ((lcheck_T _ _ x.i x.t (fewL x.es) xf.w xf.n9 xok.i0 xok.i1 top).eq rfl (by rw [hck]))) ?_
            intro s_ h_ hs_ hh_; simp only [nrm, tev, St.step, putO, setsV, addO, ↓reduceIte, Nat.reduceAdd, logT, atT, intern, internL, kp_ents, fz_ents, fz_bytes, kp_bytes, kp_ats, fz_ats, kp_logs, logR, logE, ← List.map_take, ← List.map_drop, List.take_length, spots_len, beq_self_eq_true] at hs_ hh_; subst hs_; subst hh_
            refine TPar.st rfl (S_move rfl) ?_
            intro s_ h_ hs_ hh_; simp only [nrm, tev, St.step, putO, setsV, addO, ↓reduceIte, Nat.reduceAdd, logT, atT, intern, internL, kp_ents, fz_ents, fz_bytes, kp_bytes, kp_ats, fz_ats, kp_logs, logR, logE, ← List.map_take, ← List.map_drop, List.take_length, spots_len, beq_self_eq_true] at hs_ hh_; subst hs_; subst hh_
            first | refine TPar.st rfl (S_int rfl rfl rfl rfl (vnt (by omega))) ?_ | refine TPar.st rfl (S_int rfl rfl rfl rfl (vnf (by omega))) ?_ | refine TPar.st rfl (S_int rfl rfl rfl rfl rfl) ?_ | refine TPar.st rfl (S_boolneq rfl rfl rfl rfl (tT rfl) rfl) ?_
            intro s_ h_ hs_ hh_; simp only [nrm, tev, St.step, putO, setsV, addO, ↓reduceIte, Nat.reduceAdd, logT, atT, intern, internL, kp_ents, fz_ents, fz_bytes, kp_bytes, kp_ats, fz_ats, kp_logs, logR, logE, ← List.map_take, ← List.map_drop, List.take_length, spots_len, beq_self_eq_true] at hs_ hh_; subst hs_; subst hh_
            refine TPar.st rfl (S_move rfl) ?_
            intro s_ h_ hs_ hh_; simp only [nrm, tev, St.step, putO, setsV, addO, ↓reduceIte, Nat.reduceAdd, logT, atT, intern, internL, kp_ents, fz_ents, fz_bytes, kp_bytes, kp_ats, fz_ats, kp_logs, logR, logE, ← List.map_take, ← List.map_drop, List.take_length, spots_len, beq_self_eq_true] at hs_ hh_; subst hs_; subst hh_
            first | refine TPar.st_g rfl rfl rfl (Nat.le_of_ble_eq_true rfl) rfl (S_load rfl rfl rfl (tT rfl) rfl) ?_ | refine TPar.st_g rfl rfl rfl (Nat.le_of_ble_eq_true rfl) rfl (S_load_eptr rfl rfl (tT rfl) rfl) ?_ | refine TPar.st_g rfl rfl rfl (Nat.le_of_ble_eq_true rfl) rfl (S_load_row rfl rfl rfl rfl (by assumption) (tT rfl) rfl) ?_ | refine TPar.st_g rfl rfl rfl (Nat.le_of_ble_eq_true rfl) rfl (S_load_row (j := 0) rfl rfl rfl rfl (by assumption) (tT rfl) rfl) ?_ | refine TPar.sk_g rfl rfl rfl (Nat.le_of_ble_eq_true rfl) rfl rfl ?_
            intro s_ h_ hs_ hh_; simp only [nrm, tev, St.step, putO, setsV, addO, ↓reduceIte, Nat.reduceAdd, logT, atT, intern, internL, kp_ents, fz_ents, fz_bytes, kp_bytes, kp_ats, fz_ats, kp_logs, logR, logE, ← List.map_take, ← List.map_drop, List.take_length, spots_len, beq_self_eq_true] at hs_ hh_; subst hs_; subst hh_
            first | refine TPar.st_g rfl rfl rfl (Nat.le_of_ble_eq_true rfl) rfl (S_load rfl rfl rfl (tT rfl) rfl) ?_ | refine TPar.st_g rfl rfl rfl (Nat.le_of_ble_eq_true rfl) rfl (S_load_eptr rfl rfl (tT rfl) rfl) ?_ | refine TPar.st_g rfl rfl rfl (Nat.le_of_ble_eq_true rfl) rfl (S_load_row rfl rfl rfl rfl (by assumption) (tT rfl) rfl) ?_ | refine TPar.st_g rfl rfl rfl (Nat.le_of_ble_eq_true rfl) rfl (S_load_row (j := 0) rfl rfl rfl rfl (by assumption) (tT rfl) rfl) ?_ | refine TPar.sk_g rfl rfl rfl (Nat.le_of_ble_eq_true rfl) rfl rfl ?_
            intro s_ h_ hs_ hh_; simp only [nrm, tev, St.step, putO, setsV, addO, ↓reduceIte, Nat.reduceAdd, logT, atT, intern, internL, kp_ents, fz_ents, fz_bytes, kp_bytes, kp_ats, fz_ats, kp_logs, logR, logE, ← List.map_take, ← List.map_drop, List.take_length, spots_len, beq_self_eq_true] at hs_ hh_; subst hs_; subst hh_
            first | refine TPar.st_g rfl rfl rfl (Nat.le_of_ble_eq_true rfl) rfl (S_call_row rfl rfl rfl (by kernel_rfl) rfl (same_T _ _ x.i x.t (fewL x.es) xf _ _ z.i z.t (fewL z.es) zf) rfl) ?_ | refine TPar.st_g rfl rfl rfl (Nat.le_of_ble_eq_true rfl) rfl (S_call rfl rfl rfl (by kernel_rfl) rfl (same_T _ _ x.i x.t (fewL x.es) xf _ _ z.i z.t (fewL z.es) zf)) ?_ | refine TPar.st_g rfl rfl rfl (Nat.le_of_ble_eq_true rfl) rfl (S_call_row rfl rfl rfl (by kernel_rfl) rfl ((same_T _ _ x.i x.t (fewL x.es) xf _ _ x.i x.t (fewL (fewL x.es)) (few_ok xf.w)).eq rfl (by rw [few_few, sameL_self])) rfl) ?_ | refine TPar.st_g rfl rfl rfl (Nat.le_of_ble_eq_true rfl) rfl (S_call rfl rfl rfl (by kernel_rfl) rfl ((same_T _ _ x.i x.t (fewL x.es) xf _ _ x.i x.t (fewL (fewL x.es)) (few_ok xf.w)).eq rfl (by rw [few_few, sameL_self]))) ?_ | refine TPar.sk_g rfl rfl rfl (Nat.le_of_ble_eq_true rfl) rfl rfl ?_
            intro s_ h_ hs_ hh_; simp only [nrm, tev, St.step, putO, setsV, addO, ↓reduceIte, Nat.reduceAdd, logT, atT, intern, internL, kp_ents, fz_ents, fz_bytes, kp_bytes, kp_ats, fz_ats, kp_logs, logR, logE, ← List.map_take, ← List.map_drop, List.take_length, spots_len, beq_self_eq_true] at hs_ hh_; subst hs_; subst hh_
            first | refine TPar.st_g rfl rfl rfl (Nat.le_of_ble_eq_true rfl) rfl (S_load rfl rfl rfl (tT rfl) rfl) ?_ | refine TPar.st_g rfl rfl rfl (Nat.le_of_ble_eq_true rfl) rfl (S_load_eptr rfl rfl (tT rfl) rfl) ?_ | refine TPar.st_g rfl rfl rfl (Nat.le_of_ble_eq_true rfl) rfl (S_load_row rfl rfl rfl rfl (by assumption) (tT rfl) rfl) ?_ | refine TPar.st_g rfl rfl rfl (Nat.le_of_ble_eq_true rfl) rfl (S_load_row (j := 0) rfl rfl rfl rfl (by assumption) (tT rfl) rfl) ?_ | refine TPar.sk_g rfl rfl rfl (Nat.le_of_ble_eq_true rfl) rfl rfl ?_
            intro s_ h_ hs_ hh_; simp only [nrm, tev, St.step, putO, setsV, addO, ↓reduceIte, Nat.reduceAdd, logT, atT, intern, internL, kp_ents, fz_ents, fz_bytes, kp_bytes, kp_ats, fz_ats, kp_logs, logR, logE, ← List.map_take, ← List.map_drop, List.take_length, spots_len, beq_self_eq_true] at hs_ hh_; subst hs_; subst hh_
            first | refine TPar.st_g rfl rfl rfl (Nat.le_of_ble_eq_true rfl) rfl (S_load rfl rfl rfl (tT rfl) rfl) ?_ | refine TPar.st_g rfl rfl rfl (Nat.le_of_ble_eq_true rfl) rfl (S_load_eptr rfl rfl (tT rfl) rfl) ?_ | refine TPar.st_g rfl rfl rfl (Nat.le_of_ble_eq_true rfl) rfl (S_load_row rfl rfl rfl rfl (by assumption) (tT rfl) rfl) ?_ | refine TPar.st_g rfl rfl rfl (Nat.le_of_ble_eq_true rfl) rfl (S_load_row (j := 0) rfl rfl rfl rfl (by assumption) (tT rfl) rfl) ?_ | refine TPar.sk_g rfl rfl rfl (Nat.le_of_ble_eq_true rfl) rfl rfl ?_
            intro s_ h_ hs_ hh_; simp only [nrm, tev, St.step, putO, setsV, addO, ↓reduceIte, Nat.reduceAdd, logT, atT, intern, internL, kp_ents, fz_ents, fz_bytes, kp_bytes, kp_ats, fz_ats, kp_logs, logR, logE, ← List.map_take, ← List.map_drop, List.take_length, spots_len, beq_self_eq_true] at hs_ hh_; subst hs_; subst hh_
            first | refine TPar.st_g rfl rfl rfl (Nat.le_of_ble_eq_true rfl) rfl (S_call_row rfl rfl rfl (by kernel_rfl) rfl (same6_T _ _ x.i x.t (fewL x.es) xf _ _ z.i z.t (fewL z.es) zf) rfl) ?_ | refine TPar.st_g rfl rfl rfl (Nat.le_of_ble_eq_true rfl) rfl (S_call rfl rfl rfl (by kernel_rfl) rfl (same6_T _ _ x.i x.t (fewL x.es) xf _ _ z.i z.t (fewL z.es) zf)) ?_ | refine TPar.sk_g rfl rfl rfl (Nat.le_of_ble_eq_true rfl) rfl rfl ?_
            intro s_ h_ hs_ hh_; simp only [nrm, tev, St.step, putO, setsV, addO, ↓reduceIte, Nat.reduceAdd, logT, atT, intern, internL, kp_ents, fz_ents, fz_bytes, kp_bytes, kp_ats, fz_ats, kp_logs, logR, logE, ← List.map_take, ← List.map_drop, List.take_length, spots_len, beq_self_eq_true] at hs_ hh_; subst hs_; subst hh_
            first | refine TPar.st_g rfl rfl rfl (Nat.le_of_ble_eq_true rfl) rfl (S_int rfl rfl rfl rfl (vnt (by omega))) ?_ | refine TPar.st_g rfl rfl rfl (Nat.le_of_ble_eq_true rfl) rfl (S_int rfl rfl rfl rfl (vnf (by omega))) ?_ | refine TPar.st_g rfl rfl rfl (Nat.le_of_ble_eq_true rfl) rfl (S_int rfl rfl rfl rfl rfl) ?_ | refine TPar.st_g rfl rfl rfl (Nat.le_of_ble_eq_true rfl) rfl (S_boolneq rfl rfl rfl rfl (tT rfl) rfl) ?_ | refine TPar.sk_g rfl rfl rfl (Nat.le_of_ble_eq_true rfl) rfl rfl ?_
            intro s_ h_ hs_ hh_; simp only [nrm, tev, St.step, putO, setsV, addO, ↓reduceIte, Nat.reduceAdd, logT, atT, intern, internL, kp_ents, fz_ents, fz_bytes, kp_bytes, kp_ats, fz_ats, kp_logs, logR, logE, ← List.map_take, ← List.map_drop, List.take_length, spots_len, beq_self_eq_true] at hs_ hh_; subst hs_; subst hh_
            refine TPar.st rfl (S_pick rfl rfl rfl) ?_
            intro s_ h_ hs_ hh_; simp only [nrm, tev, St.step, putO, setsV, addO, ↓reduceIte, Nat.reduceAdd, logT, atT, intern, internL, kp_ents, fz_ents, fz_bytes, kp_bytes, kp_ats, fz_ats, kp_logs, logR, logE, ← List.map_take, ← List.map_drop, List.take_length, spots_len, beq_self_eq_true] at hs_ hh_; subst hs_; subst hh_
            refine TPar.st rfl (S_move rfl) ?_
            intro s_ h_ hs_ hh_; simp only [nrm, tev, St.step, putO, setsV, addO, ↓reduceIte, Nat.reduceAdd, logT, atT, intern, internL, kp_ents, fz_ents, fz_bytes, kp_bytes, kp_ats, fz_ats, kp_logs, logR, logE, ← List.map_take, ← List.map_drop, List.take_length, spots_len, beq_self_eq_true] at hs_ hh_; subst hs_; subst hh_
            first | refine TPar.st_g rfl rfl rfl (Nat.le_of_ble_eq_true rfl) rfl (S_load rfl rfl rfl (tT rfl) rfl) ?_ | refine TPar.st_g rfl rfl rfl (Nat.le_of_ble_eq_true rfl) rfl (S_load_eptr rfl rfl (tT rfl) rfl) ?_ | refine TPar.st_g rfl rfl rfl (Nat.le_of_ble_eq_true rfl) rfl (S_load_row rfl rfl rfl rfl (by assumption) (tT rfl) rfl) ?_ | refine TPar.st_g rfl rfl rfl (Nat.le_of_ble_eq_true rfl) rfl (S_load_row (j := 0) rfl rfl rfl rfl (by assumption) (tT rfl) rfl) ?_ | refine TPar.sk_g rfl rfl rfl (Nat.le_of_ble_eq_true rfl) rfl rfl ?_
            intro s_ h_ hs_ hh_; simp only [nrm, tev, St.step, putO, setsV, addO, ↓reduceIte, Nat.reduceAdd, logT, atT, intern, internL, kp_ents, fz_ents, fz_bytes, kp_bytes, kp_ats, fz_ats, kp_logs, logR, logE, ← List.map_take, ← List.map_drop, List.take_length, spots_len, beq_self_eq_true] at hs_ hh_; subst hs_; subst hh_
            first | refine TPar.st_g rfl rfl rfl (Nat.le_of_ble_eq_true rfl) rfl (S_load rfl rfl rfl (tT rfl) rfl) ?_ | refine TPar.st_g rfl rfl rfl (Nat.le_of_ble_eq_true rfl) rfl (S_load_eptr rfl rfl (tT rfl) rfl) ?_ | refine TPar.st_g rfl rfl rfl (Nat.le_of_ble_eq_true rfl) rfl (S_load_row rfl rfl rfl rfl (by assumption) (tT rfl) rfl) ?_ | refine TPar.st_g rfl rfl rfl (Nat.le_of_ble_eq_true rfl) rfl (S_load_row (j := 0) rfl rfl rfl rfl (by assumption) (tT rfl) rfl) ?_ | refine TPar.sk_g rfl rfl rfl (Nat.le_of_ble_eq_true rfl) rfl rfl ?_
            intro s_ h_ hs_ hh_; simp only [nrm, tev, St.step, putO, setsV, addO, ↓reduceIte, Nat.reduceAdd, logT, atT, intern, internL, kp_ents, fz_ents, fz_bytes, kp_bytes, kp_ats, fz_ats, kp_logs, logR, logE, ← List.map_take, ← List.map_drop, List.take_length, spots_len, beq_self_eq_true] at hs_ hh_; subst hs_; subst hh_
            first | refine TPar.st_g rfl rfl rfl (Nat.le_of_ble_eq_true rfl) rfl (S_call_row rfl rfl rfl (by kernel_rfl) rfl (own_T _ _ x.i x.t x.es xok.n) rfl) ?_ | refine TPar.st_g rfl rfl rfl (Nat.le_of_ble_eq_true rfl) rfl (S_call rfl rfl rfl (by kernel_rfl) rfl (own_T _ _ x.i x.t x.es xok.n)) ?_ | refine TPar.st_g rfl rfl rfl (Nat.le_of_ble_eq_true rfl) rfl (S_call_row rfl rfl rfl (by kernel_rfl) rfl (own_T _ _ z.i z.t z.es zok.n) rfl) ?_ | refine TPar.st_g rfl rfl rfl (Nat.le_of_ble_eq_true rfl) rfl (S_call rfl rfl rfl (by kernel_rfl) rfl (own_T _ _ z.i z.t z.es zok.n)) ?_ | refine TPar.st_g rfl rfl rfl (Nat.le_of_ble_eq_true rfl) rfl (S_call_row rfl rfl rfl (by kernel_rfl) rfl (own_T _ _ x.i x.t (fewL x.es) (by have := xf.n; omega)) rfl) ?_ | refine TPar.st_g rfl rfl rfl (Nat.le_of_ble_eq_true rfl) rfl (S_call rfl rfl rfl (by kernel_rfl) rfl (own_T _ _ x.i x.t (fewL x.es) (by have := xf.n; omega))) ?_ | refine TPar.sk_g rfl rfl rfl (Nat.le_of_ble_eq_true rfl) rfl rfl ?_
            intro s_ h_ hs_ hh_; simp only [nrm, tev, St.step, putO, setsV, addO, ↓reduceIte, Nat.reduceAdd, logT, atT, intern, internL, kp_ents, fz_ents, fz_bytes, kp_bytes, kp_ats, fz_ats, kp_logs, logR, logE, ← List.map_take, ← List.map_drop, List.take_length, spots_len, beq_self_eq_true] at hs_ hh_; subst hs_; subst hh_
            first | refine TPar.st_g rfl rfl rfl (Nat.le_of_ble_eq_true rfl) rfl (S_call_row rfl rfl rfl (by kernel_rfl) rfl (same_T _ _ x.i x.t (fewL x.es) xf _ _ z.i z.t (fewL z.es) zf) rfl) ?_ | refine TPar.st_g rfl rfl rfl (Nat.le_of_ble_eq_true rfl) rfl (S_call rfl rfl rfl (by kernel_rfl) rfl (same_T _ _ x.i x.t (fewL x.es) xf _ _ z.i z.t (fewL z.es) zf)) ?_ | refine TPar.st_g rfl rfl rfl (Nat.le_of_ble_eq_true rfl) rfl (S_call_row rfl rfl rfl (by kernel_rfl) rfl ((same_T _ _ x.i x.t (fewL x.es) xf _ _ x.i x.t (fewL (fewL x.es)) (few_ok xf.w)).eq rfl (by rw [few_few, sameL_self])) rfl) ?_ | refine TPar.st_g rfl rfl rfl (Nat.le_of_ble_eq_true rfl) rfl (S_call rfl rfl rfl (by kernel_rfl) rfl ((same_T _ _ x.i x.t (fewL x.es) xf _ _ x.i x.t (fewL (fewL x.es)) (few_ok xf.w)).eq rfl (by rw [few_few, sameL_self]))) ?_ | refine TPar.sk_g rfl rfl rfl (Nat.le_of_ble_eq_true rfl) rfl rfl ?_
            intro s_ h_ hs_ hh_; simp only [nrm, tev, St.step, putO, setsV, addO, ↓reduceIte, Nat.reduceAdd, logT, atT, intern, internL, kp_ents, fz_ents, fz_bytes, kp_bytes, kp_ats, fz_ats, kp_logs, logR, logE, ← List.map_take, ← List.map_drop, List.take_length, spots_len, beq_self_eq_true] at hs_ hh_; subst hs_; subst hh_
            first | refine TPar.st_g rfl rfl rfl (Nat.le_of_ble_eq_true rfl) rfl (S_not rfl rfl) ?_ | refine TPar.st_g rfl rfl rfl (Nat.le_of_ble_eq_true rfl) rfl (S_neg rfl rfl) ?_ | refine TPar.sk_g rfl rfl rfl (Nat.le_of_ble_eq_true rfl) rfl rfl ?_
            intro s_ h_ hs_ hh_; simp only [nrm, tev, St.step, putO, setsV, addO, ↓reduceIte, Nat.reduceAdd, logT, atT, intern, internL, kp_ents, fz_ents, fz_bytes, kp_bytes, kp_ats, fz_ats, kp_logs, logR, logE, ← List.map_take, ← List.map_drop, List.take_length, spots_len, beq_self_eq_true] at hs_ hh_; subst hs_; subst hh_
            refine TPar.st rfl (S_pick rfl rfl rfl) ?_
            intro s_ h_ hs_ hh_; simp only [nrm, tev, St.step, putO, setsV, addO, ↓reduceIte, Nat.reduceAdd, logT, atT, intern, internL, kp_ents, fz_ents, fz_bytes, kp_bytes, kp_ats, fz_ats, kp_logs, logR, logE, ← List.map_take, ← List.map_drop, List.take_length, spots_len, beq_self_eq_true] at hs_ hh_; subst hs_; subst hh_
            unfold TPar
            refine TL.nil ?_
            try simp (decide := true) only [thenT, inBlockT, noGotoT, jumpT, ↓reduceIte, true_and]
            refine hK20_ _ ?_
            refine TW.cond_f rfl (rfl) ?_
            refine TW.skip ?_
            try simp (decide := true) only [thenT, inBlockT, noGotoT, jumpT, ↓reduceIte, true_and]
            refine hK8_ _ ?_
            refine TW.reg ?_
            first | refine TL.st rfl (S_int rfl rfl rfl rfl (vi64 (by omega))) ?_ | refine TL.st rfl (S_int rfl rfl rfl rfl (vu64 (by omega))) ?_ | refine TL.st rfl (S_int rfl rfl rfl rfl rfl) ?_
            intro σ_ hσ_; simp only [nrm, tev, St.step, putO, setsV, addO, ↓reduceIte, Nat.reduceAdd, logT, atT, intern, internL, kp_ents, fz_ents, fz_bytes, kp_bytes, kp_ats, fz_ats, kp_logs, logR, logE, ← List.map_take, ← List.map_drop, List.take_length, spots_len, beq_self_eq_true] at hσ_; subst hσ_
            refine TL.st rfl (S_move rfl) ?_
            intro σ_ hσ_; simp only [nrm, tev, St.step, putO, setsV, addO, ↓reduceIte, Nat.reduceAdd, logT, atT, intern, internL, kp_ents, fz_ents, fz_bytes, kp_bytes, kp_ats, fz_ats, kp_logs, logR, logE, ← List.map_take, ← List.map_drop, List.take_length, spots_len, beq_self_eq_true] at hσ_; subst hσ_
            refine TL.nil ?_
            try simp (decide := true) only [thenT, inBlockT, noGotoT, jumpT, ↓reduceIte, true_and]
            refine ⟨(k + 1), by omega, by omega, ?_⟩
            refine SLe.back 0 ?_ ?_ ?_
            · simp [setsL, kpL, kp, low, kpLL, LeL_cons, LeL_nil, LeT_any, LeT_self, LeT_v, LeT_sl, LeT_nil_sl, List.set_cons_zero, List.set_cons_succ, kp_logs]
            · simp [setsL, LB.kp, kpL, kp, low, LeB_self, LeB_nil, kp_logs]
            · simp [kpL, LeL_nil]
    · skip
      refine TW.reg ?_
      first | refine TL.st rfl (S_int rfl rfl rfl rfl (vbt (by omega))) ?_ | refine TL.st rfl (S_int rfl rfl rfl rfl (vbf (by omega))) ?_ | refine TL.st rfl (S_int rfl rfl rfl rfl rfl) ?_
      intro σ_ hσ_; simp only [nrm, tev, St.step, putO, setsV, addO, ↓reduceIte, Nat.reduceAdd, logT, atT, intern, internL, kp_ents, fz_ents, fz_bytes, kp_bytes, kp_ats, fz_ats, kp_logs, logR, logE, ← List.map_take, ← List.map_drop, List.take_length, spots_len, beq_self_eq_true] at hσ_; subst hσ_
      refine TL.nil ?_
      try simp (decide := true) only [thenT, inBlockT, noGotoT, jumpT, ↓reduceIte, true_and]
      refine hK6_ _ ?_
      refine TW.seq_k ?_
      intro K21_ hK21_
      refine TW.cond_f rfl (rfl) ?_
      refine TW.exit ?_
      try simp (decide := true) only [thenT, inBlockT, noGotoT, jumpT, ↓reduceIte, true_and]
      refine hK4_ _ ?_
      refine TW.seq_k ?_
      intro K22_ hK22_
      refine TW.reg ?_
      refine TL.st rfl (S_assign rfl) ?_
      intro σ_ hσ_; simp only [nrm, tev, St.step, putO, setsV, addO, ↓reduceIte, Nat.reduceAdd, logT, atT, intern, internL, kp_ents, fz_ents, fz_bytes, kp_bytes, kp_ats, fz_ats, kp_logs, logR, logE, ← List.map_take, ← List.map_drop, List.take_length, spots_len, beq_self_eq_true] at hσ_; subst hσ_
      refine TL.nil ?_
      try simp (decide := true) only [thenT, inBlockT, noGotoT, jumpT, ↓reduceIte, true_and]
      refine hK22_ _ ?_
      refine TW.ret ?_
      try simp (decide := true) only [thenT, inBlockT, noGotoT, jumpT, ↓reduceIte, true_and]
      refine ⟨.inr rfl, _, none, (ResT.one Try.results5 rfl), ?_, (by rintro _ ⟨⟩)⟩
      simp only [nrm, tev, Out_v, Out_agg, Out_tup, OutL_nil, OutL_cons, Out_sl, Out_row_osl, Out_nil_osl, Out_nil_sl, Out_nil_nil, and_true, true_and, logT, atT, logR, logE, fr_ents, fr_ats, hf, List.getD_cons_zero, List.getD_cons_succ]
      done

end Go.Proofs.Ytpckkajodpiiaaa
