/- The layer does something. No condition. -/
import Derived.Test.YtpckkajodpiiaaaTE6
import Derived.Test.YtpckkajodpiiaaaT15
import Derived.Test.YtpckkajodpiiaaaT15
namespace Go.Proofs.Ytpckkajodpiiaaa
open Go.RowKit
set_option linter.unusedVariables false
set_option linter.unusedSimpArgs false

def wk3 : List Ent := [⟨1, 1, []⟩, ⟨1, 2, [7]⟩, ⟨2, 1, []⟩]
theorem wk3_ok : okE wk3 := ⟨fun e he => by simp [wk3] at he; rcases he with rfl | rfl | rfl <;> simp, by simp [wk3], fun e he => by simp [wk3] at he; rcases he with rfl | rfl | rfl <;> simp⟩
theorem ok_nil : okE [] := ⟨fun e he => by simp at he, by simp, fun e he => by simp at he⟩
theorem wk_len : ∀ c ∈ wk3.map (entC false), c.length = 3 := ent_len _ _

set_option maxRecDepth 20000 in
set_option maxHeartbeats 1000000 in
theorem wakes_T  :
    TMeets Try.prog 10 [] (.v (.bool true)) := by
  refine TMeets.of_TW Try.func10 rfl (by simp [PuL, Pu, logT, atT, pu_ents, entC, pu_bytes]) ?_
  intro B w0
  rw [Try.ntmps10]
  simp only [untagL, untag, List.length_cons, List.length_nil, List.replicate_succ, List.replicate_zero, Nat.reduceAdd, Nat.reduceSub, List.cons_append, List.nil_append, logT, atT, untag_ents, untag_bytes, entC]
  have hw1 := wk_len
  refine TW.seq_k ?_
  intro K1_ hK1_
  refine TW.reg ?_
  refine TL.st rfl (S_assign rfl) ?_
  intro σ_ hσ_; simp only [nrm, tev, St.step, putO, setsV, addO, ↓reduceIte, Nat.reduceAdd, logT, atT, intern, internL, kp_ents, fz_ents, fz_bytes, kp_bytes, logR, logE, ← List.map_take, ← List.map_drop, List.take_length] at hσ_; subst hσ_
  refine TL.nil ?_
  try simp (decide := true) only [thenT, inBlockT, noGotoT, jumpT, ↓reduceIte, true_and]
  refine hK1_ _ ?_
  refine TW.seq_k ?_
  intro K2_ hK2_
  refine TW.reg ?_
  refine TL.st rfl (S_build rfl (tT rfl) rfl (zT rfl) rfl (by repeat (first | exact PlOk.nil | (apply PlOk.cons; exact tT rfl))) rfl rfl) ?_
  intro σ_ hσ_; simp only [nrm, tev, St.step, putO, setsV, addO, ↓reduceIte, Nat.reduceAdd, logT, atT, intern, internL, kp_ents, fz_ents, fz_bytes, kp_bytes, logR, logE, ← List.map_take, ← List.map_drop, List.take_length] at hσ_; subst hσ_
  refine TL.st rfl (S_build rfl (tT rfl) rfl (zT rfl) rfl (by repeat (first | exact PlOk.nil | (apply PlOk.cons; exact tT rfl))) rfl rfl) ?_
  intro σ_ hσ_; simp only [nrm, tev, St.step, putO, setsV, addO, ↓reduceIte, Nat.reduceAdd, logT, atT, intern, internL, kp_ents, fz_ents, fz_bytes, kp_bytes, logR, logE, ← List.map_take, ← List.map_drop, List.take_length] at hσ_; subst hσ_
  refine TL.st rfl (S_buildSlice (xs := [(Go.Operand.const (Go.Value.int Go.IntKind.u8 7))]) rfl (tT rfl) rfl (tT rfl) (zT rfl) rfl rfl rfl rfl (by decide) (by decide)) ?_
  intro σ_ hσ_; simp only [nrm, tev, St.step, putO, setsV, addO, ↓reduceIte, Nat.reduceAdd, logT, atT, intern, internL, kp_ents, fz_ents, fz_bytes, kp_bytes, logR, logE, ← List.map_take, ← List.map_drop, List.take_length] at hσ_; subst hσ_
  refine TL.frz 0 rfl ?_
  intro σ_ hσ_; simp (decide := true) only [nrm, tev, St.step, putO, setsV, addO, ↓reduceIte, Nat.reduceAdd, logT, atT, intern, internL, kp_ents, fz_ents, fz_bytes, kp_bytes, logR, logE, ← List.map_take, ← List.map_drop, List.take_length, fz, fzL, fzLL, LB.fz, kpL, kp, bar, LB.kp, kpLL_append, kpLL, List.map_cons, List.map_nil, List.set_cons_zero, List.set_cons_succ, ↓reduceIte] at hσ_; subst hσ_
  refine TL.st rfl (S_build rfl (tT rfl) rfl (zT rfl) rfl (by repeat (first | exact PlOk.nil | (apply PlOk.cons; exact tT rfl))) rfl rfl) ?_
  intro σ_ hσ_; simp only [nrm, tev, St.step, putO, setsV, addO, ↓reduceIte, Nat.reduceAdd, logT, atT, intern, internL, kp_ents, fz_ents, fz_bytes, kp_bytes, logR, logE, ← List.map_take, ← List.map_drop, List.take_length] at hσ_; subst hσ_
  refine TL.st rfl (S_build rfl (tT rfl) rfl (zT rfl) rfl (by repeat (first | exact PlOk.nil | (apply PlOk.cons; exact tT rfl))) rfl rfl) ?_
  intro σ_ hσ_; simp only [nrm, tev, St.step, putO, setsV, addO, ↓reduceIte, Nat.reduceAdd, logT, atT, intern, internL, kp_ents, fz_ents, fz_bytes, kp_bytes, logR, logE, ← List.map_take, ← List.map_drop, List.take_length] at hσ_; subst hσ_
  refine TL.nz ?_
  intro σ_ hσ_; simp only [nrm, tev, St.step, putO, setsV, addO, ↓reduceIte, Nat.reduceAdd, nzL, nz, nzLL, LB.nz, List.map_cons, List.map_nil] at hσ_; subst hσ_
  refine TL.st rfl (S_buildSlice (xs := [(Go.Operand.tmp 10), (Go.Operand.tmp 12), (Go.Operand.tmp 13)]) rfl (tT rfl) rfl (tT rfl) (zT rfl) rfl rfl rfl rfl (by decide) (by decide)) ?_
  intro σ_ hσ_; simp only [nrm, tev, St.step, putO, setsV, addO, ↓reduceIte, Nat.reduceAdd, logT, atT, intern, internL, kp_ents, fz_ents, fz_bytes, kp_bytes, logR, logE, ← List.map_take, ← List.map_drop, List.take_length] at hσ_; subst hσ_
  first | refine TL.st rfl (S_call_row rfl rfl rfl (by kernel_rfl) rfl ((extend_T true true 0 0 [] ok_nil (by omega) (by omega) true true wk3 wk3_ok).eq rfl (show _ = .tup [logR 0 0 wk3, atT (3, 2), .v (.int .i64 0)] from rfl)) rfl) ?_ | refine TL.st rfl (S_call rfl rfl rfl (by kernel_rfl) rfl ((extend_T true true 0 0 [] ok_nil (by omega) (by omega) true true wk3 wk3_ok).eq rfl (show _ = .tup [logR 0 0 wk3, atT (3, 2), .v (.int .i64 0)] from rfl))) ?_
  intro σ_ hσ_; simp only [nrm, tev, St.step, putO, setsV, addO, ↓reduceIte, Nat.reduceAdd, logT, atT, intern, internL, kp_ents, fz_ents, fz_bytes, kp_bytes, logR, logE, ← List.map_take, ← List.map_drop, List.take_length] at hσ_; subst hσ_
  refine TL.st rfl (S_move rfl) ?_
  intro σ_ hσ_; simp only [nrm, tev, St.step, putO, setsV, addO, ↓reduceIte, Nat.reduceAdd, logT, atT, intern, internL, kp_ents, fz_ents, fz_bytes, kp_bytes, logR, logE, ← List.map_take, ← List.map_drop, List.take_length] at hσ_; subst hσ_
  refine TL.st rfl (S_extract rfl rfl rfl) ?_
  intro σ_ hσ_; simp only [nrm, tev, St.step, putO, setsV, addO, ↓reduceIte, Nat.reduceAdd, logT, atT, intern, internL, kp_ents, fz_ents, fz_bytes, kp_bytes, logR, logE, ← List.map_take, ← List.map_drop, List.take_length] at hσ_; subst hσ_
  refine TL.st rfl (S_extract rfl rfl rfl) ?_
  intro σ_ hσ_; simp only [nrm, tev, St.step, putO, setsV, addO, ↓reduceIte, Nat.reduceAdd, logT, atT, intern, internL, kp_ents, fz_ents, fz_bytes, kp_bytes, logR, logE, ← List.map_take, ← List.map_drop, List.take_length] at hσ_; subst hσ_
  refine TL.st rfl (S_extract rfl rfl rfl) ?_
  intro σ_ hσ_; simp only [nrm, tev, St.step, putO, setsV, addO, ↓reduceIte, Nat.reduceAdd, logT, atT, intern, internL, kp_ents, fz_ents, fz_bytes, kp_bytes, logR, logE, ← List.map_take, ← List.map_drop, List.take_length] at hσ_; subst hσ_
  refine TL.st rfl (S_alloc rfl (zT rfl) rfl) ?_
  intro σ_ hσ_; simp only [nrm, tev, St.step, putO, setsV, addO, ↓reduceIte, Nat.reduceAdd, logT, atT, intern, internL, kp_ents, fz_ents, fz_bytes, kp_bytes, logR, logE, ← List.map_take, ← List.map_drop, List.take_length] at hσ_; subst hσ_
  refine TL.st rfl (S_alloc rfl (zT rfl) rfl) ?_
  intro σ_ hσ_; simp only [nrm, tev, St.step, putO, setsV, addO, ↓reduceIte, Nat.reduceAdd, logT, atT, intern, internL, kp_ents, fz_ents, fz_bytes, kp_bytes, logR, logE, ← List.map_take, ← List.map_drop, List.take_length] at hσ_; subst hσ_
  first | refine TL.sto rfl rfl rfl rfl (tT rfl) rfl rfl rfl (Nat.le_of_ble_eq_true rfl) ?_ | refine TL.sto_row rfl rfl rfl rfl rfl (by assumption) (tT rfl) rfl rfl rfl (Nat.le_of_ble_eq_true rfl) ?_ | refine TL.sto_row (j := 0) rfl rfl rfl rfl rfl (by assumption) (tT rfl) rfl rfl rfl (Nat.le_of_ble_eq_true rfl) ?_
  intro σ_ hσ_; simp only [nrm, tev, St.step, putO, setsV, addO, ↓reduceIte, Nat.reduceAdd, logT, atT, intern, internL, kp_ents, fz_ents, fz_bytes, kp_bytes, logR, logE, ← List.map_take, ← List.map_drop, List.take_length] at hσ_; subst hσ_
  first | refine TL.sto rfl rfl rfl rfl (tT rfl) rfl rfl rfl (Nat.le_of_ble_eq_true rfl) ?_ | refine TL.sto_row rfl rfl rfl rfl rfl (by assumption) (tT rfl) rfl rfl rfl (Nat.le_of_ble_eq_true rfl) ?_ | refine TL.sto_row (j := 0) rfl rfl rfl rfl rfl (by assumption) (tT rfl) rfl rfl rfl (Nat.le_of_ble_eq_true rfl) ?_
  intro σ_ hσ_; simp only [nrm, tev, St.step, putO, setsV, addO, ↓reduceIte, Nat.reduceAdd, logT, atT, intern, internL, kp_ents, fz_ents, fz_bytes, kp_bytes, logR, logE, ← List.map_take, ← List.map_drop, List.take_length] at hσ_; subst hσ_
  refine TL.st rfl (S_assign rfl) ?_
  intro σ_ hσ_; simp only [nrm, tev, St.step, putO, setsV, addO, ↓reduceIte, Nat.reduceAdd, logT, atT, intern, internL, kp_ents, fz_ents, fz_bytes, kp_bytes, logR, logE, ← List.map_take, ← List.map_drop, List.take_length] at hσ_; subst hσ_
  refine TL.nil ?_
  try simp (decide := true) only [thenT, inBlockT, noGotoT, jumpT, ↓reduceIte, true_and]
  refine hK2_ _ ?_
  refine TW.seq_k ?_
  intro K3_ hK3_
  refine TW.frz 2 rfl ?_
  intro σ_ hσ_; simp (decide := true) only [nrm, tev, St.step, putO, setsV, addO, ↓reduceIte, Nat.reduceAdd, logT, atT, intern, internL, kp_ents, fz_ents, fz_bytes, kp_bytes, logR, logE, ← List.map_take, ← List.map_drop, List.take_length, fz, fzL, fzLL, LB.fz, kpL, kp, bar, LB.kp, kpLL_append, kpLL, List.map_cons, List.map_nil, List.set_cons_zero, List.set_cons_succ, ↓reduceIte] at hσ_; subst hσ_
  refine TW.region_par 15 (by kernel_rfl) (by kernel_rfl) ?_
  simp only [List.take_succ_cons, List.take_zero, List.drop_succ_cons, List.drop_zero, List.take_nil, List.drop_nil]
  first | refine TPar.st rfl (S_load rfl rfl rfl (tT rfl) rfl) ?_ | refine TPar.st rfl (S_load_eptr rfl rfl (tT rfl) rfl) ?_ | refine TPar.st rfl (S_load_row rfl rfl rfl rfl (by assumption) (tT rfl) rfl) ?_ | refine TPar.st rfl (S_load_row (j := 0) rfl rfl rfl rfl (by assumption) (tT rfl) rfl) ?_
  intro s_ h_ hs_ hh_; simp only [nrm, tev, St.step, putO, setsV, addO, ↓reduceIte, Nat.reduceAdd, logT, atT, intern, internL, kp_ents, fz_ents, fz_bytes, kp_bytes, logR, logE, ← List.map_take, ← List.map_drop, List.take_length] at hs_ hh_; subst hs_; subst hh_
  refine TPar.st rfl (S_build rfl (tT rfl) rfl (zT rfl) rfl (by repeat (first | exact PlOk.nil | (apply PlOk.cons; exact tT rfl))) rfl rfl) ?_
  intro s_ h_ hs_ hh_; simp only [nrm, tev, St.step, putO, setsV, addO, ↓reduceIte, Nat.reduceAdd, logT, atT, intern, internL, kp_ents, fz_ents, fz_bytes, kp_bytes, logR, logE, ← List.map_take, ← List.map_drop, List.take_length] at hs_ hh_; subst hs_; subst hh_
  first | refine TPar.st rfl (S_fieldAddr rfl rfl (tT rfl) rfl rfl (tT rfl) (by decide)) ?_ | refine TPar.st rfl (S_fieldAddr_eptr rfl rfl (tT rfl) rfl rfl (tT rfl) (by decide)) ?_
  intro s_ h_ hs_ hh_; simp only [nrm, tev, St.step, putO, setsV, addO, ↓reduceIte, Nat.reduceAdd, logT, atT, intern, internL, kp_ents, fz_ents, fz_bytes, kp_bytes, logR, logE, ← List.map_take, ← List.map_drop, List.take_length] at hs_ hh_; subst hs_; subst hh_
  first | refine TPar.st rfl (S_load rfl rfl rfl (tT rfl) rfl) ?_ | refine TPar.st rfl (S_load_eptr rfl rfl (tT rfl) rfl) ?_ | refine TPar.st rfl (S_load_row rfl rfl rfl rfl (by assumption) (tT rfl) rfl) ?_ | refine TPar.st rfl (S_load_row (j := 0) rfl rfl rfl rfl (by assumption) (tT rfl) rfl) ?_
  intro s_ h_ hs_ hh_; simp only [nrm, tev, St.step, putO, setsV, addO, ↓reduceIte, Nat.reduceAdd, logT, atT, intern, internL, kp_ents, fz_ents, fz_bytes, kp_bytes, logR, logE, ← List.map_take, ← List.map_drop, List.take_length] at hs_ hh_; subst hs_; subst hh_
  first | refine TPar.st rfl (S_fieldAddr rfl rfl (tT rfl) rfl rfl (tT rfl) (by decide)) ?_ | refine TPar.st rfl (S_fieldAddr_eptr rfl rfl (tT rfl) rfl rfl (tT rfl) (by decide)) ?_
  intro s_ h_ hs_ hh_; simp only [nrm, tev, St.step, putO, setsV, addO, ↓reduceIte, Nat.reduceAdd, logT, atT, intern, internL, kp_ents, fz_ents, fz_bytes, kp_bytes, logR, logE, ← List.map_take, ← List.map_drop, List.take_length] at hs_ hh_; subst hs_; subst hh_
  first | refine TPar.st rfl (S_load rfl rfl rfl (tT rfl) rfl) ?_ | refine TPar.st rfl (S_load_eptr rfl rfl (tT rfl) rfl) ?_ | refine TPar.st rfl (S_load_row rfl rfl rfl rfl (by assumption) (tT rfl) rfl) ?_ | refine TPar.st rfl (S_load_row (j := 0) rfl rfl rfl rfl (by assumption) (tT rfl) rfl) ?_
  intro s_ h_ hs_ hh_; simp only [nrm, tev, St.step, putO, setsV, addO, ↓reduceIte, Nat.reduceAdd, logT, atT, intern, internL, kp_ents, fz_ents, fz_bytes, kp_bytes, logR, logE, ← List.map_take, ← List.map_drop, List.take_length] at hs_ hh_; subst hs_; subst hh_
  first | refine TPar.st rfl (S_len rfl rfl (tT rfl) rfl (.inl ⟨_, _, rfl, rfl⟩)) ?_ | refine TPar.st rfl (S_len rfl rfl (tT rfl) rfl (.inr (.inl ⟨_, _, _, _, rfl, rfl, rfl⟩))) ?_ | refine TPar.st rfl (S_len rfl rfl (tT rfl) rfl (.inr (.inr ⟨rfl, rfl⟩))) ?_ | refine TPar.st rfl (S_len_str rfl rfl (tT rfl) rfl rfl) ?_ | refine TPar.st rfl (S_len_arr rfl rfl (tT rfl) rfl) ?_
  intro s_ h_ hs_ hh_; simp only [nrm, tev, St.step, putO, setsV, addO, ↓reduceIte, Nat.reduceAdd, logT, atT, intern, internL, kp_ents, fz_ents, fz_bytes, kp_bytes, logR, logE, ← List.map_take, ← List.map_drop, List.take_length] at hs_ hh_; subst hs_; subst hh_
  refine TPar.st rfl (S_min (r := 0) rfl rfl rfl rfl (u := .int .i64 ((1 : Nat) : Int)) rfl) ?_
  intro s_ h_ hs_ hh_; simp only [nrm, tev, St.step, putO, setsV, addO, ↓reduceIte, Nat.reduceAdd, logT, atT, intern, internL, kp_ents, fz_ents, fz_bytes, kp_bytes, logR, logE, ← List.map_take, ← List.map_drop, List.take_length] at hs_ hh_; subst hs_; subst hh_
  refine TPar.st rfl (S_slice_sl (l := 1) (m := 3) rfl rfl (tT rfl) rfl (tT rfl) ⟨_, rfl⟩ rfl (by decide) (by decide) (ent_len _ _)) ?_
  intro s_ h_ hs_ hh_; simp only [nrm, tev, St.step, putO, setsV, addO, ↓reduceIte, Nat.reduceAdd, logT, atT, intern, internL, kp_ents, fz_ents, fz_bytes, kp_bytes, logR, logE, ← List.map_take, ← List.map_drop, List.take_length] at hs_ hh_; subst hs_; subst hh_
  first | refine TPar.st rfl (S_call_row rfl rfl rfl (by kernel_rfl) rfl ((meet_T true true 0 0 wk3 wk3_ok (by omega) (by omega) true true ((wk3.take 3).drop 1) ((wk3_ok.take 3).drop 1) (1, 1) (by omega) (by omega)).eq rfl (show _ = .tup [.v (.int .i64 2), .v (.int .i64 0)] from rfl)) rfl) ?_ | refine TPar.st rfl (S_call rfl rfl rfl (by kernel_rfl) rfl ((meet_T true true 0 0 wk3 wk3_ok (by omega) (by omega) true true ((wk3.take 3).drop 1) ((wk3_ok.take 3).drop 1) (1, 1) (by omega) (by omega)).eq rfl (show _ = .tup [.v (.int .i64 2), .v (.int .i64 0)] from rfl))) ?_
  intro s_ h_ hs_ hh_; simp only [nrm, tev, St.step, putO, setsV, addO, ↓reduceIte, Nat.reduceAdd, logT, atT, intern, internL, kp_ents, fz_ents, fz_bytes, kp_bytes, logR, logE, ← List.map_take, ← List.map_drop, List.take_length] at hs_ hh_; subst hs_; subst hh_
  refine TPar.st rfl (S_move rfl) ?_
  intro s_ h_ hs_ hh_; simp only [nrm, tev, St.step, putO, setsV, addO, ↓reduceIte, Nat.reduceAdd, logT, atT, intern, internL, kp_ents, fz_ents, fz_bytes, kp_bytes, logR, logE, ← List.map_take, ← List.map_drop, List.take_length] at hs_ hh_; subst hs_; subst hh_
  refine TPar.st rfl (S_extract rfl rfl rfl) ?_
  intro s_ h_ hs_ hh_; simp only [nrm, tev, St.step, putO, setsV, addO, ↓reduceIte, Nat.reduceAdd, logT, atT, intern, internL, kp_ents, fz_ents, fz_bytes, kp_bytes, logR, logE, ← List.map_take, ← List.map_drop, List.take_length] at hs_ hh_; subst hs_; subst hh_
  refine TPar.st rfl (S_extract rfl rfl rfl) ?_
  intro s_ h_ hs_ hh_; simp only [nrm, tev, St.step, putO, setsV, addO, ↓reduceIte, Nat.reduceAdd, logT, atT, intern, internL, kp_ents, fz_ents, fz_bytes, kp_bytes, logR, logE, ← List.map_take, ← List.map_drop, List.take_length] at hs_ hh_; subst hs_; subst hh_
  refine TPar.st rfl (S_assign rfl) ?_
  intro s_ h_ hs_ hh_; simp only [nrm, tev, St.step, putO, setsV, addO, ↓reduceIte, Nat.reduceAdd, logT, atT, intern, internL, kp_ents, fz_ents, fz_bytes, kp_bytes, logR, logE, ← List.map_take, ← List.map_drop, List.take_length] at hs_ hh_; subst hs_; subst hh_
  refine TPar.st rfl (S_assign rfl) ?_
  intro s_ h_ hs_ hh_; simp only [nrm, tev, St.step, putO, setsV, addO, ↓reduceIte, Nat.reduceAdd, logT, atT, intern, internL, kp_ents, fz_ents, fz_bytes, kp_bytes, logR, logE, ← List.map_take, ← List.map_drop, List.take_length] at hs_ hh_; subst hs_; subst hh_
  unfold TPar
  refine TL.nil ?_
  try simp (decide := true) only [thenT, inBlockT, noGotoT, jumpT, ↓reduceIte, true_and]
  refine hK3_ _ ?_
  refine TW.seq_k ?_
  intro K4_ hK4_
  refine TW.reg ?_
  first | refine TL.st rfl (S_load rfl rfl rfl (tT rfl) rfl) ?_ | refine TL.st rfl (S_load_eptr rfl rfl (tT rfl) rfl) ?_ | refine TL.st rfl (S_load_row rfl rfl rfl rfl (by assumption) (tT rfl) rfl) ?_ | refine TL.st rfl (S_load_row (j := 0) rfl rfl rfl rfl (by assumption) (tT rfl) rfl) ?_
  intro σ_ hσ_; simp only [nrm, tev, St.step, putO, setsV, addO, ↓reduceIte, Nat.reduceAdd, logT, atT, intern, internL, kp_ents, fz_ents, fz_bytes, kp_bytes, logR, logE, ← List.map_take, ← List.map_drop, List.take_length] at hσ_; subst hσ_
  first | refine TL.st rfl (S_call_row rfl rfl rfl (by kernel_rfl) rfl ((cut_T true true 0 0 wk3 wk3_ok (by omega) (by omega) 2 (by omega) (by omega)).eq rfl (show _ = .tup [logR 0 0 [⟨1, 1, []⟩], .v (.int .i64 0)] from rfl)) rfl) ?_ | refine TL.st rfl (S_call rfl rfl rfl (by kernel_rfl) rfl ((cut_T true true 0 0 wk3 wk3_ok (by omega) (by omega) 2 (by omega) (by omega)).eq rfl (show _ = .tup [logR 0 0 [⟨1, 1, []⟩], .v (.int .i64 0)] from rfl))) ?_
  intro σ_ hσ_; simp only [nrm, tev, St.step, putO, setsV, addO, ↓reduceIte, Nat.reduceAdd, logT, atT, intern, internL, kp_ents, fz_ents, fz_bytes, kp_bytes, logR, logE, ← List.map_take, ← List.map_drop, List.take_length] at hσ_; subst hσ_
  refine TL.st rfl (S_move rfl) ?_
  intro σ_ hσ_; simp only [nrm, tev, St.step, putO, setsV, addO, ↓reduceIte, Nat.reduceAdd, logT, atT, intern, internL, kp_ents, fz_ents, fz_bytes, kp_bytes, logR, logE, ← List.map_take, ← List.map_drop, List.take_length] at hσ_; subst hσ_
  refine TL.st rfl (S_extract rfl rfl rfl) ?_
  intro σ_ hσ_; simp only [nrm, tev, St.step, putO, setsV, addO, ↓reduceIte, Nat.reduceAdd, logT, atT, intern, internL, kp_ents, fz_ents, fz_bytes, kp_bytes, logR, logE, ← List.map_take, ← List.map_drop, List.take_length] at hσ_; subst hσ_
  refine TL.st rfl (S_extract rfl rfl rfl) ?_
  intro σ_ hσ_; simp only [nrm, tev, St.step, putO, setsV, addO, ↓reduceIte, Nat.reduceAdd, logT, atT, intern, internL, kp_ents, fz_ents, fz_bytes, kp_bytes, logR, logE, ← List.map_take, ← List.map_drop, List.take_length] at hσ_; subst hσ_
  refine TL.st rfl (S_alloc rfl (zT rfl) rfl) ?_
  intro σ_ hσ_; simp only [nrm, tev, St.step, putO, setsV, addO, ↓reduceIte, Nat.reduceAdd, logT, atT, intern, internL, kp_ents, fz_ents, fz_bytes, kp_bytes, logR, logE, ← List.map_take, ← List.map_drop, List.take_length] at hσ_; subst hσ_
  first | refine TL.sto rfl rfl rfl rfl (tT rfl) rfl rfl rfl (Nat.le_of_ble_eq_true rfl) ?_ | refine TL.sto_row rfl rfl rfl rfl rfl (by assumption) (tT rfl) rfl rfl rfl (Nat.le_of_ble_eq_true rfl) ?_ | refine TL.sto_row (j := 0) rfl rfl rfl rfl rfl (by assumption) (tT rfl) rfl rfl rfl (Nat.le_of_ble_eq_true rfl) ?_
  intro σ_ hσ_; simp only [nrm, tev, St.step, putO, setsV, addO, ↓reduceIte, Nat.reduceAdd, logT, atT, intern, internL, kp_ents, fz_ents, fz_bytes, kp_bytes, logR, logE, ← List.map_take, ← List.map_drop, List.take_length] at hσ_; subst hσ_
  refine TL.st rfl (S_assign rfl) ?_
  intro σ_ hσ_; simp only [nrm, tev, St.step, putO, setsV, addO, ↓reduceIte, Nat.reduceAdd, logT, atT, intern, internL, kp_ents, fz_ents, fz_bytes, kp_bytes, logR, logE, ← List.map_take, ← List.map_drop, List.take_length] at hσ_; subst hσ_
  refine TL.nil ?_
  try simp (decide := true) only [thenT, inBlockT, noGotoT, jumpT, ↓reduceIte, true_and]
  refine hK4_ _ ?_
  refine TW.seq_k ?_
  intro K5_ hK5_
  refine TW.reg ?_
  refine TL.st rfl (S_move rfl) ?_
  intro σ_ hσ_; simp only [nrm, tev, St.step, putO, setsV, addO, ↓reduceIte, Nat.reduceAdd, logT, atT, intern, internL, kp_ents, fz_ents, fz_bytes, kp_bytes, logR, logE, ← List.map_take, ← List.map_drop, List.take_length] at hσ_; subst hσ_
  first | refine TL.st rfl (S_int rfl rfl rfl rfl (vbt (by omega))) ?_ | refine TL.st rfl (S_int rfl rfl rfl rfl (vbf (by omega))) ?_ | refine TL.st rfl (S_int rfl rfl rfl rfl rfl) ?_ | refine TL.st rfl (S_boolop rfl rfl rfl rfl (tT rfl) rfl) ?_
  intro σ_ hσ_; simp only [nrm, tev, St.step, putO, setsV, addO, ↓reduceIte, Nat.reduceAdd, logT, atT, intern, internL, kp_ents, fz_ents, fz_bytes, kp_bytes, logR, logE, ← List.map_take, ← List.map_drop, List.take_length] at hσ_; subst hσ_
  refine TL.st rfl (S_move rfl) ?_
  intro σ_ hσ_; simp only [nrm, tev, St.step, putO, setsV, addO, ↓reduceIte, Nat.reduceAdd, logT, atT, intern, internL, kp_ents, fz_ents, fz_bytes, kp_bytes, logR, logE, ← List.map_take, ← List.map_drop, List.take_length] at hσ_; subst hσ_
  first | refine TL.st_g rfl rfl rfl (Nat.le_of_ble_eq_true rfl) rfl (S_move rfl) ?_ | refine TL.sk_g rfl rfl rfl (Nat.le_of_ble_eq_true rfl) rfl rfl ?_
  intro σ_ hσ_; simp only [nrm, tev, St.step, putO, setsV, addO, ↓reduceIte, Nat.reduceAdd, logT, atT, intern, internL, kp_ents, fz_ents, fz_bytes, kp_bytes, logR, logE, ← List.map_take, ← List.map_drop, List.take_length] at hσ_; subst hσ_
  first | refine TL.st_g rfl rfl rfl (Nat.le_of_ble_eq_true rfl) rfl (S_int rfl rfl rfl rfl (vbt (by omega))) ?_ | refine TL.st_g rfl rfl rfl (Nat.le_of_ble_eq_true rfl) rfl (S_int rfl rfl rfl rfl (vbf (by omega))) ?_ | refine TL.st_g rfl rfl rfl (Nat.le_of_ble_eq_true rfl) rfl (S_int rfl rfl rfl rfl rfl) ?_ | refine TL.st_g rfl rfl rfl (Nat.le_of_ble_eq_true rfl) rfl (S_boolop rfl rfl rfl rfl (tT rfl) rfl) ?_ | refine TL.sk_g rfl rfl rfl (Nat.le_of_ble_eq_true rfl) rfl rfl ?_
  intro σ_ hσ_; simp only [nrm, tev, St.step, putO, setsV, addO, ↓reduceIte, Nat.reduceAdd, logT, atT, intern, internL, kp_ents, fz_ents, fz_bytes, kp_bytes, logR, logE, ← List.map_take, ← List.map_drop, List.take_length] at hσ_; subst hσ_
  refine TL.st rfl (S_pick rfl rfl rfl) ?_
  intro σ_ hσ_; simp only [nrm, tev, St.step, putO, setsV, addO, ↓reduceIte, Nat.reduceAdd, logT, atT, intern, internL, kp_ents, fz_ents, fz_bytes, kp_bytes, logR, logE, ← List.map_take, ← List.map_drop, List.take_length] at hσ_; subst hσ_
  refine TL.st rfl (S_move rfl) ?_
  intro σ_ hσ_; simp only [nrm, tev, St.step, putO, setsV, addO, ↓reduceIte, Nat.reduceAdd, logT, atT, intern, internL, kp_ents, fz_ents, fz_bytes, kp_bytes, logR, logE, ← List.map_take, ← List.map_drop, List.take_length] at hσ_; subst hσ_
  first | refine TL.st_g rfl rfl rfl (Nat.le_of_ble_eq_true rfl) rfl (S_move rfl) ?_ | refine TL.sk_g rfl rfl rfl (Nat.le_of_ble_eq_true rfl) rfl rfl ?_
  intro σ_ hσ_; simp only [nrm, tev, St.step, putO, setsV, addO, ↓reduceIte, Nat.reduceAdd, logT, atT, intern, internL, kp_ents, fz_ents, fz_bytes, kp_bytes, logR, logE, ← List.map_take, ← List.map_drop, List.take_length] at hσ_; subst hσ_
  first | refine TL.st_g rfl rfl rfl (Nat.le_of_ble_eq_true rfl) rfl (S_int rfl rfl rfl rfl (vbt (by omega))) ?_ | refine TL.st_g rfl rfl rfl (Nat.le_of_ble_eq_true rfl) rfl (S_int rfl rfl rfl rfl (vbf (by omega))) ?_ | refine TL.st_g rfl rfl rfl (Nat.le_of_ble_eq_true rfl) rfl (S_int rfl rfl rfl rfl rfl) ?_ | refine TL.st_g rfl rfl rfl (Nat.le_of_ble_eq_true rfl) rfl (S_boolop rfl rfl rfl rfl (tT rfl) rfl) ?_ | refine TL.sk_g rfl rfl rfl (Nat.le_of_ble_eq_true rfl) rfl rfl ?_
  intro σ_ hσ_; simp only [nrm, tev, St.step, putO, setsV, addO, ↓reduceIte, Nat.reduceAdd, logT, atT, intern, internL, kp_ents, fz_ents, fz_bytes, kp_bytes, logR, logE, ← List.map_take, ← List.map_drop, List.take_length] at hσ_; subst hσ_
  refine TL.st rfl (S_pick rfl rfl rfl) ?_
  intro σ_ hσ_; simp only [nrm, tev, St.step, putO, setsV, addO, ↓reduceIte, Nat.reduceAdd, logT, atT, intern, internL, kp_ents, fz_ents, fz_bytes, kp_bytes, logR, logE, ← List.map_take, ← List.map_drop, List.take_length] at hσ_; subst hσ_
  refine TL.st rfl (S_move rfl) ?_
  intro σ_ hσ_; simp only [nrm, tev, St.step, putO, setsV, addO, ↓reduceIte, Nat.reduceAdd, logT, atT, intern, internL, kp_ents, fz_ents, fz_bytes, kp_bytes, logR, logE, ← List.map_take, ← List.map_drop, List.take_length] at hσ_; subst hσ_
  first | refine TL.st_g rfl rfl rfl (Nat.le_of_ble_eq_true rfl) rfl (S_load rfl rfl rfl (tT rfl) rfl) ?_ | refine TL.st_g rfl rfl rfl (Nat.le_of_ble_eq_true rfl) rfl (S_load_eptr rfl rfl (tT rfl) rfl) ?_ | refine TL.st_g rfl rfl rfl (Nat.le_of_ble_eq_true rfl) rfl (S_load_row rfl rfl rfl rfl (by assumption) (tT rfl) rfl) ?_ | refine TL.st_g rfl rfl rfl (Nat.le_of_ble_eq_true rfl) rfl (S_load_row (j := 0) rfl rfl rfl rfl (by assumption) (tT rfl) rfl) ?_ | refine TL.sk_g rfl rfl rfl (Nat.le_of_ble_eq_true rfl) rfl rfl ?_
  intro σ_ hσ_; simp only [nrm, tev, St.step, putO, setsV, addO, ↓reduceIte, Nat.reduceAdd, logT, atT, intern, internL, kp_ents, fz_ents, fz_bytes, kp_bytes, logR, logE, ← List.map_take, ← List.map_drop, List.take_length] at hσ_; subst hσ_
  first | refine TL.st_g rfl rfl rfl (Nat.le_of_ble_eq_true rfl) rfl (S_build rfl (tT rfl) rfl (zT rfl) rfl (by repeat (first | exact PlOk.nil | (apply PlOk.cons; exact tT rfl))) rfl rfl) ?_ | refine TL.sk_g rfl rfl rfl (Nat.le_of_ble_eq_true rfl) rfl rfl ?_
  intro σ_ hσ_; simp only [nrm, tev, St.step, putO, setsV, addO, ↓reduceIte, Nat.reduceAdd, logT, atT, intern, internL, kp_ents, fz_ents, fz_bytes, kp_bytes, logR, logE, ← List.map_take, ← List.map_drop, List.take_length] at hσ_; subst hσ_
  first | refine TL.st_g rfl rfl rfl (Nat.le_of_ble_eq_true rfl) rfl (S_int rfl rfl rfl rfl (vbt (by omega))) ?_ | refine TL.st_g rfl rfl rfl (Nat.le_of_ble_eq_true rfl) rfl (S_int rfl rfl rfl rfl (vbf (by omega))) ?_ | refine TL.st_g rfl rfl rfl (Nat.le_of_ble_eq_true rfl) rfl (S_int rfl rfl rfl rfl rfl) ?_ | refine TL.st_g rfl rfl rfl (Nat.le_of_ble_eq_true rfl) rfl (S_boolop rfl rfl rfl rfl (tT rfl) rfl) ?_ | refine TL.st_g rfl rfl rfl (Nat.le_of_ble_eq_true rfl) rfl (S_bin (u := .bool true) rfl rfl rfl (fun w => (eqAt_run _ _ _ _ _ _ w).trans (congrArg (fun b => Result.ok (Value.bool b) w) hq_))) ?_ | refine TL.st_g rfl rfl rfl (Nat.le_of_ble_eq_true rfl) rfl (S_bin (u := .bool false) rfl rfl rfl (fun w => (eqAt_run _ _ _ _ _ _ w).trans (congrArg (fun b => Result.ok (Value.bool b) w) hq_))) ?_ | refine TL.st_g rfl rfl rfl (Nat.le_of_ble_eq_true rfl) rfl (S_bin rfl rfl rfl (eqAt_run _ _ _ _ _ _)) ?_ | refine TL.sk_g rfl rfl rfl (Nat.le_of_ble_eq_true rfl) rfl rfl ?_
  intro σ_ hσ_; simp only [nrm, tev, St.step, putO, setsV, addO, ↓reduceIte, Nat.reduceAdd, logT, atT, intern, internL, kp_ents, fz_ents, fz_bytes, kp_bytes, logR, logE, ← List.map_take, ← List.map_drop, List.take_length] at hσ_; subst hσ_
  refine TL.st rfl (S_pick rfl rfl rfl) ?_
  intro σ_ hσ_; simp only [nrm, tev, St.step, putO, setsV, addO, ↓reduceIte, Nat.reduceAdd, logT, atT, intern, internL, kp_ents, fz_ents, fz_bytes, kp_bytes, logR, logE, ← List.map_take, ← List.map_drop, List.take_length] at hσ_; subst hσ_
  refine TL.st rfl (S_move rfl) ?_
  intro σ_ hσ_; simp only [nrm, tev, St.step, putO, setsV, addO, ↓reduceIte, Nat.reduceAdd, logT, atT, intern, internL, kp_ents, fz_ents, fz_bytes, kp_bytes, logR, logE, ← List.map_take, ← List.map_drop, List.take_length] at hσ_; subst hσ_
  first | refine TL.st_g rfl rfl rfl (Nat.le_of_ble_eq_true rfl) rfl (S_move rfl) ?_ | refine TL.sk_g rfl rfl rfl (Nat.le_of_ble_eq_true rfl) rfl rfl ?_
  intro σ_ hσ_; simp only [nrm, tev, St.step, putO, setsV, addO, ↓reduceIte, Nat.reduceAdd, logT, atT, intern, internL, kp_ents, fz_ents, fz_bytes, kp_bytes, logR, logE, ← List.map_take, ← List.map_drop, List.take_length] at hσ_; subst hσ_
  first | refine TL.st_g rfl rfl rfl (Nat.le_of_ble_eq_true rfl) rfl (S_int rfl rfl rfl rfl (vbt (by omega))) ?_ | refine TL.st_g rfl rfl rfl (Nat.le_of_ble_eq_true rfl) rfl (S_int rfl rfl rfl rfl (vbf (by omega))) ?_ | refine TL.st_g rfl rfl rfl (Nat.le_of_ble_eq_true rfl) rfl (S_int rfl rfl rfl rfl rfl) ?_ | refine TL.st_g rfl rfl rfl (Nat.le_of_ble_eq_true rfl) rfl (S_boolop rfl rfl rfl rfl (tT rfl) rfl) ?_ | refine TL.sk_g rfl rfl rfl (Nat.le_of_ble_eq_true rfl) rfl rfl ?_
  intro σ_ hσ_; simp only [nrm, tev, St.step, putO, setsV, addO, ↓reduceIte, Nat.reduceAdd, logT, atT, intern, internL, kp_ents, fz_ents, fz_bytes, kp_bytes, logR, logE, ← List.map_take, ← List.map_drop, List.take_length] at hσ_; subst hσ_
  refine TL.st rfl (S_pick rfl rfl rfl) ?_
  intro σ_ hσ_; simp only [nrm, tev, St.step, putO, setsV, addO, ↓reduceIte, Nat.reduceAdd, logT, atT, intern, internL, kp_ents, fz_ents, fz_bytes, kp_bytes, logR, logE, ← List.map_take, ← List.map_drop, List.take_length] at hσ_; subst hσ_
  refine TL.st rfl (S_move rfl) ?_
  intro σ_ hσ_; simp only [nrm, tev, St.step, putO, setsV, addO, ↓reduceIte, Nat.reduceAdd, logT, atT, intern, internL, kp_ents, fz_ents, fz_bytes, kp_bytes, logR, logE, ← List.map_take, ← List.map_drop, List.take_length] at hσ_; subst hσ_
  first | refine TL.st_g rfl rfl rfl (Nat.le_of_ble_eq_true rfl) rfl (S_fieldAddr rfl rfl (tT rfl) rfl rfl (tT rfl) (by decide)) ?_ | refine TL.st_g rfl rfl rfl (Nat.le_of_ble_eq_true rfl) rfl (S_fieldAddr_eptr rfl rfl (tT rfl) rfl rfl (tT rfl) (by decide)) ?_ | refine TL.sk_g rfl rfl rfl (Nat.le_of_ble_eq_true rfl) rfl rfl ?_
  intro σ_ hσ_; simp only [nrm, tev, St.step, putO, setsV, addO, ↓reduceIte, Nat.reduceAdd, logT, atT, intern, internL, kp_ents, fz_ents, fz_bytes, kp_bytes, logR, logE, ← List.map_take, ← List.map_drop, List.take_length] at hσ_; subst hσ_
  first | refine TL.st_g rfl rfl rfl (Nat.le_of_ble_eq_true rfl) rfl (S_load rfl rfl rfl (tT rfl) rfl) ?_ | refine TL.st_g rfl rfl rfl (Nat.le_of_ble_eq_true rfl) rfl (S_load_eptr rfl rfl (tT rfl) rfl) ?_ | refine TL.st_g rfl rfl rfl (Nat.le_of_ble_eq_true rfl) rfl (S_load_row rfl rfl rfl rfl (by assumption) (tT rfl) rfl) ?_ | refine TL.st_g rfl rfl rfl (Nat.le_of_ble_eq_true rfl) rfl (S_load_row (j := 0) rfl rfl rfl rfl (by assumption) (tT rfl) rfl) ?_ | refine TL.sk_g rfl rfl rfl (Nat.le_of_ble_eq_true rfl) rfl rfl ?_
  intro σ_ hσ_; simp only [nrm, tev, St.step, putO, setsV, addO, ↓reduceIte, Nat.reduceAdd, logT, atT, intern, internL, kp_ents, fz_ents, fz_bytes, kp_bytes, logR, logE, ← List.map_take, ← List.map_drop, List.take_length] at hσ_; subst hσ_
  first | refine TL.st_g rfl rfl rfl (Nat.le_of_ble_eq_true rfl) rfl (S_len rfl rfl (tT rfl) rfl (.inl ⟨_, _, rfl, rfl⟩)) ?_ | refine TL.st_g rfl rfl rfl (Nat.le_of_ble_eq_true rfl) rfl (S_len rfl rfl (tT rfl) rfl (.inr (.inl ⟨_, _, _, _, rfl, rfl, rfl⟩))) ?_ | refine TL.st_g rfl rfl rfl (Nat.le_of_ble_eq_true rfl) rfl (S_len rfl rfl (tT rfl) rfl (.inr (.inr ⟨rfl, rfl⟩))) ?_ | refine TL.st_g rfl rfl rfl (Nat.le_of_ble_eq_true rfl) rfl (S_len_str rfl rfl (tT rfl) rfl rfl) ?_ | refine TL.st_g rfl rfl rfl (Nat.le_of_ble_eq_true rfl) rfl (S_len_arr rfl rfl (tT rfl) rfl) ?_ | refine TL.sk_g rfl rfl rfl (Nat.le_of_ble_eq_true rfl) rfl rfl ?_
  intro σ_ hσ_; simp only [nrm, tev, St.step, putO, setsV, addO, ↓reduceIte, Nat.reduceAdd, logT, atT, intern, internL, kp_ents, fz_ents, fz_bytes, kp_bytes, logR, logE, ← List.map_take, ← List.map_drop, List.take_length] at hσ_; subst hσ_
  first | refine TL.st_g rfl rfl rfl (Nat.le_of_ble_eq_true rfl) rfl (S_int rfl rfl rfl rfl (vbt (by omega))) ?_ | refine TL.st_g rfl rfl rfl (Nat.le_of_ble_eq_true rfl) rfl (S_int rfl rfl rfl rfl (vbf (by omega))) ?_ | refine TL.st_g rfl rfl rfl (Nat.le_of_ble_eq_true rfl) rfl (S_int rfl rfl rfl rfl rfl) ?_ | refine TL.st_g rfl rfl rfl (Nat.le_of_ble_eq_true rfl) rfl (S_boolop rfl rfl rfl rfl (tT rfl) rfl) ?_ | refine TL.sk_g rfl rfl rfl (Nat.le_of_ble_eq_true rfl) rfl rfl ?_
  intro σ_ hσ_; simp only [nrm, tev, St.step, putO, setsV, addO, ↓reduceIte, Nat.reduceAdd, logT, atT, intern, internL, kp_ents, fz_ents, fz_bytes, kp_bytes, logR, logE, ← List.map_take, ← List.map_drop, List.take_length] at hσ_; subst hσ_
  refine TL.st rfl (S_pick rfl rfl rfl) ?_
  intro σ_ hσ_; simp only [nrm, tev, St.step, putO, setsV, addO, ↓reduceIte, Nat.reduceAdd, logT, atT, intern, internL, kp_ents, fz_ents, fz_bytes, kp_bytes, logR, logE, ← List.map_take, ← List.map_drop, List.take_length] at hσ_; subst hσ_
  refine TL.st rfl (S_move rfl) ?_
  intro σ_ hσ_; simp only [nrm, tev, St.step, putO, setsV, addO, ↓reduceIte, Nat.reduceAdd, logT, atT, intern, internL, kp_ents, fz_ents, fz_bytes, kp_bytes, logR, logE, ← List.map_take, ← List.map_drop, List.take_length] at hσ_; subst hσ_
  first | refine TL.st_g rfl rfl rfl (Nat.le_of_ble_eq_true rfl) rfl (S_load rfl rfl rfl (tT rfl) rfl) ?_ | refine TL.st_g rfl rfl rfl (Nat.le_of_ble_eq_true rfl) rfl (S_load_eptr rfl rfl (tT rfl) rfl) ?_ | refine TL.st_g rfl rfl rfl (Nat.le_of_ble_eq_true rfl) rfl (S_load_row rfl rfl rfl rfl (by assumption) (tT rfl) rfl) ?_ | refine TL.st_g rfl rfl rfl (Nat.le_of_ble_eq_true rfl) rfl (S_load_row (j := 0) rfl rfl rfl rfl (by assumption) (tT rfl) rfl) ?_ | refine TL.sk_g rfl rfl rfl (Nat.le_of_ble_eq_true rfl) rfl rfl ?_
  intro σ_ hσ_; simp only [nrm, tev, St.step, putO, setsV, addO, ↓reduceIte, Nat.reduceAdd, logT, atT, intern, internL, kp_ents, fz_ents, fz_bytes, kp_bytes, logR, logE, ← List.map_take, ← List.map_drop, List.take_length] at hσ_; subst hσ_
  first | refine TL.st_g rfl rfl rfl (Nat.le_of_ble_eq_true rfl) rfl (S_load rfl rfl rfl (tT rfl) rfl) ?_ | refine TL.st_g rfl rfl rfl (Nat.le_of_ble_eq_true rfl) rfl (S_load_eptr rfl rfl (tT rfl) rfl) ?_ | refine TL.st_g rfl rfl rfl (Nat.le_of_ble_eq_true rfl) rfl (S_load_row rfl rfl rfl rfl (by assumption) (tT rfl) rfl) ?_ | refine TL.st_g rfl rfl rfl (Nat.le_of_ble_eq_true rfl) rfl (S_load_row (j := 0) rfl rfl rfl rfl (by assumption) (tT rfl) rfl) ?_ | refine TL.sk_g rfl rfl rfl (Nat.le_of_ble_eq_true rfl) rfl rfl ?_
  intro σ_ hσ_; simp only [nrm, tev, St.step, putO, setsV, addO, ↓reduceIte, Nat.reduceAdd, logT, atT, intern, internL, kp_ents, fz_ents, fz_bytes, kp_bytes, logR, logE, ← List.map_take, ← List.map_drop, List.take_length] at hσ_; subst hσ_
  first | refine TL.st_g rfl rfl rfl (Nat.le_of_ble_eq_true rfl) rfl (S_call_row rfl rfl rfl (by kernel_rfl) rfl ((hasx_T true true 0 0 wk3 wk3_ok.w wk3_ok.n9 (by omega) (by omega) (3, 2)).eq rfl (show _ = .v (.bool true) from rfl)) rfl) ?_ | refine TL.st_g rfl rfl rfl (Nat.le_of_ble_eq_true rfl) rfl (S_call rfl rfl rfl (by kernel_rfl) rfl ((hasx_T true true 0 0 wk3 wk3_ok.w wk3_ok.n9 (by omega) (by omega) (3, 2)).eq rfl (show _ = .v (.bool true) from rfl))) ?_ | refine TL.st_g rfl rfl rfl (Nat.le_of_ble_eq_true rfl) rfl (S_call_row rfl rfl rfl (by kernel_rfl) rfl ((hasx_T true true 0 0 [⟨1, 1, []⟩] (wk3_ok.take 1).w (wk3_ok.take 1).n9 (by omega) (by omega) (3, 2)).eq rfl (show _ = .v (.bool false) from rfl)) rfl) ?_ | refine TL.st_g rfl rfl rfl (Nat.le_of_ble_eq_true rfl) rfl (S_call rfl rfl rfl (by kernel_rfl) rfl ((hasx_T true true 0 0 [⟨1, 1, []⟩] (wk3_ok.take 1).w (wk3_ok.take 1).n9 (by omega) (by omega) (3, 2)).eq rfl (show _ = .v (.bool false) from rfl))) ?_ | refine TL.sk_g rfl rfl rfl (Nat.le_of_ble_eq_true rfl) rfl rfl ?_
  intro σ_ hσ_; simp only [nrm, tev, St.step, putO, setsV, addO, ↓reduceIte, Nat.reduceAdd, logT, atT, intern, internL, kp_ents, fz_ents, fz_bytes, kp_bytes, logR, logE, ← List.map_take, ← List.map_drop, List.take_length] at hσ_; subst hσ_
  refine TL.st rfl (S_pick rfl rfl rfl) ?_
  intro σ_ hσ_; simp only [nrm, tev, St.step, putO, setsV, addO, ↓reduceIte, Nat.reduceAdd, logT, atT, intern, internL, kp_ents, fz_ents, fz_bytes, kp_bytes, logR, logE, ← List.map_take, ← List.map_drop, List.take_length] at hσ_; subst hσ_
  refine TL.st rfl (S_move rfl) ?_
  intro σ_ hσ_; simp only [nrm, tev, St.step, putO, setsV, addO, ↓reduceIte, Nat.reduceAdd, logT, atT, intern, internL, kp_ents, fz_ents, fz_bytes, kp_bytes, logR, logE, ← List.map_take, ← List.map_drop, List.take_length] at hσ_; subst hσ_
  first | refine TL.st_g rfl rfl rfl (Nat.le_of_ble_eq_true rfl) rfl (S_load rfl rfl rfl (tT rfl) rfl) ?_ | refine TL.st_g rfl rfl rfl (Nat.le_of_ble_eq_true rfl) rfl (S_load_eptr rfl rfl (tT rfl) rfl) ?_ | refine TL.st_g rfl rfl rfl (Nat.le_of_ble_eq_true rfl) rfl (S_load_row rfl rfl rfl rfl (by assumption) (tT rfl) rfl) ?_ | refine TL.st_g rfl rfl rfl (Nat.le_of_ble_eq_true rfl) rfl (S_load_row (j := 0) rfl rfl rfl rfl (by assumption) (tT rfl) rfl) ?_ | refine TL.sk_g rfl rfl rfl (Nat.le_of_ble_eq_true rfl) rfl rfl ?_
  intro σ_ hσ_; simp only [nrm, tev, St.step, putO, setsV, addO, ↓reduceIte, Nat.reduceAdd, logT, atT, intern, internL, kp_ents, fz_ents, fz_bytes, kp_bytes, logR, logE, ← List.map_take, ← List.map_drop, List.take_length] at hσ_; subst hσ_
  first | refine TL.st_g rfl rfl rfl (Nat.le_of_ble_eq_true rfl) rfl (S_load rfl rfl rfl (tT rfl) rfl) ?_ | refine TL.st_g rfl rfl rfl (Nat.le_of_ble_eq_true rfl) rfl (S_load_eptr rfl rfl (tT rfl) rfl) ?_ | refine TL.st_g rfl rfl rfl (Nat.le_of_ble_eq_true rfl) rfl (S_load_row rfl rfl rfl rfl (by assumption) (tT rfl) rfl) ?_ | refine TL.st_g rfl rfl rfl (Nat.le_of_ble_eq_true rfl) rfl (S_load_row (j := 0) rfl rfl rfl rfl (by assumption) (tT rfl) rfl) ?_ | refine TL.sk_g rfl rfl rfl (Nat.le_of_ble_eq_true rfl) rfl rfl ?_
  intro σ_ hσ_; simp only [nrm, tev, St.step, putO, setsV, addO, ↓reduceIte, Nat.reduceAdd, logT, atT, intern, internL, kp_ents, fz_ents, fz_bytes, kp_bytes, logR, logE, ← List.map_take, ← List.map_drop, List.take_length] at hσ_; subst hσ_
  first | refine TL.st_g rfl rfl rfl (Nat.le_of_ble_eq_true rfl) rfl (S_call_row rfl rfl rfl (by kernel_rfl) rfl ((hasx_T true true 0 0 wk3 wk3_ok.w wk3_ok.n9 (by omega) (by omega) (3, 2)).eq rfl (show _ = .v (.bool true) from rfl)) rfl) ?_ | refine TL.st_g rfl rfl rfl (Nat.le_of_ble_eq_true rfl) rfl (S_call rfl rfl rfl (by kernel_rfl) rfl ((hasx_T true true 0 0 wk3 wk3_ok.w wk3_ok.n9 (by omega) (by omega) (3, 2)).eq rfl (show _ = .v (.bool true) from rfl))) ?_ | refine TL.st_g rfl rfl rfl (Nat.le_of_ble_eq_true rfl) rfl (S_call_row rfl rfl rfl (by kernel_rfl) rfl ((hasx_T true true 0 0 [⟨1, 1, []⟩] (wk3_ok.take 1).w (wk3_ok.take 1).n9 (by omega) (by omega) (3, 2)).eq rfl (show _ = .v (.bool false) from rfl)) rfl) ?_ | refine TL.st_g rfl rfl rfl (Nat.le_of_ble_eq_true rfl) rfl (S_call rfl rfl rfl (by kernel_rfl) rfl ((hasx_T true true 0 0 [⟨1, 1, []⟩] (wk3_ok.take 1).w (wk3_ok.take 1).n9 (by omega) (by omega) (3, 2)).eq rfl (show _ = .v (.bool false) from rfl))) ?_ | refine TL.sk_g rfl rfl rfl (Nat.le_of_ble_eq_true rfl) rfl rfl ?_
  intro σ_ hσ_; simp only [nrm, tev, St.step, putO, setsV, addO, ↓reduceIte, Nat.reduceAdd, logT, atT, intern, internL, kp_ents, fz_ents, fz_bytes, kp_bytes, logR, logE, ← List.map_take, ← List.map_drop, List.take_length] at hσ_; subst hσ_
  first | refine TL.st_g rfl rfl rfl (Nat.le_of_ble_eq_true rfl) rfl (S_not rfl rfl) ?_ | refine TL.st_g rfl rfl rfl (Nat.le_of_ble_eq_true rfl) rfl (S_neg rfl rfl) ?_ | refine TL.sk_g rfl rfl rfl (Nat.le_of_ble_eq_true rfl) rfl rfl ?_
  intro σ_ hσ_; simp only [nrm, tev, St.step, putO, setsV, addO, ↓reduceIte, Nat.reduceAdd, logT, atT, intern, internL, kp_ents, fz_ents, fz_bytes, kp_bytes, logR, logE, ← List.map_take, ← List.map_drop, List.take_length] at hσ_; subst hσ_
  refine TL.st rfl (S_pick rfl rfl rfl) ?_
  intro σ_ hσ_; simp only [nrm, tev, St.step, putO, setsV, addO, ↓reduceIte, Nat.reduceAdd, logT, atT, intern, internL, kp_ents, fz_ents, fz_bytes, kp_bytes, logR, logE, ← List.map_take, ← List.map_drop, List.take_length] at hσ_; subst hσ_
  refine TL.st rfl (S_assign rfl) ?_
  intro σ_ hσ_; simp only [nrm, tev, St.step, putO, setsV, addO, ↓reduceIte, Nat.reduceAdd, logT, atT, intern, internL, kp_ents, fz_ents, fz_bytes, kp_bytes, logR, logE, ← List.map_take, ← List.map_drop, List.take_length] at hσ_; subst hσ_
  refine TL.nil ?_
  try simp (decide := true) only [thenT, inBlockT, noGotoT, jumpT, ↓reduceIte, true_and]
  refine hK5_ _ ?_
  refine TW.ret ?_
  try simp (decide := true) only [thenT, inBlockT, noGotoT, jumpT, ↓reduceIte, true_and]
  refine ⟨.inr rfl, _, none, (ResT.one Try.results10 rfl), ?_, (by rintro _ ⟨⟩)⟩
  simp only [nrm, tev, Out_v, Out_agg, Out_tup, OutL_nil, OutL_cons, Out_sl, Out_row_osl, Out_nil_osl, Out_nil_sl, Out_nil_nil, and_true, true_and, logT, atT, logR, logE, fr_ents, hf, List.getD_cons_zero, List.getD_cons_succ]
  done

end Go.Proofs.Ytpckkajodpiiaaa
