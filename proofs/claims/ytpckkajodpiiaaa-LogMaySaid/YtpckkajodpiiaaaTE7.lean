/- The document's own words on logs: spots, the end, the same logs; what the layer does at all. No condition. -/
import Derived.Test.YtpckkajodpiiaaaTE6
import Derived.Test.YtpckkajodpiiaaaT14
import Derived.Test.YtpckkajodpiiaaaT15
namespace Go.Proofs.Ytpckkajodpiiaaa
open Go.RowKit
set_option linter.unusedVariables false
set_option linter.unusedSimpArgs false

theorem cells2 {x y : TV} : ∀ c ∈ [[x, y]], c.length = 2 := fun c hc => by
  rw [List.mem_singleton.1 hc]; rfl
def atC (x : Int × Int) : List TV := [.v (.int .u64 x.1), .v (.int .u64 x.2)]
def spotsL (i t : Int) (es : List Ent) (n : Nat) : List (Int × Int) := (List.range n).map (spotN i t es)
theorem untag_ats : ∀ l : List (Int × Int), untagLL (l.map atC) = l.map atC
  | [] => rfl
  | x :: l => by simp only [List.map_cons, untagLL, untag_ats l]; simp [atC, untagL, untag]
theorem pu_ats (l : List (Int × Int)) : PuLL (l.map atC) := PuLL_map _ _ fun x _ => by simp [atC, PuL, Pu]
theorem fr_ats (l : List (Int × Int)) : FrLL (l.map atC) := FrLL_map _ _ fun x _ => by simp [atC, FrL, Fr]
theorem kp_ats (p : Nat → Bool) : ∀ l : List (Int × Int), kpLL p (l.map atC) = l.map atC
  | [] => rfl
  | x :: l => by simp only [List.map_cons, kpLL, kp_ats p l]; simp [atC, kpL, kp]
theorem fz_ats (j : Nat) (x : TV) : ∀ l : List (Int × Int), fzLL j x (l.map atC) = l.map atC
  | [] => rfl
  | y :: l => by simp only [List.map_cons, fzLL, fz_ats j x l]; simp [atC, fzL, fz]
theorem ats_len (l : List (Int × Int)) : ∀ c ∈ l.map atC, c.length = 2 := fun c hc => by obtain ⟨e, _, rfl⟩ := List.mem_map.1 hc; rfl
theorem spots_step (i t : Int) (es : List Ent) (n : Nat) : spotsL i t es (n + 1) = spotsL i t es n ++ [spotN i t es n] := by simp [spotsL, List.range_succ]
theorem spots_len (i t : Int) (es : List Ent) (n : Nat) : (spotsL i t es n).length = n := by simp [spotsL]
theorem spots_at (i t : Int) (es : List Ent) {n k : Nat} (h : k < n) : ((spotsL i t es n).map atC)[k]? = some [.v (.int .u64 (spotN i t es k).1), .v (.int .u64 (spotN i t es k).2)] := by
  simp [spotsL, List.getElem?_map, List.getElem?_range h, atC]
theorem spot_next (i t : Int) (es : List Ent) (k : Nat) (e : Ent) (he : es[k]? = some e) : spotN i t es (k + 1) = (IntKind.u64.wrap ((spotN i t es k).1 + 1), e.T) := by
  simp only [spotN, he, Option.map_some, Option.getD_some, Prod.mk.injEq, and_true]
  simp [IntKind.wrap, IntKind.bits, IntKind.signed]
  omega

set_option maxRecDepth 20000 in
set_option maxHeartbeats 1000000 in
theorem same6b_T (b b2 : Bool) (x y : List Int) (hn : x.length ≤ 4611686018427387904) (hn2 : y.length ≤ 4611686018427387904) :
    TMeets Try.prog 57 [.sl b (x.map byC), .sl b2 (y.map byC)] (.v (.bool (decide (x = y)))) := by
  refine TMeets.of_TW Try.func57 rfl (by simp [PuL, Pu, logT, atT, pu_ents, entC, pu_bytes]) ?_
  intro B w0
  rw [Try.ntmps57]
  simp only [untagL, untag, List.length_cons, List.length_nil, List.replicate_succ, List.replicate_zero, Nat.reduceAdd, Nat.reduceSub, List.cons_append, List.nil_append, logT, atT, untag_ents, untag_bytes, entC]
  refine TW.seq_k ?_
  intro K1_ hK1_
  refine TW.reg ?_
  refine TL.st rfl (S_assign rfl) ?_
  intro σ_ hσ_; simp only [nrm, tev, St.step, putO, setsV, addO, ↓reduceIte, Nat.reduceAdd, logT, atT, intern, internL, kp_ents, fz_ents, fz_bytes, kp_bytes, kp_ats, fz_ats, logR, logE, ← List.map_take, ← List.map_drop, List.take_length, spots_len] at hσ_; subst hσ_
  refine TL.nil ?_
  try simp (decide := true) only [thenT, inBlockT, noGotoT, jumpT, ↓reduceIte, true_and]
  refine hK1_ _ ?_
  refine TW.seq_k ?_
  intro K2_ hK2_
  refine TW.seq_k ?_
  intro K3_ hK3_
  by_cases hl : x.length = y.length
  · skip
    refine TW.reg ?_
    refine TL.st rfl (S_move rfl) ?_
    intro σ_ hσ_; simp only [nrm, tev, St.step, putO, setsV, addO, ↓reduceIte, Nat.reduceAdd, logT, atT, intern, internL, kp_ents, fz_ents, fz_bytes, kp_bytes, kp_ats, fz_ats, logR, logE, ← List.map_take, ← List.map_drop, List.take_length, spots_len] at hσ_; subst hσ_
    first | refine TL.st rfl (S_len rfl rfl (tT rfl) rfl (.inl ⟨_, _, rfl, rfl⟩)) ?_ | refine TL.st rfl (S_len rfl rfl (tT rfl) rfl (.inr (.inl ⟨_, _, _, _, rfl, rfl, rfl⟩))) ?_ | refine TL.st rfl (S_len rfl rfl (tT rfl) rfl (.inr (.inr ⟨rfl, rfl⟩))) ?_ | refine TL.st rfl (S_len_str rfl rfl (tT rfl) rfl rfl) ?_ | refine TL.st rfl (S_len_arr rfl rfl (tT rfl) rfl) ?_
    intro σ_ hσ_; simp only [nrm, tev, St.step, putO, setsV, addO, ↓reduceIte, Nat.reduceAdd, logT, atT, intern, internL, kp_ents, fz_ents, fz_bytes, kp_bytes, kp_ats, fz_ats, logR, logE, ← List.map_take, ← List.map_drop, List.take_length, spots_len] at hσ_; subst hσ_
    refine TL.st rfl (S_move rfl) ?_
    intro σ_ hσ_; simp only [nrm, tev, St.step, putO, setsV, addO, ↓reduceIte, Nat.reduceAdd, logT, atT, intern, internL, kp_ents, fz_ents, fz_bytes, kp_bytes, kp_ats, fz_ats, logR, logE, ← List.map_take, ← List.map_drop, List.take_length, spots_len] at hσ_; subst hσ_
    first | refine TL.st rfl (S_len rfl rfl (tT rfl) rfl (.inl ⟨_, _, rfl, rfl⟩)) ?_ | refine TL.st rfl (S_len rfl rfl (tT rfl) rfl (.inr (.inl ⟨_, _, _, _, rfl, rfl, rfl⟩))) ?_ | refine TL.st rfl (S_len rfl rfl (tT rfl) rfl (.inr (.inr ⟨rfl, rfl⟩))) ?_ | refine TL.st rfl (S_len_str rfl rfl (tT rfl) rfl rfl) ?_ | refine TL.st rfl (S_len_arr rfl rfl (tT rfl) rfl) ?_
    intro σ_ hσ_; simp only [nrm, tev, St.step, putO, setsV, addO, ↓reduceIte, Nat.reduceAdd, logT, atT, intern, internL, kp_ents, fz_ents, fz_bytes, kp_bytes, kp_ats, fz_ats, logR, logE, ← List.map_take, ← List.map_drop, List.take_length, spots_len] at hσ_; subst hσ_
    first | refine TL.st rfl (S_int rfl rfl rfl rfl (vnt (by omega))) ?_ | refine TL.st rfl (S_int rfl rfl rfl rfl (vnf (by omega))) ?_ | refine TL.st rfl (S_int rfl rfl rfl rfl rfl) ?_ | refine TL.st rfl (S_boolneq rfl rfl rfl rfl (tT rfl) rfl) ?_
    intro σ_ hσ_; simp only [nrm, tev, St.step, putO, setsV, addO, ↓reduceIte, Nat.reduceAdd, logT, atT, intern, internL, kp_ents, fz_ents, fz_bytes, kp_bytes, kp_ats, fz_ats, logR, logE, ← List.map_take, ← List.map_drop, List.take_length, spots_len] at hσ_; subst hσ_
    refine TL.nil ?_
    try simp (decide := true) only [thenT, inBlockT, noGotoT, jumpT, ↓reduceIte, true_and]
    refine hK3_ _ ?_
    refine TW.cond_f rfl (rfl) ?_
    refine TW.skip ?_
    try simp (decide := true) only [thenT, inBlockT, noGotoT, jumpT, ↓reduceIte, true_and]
    refine hK2_ _ ?_
    refine TW.seq_k ?_
    intro K4_ hK4_
    refine TW.seq_k ?_
    intro K5_ hK5_
    refine TW.reg ?_
    refine TL.st rfl (S_move rfl) ?_
    intro σ_ hσ_; simp only [nrm, tev, St.step, putO, setsV, addO, ↓reduceIte, Nat.reduceAdd, logT, atT, intern, internL, kp_ents, fz_ents, fz_bytes, kp_bytes, kp_ats, fz_ats, logR, logE, ← List.map_take, ← List.map_drop, List.take_length, spots_len] at hσ_; subst hσ_
    first | refine TL.st rfl (S_len rfl rfl (tT rfl) rfl (.inl ⟨_, _, rfl, rfl⟩)) ?_ | refine TL.st rfl (S_len rfl rfl (tT rfl) rfl (.inr (.inl ⟨_, _, _, _, rfl, rfl, rfl⟩))) ?_ | refine TL.st rfl (S_len rfl rfl (tT rfl) rfl (.inr (.inr ⟨rfl, rfl⟩))) ?_ | refine TL.st rfl (S_len_str rfl rfl (tT rfl) rfl rfl) ?_ | refine TL.st rfl (S_len_arr rfl rfl (tT rfl) rfl) ?_
    intro σ_ hσ_; simp only [nrm, tev, St.step, putO, setsV, addO, ↓reduceIte, Nat.reduceAdd, logT, atT, intern, internL, kp_ents, fz_ents, fz_bytes, kp_bytes, kp_ats, fz_ats, logR, logE, ← List.map_take, ← List.map_drop, List.take_length, spots_len] at hσ_; subst hσ_
    refine TL.st rfl (S_move rfl) ?_
    intro σ_ hσ_; simp only [nrm, tev, St.step, putO, setsV, addO, ↓reduceIte, Nat.reduceAdd, logT, atT, intern, internL, kp_ents, fz_ents, fz_bytes, kp_bytes, kp_ats, fz_ats, logR, logE, ← List.map_take, ← List.map_drop, List.take_length, spots_len] at hσ_; subst hσ_
    refine TL.nil ?_
    try simp (decide := true) only [thenT, inBlockT, noGotoT, jumpT, ↓reduceIte, true_and]
    refine hK5_ _ ?_
    refine TW.block ?_
    refine TW.loopS (X := Nat) (fun k => k ≤ x.length ∧ ∀ j, j < k → x[j]? = y[j]?) (fun k => x.length - k) (fun k => [(4, .any), (5, .any), (13, .v (.int .i64 k)), (14, .any), (15, .any), (16, .any), (17, .any), (18, .any), (19, .any), (20, .any), (21, .any), (22, .any), (23, .any), (24, .any), (25, .any)]) (fun k => []) 0 ⟨Nat.zero_le _, fun j hj => absurd hj (by omega)⟩ ?_ ?_
    · refine SLe.of ?_ ?_ ?_
      · simp [setsL, LeL_cons, LeL_nil, LeT_any, LeT_self, LeT_v, LeT_sl, LeT_nil_sl, List.set_cons_zero, List.set_cons_succ, kp_bytes]
      · exact LeB.refl _
      · exact LeL.refl _
    · rintro k ⟨hk, hal⟩ σ_ hσ_
      simp only [nrm, tev, St.step, putO, setsV, addO, ↓reduceIte, Nat.reduceAdd, logT, atT, intern, internL, kp_ents, fz_ents, fz_bytes, kp_bytes, kp_ats, fz_ats, logR, logE, ← List.map_take, ← List.map_drop, List.take_length, spots_len, setsL_nil, setsL_cons] at hσ_; subst hσ_
      refine TW.seq_k ?_
      intro K6_ hK6_
      by_cases hlt : k < x.length
      · skip
        obtain ⟨u, hu⟩ : ∃ u, x[k]? = some u := ⟨x[k]'hlt, List.getElem?_eq_getElem _⟩
        obtain ⟨v, hv⟩ : ∃ v, y[k]? = some v := ⟨y[k]'(by omega), List.getElem?_eq_getElem _⟩
        have hc : (x.map byC)[k]? = some [.v (.int .u8 u)] := by rw [List.getElem?_map, hu]; rfl
        have hc2 : (y.map byC)[k]? = some [.v (.int .u8 v)] := by rw [List.getElem?_map, hv]; rfl
        have hb1 := byl_len x
        have hb2 := byl_len y
        refine TW.reg ?_
        first | refine TL.st rfl (S_int rfl rfl rfl rfl (vbt (by omega))) ?_ | refine TL.st rfl (S_int rfl rfl rfl rfl (vbf (by omega))) ?_ | refine TL.st rfl (S_int rfl rfl rfl rfl rfl) ?_
        intro σ_ hσ_; simp only [nrm, tev, St.step, putO, setsV, addO, ↓reduceIte, Nat.reduceAdd, logT, atT, intern, internL, kp_ents, fz_ents, fz_bytes, kp_bytes, kp_ats, fz_ats, logR, logE, ← List.map_take, ← List.map_drop, List.take_length, spots_len] at hσ_; subst hσ_
        refine TL.nil ?_
        try simp (decide := true) only [thenT, inBlockT, noGotoT, jumpT, ↓reduceIte, true_and]
        refine hK6_ _ ?_
        refine TW.seq_k ?_
        intro K7_ hK7_
        refine TW.cond_t rfl (rfl) ?_
        refine TW.skip ?_
        try simp (decide := true) only [thenT, inBlockT, noGotoT, jumpT, ↓reduceIte, true_and]
        refine hK7_ _ ?_
        refine TW.seq_k ?_
        intro K8_ hK8_
        refine TW.block ?_
        refine TW.seq_k ?_
        intro K9_ hK9_
        refine TW.reg ?_
        refine TL.st rfl (S_move rfl) ?_
        intro σ_ hσ_; simp only [nrm, tev, St.step, putO, setsV, addO, ↓reduceIte, Nat.reduceAdd, logT, atT, intern, internL, kp_ents, fz_ents, fz_bytes, kp_bytes, kp_ats, fz_ats, logR, logE, ← List.map_take, ← List.map_drop, List.take_length, spots_len] at hσ_; subst hσ_
        refine TL.st rfl (S_assign rfl) ?_
        intro σ_ hσ_; simp only [nrm, tev, St.step, putO, setsV, addO, ↓reduceIte, Nat.reduceAdd, logT, atT, intern, internL, kp_ents, fz_ents, fz_bytes, kp_bytes, kp_ats, fz_ats, logR, logE, ← List.map_take, ← List.map_drop, List.take_length, spots_len] at hσ_; subst hσ_
        refine TL.nil ?_
        try simp (decide := true) only [thenT, inBlockT, noGotoT, jumpT, ↓reduceIte, true_and]
        refine hK9_ _ ?_
        refine TW.seq_k ?_
        intro K10_ hK10_
        by_cases huv : u = v
        · skip
          refine TW.region_par 9 (by kernel_rfl) (by kernel_rfl) ?_
          simp only [List.take_succ_cons, List.take_zero, List.drop_succ_cons, List.drop_zero, List.take_nil, List.drop_nil]
          refine TPar.st rfl (S_move rfl) ?_
          intro s_ h_ hs_ hh_; simp only [nrm, tev, St.step, putO, setsV, addO, ↓reduceIte, Nat.reduceAdd, logT, atT, intern, internL, kp_ents, fz_ents, fz_bytes, kp_bytes, kp_ats, fz_ats, logR, logE, ← List.map_take, ← List.map_drop, List.take_length, spots_len] at hs_ hh_; subst hs_; subst hh_
          refine TPar.st rfl (S_move rfl) ?_
          intro s_ h_ hs_ hh_; simp only [nrm, tev, St.step, putO, setsV, addO, ↓reduceIte, Nat.reduceAdd, logT, atT, intern, internL, kp_ents, fz_ents, fz_bytes, kp_bytes, kp_ats, fz_ats, logR, logE, ← List.map_take, ← List.map_drop, List.take_length, spots_len] at hs_ hh_; subst hs_; subst hh_
          first | refine TPar.st rfl (S_index_sl rfl rfl rfl (tT rfl) rfl (tT rfl) (by assumption) rfl rfl (by decide)) ?_ | refine TPar.st rfl (S_index_sl rfl rfl rfl (tT rfl) rfl (tT rfl) (by assumption) (by first | rfl | omega) rfl (by decide)) ?_ | refine TPar.st rfl (S_index_row rfl rfl rfl rfl (tT rfl) rfl (tT rfl) rfl rfl (by first | assumption | omega)) ?_ | refine TPar.st rfl (S_index_arr rfl rfl rfl (tT rfl) rfl (tT rfl) rfl (by first | assumption | decide | omega)) ?_
          intro s_ h_ hs_ hh_; simp only [nrm, tev, St.step, putO, setsV, addO, ↓reduceIte, Nat.reduceAdd, logT, atT, intern, internL, kp_ents, fz_ents, fz_bytes, kp_bytes, kp_ats, fz_ats, logR, logE, ← List.map_take, ← List.map_drop, List.take_length, spots_len] at hs_ hh_; subst hs_; subst hh_
          first | refine TPar.st rfl (S_load rfl rfl rfl (tT rfl) rfl) ?_ | refine TPar.st rfl (S_load_eptr rfl rfl (tT rfl) rfl) ?_ | refine TPar.st rfl (S_load_row rfl rfl rfl rfl (by assumption) (tT rfl) rfl) ?_ | refine TPar.st rfl (S_load_row (j := 0) rfl rfl rfl rfl (by assumption) (tT rfl) rfl) ?_
          intro s_ h_ hs_ hh_; simp only [nrm, tev, St.step, putO, setsV, addO, ↓reduceIte, Nat.reduceAdd, logT, atT, intern, internL, kp_ents, fz_ents, fz_bytes, kp_bytes, kp_ats, fz_ats, logR, logE, ← List.map_take, ← List.map_drop, List.take_length, spots_len] at hs_ hh_; subst hs_; subst hh_
          refine TPar.st rfl (S_move rfl) ?_
          intro s_ h_ hs_ hh_; simp only [nrm, tev, St.step, putO, setsV, addO, ↓reduceIte, Nat.reduceAdd, logT, atT, intern, internL, kp_ents, fz_ents, fz_bytes, kp_bytes, kp_ats, fz_ats, logR, logE, ← List.map_take, ← List.map_drop, List.take_length, spots_len] at hs_ hh_; subst hs_; subst hh_
          refine TPar.st rfl (S_move rfl) ?_
          intro s_ h_ hs_ hh_; simp only [nrm, tev, St.step, putO, setsV, addO, ↓reduceIte, Nat.reduceAdd, logT, atT, intern, internL, kp_ents, fz_ents, fz_bytes, kp_bytes, kp_ats, fz_ats, logR, logE, ← List.map_take, ← List.map_drop, List.take_length, spots_len] at hs_ hh_; subst hs_; subst hh_
          first | refine TPar.st rfl (S_index_sl rfl rfl rfl (tT rfl) rfl (tT rfl) (by assumption) rfl rfl (by decide)) ?_ | refine TPar.st rfl (S_index_sl rfl rfl rfl (tT rfl) rfl (tT rfl) (by assumption) (by first | rfl | omega) rfl (by decide)) ?_ | refine TPar.st rfl (S_index_row rfl rfl rfl rfl (tT rfl) rfl (tT rfl) rfl rfl (by first | assumption | omega)) ?_ | refine TPar.st rfl (S_index_arr rfl rfl rfl (tT rfl) rfl (tT rfl) rfl (by first | assumption | decide | omega)) ?_
          intro s_ h_ hs_ hh_; simp only [nrm, tev, St.step, putO, setsV, addO, ↓reduceIte, Nat.reduceAdd, logT, atT, intern, internL, kp_ents, fz_ents, fz_bytes, kp_bytes, kp_ats, fz_ats, logR, logE, ← List.map_take, ← List.map_drop, List.take_length, spots_len] at hs_ hh_; subst hs_; subst hh_
          first | refine TPar.st rfl (S_load rfl rfl rfl (tT rfl) rfl) ?_ | refine TPar.st rfl (S_load_eptr rfl rfl (tT rfl) rfl) ?_ | refine TPar.st rfl (S_load_row rfl rfl rfl rfl (by assumption) (tT rfl) rfl) ?_ | refine TPar.st rfl (S_load_row (j := 0) rfl rfl rfl rfl (by assumption) (tT rfl) rfl) ?_
          intro s_ h_ hs_ hh_; simp only [nrm, tev, St.step, putO, setsV, addO, ↓reduceIte, Nat.reduceAdd, logT, atT, intern, internL, kp_ents, fz_ents, fz_bytes, kp_bytes, kp_ats, fz_ats, logR, logE, ← List.map_take, ← List.map_drop, List.take_length, spots_len] at hs_ hh_; subst hs_; subst hh_
          first | refine TPar.st rfl (S_int rfl rfl rfl rfl (vnt (by omega))) ?_ | refine TPar.st rfl (S_int rfl rfl rfl rfl (vnf (by omega))) ?_ | refine TPar.st rfl (S_int rfl rfl rfl rfl rfl) ?_ | refine TPar.st rfl (S_boolneq rfl rfl rfl rfl (tT rfl) rfl) ?_
          intro s_ h_ hs_ hh_; simp only [nrm, tev, St.step, putO, setsV, addO, ↓reduceIte, Nat.reduceAdd, logT, atT, intern, internL, kp_ents, fz_ents, fz_bytes, kp_bytes, kp_ats, fz_ats, logR, logE, ← List.map_take, ← List.map_drop, List.take_length, spots_len] at hs_ hh_; subst hs_; subst hh_
          unfold TPar
          refine TL.nil ?_
          try simp (decide := true) only [thenT, inBlockT, noGotoT, jumpT, ↓reduceIte, true_and]
          refine hK10_ _ ?_
          refine TW.cond_f rfl (rfl) ?_
          refine TW.skip ?_
          try simp (decide := true) only [thenT, inBlockT, noGotoT, jumpT, ↓reduceIte, true_and]
          refine hK8_ _ ?_
          refine TW.reg ?_
          first | refine TL.st rfl (S_int rfl rfl rfl rfl (vi64 (by omega))) ?_ | refine TL.st rfl (S_int rfl rfl rfl rfl (vu64 (by omega))) ?_ | refine TL.st rfl (S_int rfl rfl rfl rfl rfl) ?_
          intro σ_ hσ_; simp only [nrm, tev, St.step, putO, setsV, addO, ↓reduceIte, Nat.reduceAdd, logT, atT, intern, internL, kp_ents, fz_ents, fz_bytes, kp_bytes, kp_ats, fz_ats, logR, logE, ← List.map_take, ← List.map_drop, List.take_length, spots_len] at hσ_; subst hσ_
          refine TL.st rfl (S_move rfl) ?_
          intro σ_ hσ_; simp only [nrm, tev, St.step, putO, setsV, addO, ↓reduceIte, Nat.reduceAdd, logT, atT, intern, internL, kp_ents, fz_ents, fz_bytes, kp_bytes, kp_ats, fz_ats, logR, logE, ← List.map_take, ← List.map_drop, List.take_length, spots_len] at hσ_; subst hσ_
          refine TL.nil ?_
          try simp (decide := true) only [thenT, inBlockT, noGotoT, jumpT, ↓reduceIte, true_and]
          refine ⟨(k + 1), ⟨by omega, fun j hj => by rcases Nat.lt_or_ge j k with h1 | h1; exact hal j h1; rw [show j = k by omega, hu, hv, huv]⟩, by omega, ?_⟩
          refine SLe.back 0 ?_ ?_ ?_
          · simp [setsL, kpL, kp, low, kpLL, LeL_cons, LeL_nil, LeT_any, LeT_self, LeT_v, LeT_sl, LeT_nil_sl, List.set_cons_zero, List.set_cons_succ, kp_bytes]
          · simp [setsL, LB.kp, kpL, kp, low, LeB_self, LeB_nil, kp_bytes]
          · simp [kpL, LeL_nil]
        · skip
          refine TW.region_par 9 (by kernel_rfl) (by kernel_rfl) ?_
          simp only [List.take_succ_cons, List.take_zero, List.drop_succ_cons, List.drop_zero, List.take_nil, List.drop_nil]
          refine TPar.st rfl (S_move rfl) ?_
          intro s_ h_ hs_ hh_; simp only [nrm, tev, St.step, putO, setsV, addO, ↓reduceIte, Nat.reduceAdd, logT, atT, intern, internL, kp_ents, fz_ents, fz_bytes, kp_bytes, kp_ats, fz_ats, logR, logE, ← List.map_take, ← List.map_drop, List.take_length, spots_len] at hs_ hh_; subst hs_; subst hh_
          refine TPar.st rfl (S_move rfl) ?_
          intro s_ h_ hs_ hh_; simp only [nrm, tev, St.step, putO, setsV, addO, ↓reduceIte, Nat.reduceAdd, logT, atT, intern, internL, kp_ents, fz_ents, fz_bytes, kp_bytes, kp_ats, fz_ats, logR, logE, ← List.map_take, ← List.map_drop, List.take_length, spots_len] at hs_ hh_; subst hs_; subst hh_
          first | refine TPar.st rfl (S_index_sl rfl rfl rfl (tT rfl) rfl (tT rfl) (by assumption) rfl rfl (by decide)) ?_ | refine TPar.st rfl (S_index_sl rfl rfl rfl (tT rfl) rfl (tT rfl) (by assumption) (by first | rfl | omega) rfl (by decide)) ?_ | refine TPar.st rfl (S_index_row rfl rfl rfl rfl (tT rfl) rfl (tT rfl) rfl rfl (by first | assumption | omega)) ?_ | refine TPar.st rfl (S_index_arr rfl rfl rfl (tT rfl) rfl (tT rfl) rfl (by first | assumption | decide | omega)) ?_
          intro s_ h_ hs_ hh_; simp only [nrm, tev, St.step, putO, setsV, addO, ↓reduceIte, Nat.reduceAdd, logT, atT, intern, internL, kp_ents, fz_ents, fz_bytes, kp_bytes, kp_ats, fz_ats, logR, logE, ← List.map_take, ← List.map_drop, List.take_length, spots_len] at hs_ hh_; subst hs_; subst hh_
          first | refine TPar.st rfl (S_load rfl rfl rfl (tT rfl) rfl) ?_ | refine TPar.st rfl (S_load_eptr rfl rfl (tT rfl) rfl) ?_ | refine TPar.st rfl (S_load_row rfl rfl rfl rfl (by assumption) (tT rfl) rfl) ?_ | refine TPar.st rfl (S_load_row (j := 0) rfl rfl rfl rfl (by assumption) (tT rfl) rfl) ?_
          intro s_ h_ hs_ hh_; simp only [nrm, tev, St.step, putO, setsV, addO, ↓reduceIte, Nat.reduceAdd, logT, atT, intern, internL, kp_ents, fz_ents, fz_bytes, kp_bytes, kp_ats, fz_ats, logR, logE, ← List.map_take, ← List.map_drop, List.take_length, spots_len] at hs_ hh_; subst hs_; subst hh_
          refine TPar.st rfl (S_move rfl) ?_
          intro s_ h_ hs_ hh_; simp only [nrm, tev, St.step, putO, setsV, addO, ↓reduceIte, Nat.reduceAdd, logT, atT, intern, internL, kp_ents, fz_ents, fz_bytes, kp_bytes, kp_ats, fz_ats, logR, logE, ← List.map_take, ← List.map_drop, List.take_length, spots_len] at hs_ hh_; subst hs_; subst hh_
          refine TPar.st rfl (S_move rfl) ?_
          intro s_ h_ hs_ hh_; simp only [nrm, tev, St.step, putO, setsV, addO, ↓reduceIte, Nat.reduceAdd, logT, atT, intern, internL, kp_ents, fz_ents, fz_bytes, kp_bytes, kp_ats, fz_ats, logR, logE, ← List.map_take, ← List.map_drop, List.take_length, spots_len] at hs_ hh_; subst hs_; subst hh_
          first | refine TPar.st rfl (S_index_sl rfl rfl rfl (tT rfl) rfl (tT rfl) (by assumption) rfl rfl (by decide)) ?_ | refine TPar.st rfl (S_index_sl rfl rfl rfl (tT rfl) rfl (tT rfl) (by assumption) (by first | rfl | omega) rfl (by decide)) ?_ | refine TPar.st rfl (S_index_row rfl rfl rfl rfl (tT rfl) rfl (tT rfl) rfl rfl (by first | assumption | omega)) ?_ | refine TPar.st rfl (S_index_arr rfl rfl rfl (tT rfl) rfl (tT rfl) rfl (by first | assumption | decide | omega)) ?_
          intro s_ h_ hs_ hh_; simp only [nrm, tev, St.step, putO, setsV, addO, ↓reduceIte, Nat.reduceAdd, logT, atT, intern, internL, kp_ents, fz_ents, fz_bytes, kp_bytes, kp_ats, fz_ats, logR, logE, ← List.map_take, ← List.map_drop, List.take_length, spots_len] at hs_ hh_; subst hs_; subst hh_
          first | refine TPar.st rfl (S_load rfl rfl rfl (tT rfl) rfl) ?_ | refine TPar.st rfl (S_load_eptr rfl rfl (tT rfl) rfl) ?_ | refine TPar.st rfl (S_load_row rfl rfl rfl rfl (by assumption) (tT rfl) rfl) ?_ | refine TPar.st rfl (S_load_row (j := 0) rfl rfl rfl rfl (by assumption) (tT rfl) rfl) ?_
          intro s_ h_ hs_ hh_; simp only [nrm, tev, St.step, putO, setsV, addO, ↓reduceIte, Nat.reduceAdd, logT, atT, intern, internL, kp_ents, fz_ents, fz_bytes, kp_bytes, kp_ats, fz_ats, logR, logE, ← List.map_take, ← List.map_drop, List.take_length, spots_len] at hs_ hh_; subst hs_; subst hh_
          first | refine TPar.st rfl (S_int rfl rfl rfl rfl (vnt (by omega))) ?_ | refine TPar.st rfl (S_int rfl rfl rfl rfl (vnf (by omega))) ?_ | refine TPar.st rfl (S_int rfl rfl rfl rfl rfl) ?_ | refine TPar.st rfl (S_boolneq rfl rfl rfl rfl (tT rfl) rfl) ?_
          intro s_ h_ hs_ hh_; simp only [nrm, tev, St.step, putO, setsV, addO, ↓reduceIte, Nat.reduceAdd, logT, atT, intern, internL, kp_ents, fz_ents, fz_bytes, kp_bytes, kp_ats, fz_ats, logR, logE, ← List.map_take, ← List.map_drop, List.take_length, spots_len] at hs_ hh_; subst hs_; subst hh_
          unfold TPar
          refine TL.nil ?_
          try simp (decide := true) only [thenT, inBlockT, noGotoT, jumpT, ↓reduceIte, true_and]
          refine hK10_ _ ?_
          refine TW.cond_t rfl (rfl) ?_
          refine TW.seq_k ?_
          intro K11_ hK11_
          refine TW.reg ?_
          refine TL.st rfl (S_assign rfl) ?_
          intro σ_ hσ_; simp only [nrm, tev, St.step, putO, setsV, addO, ↓reduceIte, Nat.reduceAdd, logT, atT, intern, internL, kp_ents, fz_ents, fz_bytes, kp_bytes, kp_ats, fz_ats, logR, logE, ← List.map_take, ← List.map_drop, List.take_length, spots_len] at hσ_; subst hσ_
          refine TL.nil ?_
          try simp (decide := true) only [thenT, inBlockT, noGotoT, jumpT, ↓reduceIte, true_and]
          refine hK11_ _ ?_
          refine TW.ret ?_
          try simp (decide := true) only [thenT, inBlockT, noGotoT, jumpT, ↓reduceIte, true_and]
          refine ⟨.inr rfl, _, none, (ResT.one Try.results57 rfl), ?_, (by rintro _ ⟨⟩)⟩
          simp only [nrm, tev, Out_v, Out_agg, Out_tup, OutL_nil, OutL_cons, Out_sl, Out_row_osl, Out_nil_osl, Out_nil_sl, Out_nil_nil, and_true, true_and, logT, atT, logR, logE, fr_ents, fr_ats, hf, List.getD_cons_zero, List.getD_cons_succ]
          have hne : x ≠ y := list_ne k (by rw [hu, hv]; simpa using huv)
          simp [hne]
      · skip
        refine TW.reg ?_
        first | refine TL.st rfl (S_int rfl rfl rfl rfl (vbt (by omega))) ?_ | refine TL.st rfl (S_int rfl rfl rfl rfl (vbf (by omega))) ?_ | refine TL.st rfl (S_int rfl rfl rfl rfl rfl) ?_
        intro σ_ hσ_; simp only [nrm, tev, St.step, putO, setsV, addO, ↓reduceIte, Nat.reduceAdd, logT, atT, intern, internL, kp_ents, fz_ents, fz_bytes, kp_bytes, kp_ats, fz_ats, logR, logE, ← List.map_take, ← List.map_drop, List.take_length, spots_len] at hσ_; subst hσ_
        refine TL.nil ?_
        try simp (decide := true) only [thenT, inBlockT, noGotoT, jumpT, ↓reduceIte, true_and]
        refine hK6_ _ ?_
        refine TW.seq_k ?_
        intro K12_ hK12_
        refine TW.cond_f rfl (rfl) ?_
        refine TW.exit ?_
        try simp (decide := true) only [thenT, inBlockT, noGotoT, jumpT, ↓reduceIte, true_and]
        refine hK4_ _ ?_
        refine TW.seq_k ?_
        intro K13_ hK13_
        refine TW.reg ?_
        refine TL.st rfl (S_assign rfl) ?_
        intro σ_ hσ_; simp only [nrm, tev, St.step, putO, setsV, addO, ↓reduceIte, Nat.reduceAdd, logT, atT, intern, internL, kp_ents, fz_ents, fz_bytes, kp_bytes, kp_ats, fz_ats, logR, logE, ← List.map_take, ← List.map_drop, List.take_length, spots_len] at hσ_; subst hσ_
        refine TL.nil ?_
        try simp (decide := true) only [thenT, inBlockT, noGotoT, jumpT, ↓reduceIte, true_and]
        refine hK13_ _ ?_
        refine TW.ret ?_
        try simp (decide := true) only [thenT, inBlockT, noGotoT, jumpT, ↓reduceIte, true_and]
        refine ⟨.inr rfl, _, none, (ResT.one Try.results57 rfl), ?_, (by rintro _ ⟨⟩)⟩
        simp only [nrm, tev, Out_v, Out_agg, Out_tup, OutL_nil, OutL_cons, Out_sl, Out_row_osl, Out_nil_osl, Out_nil_sl, Out_nil_nil, and_true, true_and, logT, atT, logR, logE, fr_ents, fr_ats, hf, List.getD_cons_zero, List.getD_cons_succ]
        have he : x = y := list_same hl fun j hj => hal j (by omega)
        simp [he]
  · skip
    refine TW.reg ?_
    refine TL.st rfl (S_move rfl) ?_
    intro σ_ hσ_; simp only [nrm, tev, St.step, putO, setsV, addO, ↓reduceIte, Nat.reduceAdd, logT, atT, intern, internL, kp_ents, fz_ents, fz_bytes, kp_bytes, kp_ats, fz_ats, logR, logE, ← List.map_take, ← List.map_drop, List.take_length, spots_len] at hσ_; subst hσ_
    first | refine TL.st rfl (S_len rfl rfl (tT rfl) rfl (.inl ⟨_, _, rfl, rfl⟩)) ?_ | refine TL.st rfl (S_len rfl rfl (tT rfl) rfl (.inr (.inl ⟨_, _, _, _, rfl, rfl, rfl⟩))) ?_ | refine TL.st rfl (S_len rfl rfl (tT rfl) rfl (.inr (.inr ⟨rfl, rfl⟩))) ?_ | refine TL.st rfl (S_len_str rfl rfl (tT rfl) rfl rfl) ?_ | refine TL.st rfl (S_len_arr rfl rfl (tT rfl) rfl) ?_
    intro σ_ hσ_; simp only [nrm, tev, St.step, putO, setsV, addO, ↓reduceIte, Nat.reduceAdd, logT, atT, intern, internL, kp_ents, fz_ents, fz_bytes, kp_bytes, kp_ats, fz_ats, logR, logE, ← List.map_take, ← List.map_drop, List.take_length, spots_len] at hσ_; subst hσ_
    refine TL.st rfl (S_move rfl) ?_
    intro σ_ hσ_; simp only [nrm, tev, St.step, putO, setsV, addO, ↓reduceIte, Nat.reduceAdd, logT, atT, intern, internL, kp_ents, fz_ents, fz_bytes, kp_bytes, kp_ats, fz_ats, logR, logE, ← List.map_take, ← List.map_drop, List.take_length, spots_len] at hσ_; subst hσ_
    first | refine TL.st rfl (S_len rfl rfl (tT rfl) rfl (.inl ⟨_, _, rfl, rfl⟩)) ?_ | refine TL.st rfl (S_len rfl rfl (tT rfl) rfl (.inr (.inl ⟨_, _, _, _, rfl, rfl, rfl⟩))) ?_ | refine TL.st rfl (S_len rfl rfl (tT rfl) rfl (.inr (.inr ⟨rfl, rfl⟩))) ?_ | refine TL.st rfl (S_len_str rfl rfl (tT rfl) rfl rfl) ?_ | refine TL.st rfl (S_len_arr rfl rfl (tT rfl) rfl) ?_
    intro σ_ hσ_; simp only [nrm, tev, St.step, putO, setsV, addO, ↓reduceIte, Nat.reduceAdd, logT, atT, intern, internL, kp_ents, fz_ents, fz_bytes, kp_bytes, kp_ats, fz_ats, logR, logE, ← List.map_take, ← List.map_drop, List.take_length, spots_len] at hσ_; subst hσ_
    first | refine TL.st rfl (S_int rfl rfl rfl rfl (vnt (by omega))) ?_ | refine TL.st rfl (S_int rfl rfl rfl rfl (vnf (by omega))) ?_ | refine TL.st rfl (S_int rfl rfl rfl rfl rfl) ?_ | refine TL.st rfl (S_boolneq rfl rfl rfl rfl (tT rfl) rfl) ?_
    intro σ_ hσ_; simp only [nrm, tev, St.step, putO, setsV, addO, ↓reduceIte, Nat.reduceAdd, logT, atT, intern, internL, kp_ents, fz_ents, fz_bytes, kp_bytes, kp_ats, fz_ats, logR, logE, ← List.map_take, ← List.map_drop, List.take_length, spots_len] at hσ_; subst hσ_
    refine TL.nil ?_
    try simp (decide := true) only [thenT, inBlockT, noGotoT, jumpT, ↓reduceIte, true_and]
    refine hK3_ _ ?_
    refine TW.cond_t rfl (rfl) ?_
    refine TW.seq_k ?_
    intro K14_ hK14_
    refine TW.reg ?_
    refine TL.st rfl (S_assign rfl) ?_
    intro σ_ hσ_; simp only [nrm, tev, St.step, putO, setsV, addO, ↓reduceIte, Nat.reduceAdd, logT, atT, intern, internL, kp_ents, fz_ents, fz_bytes, kp_bytes, kp_ats, fz_ats, logR, logE, ← List.map_take, ← List.map_drop, List.take_length, spots_len] at hσ_; subst hσ_
    refine TL.nil ?_
    try simp (decide := true) only [thenT, inBlockT, noGotoT, jumpT, ↓reduceIte, true_and]
    refine hK14_ _ ?_
    refine TW.ret ?_
    try simp (decide := true) only [thenT, inBlockT, noGotoT, jumpT, ↓reduceIte, true_and]
    refine ⟨.inr rfl, _, none, (ResT.one Try.results57 rfl), ?_, (by rintro _ ⟨⟩)⟩
    simp only [nrm, tev, Out_v, Out_agg, Out_tup, OutL_nil, OutL_cons, Out_sl, Out_row_osl, Out_nil_osl, Out_nil_sl, Out_nil_nil, and_true, true_and, logT, atT, logR, logE, fr_ents, fr_ats, hf, List.getD_cons_zero, List.getD_cons_succ]
    have hne : x ≠ y := fun e => hl (by rw [e])
    simp [hne]

set_option maxRecDepth 20000 in
set_option maxHeartbeats 1000000 in
theorem sameE6_T (b b' b2 b2' : Bool) (es es2 : List Ent) (h : okE es) (h2 : okE es2) :
    TMeets Try.prog 22 [.sl b (es.map (entC b')), .sl b2 (es2.map (entC b2'))] (.v (.bool (sameE es es2))) := by
  refine TMeets.of_TW Try.func22 rfl (by simp [PuL, Pu, logT, atT, pu_ents, entC, pu_bytes]) ?_
  intro B w0
  rw [Try.ntmps22]
  simp only [untagL, untag, List.length_cons, List.length_nil, List.replicate_succ, List.replicate_zero, Nat.reduceAdd, Nat.reduceSub, List.cons_append, List.nil_append, logT, atT, untag_ents, untag_bytes, entC]
  have hb1_ := h.n; have hb2_ := h2.n
  refine TW.seq_k ?_
  intro K1_ hK1_
  refine TW.reg ?_
  refine TL.st rfl (S_assign rfl) ?_
  intro σ_ hσ_; simp only [nrm, tev, St.step, putO, setsV, addO, ↓reduceIte, Nat.reduceAdd, logT, atT, intern, internL, kp_ents, fz_ents, fz_bytes, kp_bytes, kp_ats, fz_ats, logR, logE, ← List.map_take, ← List.map_drop, List.take_length, spots_len] at hσ_; subst hσ_
  refine TL.nil ?_
  try simp (decide := true) only [thenT, inBlockT, noGotoT, jumpT, ↓reduceIte, true_and]
  refine hK1_ _ ?_
  refine TW.seq_k ?_
  intro K2_ hK2_
  refine TW.seq_k ?_
  intro K3_ hK3_
  by_cases hl : es.length = es2.length
  · skip
    refine TW.reg ?_
    refine TL.st rfl (S_move rfl) ?_
    intro σ_ hσ_; simp only [nrm, tev, St.step, putO, setsV, addO, ↓reduceIte, Nat.reduceAdd, logT, atT, intern, internL, kp_ents, fz_ents, fz_bytes, kp_bytes, kp_ats, fz_ats, logR, logE, ← List.map_take, ← List.map_drop, List.take_length, spots_len] at hσ_; subst hσ_
    first | refine TL.st rfl (S_len rfl rfl (tT rfl) rfl (.inl ⟨_, _, rfl, rfl⟩)) ?_ | refine TL.st rfl (S_len rfl rfl (tT rfl) rfl (.inr (.inl ⟨_, _, _, _, rfl, rfl, rfl⟩))) ?_ | refine TL.st rfl (S_len rfl rfl (tT rfl) rfl (.inr (.inr ⟨rfl, rfl⟩))) ?_ | refine TL.st rfl (S_len_str rfl rfl (tT rfl) rfl rfl) ?_ | refine TL.st rfl (S_len_arr rfl rfl (tT rfl) rfl) ?_
    intro σ_ hσ_; simp only [nrm, tev, St.step, putO, setsV, addO, ↓reduceIte, Nat.reduceAdd, logT, atT, intern, internL, kp_ents, fz_ents, fz_bytes, kp_bytes, kp_ats, fz_ats, logR, logE, ← List.map_take, ← List.map_drop, List.take_length, spots_len] at hσ_; subst hσ_
    refine TL.st rfl (S_move rfl) ?_
    intro σ_ hσ_; simp only [nrm, tev, St.step, putO, setsV, addO, ↓reduceIte, Nat.reduceAdd, logT, atT, intern, internL, kp_ents, fz_ents, fz_bytes, kp_bytes, kp_ats, fz_ats, logR, logE, ← List.map_take, ← List.map_drop, List.take_length, spots_len] at hσ_; subst hσ_
    first | refine TL.st rfl (S_len rfl rfl (tT rfl) rfl (.inl ⟨_, _, rfl, rfl⟩)) ?_ | refine TL.st rfl (S_len rfl rfl (tT rfl) rfl (.inr (.inl ⟨_, _, _, _, rfl, rfl, rfl⟩))) ?_ | refine TL.st rfl (S_len rfl rfl (tT rfl) rfl (.inr (.inr ⟨rfl, rfl⟩))) ?_ | refine TL.st rfl (S_len_str rfl rfl (tT rfl) rfl rfl) ?_ | refine TL.st rfl (S_len_arr rfl rfl (tT rfl) rfl) ?_
    intro σ_ hσ_; simp only [nrm, tev, St.step, putO, setsV, addO, ↓reduceIte, Nat.reduceAdd, logT, atT, intern, internL, kp_ents, fz_ents, fz_bytes, kp_bytes, kp_ats, fz_ats, logR, logE, ← List.map_take, ← List.map_drop, List.take_length, spots_len] at hσ_; subst hσ_
    first | refine TL.st rfl (S_int rfl rfl rfl rfl (vnt (by omega))) ?_ | refine TL.st rfl (S_int rfl rfl rfl rfl (vnf (by omega))) ?_ | refine TL.st rfl (S_int rfl rfl rfl rfl rfl) ?_ | refine TL.st rfl (S_boolneq rfl rfl rfl rfl (tT rfl) rfl) ?_
    intro σ_ hσ_; simp only [nrm, tev, St.step, putO, setsV, addO, ↓reduceIte, Nat.reduceAdd, logT, atT, intern, internL, kp_ents, fz_ents, fz_bytes, kp_bytes, kp_ats, fz_ats, logR, logE, ← List.map_take, ← List.map_drop, List.take_length, spots_len] at hσ_; subst hσ_
    refine TL.nil ?_
    try simp (decide := true) only [thenT, inBlockT, noGotoT, jumpT, ↓reduceIte, true_and]
    refine hK3_ _ ?_
    refine TW.cond_f rfl (rfl) ?_
    refine TW.skip ?_
    try simp (decide := true) only [thenT, inBlockT, noGotoT, jumpT, ↓reduceIte, true_and]
    refine hK2_ _ ?_
    refine TW.seq_k ?_
    intro K4_ hK4_
    refine TW.seq_k ?_
    intro K5_ hK5_
    refine TW.reg ?_
    refine TL.st rfl (S_move rfl) ?_
    intro σ_ hσ_; simp only [nrm, tev, St.step, putO, setsV, addO, ↓reduceIte, Nat.reduceAdd, logT, atT, intern, internL, kp_ents, fz_ents, fz_bytes, kp_bytes, kp_ats, fz_ats, logR, logE, ← List.map_take, ← List.map_drop, List.take_length, spots_len] at hσ_; subst hσ_
    first | refine TL.st rfl (S_len rfl rfl (tT rfl) rfl (.inl ⟨_, _, rfl, rfl⟩)) ?_ | refine TL.st rfl (S_len rfl rfl (tT rfl) rfl (.inr (.inl ⟨_, _, _, _, rfl, rfl, rfl⟩))) ?_ | refine TL.st rfl (S_len rfl rfl (tT rfl) rfl (.inr (.inr ⟨rfl, rfl⟩))) ?_ | refine TL.st rfl (S_len_str rfl rfl (tT rfl) rfl rfl) ?_ | refine TL.st rfl (S_len_arr rfl rfl (tT rfl) rfl) ?_
    intro σ_ hσ_; simp only [nrm, tev, St.step, putO, setsV, addO, ↓reduceIte, Nat.reduceAdd, logT, atT, intern, internL, kp_ents, fz_ents, fz_bytes, kp_bytes, kp_ats, fz_ats, logR, logE, ← List.map_take, ← List.map_drop, List.take_length, spots_len] at hσ_; subst hσ_
    refine TL.st rfl (S_move rfl) ?_
    intro σ_ hσ_; simp only [nrm, tev, St.step, putO, setsV, addO, ↓reduceIte, Nat.reduceAdd, logT, atT, intern, internL, kp_ents, fz_ents, fz_bytes, kp_bytes, kp_ats, fz_ats, logR, logE, ← List.map_take, ← List.map_drop, List.take_length, spots_len] at hσ_; subst hσ_
    refine TL.nil ?_
    try simp (decide := true) only [thenT, inBlockT, noGotoT, jumpT, ↓reduceIte, true_and]
    refine hK5_ _ ?_
    refine TW.block ?_
    refine TW.loopS (X := Nat) (fun k => k ≤ es.length ∧ ∀ j, j < k → es[j]? = es2[j]?) (fun k => es.length - k) (fun k => [(4, .any), (5, .any), (6, .any), (7, .any), (15, .v (.int .i64 k)), (16, .any), (17, .any), (18, .any), (19, .any), (20, .any), (21, .any), (22, .any), (23, .any), (24, .any), (25, .any), (26, .any), (27, .any), (28, .any), (29, .any), (30, .any), (31, .any), (32, .any), (33, .any), (34, .any), (35, .any), (36, .any), (37, .any), (38, .any), (39, .any), (40, .any), (41, .any), (42, .any), (43, .any), (44, .any)]) (fun k => []) 0 ⟨Nat.zero_le _, fun j hj => absurd hj (by omega)⟩ ?_ ?_
    · refine SLe.of ?_ ?_ ?_
      · simp [setsL, LeL_cons, LeL_nil, LeT_any, LeT_self, LeT_v, LeT_sl, LeT_nil_sl, List.set_cons_zero, List.set_cons_succ, kp_bytes, kp_ents]
      · exact LeB.refl _
      · exact LeL.refl _
    · rintro k ⟨hk, hal⟩ σ_ hσ_
      simp only [nrm, tev, St.step, putO, setsV, addO, ↓reduceIte, Nat.reduceAdd, logT, atT, intern, internL, kp_ents, fz_ents, fz_bytes, kp_bytes, kp_ats, fz_ats, logR, logE, ← List.map_take, ← List.map_drop, List.take_length, spots_len, setsL_nil, setsL_cons] at hσ_; subst hσ_
      refine TW.seq_k ?_
      intro K6_ hK6_
      by_cases hlt : k < es.length
      · skip
        obtain ⟨u, hu⟩ : ∃ u, es[k]? = some u := ⟨es[k]'hlt, List.getElem?_eq_getElem _⟩
        obtain ⟨v, hv⟩ : ∃ v, es2[k]? = some v := ⟨es2[k]'(by omega), List.getElem?_eq_getElem _⟩
        have hdu : u.D.length ≤ 4611686018427387904 := by have := h.d u (List.mem_of_getElem? hu); omega
        have hdv : v.D.length ≤ 4611686018427387904 := by have := h2.d v (List.mem_of_getElem? hv); omega
        have hc : (es.map (entC false))[k]? = some (entC false u) := by rw [List.getElem?_map, hu]; rfl
        have hc2 : (es2.map (entC false))[k]? = some (entC false v) := by rw [List.getElem?_map, hv]; rfl
        simp only [entC] at hc hc2
        have hb1 := ent_len false es
        have hb2 := ent_len false es2
        refine TW.reg ?_
        first | refine TL.st rfl (S_int rfl rfl rfl rfl (vbt (by omega))) ?_ | refine TL.st rfl (S_int rfl rfl rfl rfl (vbf (by omega))) ?_ | refine TL.st rfl (S_int rfl rfl rfl rfl rfl) ?_
        intro σ_ hσ_; simp only [nrm, tev, St.step, putO, setsV, addO, ↓reduceIte, Nat.reduceAdd, logT, atT, intern, internL, kp_ents, fz_ents, fz_bytes, kp_bytes, kp_ats, fz_ats, logR, logE, ← List.map_take, ← List.map_drop, List.take_length, spots_len] at hσ_; subst hσ_
        refine TL.nil ?_
        try simp (decide := true) only [thenT, inBlockT, noGotoT, jumpT, ↓reduceIte, true_and]
        refine hK6_ _ ?_
        refine TW.seq_k ?_
        intro K7_ hK7_
        refine TW.cond_t rfl (rfl) ?_
        refine TW.skip ?_
        try simp (decide := true) only [thenT, inBlockT, noGotoT, jumpT, ↓reduceIte, true_and]
        refine hK7_ _ ?_
        refine TW.seq_k ?_
        intro K8_ hK8_
        refine TW.block ?_
        refine TW.seq_k ?_
        intro K9_ hK9_
        refine TW.reg ?_
        refine TL.st rfl (S_move rfl) ?_
        intro σ_ hσ_; simp only [nrm, tev, St.step, putO, setsV, addO, ↓reduceIte, Nat.reduceAdd, logT, atT, intern, internL, kp_ents, fz_ents, fz_bytes, kp_bytes, kp_ats, fz_ats, logR, logE, ← List.map_take, ← List.map_drop, List.take_length, spots_len] at hσ_; subst hσ_
        first | refine TL.st rfl (S_index_sl rfl rfl rfl (tT rfl) rfl (tT rfl) (by assumption) rfl rfl (by decide)) ?_ | refine TL.st rfl (S_index_sl rfl rfl rfl (tT rfl) rfl (tT rfl) (by assumption) (by first | rfl | omega) rfl (by decide)) ?_ | refine TL.st rfl (S_index_row rfl rfl rfl rfl (tT rfl) rfl (tT rfl) rfl rfl (by first | assumption | omega)) ?_ | refine TL.st rfl (S_index_arr rfl rfl rfl (tT rfl) rfl (tT rfl) rfl (by first | assumption | decide | omega)) ?_
        intro σ_ hσ_; simp only [nrm, tev, St.step, putO, setsV, addO, ↓reduceIte, Nat.reduceAdd, logT, atT, intern, internL, kp_ents, fz_ents, fz_bytes, kp_bytes, kp_ats, fz_ats, logR, logE, ← List.map_take, ← List.map_drop, List.take_length, spots_len] at hσ_; subst hσ_
        first | refine TL.st rfl (S_load rfl rfl rfl (tT rfl) rfl) ?_ | refine TL.st rfl (S_load_eptr rfl rfl (tT rfl) rfl) ?_ | refine TL.st rfl (S_load_row rfl rfl rfl rfl (by assumption) (tT rfl) rfl) ?_ | refine TL.st rfl (S_load_row (j := 0) rfl rfl rfl rfl (by assumption) (tT rfl) rfl) ?_
        intro σ_ hσ_; simp only [nrm, tev, St.step, putO, setsV, addO, ↓reduceIte, Nat.reduceAdd, logT, atT, intern, internL, kp_ents, fz_ents, fz_bytes, kp_bytes, kp_ats, fz_ats, logR, logE, ← List.map_take, ← List.map_drop, List.take_length, spots_len] at hσ_; subst hσ_
        refine TL.st rfl (S_alloc rfl (zT rfl) rfl) ?_
        intro σ_ hσ_; simp only [nrm, tev, St.step, putO, setsV, addO, ↓reduceIte, Nat.reduceAdd, logT, atT, intern, internL, kp_ents, fz_ents, fz_bytes, kp_bytes, kp_ats, fz_ats, logR, logE, ← List.map_take, ← List.map_drop, List.take_length, spots_len] at hσ_; subst hσ_
        refine TL.st rfl (S_assign rfl) ?_
        intro σ_ hσ_; simp only [nrm, tev, St.step, putO, setsV, addO, ↓reduceIte, Nat.reduceAdd, logT, atT, intern, internL, kp_ents, fz_ents, fz_bytes, kp_bytes, kp_ats, fz_ats, logR, logE, ← List.map_take, ← List.map_drop, List.take_length, spots_len] at hσ_; subst hσ_
        first | refine TL.sto rfl rfl rfl rfl (tT rfl) rfl rfl rfl (Nat.le_of_ble_eq_true rfl) ?_ | refine TL.sto_row rfl rfl rfl rfl rfl (by assumption) (tT rfl) rfl rfl rfl (Nat.le_of_ble_eq_true rfl) ?_ | refine TL.sto_row (j := 0) rfl rfl rfl rfl rfl (by assumption) (tT rfl) rfl rfl rfl (Nat.le_of_ble_eq_true rfl) ?_
        intro σ_ hσ_; simp only [nrm, tev, St.step, putO, setsV, addO, ↓reduceIte, Nat.reduceAdd, logT, atT, intern, internL, kp_ents, fz_ents, fz_bytes, kp_bytes, kp_ats, fz_ats, logR, logE, ← List.map_take, ← List.map_drop, List.take_length, spots_len] at hσ_; subst hσ_
        refine TL.nil ?_
        try simp (decide := true) only [thenT, inBlockT, noGotoT, jumpT, ↓reduceIte, true_and]
        refine hK9_ _ ?_
        refine TW.seq_k ?_
        intro K10_ hK10_
        refine TW.reg ?_
        refine TL.st rfl (S_move rfl) ?_
        intro σ_ hσ_; simp only [nrm, tev, St.step, putO, setsV, addO, ↓reduceIte, Nat.reduceAdd, logT, atT, intern, internL, kp_ents, fz_ents, fz_bytes, kp_bytes, kp_ats, fz_ats, logR, logE, ← List.map_take, ← List.map_drop, List.take_length, spots_len] at hσ_; subst hσ_
        refine TL.st rfl (S_move rfl) ?_
        intro σ_ hσ_; simp only [nrm, tev, St.step, putO, setsV, addO, ↓reduceIte, Nat.reduceAdd, logT, atT, intern, internL, kp_ents, fz_ents, fz_bytes, kp_bytes, kp_ats, fz_ats, logR, logE, ← List.map_take, ← List.map_drop, List.take_length, spots_len] at hσ_; subst hσ_
        first | refine TL.st rfl (S_index_sl rfl rfl rfl (tT rfl) rfl (tT rfl) (by assumption) rfl rfl (by decide)) ?_ | refine TL.st rfl (S_index_sl rfl rfl rfl (tT rfl) rfl (tT rfl) (by assumption) (by first | rfl | omega) rfl (by decide)) ?_ | refine TL.st rfl (S_index_row rfl rfl rfl rfl (tT rfl) rfl (tT rfl) rfl rfl (by first | assumption | omega)) ?_ | refine TL.st rfl (S_index_arr rfl rfl rfl (tT rfl) rfl (tT rfl) rfl (by first | assumption | decide | omega)) ?_
        intro σ_ hσ_; simp only [nrm, tev, St.step, putO, setsV, addO, ↓reduceIte, Nat.reduceAdd, logT, atT, intern, internL, kp_ents, fz_ents, fz_bytes, kp_bytes, kp_ats, fz_ats, logR, logE, ← List.map_take, ← List.map_drop, List.take_length, spots_len] at hσ_; subst hσ_
        first | refine TL.st rfl (S_load rfl rfl rfl (tT rfl) rfl) ?_ | refine TL.st rfl (S_load_eptr rfl rfl (tT rfl) rfl) ?_ | refine TL.st rfl (S_load_row rfl rfl rfl rfl (by assumption) (tT rfl) rfl) ?_ | refine TL.st rfl (S_load_row (j := 0) rfl rfl rfl rfl (by assumption) (tT rfl) rfl) ?_
        intro σ_ hσ_; simp only [nrm, tev, St.step, putO, setsV, addO, ↓reduceIte, Nat.reduceAdd, logT, atT, intern, internL, kp_ents, fz_ents, fz_bytes, kp_bytes, kp_ats, fz_ats, logR, logE, ← List.map_take, ← List.map_drop, List.take_length, spots_len] at hσ_; subst hσ_
        refine TL.st rfl (S_alloc rfl (zT rfl) rfl) ?_
        intro σ_ hσ_; simp only [nrm, tev, St.step, putO, setsV, addO, ↓reduceIte, Nat.reduceAdd, logT, atT, intern, internL, kp_ents, fz_ents, fz_bytes, kp_bytes, kp_ats, fz_ats, logR, logE, ← List.map_take, ← List.map_drop, List.take_length, spots_len] at hσ_; subst hσ_
        first | refine TL.sto rfl rfl rfl rfl (tT rfl) rfl rfl rfl (Nat.le_of_ble_eq_true rfl) ?_ | refine TL.sto_row rfl rfl rfl rfl rfl (by assumption) (tT rfl) rfl rfl rfl (Nat.le_of_ble_eq_true rfl) ?_ | refine TL.sto_row (j := 0) rfl rfl rfl rfl rfl (by assumption) (tT rfl) rfl rfl rfl (Nat.le_of_ble_eq_true rfl) ?_
        intro σ_ hσ_; simp only [nrm, tev, St.step, putO, setsV, addO, ↓reduceIte, Nat.reduceAdd, logT, atT, intern, internL, kp_ents, fz_ents, fz_bytes, kp_bytes, kp_ats, fz_ats, logR, logE, ← List.map_take, ← List.map_drop, List.take_length, spots_len] at hσ_; subst hσ_
        refine TL.nil ?_
        try simp (decide := true) only [thenT, inBlockT, noGotoT, jumpT, ↓reduceIte, true_and]
        refine hK10_ _ ?_
        refine TW.seq_k ?_
        intro K11_ hK11_
        rcases (show (u.T = v.T ∧ u.K = v.K ∧ decide (u.D = v.D) = true) ∨ (u.T = v.T ∧ u.K = v.K ∧ decide (u.D = v.D) = false) ∨ (u.T = v.T ∧ u.K ≠ v.K) ∨ u.T ≠ v.T by cases decide (u.D = v.D) <;> simp <;> omega) with ⟨hT, hK, hD⟩ | ⟨hT, hK, hD⟩ | ⟨hT, hK⟩ | hT
        · skip
          refine TW.reg ?_
          first | refine TL.st rfl (S_fieldAddr rfl rfl (tT rfl) rfl rfl (tT rfl) (by decide)) ?_ | refine TL.st rfl (S_fieldAddr_eptr rfl rfl (tT rfl) rfl rfl (tT rfl) (by decide)) ?_
          intro σ_ hσ_; simp only [nrm, tev, St.step, putO, setsV, addO, ↓reduceIte, Nat.reduceAdd, logT, atT, intern, internL, kp_ents, fz_ents, fz_bytes, kp_bytes, kp_ats, fz_ats, logR, logE, ← List.map_take, ← List.map_drop, List.take_length, spots_len] at hσ_; subst hσ_
          first | refine TL.st rfl (S_load rfl rfl rfl (tT rfl) rfl) ?_ | refine TL.st rfl (S_load_eptr rfl rfl (tT rfl) rfl) ?_ | refine TL.st rfl (S_load_row rfl rfl rfl rfl (by assumption) (tT rfl) rfl) ?_ | refine TL.st rfl (S_load_row (j := 0) rfl rfl rfl rfl (by assumption) (tT rfl) rfl) ?_
          intro σ_ hσ_; simp only [nrm, tev, St.step, putO, setsV, addO, ↓reduceIte, Nat.reduceAdd, logT, atT, intern, internL, kp_ents, fz_ents, fz_bytes, kp_bytes, kp_ats, fz_ats, logR, logE, ← List.map_take, ← List.map_drop, List.take_length, spots_len] at hσ_; subst hσ_
          first | refine TL.st rfl (S_fieldAddr rfl rfl (tT rfl) rfl rfl (tT rfl) (by decide)) ?_ | refine TL.st rfl (S_fieldAddr_eptr rfl rfl (tT rfl) rfl rfl (tT rfl) (by decide)) ?_
          intro σ_ hσ_; simp only [nrm, tev, St.step, putO, setsV, addO, ↓reduceIte, Nat.reduceAdd, logT, atT, intern, internL, kp_ents, fz_ents, fz_bytes, kp_bytes, kp_ats, fz_ats, logR, logE, ← List.map_take, ← List.map_drop, List.take_length, spots_len] at hσ_; subst hσ_
          first | refine TL.st rfl (S_load rfl rfl rfl (tT rfl) rfl) ?_ | refine TL.st rfl (S_load_eptr rfl rfl (tT rfl) rfl) ?_ | refine TL.st rfl (S_load_row rfl rfl rfl rfl (by assumption) (tT rfl) rfl) ?_ | refine TL.st rfl (S_load_row (j := 0) rfl rfl rfl rfl (by assumption) (tT rfl) rfl) ?_
          intro σ_ hσ_; simp only [nrm, tev, St.step, putO, setsV, addO, ↓reduceIte, Nat.reduceAdd, logT, atT, intern, internL, kp_ents, fz_ents, fz_bytes, kp_bytes, kp_ats, fz_ats, logR, logE, ← List.map_take, ← List.map_drop, List.take_length, spots_len] at hσ_; subst hσ_
          first | refine TL.st rfl (S_int rfl rfl rfl rfl (vnt (by omega))) ?_ | refine TL.st rfl (S_int rfl rfl rfl rfl (vnf (by omega))) ?_ | refine TL.st rfl (S_int rfl rfl rfl rfl rfl) ?_ | refine TL.st rfl (S_boolneq rfl rfl rfl rfl (tT rfl) rfl) ?_
          intro σ_ hσ_; simp only [nrm, tev, St.step, putO, setsV, addO, ↓reduceIte, Nat.reduceAdd, logT, atT, intern, internL, kp_ents, fz_ents, fz_bytes, kp_bytes, kp_ats, fz_ats, logR, logE, ← List.map_take, ← List.map_drop, List.take_length, spots_len] at hσ_; subst hσ_
          refine TL.st rfl (S_move rfl) ?_
          intro σ_ hσ_; simp only [nrm, tev, St.step, putO, setsV, addO, ↓reduceIte, Nat.reduceAdd, logT, atT, intern, internL, kp_ents, fz_ents, fz_bytes, kp_bytes, kp_ats, fz_ats, logR, logE, ← List.map_take, ← List.map_drop, List.take_length, spots_len] at hσ_; subst hσ_
          first | refine TL.st_g rfl rfl rfl (Nat.le_of_ble_eq_true rfl) rfl (S_fieldAddr rfl rfl (tT rfl) rfl rfl (tT rfl) (by decide)) ?_ | refine TL.st_g rfl rfl rfl (Nat.le_of_ble_eq_true rfl) rfl (S_fieldAddr_eptr rfl rfl (tT rfl) rfl rfl (tT rfl) (by decide)) ?_ | refine TL.sk_g rfl rfl rfl (Nat.le_of_ble_eq_true rfl) rfl rfl ?_
          intro σ_ hσ_; simp only [nrm, tev, St.step, putO, setsV, addO, ↓reduceIte, Nat.reduceAdd, logT, atT, intern, internL, kp_ents, fz_ents, fz_bytes, kp_bytes, kp_ats, fz_ats, logR, logE, ← List.map_take, ← List.map_drop, List.take_length, spots_len] at hσ_; subst hσ_
          first | refine TL.st_g rfl rfl rfl (Nat.le_of_ble_eq_true rfl) rfl (S_load rfl rfl rfl (tT rfl) rfl) ?_ | refine TL.st_g rfl rfl rfl (Nat.le_of_ble_eq_true rfl) rfl (S_load_eptr rfl rfl (tT rfl) rfl) ?_ | refine TL.st_g rfl rfl rfl (Nat.le_of_ble_eq_true rfl) rfl (S_load_row rfl rfl rfl rfl (by assumption) (tT rfl) rfl) ?_ | refine TL.st_g rfl rfl rfl (Nat.le_of_ble_eq_true rfl) rfl (S_load_row (j := 0) rfl rfl rfl rfl (by assumption) (tT rfl) rfl) ?_ | refine TL.sk_g rfl rfl rfl (Nat.le_of_ble_eq_true rfl) rfl rfl ?_
          intro σ_ hσ_; simp only [nrm, tev, St.step, putO, setsV, addO, ↓reduceIte, Nat.reduceAdd, logT, atT, intern, internL, kp_ents, fz_ents, fz_bytes, kp_bytes, kp_ats, fz_ats, logR, logE, ← List.map_take, ← List.map_drop, List.take_length, spots_len] at hσ_; subst hσ_
          first | refine TL.st_g rfl rfl rfl (Nat.le_of_ble_eq_true rfl) rfl (S_fieldAddr rfl rfl (tT rfl) rfl rfl (tT rfl) (by decide)) ?_ | refine TL.st_g rfl rfl rfl (Nat.le_of_ble_eq_true rfl) rfl (S_fieldAddr_eptr rfl rfl (tT rfl) rfl rfl (tT rfl) (by decide)) ?_ | refine TL.sk_g rfl rfl rfl (Nat.le_of_ble_eq_true rfl) rfl rfl ?_
          intro σ_ hσ_; simp only [nrm, tev, St.step, putO, setsV, addO, ↓reduceIte, Nat.reduceAdd, logT, atT, intern, internL, kp_ents, fz_ents, fz_bytes, kp_bytes, kp_ats, fz_ats, logR, logE, ← List.map_take, ← List.map_drop, List.take_length, spots_len] at hσ_; subst hσ_
          first | refine TL.st_g rfl rfl rfl (Nat.le_of_ble_eq_true rfl) rfl (S_load rfl rfl rfl (tT rfl) rfl) ?_ | refine TL.st_g rfl rfl rfl (Nat.le_of_ble_eq_true rfl) rfl (S_load_eptr rfl rfl (tT rfl) rfl) ?_ | refine TL.st_g rfl rfl rfl (Nat.le_of_ble_eq_true rfl) rfl (S_load_row rfl rfl rfl rfl (by assumption) (tT rfl) rfl) ?_ | refine TL.st_g rfl rfl rfl (Nat.le_of_ble_eq_true rfl) rfl (S_load_row (j := 0) rfl rfl rfl rfl (by assumption) (tT rfl) rfl) ?_ | refine TL.sk_g rfl rfl rfl (Nat.le_of_ble_eq_true rfl) rfl rfl ?_
          intro σ_ hσ_; simp only [nrm, tev, St.step, putO, setsV, addO, ↓reduceIte, Nat.reduceAdd, logT, atT, intern, internL, kp_ents, fz_ents, fz_bytes, kp_bytes, kp_ats, fz_ats, logR, logE, ← List.map_take, ← List.map_drop, List.take_length, spots_len] at hσ_; subst hσ_
          first | refine TL.st_g rfl rfl rfl (Nat.le_of_ble_eq_true rfl) rfl (S_int rfl rfl rfl rfl (vnt (by omega))) ?_ | refine TL.st_g rfl rfl rfl (Nat.le_of_ble_eq_true rfl) rfl (S_int rfl rfl rfl rfl (vnf (by omega))) ?_ | refine TL.st_g rfl rfl rfl (Nat.le_of_ble_eq_true rfl) rfl (S_int rfl rfl rfl rfl rfl) ?_ | refine TL.st_g rfl rfl rfl (Nat.le_of_ble_eq_true rfl) rfl (S_boolneq rfl rfl rfl rfl (tT rfl) rfl) ?_ | refine TL.sk_g rfl rfl rfl (Nat.le_of_ble_eq_true rfl) rfl rfl ?_
          intro σ_ hσ_; simp only [nrm, tev, St.step, putO, setsV, addO, ↓reduceIte, Nat.reduceAdd, logT, atT, intern, internL, kp_ents, fz_ents, fz_bytes, kp_bytes, kp_ats, fz_ats, logR, logE, ← List.map_take, ← List.map_drop, List.take_length, spots_len] at hσ_; subst hσ_
          refine TL.st rfl (S_pick rfl rfl rfl) ?_
          intro σ_ hσ_; simp only [nrm, tev, St.step, putO, setsV, addO, ↓reduceIte, Nat.reduceAdd, logT, atT, intern, internL, kp_ents, fz_ents, fz_bytes, kp_bytes, kp_ats, fz_ats, logR, logE, ← List.map_take, ← List.map_drop, List.take_length, spots_len] at hσ_; subst hσ_
          refine TL.st rfl (S_move rfl) ?_
          intro σ_ hσ_; simp only [nrm, tev, St.step, putO, setsV, addO, ↓reduceIte, Nat.reduceAdd, logT, atT, intern, internL, kp_ents, fz_ents, fz_bytes, kp_bytes, kp_ats, fz_ats, logR, logE, ← List.map_take, ← List.map_drop, List.take_length, spots_len] at hσ_; subst hσ_
          first | refine TL.st_g rfl rfl rfl (Nat.le_of_ble_eq_true rfl) rfl (S_fieldAddr rfl rfl (tT rfl) rfl rfl (tT rfl) (by decide)) ?_ | refine TL.st_g rfl rfl rfl (Nat.le_of_ble_eq_true rfl) rfl (S_fieldAddr_eptr rfl rfl (tT rfl) rfl rfl (tT rfl) (by decide)) ?_ | refine TL.sk_g rfl rfl rfl (Nat.le_of_ble_eq_true rfl) rfl rfl ?_
          intro σ_ hσ_; simp only [nrm, tev, St.step, putO, setsV, addO, ↓reduceIte, Nat.reduceAdd, logT, atT, intern, internL, kp_ents, fz_ents, fz_bytes, kp_bytes, kp_ats, fz_ats, logR, logE, ← List.map_take, ← List.map_drop, List.take_length, spots_len] at hσ_; subst hσ_
          first | refine TL.st_g rfl rfl rfl (Nat.le_of_ble_eq_true rfl) rfl (S_load rfl rfl rfl (tT rfl) rfl) ?_ | refine TL.st_g rfl rfl rfl (Nat.le_of_ble_eq_true rfl) rfl (S_load_eptr rfl rfl (tT rfl) rfl) ?_ | refine TL.st_g rfl rfl rfl (Nat.le_of_ble_eq_true rfl) rfl (S_load_row rfl rfl rfl rfl (by assumption) (tT rfl) rfl) ?_ | refine TL.st_g rfl rfl rfl (Nat.le_of_ble_eq_true rfl) rfl (S_load_row (j := 0) rfl rfl rfl rfl (by assumption) (tT rfl) rfl) ?_ | refine TL.sk_g rfl rfl rfl (Nat.le_of_ble_eq_true rfl) rfl rfl ?_
          intro σ_ hσ_; simp only [nrm, tev, St.step, putO, setsV, addO, ↓reduceIte, Nat.reduceAdd, logT, atT, intern, internL, kp_ents, fz_ents, fz_bytes, kp_bytes, kp_ats, fz_ats, logR, logE, ← List.map_take, ← List.map_drop, List.take_length, spots_len] at hσ_; subst hσ_
          first | refine TL.st_g rfl rfl rfl (Nat.le_of_ble_eq_true rfl) rfl (S_fieldAddr rfl rfl (tT rfl) rfl rfl (tT rfl) (by decide)) ?_ | refine TL.st_g rfl rfl rfl (Nat.le_of_ble_eq_true rfl) rfl (S_fieldAddr_eptr rfl rfl (tT rfl) rfl rfl (tT rfl) (by decide)) ?_ | refine TL.sk_g rfl rfl rfl (Nat.le_of_ble_eq_true rfl) rfl rfl ?_
          intro σ_ hσ_; simp only [nrm, tev, St.step, putO, setsV, addO, ↓reduceIte, Nat.reduceAdd, logT, atT, intern, internL, kp_ents, fz_ents, fz_bytes, kp_bytes, kp_ats, fz_ats, logR, logE, ← List.map_take, ← List.map_drop, List.take_length, spots_len] at hσ_; subst hσ_
          first | refine TL.st_g rfl rfl rfl (Nat.le_of_ble_eq_true rfl) rfl (S_load rfl rfl rfl (tT rfl) rfl) ?_ | refine TL.st_g rfl rfl rfl (Nat.le_of_ble_eq_true rfl) rfl (S_load_eptr rfl rfl (tT rfl) rfl) ?_ | refine TL.st_g rfl rfl rfl (Nat.le_of_ble_eq_true rfl) rfl (S_load_row rfl rfl rfl rfl (by assumption) (tT rfl) rfl) ?_ | refine TL.st_g rfl rfl rfl (Nat.le_of_ble_eq_true rfl) rfl (S_load_row (j := 0) rfl rfl rfl rfl (by assumption) (tT rfl) rfl) ?_ | refine TL.sk_g rfl rfl rfl (Nat.le_of_ble_eq_true rfl) rfl rfl ?_
          intro σ_ hσ_; simp only [nrm, tev, St.step, putO, setsV, addO, ↓reduceIte, Nat.reduceAdd, logT, atT, intern, internL, kp_ents, fz_ents, fz_bytes, kp_bytes, kp_ats, fz_ats, logR, logE, ← List.map_take, ← List.map_drop, List.take_length, spots_len] at hσ_; subst hσ_
          first | refine TL.st_g rfl rfl rfl (Nat.le_of_ble_eq_true rfl) rfl (S_call_row rfl rfl rfl (by kernel_rfl) rfl ((same6b_T _ _ u.D v.D hdu hdv).eq rfl (by rw [hD])) rfl) ?_ | refine TL.st_g rfl rfl rfl (Nat.le_of_ble_eq_true rfl) rfl (S_call rfl rfl rfl (by kernel_rfl) rfl ((same6b_T _ _ u.D v.D hdu hdv).eq rfl (by rw [hD]))) ?_ | refine TL.sk_g rfl rfl rfl (Nat.le_of_ble_eq_true rfl) rfl rfl ?_
          intro σ_ hσ_; simp only [nrm, tev, St.step, putO, setsV, addO, ↓reduceIte, Nat.reduceAdd, logT, atT, intern, internL, kp_ents, fz_ents, fz_bytes, kp_bytes, kp_ats, fz_ats, logR, logE, ← List.map_take, ← List.map_drop, List.take_length, spots_len] at hσ_; subst hσ_
          first | refine TL.st_g rfl rfl rfl (Nat.le_of_ble_eq_true rfl) rfl (S_not rfl rfl) ?_ | refine TL.st_g rfl rfl rfl (Nat.le_of_ble_eq_true rfl) rfl (S_neg rfl rfl) ?_ | refine TL.sk_g rfl rfl rfl (Nat.le_of_ble_eq_true rfl) rfl rfl ?_
          intro σ_ hσ_; simp only [nrm, tev, St.step, putO, setsV, addO, ↓reduceIte, Nat.reduceAdd, logT, atT, intern, internL, kp_ents, fz_ents, fz_bytes, kp_bytes, kp_ats, fz_ats, logR, logE, ← List.map_take, ← List.map_drop, List.take_length, spots_len] at hσ_; subst hσ_
          refine TL.st rfl (S_pick rfl rfl rfl) ?_
          intro σ_ hσ_; simp only [nrm, tev, St.step, putO, setsV, addO, ↓reduceIte, Nat.reduceAdd, logT, atT, intern, internL, kp_ents, fz_ents, fz_bytes, kp_bytes, kp_ats, fz_ats, logR, logE, ← List.map_take, ← List.map_drop, List.take_length, spots_len] at hσ_; subst hσ_
          refine TL.nil ?_
          try simp (decide := true) only [thenT, inBlockT, noGotoT, jumpT, ↓reduceIte, true_and]
          refine hK11_ _ ?_
          refine TW.cond_f rfl (rfl) ?_
          refine TW.skip ?_
          try simp (decide := true) only [thenT, inBlockT, noGotoT, jumpT, ↓reduceIte, true_and]
          refine hK8_ _ ?_
          refine TW.reg ?_
          first | refine TL.st rfl (S_int rfl rfl rfl rfl (vi64 (by omega))) ?_ | refine TL.st rfl (S_int rfl rfl rfl rfl (vu64 (by omega))) ?_ | refine TL.st rfl (S_int rfl rfl rfl rfl rfl) ?_
          intro σ_ hσ_; simp only [nrm, tev, St.step, putO, setsV, addO, ↓reduceIte, Nat.reduceAdd, logT, atT, intern, internL, kp_ents, fz_ents, fz_bytes, kp_bytes, kp_ats, fz_ats, logR, logE, ← List.map_take, ← List.map_drop, List.take_length, spots_len] at hσ_; subst hσ_
          refine TL.st rfl (S_move rfl) ?_
          intro σ_ hσ_; simp only [nrm, tev, St.step, putO, setsV, addO, ↓reduceIte, Nat.reduceAdd, logT, atT, intern, internL, kp_ents, fz_ents, fz_bytes, kp_bytes, kp_ats, fz_ats, logR, logE, ← List.map_take, ← List.map_drop, List.take_length, spots_len] at hσ_; subst hσ_
          refine TL.nil ?_
          try simp (decide := true) only [thenT, inBlockT, noGotoT, jumpT, ↓reduceIte, true_and]
          refine ⟨(k + 1), ⟨by omega, fun j hj => by rcases Nat.lt_or_ge j k with h1 | h1; exact hal j h1; rw [show j = k by omega, hu, hv, entU_inj (x := u) (y := v) (by simp only [entU, hT, hK, of_decide_eq_true hD])]⟩, by omega, ?_⟩
          refine SLe.back 0 ?_ ?_ ?_
          · simp [setsL, kpL, kp, low, kpLL, LeL_cons, LeL_nil, LeT_any, LeT_self, LeT_v, LeT_sl, LeT_nil_sl, List.set_cons_zero, List.set_cons_succ, kp_bytes, kp_ents]
          · simp [setsL, LB.kp, kpL, kp, low, LeB_self, LeB_nil, kp_bytes, kp_ents]
          · simp [kpL, LeL_nil]
        · skip
          refine TW.reg ?_
          first | refine TL.st rfl (S_fieldAddr rfl rfl (tT rfl) rfl rfl (tT rfl) (by decide)) ?_ | refine TL.st rfl (S_fieldAddr_eptr rfl rfl (tT rfl) rfl rfl (tT rfl) (by decide)) ?_
          intro σ_ hσ_; simp only [nrm, tev, St.step, putO, setsV, addO, ↓reduceIte, Nat.reduceAdd, logT, atT, intern, internL, kp_ents, fz_ents, fz_bytes, kp_bytes, kp_ats, fz_ats, logR, logE, ← List.map_take, ← List.map_drop, List.take_length, spots_len] at hσ_; subst hσ_
          first | refine TL.st rfl (S_load rfl rfl rfl (tT rfl) rfl) ?_ | refine TL.st rfl (S_load_eptr rfl rfl (tT rfl) rfl) ?_ | refine TL.st rfl (S_load_row rfl rfl rfl rfl (by assumption) (tT rfl) rfl) ?_ | refine TL.st rfl (S_load_row (j := 0) rfl rfl rfl rfl (by assumption) (tT rfl) rfl) ?_
          intro σ_ hσ_; simp only [nrm, tev, St.step, putO, setsV, addO, ↓reduceIte, Nat.reduceAdd, logT, atT, intern, internL, kp_ents, fz_ents, fz_bytes, kp_bytes, kp_ats, fz_ats, logR, logE, ← List.map_take, ← List.map_drop, List.take_length, spots_len] at hσ_; subst hσ_
          first | refine TL.st rfl (S_fieldAddr rfl rfl (tT rfl) rfl rfl (tT rfl) (by decide)) ?_ | refine TL.st rfl (S_fieldAddr_eptr rfl rfl (tT rfl) rfl rfl (tT rfl) (by decide)) ?_
          intro σ_ hσ_; simp only [nrm, tev, St.step, putO, setsV, addO, ↓reduceIte, Nat.reduceAdd, logT, atT, intern, internL, kp_ents, fz_ents, fz_bytes, kp_bytes, kp_ats, fz_ats, logR, logE, ← List.map_take, ← List.map_drop, List.take_length, spots_len] at hσ_; subst hσ_
          first | refine TL.st rfl (S_load rfl rfl rfl (tT rfl) rfl) ?_ | refine TL.st rfl (S_load_eptr rfl rfl (tT rfl) rfl) ?_ | refine TL.st rfl (S_load_row rfl rfl rfl rfl (by assumption) (tT rfl) rfl) ?_ | refine TL.st rfl (S_load_row (j := 0) rfl rfl rfl rfl (by assumption) (tT rfl) rfl) ?_
          intro σ_ hσ_; simp only [nrm, tev, St.step, putO, setsV, addO, ↓reduceIte, Nat.reduceAdd, logT, atT, intern, internL, kp_ents, fz_ents, fz_bytes, kp_bytes, kp_ats, fz_ats, logR, logE, ← List.map_take, ← List.map_drop, List.take_length, spots_len] at hσ_; subst hσ_
          first | refine TL.st rfl (S_int rfl rfl rfl rfl (vnt (by omega))) ?_ | refine TL.st rfl (S_int rfl rfl rfl rfl (vnf (by omega))) ?_ | refine TL.st rfl (S_int rfl rfl rfl rfl rfl) ?_ | refine TL.st rfl (S_boolneq rfl rfl rfl rfl (tT rfl) rfl) ?_
          intro σ_ hσ_; simp only [nrm, tev, St.step, putO, setsV, addO, ↓reduceIte, Nat.reduceAdd, logT, atT, intern, internL, kp_ents, fz_ents, fz_bytes, kp_bytes, kp_ats, fz_ats, logR, logE, ← List.map_take, ← List.map_drop, List.take_length, spots_len] at hσ_; subst hσ_
          refine TL.st rfl (S_move rfl) ?_
          intro σ_ hσ_; simp only [nrm, tev, St.step, putO, setsV, addO, ↓reduceIte, Nat.reduceAdd, logT, atT, intern, internL, kp_ents, fz_ents, fz_bytes, kp_bytes, kp_ats, fz_ats, logR, logE, ← List.map_take, ← List.map_drop, List.take_length, spots_len] at hσ_; subst hσ_
          first | refine TL.st_g rfl rfl rfl (Nat.le_of_ble_eq_true rfl) rfl (S_fieldAddr rfl rfl (tT rfl) rfl rfl (tT rfl) (by decide)) ?_ | refine TL.st_g rfl rfl rfl (Nat.le_of_ble_eq_true rfl) rfl (S_fieldAddr_eptr rfl rfl (tT rfl) rfl rfl (tT rfl) (by decide)) ?_ | refine TL.sk_g rfl rfl rfl (Nat.le_of_ble_eq_true rfl) rfl rfl ?_
          intro σ_ hσ_; simp only [nrm, tev, St.step, putO, setsV, addO, ↓reduceIte, Nat.reduceAdd, logT, atT, intern, internL, kp_ents, fz_ents, fz_bytes, kp_bytes, kp_ats, fz_ats, logR, logE, ← List.map_take, ← List.map_drop, List.take_length, spots_len] at hσ_; subst hσ_
          first | refine TL.st_g rfl rfl rfl (Nat.le_of_ble_eq_true rfl) rfl (S_load rfl rfl rfl (tT rfl) rfl) ?_ | refine TL.st_g rfl rfl rfl (Nat.le_of_ble_eq_true rfl) rfl (S_load_eptr rfl rfl (tT rfl) rfl) ?_ | refine TL.st_g rfl rfl rfl (Nat.le_of_ble_eq_true rfl) rfl (S_load_row rfl rfl rfl rfl (by assumption) (tT rfl) rfl) ?_ | refine TL.st_g rfl rfl rfl (Nat.le_of_ble_eq_true rfl) rfl (S_load_row (j := 0) rfl rfl rfl rfl (by assumption) (tT rfl) rfl) ?_ | refine TL.sk_g rfl rfl rfl (Nat.le_of_ble_eq_true rfl) rfl rfl ?_
          intro σ_ hσ_; simp only [nrm, tev, St.step, putO, setsV, addO, ↓reduceIte, Nat.reduceAdd, logT, atT, intern, internL, kp_ents, fz_ents, fz_bytes, kp_bytes, kp_ats, fz_ats, logR, logE, ← List.map_take, ← List.map_drop, List.take_length, spots_len] at hσ_; subst hσ_
          first | refine TL.st_g rfl rfl rfl (Nat.le_of_ble_eq_true rfl) rfl (S_fieldAddr rfl rfl (tT rfl) rfl rfl (tT rfl) (by decide)) ?_ | refine TL.st_g rfl rfl rfl (Nat.le_of_ble_eq_true rfl) rfl (S_fieldAddr_eptr rfl rfl (tT rfl) rfl rfl (tT rfl) (by decide)) ?_ | refine TL.sk_g rfl rfl rfl (Nat.le_of_ble_eq_true rfl) rfl rfl ?_
          intro σ_ hσ_; simp only [nrm, tev, St.step, putO, setsV, addO, ↓reduceIte, Nat.reduceAdd, logT, atT, intern, internL, kp_ents, fz_ents, fz_bytes, kp_bytes, kp_ats, fz_ats, logR, logE, ← List.map_take, ← List.map_drop, List.take_length, spots_len] at hσ_; subst hσ_
          first | refine TL.st_g rfl rfl rfl (Nat.le_of_ble_eq_true rfl) rfl (S_load rfl rfl rfl (tT rfl) rfl) ?_ | refine TL.st_g rfl rfl rfl (Nat.le_of_ble_eq_true rfl) rfl (S_load_eptr rfl rfl (tT rfl) rfl) ?_ | refine TL.st_g rfl rfl rfl (Nat.le_of_ble_eq_true rfl) rfl (S_load_row rfl rfl rfl rfl (by assumption) (tT rfl) rfl) ?_ | refine TL.st_g rfl rfl rfl (Nat.le_of_ble_eq_true rfl) rfl (S_load_row (j := 0) rfl rfl rfl rfl (by assumption) (tT rfl) rfl) ?_ | refine TL.sk_g rfl rfl rfl (Nat.le_of_ble_eq_true rfl) rfl rfl ?_
          intro σ_ hσ_; simp only [nrm, tev, St.step, putO, setsV, addO, ↓reduceIte, Nat.reduceAdd, logT, atT, intern, internL, kp_ents, fz_ents, fz_bytes, kp_bytes, kp_ats, fz_ats, logR, logE, ← List.map_take, ← List.map_drop, List.take_length, spots_len] at hσ_; subst hσ_
          first | refine TL.st_g rfl rfl rfl (Nat.le_of_ble_eq_true rfl) rfl (S_int rfl rfl rfl rfl (vnt (by omega))) ?_ | refine TL.st_g rfl rfl rfl (Nat.le_of_ble_eq_true rfl) rfl (S_int rfl rfl rfl rfl (vnf (by omega))) ?_ | refine TL.st_g rfl rfl rfl (Nat.le_of_ble_eq_true rfl) rfl (S_int rfl rfl rfl rfl rfl) ?_ | refine TL.st_g rfl rfl rfl (Nat.le_of_ble_eq_true rfl) rfl (S_boolneq rfl rfl rfl rfl (tT rfl) rfl) ?_ | refine TL.sk_g rfl rfl rfl (Nat.le_of_ble_eq_true rfl) rfl rfl ?_
          intro σ_ hσ_; simp only [nrm, tev, St.step, putO, setsV, addO, ↓reduceIte, Nat.reduceAdd, logT, atT, intern, internL, kp_ents, fz_ents, fz_bytes, kp_bytes, kp_ats, fz_ats, logR, logE, ← List.map_take, ← List.map_drop, List.take_length, spots_len] at hσ_; subst hσ_
          refine TL.st rfl (S_pick rfl rfl rfl) ?_
          intro σ_ hσ_; simp only [nrm, tev, St.step, putO, setsV, addO, ↓reduceIte, Nat.reduceAdd, logT, atT, intern, internL, kp_ents, fz_ents, fz_bytes, kp_bytes, kp_ats, fz_ats, logR, logE, ← List.map_take, ← List.map_drop, List.take_length, spots_len] at hσ_; subst hσ_
          refine TL.st rfl (S_move rfl) ?_
          intro σ_ hσ_; simp only [nrm, tev, St.step, putO, setsV, addO, ↓reduceIte, Nat.reduceAdd, logT, atT, intern, internL, kp_ents, fz_ents, fz_bytes, kp_bytes, kp_ats, fz_ats, logR, logE, ← List.map_take, ← List.map_drop, List.take_length, spots_len] at hσ_; subst hσ_
          first | refine TL.st_g rfl rfl rfl (Nat.le_of_ble_eq_true rfl) rfl (S_fieldAddr rfl rfl (tT rfl) rfl rfl (tT rfl) (by decide)) ?_ | refine TL.st_g rfl rfl rfl (Nat.le_of_ble_eq_true rfl) rfl (S_fieldAddr_eptr rfl rfl (tT rfl) rfl rfl (tT rfl) (by decide)) ?_ | refine TL.sk_g rfl rfl rfl (Nat.le_of_ble_eq_true rfl) rfl rfl ?_
          intro σ_ hσ_; simp only [nrm, tev, St.step, putO, setsV, addO, ↓reduceIte, Nat.reduceAdd, logT, atT, intern, internL, kp_ents, fz_ents, fz_bytes, kp_bytes, kp_ats, fz_ats, logR, logE, ← List.map_take, ← List.map_drop, List.take_length, spots_len] at hσ_; subst hσ_
          first | refine TL.st_g rfl rfl rfl (Nat.le_of_ble_eq_true rfl) rfl (S_load rfl rfl rfl (tT rfl) rfl) ?_ | refine TL.st_g rfl rfl rfl (Nat.le_of_ble_eq_true rfl) rfl (S_load_eptr rfl rfl (tT rfl) rfl) ?_ | refine TL.st_g rfl rfl rfl (Nat.le_of_ble_eq_true rfl) rfl (S_load_row rfl rfl rfl rfl (by assumption) (tT rfl) rfl) ?_ | refine TL.st_g rfl rfl rfl (Nat.le_of_ble_eq_true rfl) rfl (S_load_row (j := 0) rfl rfl rfl rfl (by assumption) (tT rfl) rfl) ?_ | refine TL.sk_g rfl rfl rfl (Nat.le_of_ble_eq_true rfl) rfl rfl ?_
          intro σ_ hσ_; simp only [nrm, tev, St.step, putO, setsV, addO, ↓reduceIte, Nat.reduceAdd, logT, atT, intern, internL, kp_ents, fz_ents, fz_bytes, kp_bytes, kp_ats, fz_ats, logR, logE, ← List.map_take, ← List.map_drop, List.take_length, spots_len] at hσ_; subst hσ_
          first | refine TL.st_g rfl rfl rfl (Nat.le_of_ble_eq_true rfl) rfl (S_fieldAddr rfl rfl (tT rfl) rfl rfl (tT rfl) (by decide)) ?_ | refine TL.st_g rfl rfl rfl (Nat.le_of_ble_eq_true rfl) rfl (S_fieldAddr_eptr rfl rfl (tT rfl) rfl rfl (tT rfl) (by decide)) ?_ | refine TL.sk_g rfl rfl rfl (Nat.le_of_ble_eq_true rfl) rfl rfl ?_
          intro σ_ hσ_; simp only [nrm, tev, St.step, putO, setsV, addO, ↓reduceIte, Nat.reduceAdd, logT, atT, intern, internL, kp_ents, fz_ents, fz_bytes, kp_bytes, kp_ats, fz_ats, logR, logE, ← List.map_take, ← List.map_drop, List.take_length, spots_len] at hσ_; subst hσ_
          first | refine TL.st_g rfl rfl rfl (Nat.le_of_ble_eq_true rfl) rfl (S_load rfl rfl rfl (tT rfl) rfl) ?_ | refine TL.st_g rfl rfl rfl (Nat.le_of_ble_eq_true rfl) rfl (S_load_eptr rfl rfl (tT rfl) rfl) ?_ | refine TL.st_g rfl rfl rfl (Nat.le_of_ble_eq_true rfl) rfl (S_load_row rfl rfl rfl rfl (by assumption) (tT rfl) rfl) ?_ | refine TL.st_g rfl rfl rfl (Nat.le_of_ble_eq_true rfl) rfl (S_load_row (j := 0) rfl rfl rfl rfl (by assumption) (tT rfl) rfl) ?_ | refine TL.sk_g rfl rfl rfl (Nat.le_of_ble_eq_true rfl) rfl rfl ?_
          intro σ_ hσ_; simp only [nrm, tev, St.step, putO, setsV, addO, ↓reduceIte, Nat.reduceAdd, logT, atT, intern, internL, kp_ents, fz_ents, fz_bytes, kp_bytes, kp_ats, fz_ats, logR, logE, ← List.map_take, ← List.map_drop, List.take_length, spots_len] at hσ_; subst hσ_
          first | refine TL.st_g rfl rfl rfl (Nat.le_of_ble_eq_true rfl) rfl (S_call_row rfl rfl rfl (by kernel_rfl) rfl ((same6b_T _ _ u.D v.D hdu hdv).eq rfl (by rw [hD])) rfl) ?_ | refine TL.st_g rfl rfl rfl (Nat.le_of_ble_eq_true rfl) rfl (S_call rfl rfl rfl (by kernel_rfl) rfl ((same6b_T _ _ u.D v.D hdu hdv).eq rfl (by rw [hD]))) ?_ | refine TL.sk_g rfl rfl rfl (Nat.le_of_ble_eq_true rfl) rfl rfl ?_
          intro σ_ hσ_; simp only [nrm, tev, St.step, putO, setsV, addO, ↓reduceIte, Nat.reduceAdd, logT, atT, intern, internL, kp_ents, fz_ents, fz_bytes, kp_bytes, kp_ats, fz_ats, logR, logE, ← List.map_take, ← List.map_drop, List.take_length, spots_len] at hσ_; subst hσ_
          first | refine TL.st_g rfl rfl rfl (Nat.le_of_ble_eq_true rfl) rfl (S_not rfl rfl) ?_ | refine TL.st_g rfl rfl rfl (Nat.le_of_ble_eq_true rfl) rfl (S_neg rfl rfl) ?_ | refine TL.sk_g rfl rfl rfl (Nat.le_of_ble_eq_true rfl) rfl rfl ?_
          intro σ_ hσ_; simp only [nrm, tev, St.step, putO, setsV, addO, ↓reduceIte, Nat.reduceAdd, logT, atT, intern, internL, kp_ents, fz_ents, fz_bytes, kp_bytes, kp_ats, fz_ats, logR, logE, ← List.map_take, ← List.map_drop, List.take_length, spots_len] at hσ_; subst hσ_
          refine TL.st rfl (S_pick rfl rfl rfl) ?_
          intro σ_ hσ_; simp only [nrm, tev, St.step, putO, setsV, addO, ↓reduceIte, Nat.reduceAdd, logT, atT, intern, internL, kp_ents, fz_ents, fz_bytes, kp_bytes, kp_ats, fz_ats, logR, logE, ← List.map_take, ← List.map_drop, List.take_length, spots_len] at hσ_; subst hσ_
          refine TL.nil ?_
          try simp (decide := true) only [thenT, inBlockT, noGotoT, jumpT, ↓reduceIte, true_and]
          refine hK11_ _ ?_
          refine TW.cond_t rfl (rfl) ?_
          refine TW.seq_k ?_
          intro K12_ hK12_
          refine TW.reg ?_
          refine TL.st rfl (S_assign rfl) ?_
          intro σ_ hσ_; simp only [nrm, tev, St.step, putO, setsV, addO, ↓reduceIte, Nat.reduceAdd, logT, atT, intern, internL, kp_ents, fz_ents, fz_bytes, kp_bytes, kp_ats, fz_ats, logR, logE, ← List.map_take, ← List.map_drop, List.take_length, spots_len] at hσ_; subst hσ_
          refine TL.nil ?_
          try simp (decide := true) only [thenT, inBlockT, noGotoT, jumpT, ↓reduceIte, true_and]
          refine hK12_ _ ?_
          refine TW.ret ?_
          try simp (decide := true) only [thenT, inBlockT, noGotoT, jumpT, ↓reduceIte, true_and]
          refine ⟨.inr rfl, _, none, (ResT.one Try.results22 rfl), ?_, (by rintro _ ⟨⟩)⟩
          simp only [nrm, tev, Out_v, Out_agg, Out_tup, OutL_nil, OutL_cons, Out_sl, Out_row_osl, Out_nil_osl, Out_nil_sl, Out_nil_nil, and_true, true_and, logT, atT, logR, logE, fr_ents, fr_ats, hf, List.getD_cons_zero, List.getD_cons_succ]
          have hne : sameE es es2 = false := by
            cases hs : sameE es es2
            · rfl
            · have e1 := sameE_iff.1 hs
              rw [e1, hv] at hu
              exact absurd (Option.some.inj hu).symm (by rintro rfl; simp_all)
          simp [hne]
        · skip
          refine TW.reg ?_
          first | refine TL.st rfl (S_fieldAddr rfl rfl (tT rfl) rfl rfl (tT rfl) (by decide)) ?_ | refine TL.st rfl (S_fieldAddr_eptr rfl rfl (tT rfl) rfl rfl (tT rfl) (by decide)) ?_
          intro σ_ hσ_; simp only [nrm, tev, St.step, putO, setsV, addO, ↓reduceIte, Nat.reduceAdd, logT, atT, intern, internL, kp_ents, fz_ents, fz_bytes, kp_bytes, kp_ats, fz_ats, logR, logE, ← List.map_take, ← List.map_drop, List.take_length, spots_len] at hσ_; subst hσ_
          first | refine TL.st rfl (S_load rfl rfl rfl (tT rfl) rfl) ?_ | refine TL.st rfl (S_load_eptr rfl rfl (tT rfl) rfl) ?_ | refine TL.st rfl (S_load_row rfl rfl rfl rfl (by assumption) (tT rfl) rfl) ?_ | refine TL.st rfl (S_load_row (j := 0) rfl rfl rfl rfl (by assumption) (tT rfl) rfl) ?_
          intro σ_ hσ_; simp only [nrm, tev, St.step, putO, setsV, addO, ↓reduceIte, Nat.reduceAdd, logT, atT, intern, internL, kp_ents, fz_ents, fz_bytes, kp_bytes, kp_ats, fz_ats, logR, logE, ← List.map_take, ← List.map_drop, List.take_length, spots_len] at hσ_; subst hσ_
          first | refine TL.st rfl (S_fieldAddr rfl rfl (tT rfl) rfl rfl (tT rfl) (by decide)) ?_ | refine TL.st rfl (S_fieldAddr_eptr rfl rfl (tT rfl) rfl rfl (tT rfl) (by decide)) ?_
          intro σ_ hσ_; simp only [nrm, tev, St.step, putO, setsV, addO, ↓reduceIte, Nat.reduceAdd, logT, atT, intern, internL, kp_ents, fz_ents, fz_bytes, kp_bytes, kp_ats, fz_ats, logR, logE, ← List.map_take, ← List.map_drop, List.take_length, spots_len] at hσ_; subst hσ_
          first | refine TL.st rfl (S_load rfl rfl rfl (tT rfl) rfl) ?_ | refine TL.st rfl (S_load_eptr rfl rfl (tT rfl) rfl) ?_ | refine TL.st rfl (S_load_row rfl rfl rfl rfl (by assumption) (tT rfl) rfl) ?_ | refine TL.st rfl (S_load_row (j := 0) rfl rfl rfl rfl (by assumption) (tT rfl) rfl) ?_
          intro σ_ hσ_; simp only [nrm, tev, St.step, putO, setsV, addO, ↓reduceIte, Nat.reduceAdd, logT, atT, intern, internL, kp_ents, fz_ents, fz_bytes, kp_bytes, kp_ats, fz_ats, logR, logE, ← List.map_take, ← List.map_drop, List.take_length, spots_len] at hσ_; subst hσ_
          first | refine TL.st rfl (S_int rfl rfl rfl rfl (vnt (by omega))) ?_ | refine TL.st rfl (S_int rfl rfl rfl rfl (vnf (by omega))) ?_ | refine TL.st rfl (S_int rfl rfl rfl rfl rfl) ?_ | refine TL.st rfl (S_boolneq rfl rfl rfl rfl (tT rfl) rfl) ?_
          intro σ_ hσ_; simp only [nrm, tev, St.step, putO, setsV, addO, ↓reduceIte, Nat.reduceAdd, logT, atT, intern, internL, kp_ents, fz_ents, fz_bytes, kp_bytes, kp_ats, fz_ats, logR, logE, ← List.map_take, ← List.map_drop, List.take_length, spots_len] at hσ_; subst hσ_
          refine TL.st rfl (S_move rfl) ?_
          intro σ_ hσ_; simp only [nrm, tev, St.step, putO, setsV, addO, ↓reduceIte, Nat.reduceAdd, logT, atT, intern, internL, kp_ents, fz_ents, fz_bytes, kp_bytes, kp_ats, fz_ats, logR, logE, ← List.map_take, ← List.map_drop, List.take_length, spots_len] at hσ_; subst hσ_
          first | refine TL.st_g rfl rfl rfl (Nat.le_of_ble_eq_true rfl) rfl (S_fieldAddr rfl rfl (tT rfl) rfl rfl (tT rfl) (by decide)) ?_ | refine TL.st_g rfl rfl rfl (Nat.le_of_ble_eq_true rfl) rfl (S_fieldAddr_eptr rfl rfl (tT rfl) rfl rfl (tT rfl) (by decide)) ?_ | refine TL.sk_g rfl rfl rfl (Nat.le_of_ble_eq_true rfl) rfl rfl ?_
          intro σ_ hσ_; simp only [nrm, tev, St.step, putO, setsV, addO, ↓reduceIte, Nat.reduceAdd, logT, atT, intern, internL, kp_ents, fz_ents, fz_bytes, kp_bytes, kp_ats, fz_ats, logR, logE, ← List.map_take, ← List.map_drop, List.take_length, spots_len] at hσ_; subst hσ_
          first | refine TL.st_g rfl rfl rfl (Nat.le_of_ble_eq_true rfl) rfl (S_load rfl rfl rfl (tT rfl) rfl) ?_ | refine TL.st_g rfl rfl rfl (Nat.le_of_ble_eq_true rfl) rfl (S_load_eptr rfl rfl (tT rfl) rfl) ?_ | refine TL.st_g rfl rfl rfl (Nat.le_of_ble_eq_true rfl) rfl (S_load_row rfl rfl rfl rfl (by assumption) (tT rfl) rfl) ?_ | refine TL.st_g rfl rfl rfl (Nat.le_of_ble_eq_true rfl) rfl (S_load_row (j := 0) rfl rfl rfl rfl (by assumption) (tT rfl) rfl) ?_ | refine TL.sk_g rfl rfl rfl (Nat.le_of_ble_eq_true rfl) rfl rfl ?_
          intro σ_ hσ_; simp only [nrm, tev, St.step, putO, setsV, addO, ↓reduceIte, Nat.reduceAdd, logT, atT, intern, internL, kp_ents, fz_ents, fz_bytes, kp_bytes, kp_ats, fz_ats, logR, logE, ← List.map_take, ← List.map_drop, List.take_length, spots_len] at hσ_; subst hσ_
          first | refine TL.st_g rfl rfl rfl (Nat.le_of_ble_eq_true rfl) rfl (S_fieldAddr rfl rfl (tT rfl) rfl rfl (tT rfl) (by decide)) ?_ | refine TL.st_g rfl rfl rfl (Nat.le_of_ble_eq_true rfl) rfl (S_fieldAddr_eptr rfl rfl (tT rfl) rfl rfl (tT rfl) (by decide)) ?_ | refine TL.sk_g rfl rfl rfl (Nat.le_of_ble_eq_true rfl) rfl rfl ?_
          intro σ_ hσ_; simp only [nrm, tev, St.step, putO, setsV, addO, ↓reduceIte, Nat.reduceAdd, logT, atT, intern, internL, kp_ents, fz_ents, fz_bytes, kp_bytes, kp_ats, fz_ats, logR, logE, ← List.map_take, ← List.map_drop, List.take_length, spots_len] at hσ_; subst hσ_
          first | refine TL.st_g rfl rfl rfl (Nat.le_of_ble_eq_true rfl) rfl (S_load rfl rfl rfl (tT rfl) rfl) ?_ | refine TL.st_g rfl rfl rfl (Nat.le_of_ble_eq_true rfl) rfl (S_load_eptr rfl rfl (tT rfl) rfl) ?_ | refine TL.st_g rfl rfl rfl (Nat.le_of_ble_eq_true rfl) rfl (S_load_row rfl rfl rfl rfl (by assumption) (tT rfl) rfl) ?_ | refine TL.st_g rfl rfl rfl (Nat.le_of_ble_eq_true rfl) rfl (S_load_row (j := 0) rfl rfl rfl rfl (by assumption) (tT rfl) rfl) ?_ | refine TL.sk_g rfl rfl rfl (Nat.le_of_ble_eq_true rfl) rfl rfl ?_
          intro σ_ hσ_; simp only [nrm, tev, St.step, putO, setsV, addO, ↓reduceIte, Nat.reduceAdd, logT, atT, intern, internL, kp_ents, fz_ents, fz_bytes, kp_bytes, kp_ats, fz_ats, logR, logE, ← List.map_take, ← List.map_drop, List.take_length, spots_len] at hσ_; subst hσ_
          first | refine TL.st_g rfl rfl rfl (Nat.le_of_ble_eq_true rfl) rfl (S_int rfl rfl rfl rfl (vnt (by omega))) ?_ | refine TL.st_g rfl rfl rfl (Nat.le_of_ble_eq_true rfl) rfl (S_int rfl rfl rfl rfl (vnf (by omega))) ?_ | refine TL.st_g rfl rfl rfl (Nat.le_of_ble_eq_true rfl) rfl (S_int rfl rfl rfl rfl rfl) ?_ | refine TL.st_g rfl rfl rfl (Nat.le_of_ble_eq_true rfl) rfl (S_boolneq rfl rfl rfl rfl (tT rfl) rfl) ?_ | refine TL.sk_g rfl rfl rfl (Nat.le_of_ble_eq_true rfl) rfl rfl ?_
          intro σ_ hσ_; simp only [nrm, tev, St.step, putO, setsV, addO, ↓reduceIte, Nat.reduceAdd, logT, atT, intern, internL, kp_ents, fz_ents, fz_bytes, kp_bytes, kp_ats, fz_ats, logR, logE, ← List.map_take, ← List.map_drop, List.take_length, spots_len] at hσ_; subst hσ_
          refine TL.st rfl (S_pick rfl rfl rfl) ?_
          intro σ_ hσ_; simp only [nrm, tev, St.step, putO, setsV, addO, ↓reduceIte, Nat.reduceAdd, logT, atT, intern, internL, kp_ents, fz_ents, fz_bytes, kp_bytes, kp_ats, fz_ats, logR, logE, ← List.map_take, ← List.map_drop, List.take_length, spots_len] at hσ_; subst hσ_
          refine TL.st rfl (S_move rfl) ?_
          intro σ_ hσ_; simp only [nrm, tev, St.step, putO, setsV, addO, ↓reduceIte, Nat.reduceAdd, logT, atT, intern, internL, kp_ents, fz_ents, fz_bytes, kp_bytes, kp_ats, fz_ats, logR, logE, ← List.map_take, ← List.map_drop, List.take_length, spots_len] at hσ_; subst hσ_
          first | refine TL.st_g rfl rfl rfl (Nat.le_of_ble_eq_true rfl) rfl (S_fieldAddr rfl rfl (tT rfl) rfl rfl (tT rfl) (by decide)) ?_ | refine TL.st_g rfl rfl rfl (Nat.le_of_ble_eq_true rfl) rfl (S_fieldAddr_eptr rfl rfl (tT rfl) rfl rfl (tT rfl) (by decide)) ?_ | refine TL.sk_g rfl rfl rfl (Nat.le_of_ble_eq_true rfl) rfl rfl ?_
          intro σ_ hσ_; simp only [nrm, tev, St.step, putO, setsV, addO, ↓reduceIte, Nat.reduceAdd, logT, atT, intern, internL, kp_ents, fz_ents, fz_bytes, kp_bytes, kp_ats, fz_ats, logR, logE, ← List.map_take, ← List.map_drop, List.take_length, spots_len] at hσ_; subst hσ_
          first | refine TL.st_g rfl rfl rfl (Nat.le_of_ble_eq_true rfl) rfl (S_load rfl rfl rfl (tT rfl) rfl) ?_ | refine TL.st_g rfl rfl rfl (Nat.le_of_ble_eq_true rfl) rfl (S_load_eptr rfl rfl (tT rfl) rfl) ?_ | refine TL.st_g rfl rfl rfl (Nat.le_of_ble_eq_true rfl) rfl (S_load_row rfl rfl rfl rfl (by assumption) (tT rfl) rfl) ?_ | refine TL.st_g rfl rfl rfl (Nat.le_of_ble_eq_true rfl) rfl (S_load_row (j := 0) rfl rfl rfl rfl (by assumption) (tT rfl) rfl) ?_ | refine TL.sk_g rfl rfl rfl (Nat.le_of_ble_eq_true rfl) rfl rfl ?_
          intro σ_ hσ_; simp only [nrm, tev, St.step, putO, setsV, addO, ↓reduceIte, Nat.reduceAdd, logT, atT, intern, internL, kp_ents, fz_ents, fz_bytes, kp_bytes, kp_ats, fz_ats, logR, logE, ← List.map_take, ← List.map_drop, List.take_length, spots_len] at hσ_; subst hσ_
          first | refine TL.st_g rfl rfl rfl (Nat.le_of_ble_eq_true rfl) rfl (S_fieldAddr rfl rfl (tT rfl) rfl rfl (tT rfl) (by decide)) ?_ | refine TL.st_g rfl rfl rfl (Nat.le_of_ble_eq_true rfl) rfl (S_fieldAddr_eptr rfl rfl (tT rfl) rfl rfl (tT rfl) (by decide)) ?_ | refine TL.sk_g rfl rfl rfl (Nat.le_of_ble_eq_true rfl) rfl rfl ?_
          intro σ_ hσ_; simp only [nrm, tev, St.step, putO, setsV, addO, ↓reduceIte, Nat.reduceAdd, logT, atT, intern, internL, kp_ents, fz_ents, fz_bytes, kp_bytes, kp_ats, fz_ats, logR, logE, ← List.map_take, ← List.map_drop, List.take_length, spots_len] at hσ_; subst hσ_
          first | refine TL.st_g rfl rfl rfl (Nat.le_of_ble_eq_true rfl) rfl (S_load rfl rfl rfl (tT rfl) rfl) ?_ | refine TL.st_g rfl rfl rfl (Nat.le_of_ble_eq_true rfl) rfl (S_load_eptr rfl rfl (tT rfl) rfl) ?_ | refine TL.st_g rfl rfl rfl (Nat.le_of_ble_eq_true rfl) rfl (S_load_row rfl rfl rfl rfl (by assumption) (tT rfl) rfl) ?_ | refine TL.st_g rfl rfl rfl (Nat.le_of_ble_eq_true rfl) rfl (S_load_row (j := 0) rfl rfl rfl rfl (by assumption) (tT rfl) rfl) ?_ | refine TL.sk_g rfl rfl rfl (Nat.le_of_ble_eq_true rfl) rfl rfl ?_
          intro σ_ hσ_; simp only [nrm, tev, St.step, putO, setsV, addO, ↓reduceIte, Nat.reduceAdd, logT, atT, intern, internL, kp_ents, fz_ents, fz_bytes, kp_bytes, kp_ats, fz_ats, logR, logE, ← List.map_take, ← List.map_drop, List.take_length, spots_len] at hσ_; subst hσ_
          first | refine TL.st_g rfl rfl rfl (Nat.le_of_ble_eq_true rfl) rfl (S_call_row rfl rfl rfl (by kernel_rfl) rfl ((same6b_T _ _ u.D v.D hdu hdv).eq rfl (by rw [hD])) rfl) ?_ | refine TL.st_g rfl rfl rfl (Nat.le_of_ble_eq_true rfl) rfl (S_call rfl rfl rfl (by kernel_rfl) rfl ((same6b_T _ _ u.D v.D hdu hdv).eq rfl (by rw [hD]))) ?_ | refine TL.sk_g rfl rfl rfl (Nat.le_of_ble_eq_true rfl) rfl rfl ?_
          intro σ_ hσ_; simp only [nrm, tev, St.step, putO, setsV, addO, ↓reduceIte, Nat.reduceAdd, logT, atT, intern, internL, kp_ents, fz_ents, fz_bytes, kp_bytes, kp_ats, fz_ats, logR, logE, ← List.map_take, ← List.map_drop, List.take_length, spots_len] at hσ_; subst hσ_
          first | refine TL.st_g rfl rfl rfl (Nat.le_of_ble_eq_true rfl) rfl (S_not rfl rfl) ?_ | refine TL.st_g rfl rfl rfl (Nat.le_of_ble_eq_true rfl) rfl (S_neg rfl rfl) ?_ | refine TL.sk_g rfl rfl rfl (Nat.le_of_ble_eq_true rfl) rfl rfl ?_
          intro σ_ hσ_; simp only [nrm, tev, St.step, putO, setsV, addO, ↓reduceIte, Nat.reduceAdd, logT, atT, intern, internL, kp_ents, fz_ents, fz_bytes, kp_bytes, kp_ats, fz_ats, logR, logE, ← List.map_take, ← List.map_drop, List.take_length, spots_len] at hσ_; subst hσ_
          refine TL.st rfl (S_pick rfl rfl rfl) ?_
          intro σ_ hσ_; simp only [nrm, tev, St.step, putO, setsV, addO, ↓reduceIte, Nat.reduceAdd, logT, atT, intern, internL, kp_ents, fz_ents, fz_bytes, kp_bytes, kp_ats, fz_ats, logR, logE, ← List.map_take, ← List.map_drop, List.take_length, spots_len] at hσ_; subst hσ_
          refine TL.nil ?_
          try simp (decide := true) only [thenT, inBlockT, noGotoT, jumpT, ↓reduceIte, true_and]
          refine hK11_ _ ?_
          refine TW.cond_t rfl (rfl) ?_
          refine TW.seq_k ?_
          intro K13_ hK13_
          refine TW.reg ?_
          refine TL.st rfl (S_assign rfl) ?_
          intro σ_ hσ_; simp only [nrm, tev, St.step, putO, setsV, addO, ↓reduceIte, Nat.reduceAdd, logT, atT, intern, internL, kp_ents, fz_ents, fz_bytes, kp_bytes, kp_ats, fz_ats, logR, logE, ← List.map_take, ← List.map_drop, List.take_length, spots_len] at hσ_; subst hσ_
          refine TL.nil ?_
          try simp (decide := true) only [thenT, inBlockT, noGotoT, jumpT, ↓reduceIte, true_and]
          refine hK13_ _ ?_
          refine TW.ret ?_
          try simp (decide := true) only [thenT, inBlockT, noGotoT, jumpT, ↓reduceIte, true_and]
          refine ⟨.inr rfl, _, none, (ResT.one Try.results22 rfl), ?_, (by rintro _ ⟨⟩)⟩
          simp only [nrm, tev, Out_v, Out_agg, Out_tup, OutL_nil, OutL_cons, Out_sl, Out_row_osl, Out_nil_osl, Out_nil_sl, Out_nil_nil, and_true, true_and, logT, atT, logR, logE, fr_ents, fr_ats, hf, List.getD_cons_zero, List.getD_cons_succ]
          have hne : sameE es es2 = false := by
            cases hs : sameE es es2
            · rfl
            · have e1 := sameE_iff.1 hs
              rw [e1, hv] at hu
              exact absurd (Option.some.inj hu).symm (by rintro rfl; simp_all)
          simp [hne]
        · skip
          refine TW.reg ?_
          first | refine TL.st rfl (S_fieldAddr rfl rfl (tT rfl) rfl rfl (tT rfl) (by decide)) ?_ | refine TL.st rfl (S_fieldAddr_eptr rfl rfl (tT rfl) rfl rfl (tT rfl) (by decide)) ?_
          intro σ_ hσ_; simp only [nrm, tev, St.step, putO, setsV, addO, ↓reduceIte, Nat.reduceAdd, logT, atT, intern, internL, kp_ents, fz_ents, fz_bytes, kp_bytes, kp_ats, fz_ats, logR, logE, ← List.map_take, ← List.map_drop, List.take_length, spots_len] at hσ_; subst hσ_
          first | refine TL.st rfl (S_load rfl rfl rfl (tT rfl) rfl) ?_ | refine TL.st rfl (S_load_eptr rfl rfl (tT rfl) rfl) ?_ | refine TL.st rfl (S_load_row rfl rfl rfl rfl (by assumption) (tT rfl) rfl) ?_ | refine TL.st rfl (S_load_row (j := 0) rfl rfl rfl rfl (by assumption) (tT rfl) rfl) ?_
          intro σ_ hσ_; simp only [nrm, tev, St.step, putO, setsV, addO, ↓reduceIte, Nat.reduceAdd, logT, atT, intern, internL, kp_ents, fz_ents, fz_bytes, kp_bytes, kp_ats, fz_ats, logR, logE, ← List.map_take, ← List.map_drop, List.take_length, spots_len] at hσ_; subst hσ_
          first | refine TL.st rfl (S_fieldAddr rfl rfl (tT rfl) rfl rfl (tT rfl) (by decide)) ?_ | refine TL.st rfl (S_fieldAddr_eptr rfl rfl (tT rfl) rfl rfl (tT rfl) (by decide)) ?_
          intro σ_ hσ_; simp only [nrm, tev, St.step, putO, setsV, addO, ↓reduceIte, Nat.reduceAdd, logT, atT, intern, internL, kp_ents, fz_ents, fz_bytes, kp_bytes, kp_ats, fz_ats, logR, logE, ← List.map_take, ← List.map_drop, List.take_length, spots_len] at hσ_; subst hσ_
          first | refine TL.st rfl (S_load rfl rfl rfl (tT rfl) rfl) ?_ | refine TL.st rfl (S_load_eptr rfl rfl (tT rfl) rfl) ?_ | refine TL.st rfl (S_load_row rfl rfl rfl rfl (by assumption) (tT rfl) rfl) ?_ | refine TL.st rfl (S_load_row (j := 0) rfl rfl rfl rfl (by assumption) (tT rfl) rfl) ?_
          intro σ_ hσ_; simp only [nrm, tev, St.step, putO, setsV, addO, ↓reduceIte, Nat.reduceAdd, logT, atT, intern, internL, kp_ents, fz_ents, fz_bytes, kp_bytes, kp_ats, fz_ats, logR, logE, ← List.map_take, ← List.map_drop, List.take_length, spots_len] at hσ_; subst hσ_
          first | refine TL.st rfl (S_int rfl rfl rfl rfl (vnt (by omega))) ?_ | refine TL.st rfl (S_int rfl rfl rfl rfl (vnf (by omega))) ?_ | refine TL.st rfl (S_int rfl rfl rfl rfl rfl) ?_ | refine TL.st rfl (S_boolneq rfl rfl rfl rfl (tT rfl) rfl) ?_
          intro σ_ hσ_; simp only [nrm, tev, St.step, putO, setsV, addO, ↓reduceIte, Nat.reduceAdd, logT, atT, intern, internL, kp_ents, fz_ents, fz_bytes, kp_bytes, kp_ats, fz_ats, logR, logE, ← List.map_take, ← List.map_drop, List.take_length, spots_len] at hσ_; subst hσ_
          refine TL.st rfl (S_move rfl) ?_
          intro σ_ hσ_; simp only [nrm, tev, St.step, putO, setsV, addO, ↓reduceIte, Nat.reduceAdd, logT, atT, intern, internL, kp_ents, fz_ents, fz_bytes, kp_bytes, kp_ats, fz_ats, logR, logE, ← List.map_take, ← List.map_drop, List.take_length, spots_len] at hσ_; subst hσ_
          first | refine TL.st_g rfl rfl rfl (Nat.le_of_ble_eq_true rfl) rfl (S_fieldAddr rfl rfl (tT rfl) rfl rfl (tT rfl) (by decide)) ?_ | refine TL.st_g rfl rfl rfl (Nat.le_of_ble_eq_true rfl) rfl (S_fieldAddr_eptr rfl rfl (tT rfl) rfl rfl (tT rfl) (by decide)) ?_ | refine TL.sk_g rfl rfl rfl (Nat.le_of_ble_eq_true rfl) rfl rfl ?_
          intro σ_ hσ_; simp only [nrm, tev, St.step, putO, setsV, addO, ↓reduceIte, Nat.reduceAdd, logT, atT, intern, internL, kp_ents, fz_ents, fz_bytes, kp_bytes, kp_ats, fz_ats, logR, logE, ← List.map_take, ← List.map_drop, List.take_length, spots_len] at hσ_; subst hσ_
          first | refine TL.st_g rfl rfl rfl (Nat.le_of_ble_eq_true rfl) rfl (S_load rfl rfl rfl (tT rfl) rfl) ?_ | refine TL.st_g rfl rfl rfl (Nat.le_of_ble_eq_true rfl) rfl (S_load_eptr rfl rfl (tT rfl) rfl) ?_ | refine TL.st_g rfl rfl rfl (Nat.le_of_ble_eq_true rfl) rfl (S_load_row rfl rfl rfl rfl (by assumption) (tT rfl) rfl) ?_ | refine TL.st_g rfl rfl rfl (Nat.le_of_ble_eq_true rfl) rfl (S_load_row (j := 0) rfl rfl rfl rfl (by assumption) (tT rfl) rfl) ?_ | refine TL.sk_g rfl rfl rfl (Nat.le_of_ble_eq_true rfl) rfl rfl ?_
          intro σ_ hσ_; simp only [nrm, tev, St.step, putO, setsV, addO, ↓reduceIte, Nat.reduceAdd, logT, atT, intern, internL, kp_ents, fz_ents, fz_bytes, kp_bytes, kp_ats, fz_ats, logR, logE, ← List.map_take, ← List.map_drop, List.take_length, spots_len] at hσ_; subst hσ_
          first | refine TL.st_g rfl rfl rfl (Nat.le_of_ble_eq_true rfl) rfl (S_fieldAddr rfl rfl (tT rfl) rfl rfl (tT rfl) (by decide)) ?_ | refine TL.st_g rfl rfl rfl (Nat.le_of_ble_eq_true rfl) rfl (S_fieldAddr_eptr rfl rfl (tT rfl) rfl rfl (tT rfl) (by decide)) ?_ | refine TL.sk_g rfl rfl rfl (Nat.le_of_ble_eq_true rfl) rfl rfl ?_
          intro σ_ hσ_; simp only [nrm, tev, St.step, putO, setsV, addO, ↓reduceIte, Nat.reduceAdd, logT, atT, intern, internL, kp_ents, fz_ents, fz_bytes, kp_bytes, kp_ats, fz_ats, logR, logE, ← List.map_take, ← List.map_drop, List.take_length, spots_len] at hσ_; subst hσ_
          first | refine TL.st_g rfl rfl rfl (Nat.le_of_ble_eq_true rfl) rfl (S_load rfl rfl rfl (tT rfl) rfl) ?_ | refine TL.st_g rfl rfl rfl (Nat.le_of_ble_eq_true rfl) rfl (S_load_eptr rfl rfl (tT rfl) rfl) ?_ | refine TL.st_g rfl rfl rfl (Nat.le_of_ble_eq_true rfl) rfl (S_load_row rfl rfl rfl rfl (by assumption) (tT rfl) rfl) ?_ | refine TL.st_g rfl rfl rfl (Nat.le_of_ble_eq_true rfl) rfl (S_load_row (j := 0) rfl rfl rfl rfl (by assumption) (tT rfl) rfl) ?_ | refine TL.sk_g rfl rfl rfl (Nat.le_of_ble_eq_true rfl) rfl rfl ?_
          intro σ_ hσ_; simp only [nrm, tev, St.step, putO, setsV, addO, ↓reduceIte, Nat.reduceAdd, logT, atT, intern, internL, kp_ents, fz_ents, fz_bytes, kp_bytes, kp_ats, fz_ats, logR, logE, ← List.map_take, ← List.map_drop, List.take_length, spots_len] at hσ_; subst hσ_
          first | refine TL.st_g rfl rfl rfl (Nat.le_of_ble_eq_true rfl) rfl (S_int rfl rfl rfl rfl (vnt (by omega))) ?_ | refine TL.st_g rfl rfl rfl (Nat.le_of_ble_eq_true rfl) rfl (S_int rfl rfl rfl rfl (vnf (by omega))) ?_ | refine TL.st_g rfl rfl rfl (Nat.le_of_ble_eq_true rfl) rfl (S_int rfl rfl rfl rfl rfl) ?_ | refine TL.st_g rfl rfl rfl (Nat.le_of_ble_eq_true rfl) rfl (S_boolneq rfl rfl rfl rfl (tT rfl) rfl) ?_ | refine TL.sk_g rfl rfl rfl (Nat.le_of_ble_eq_true rfl) rfl rfl ?_
          intro σ_ hσ_; simp only [nrm, tev, St.step, putO, setsV, addO, ↓reduceIte, Nat.reduceAdd, logT, atT, intern, internL, kp_ents, fz_ents, fz_bytes, kp_bytes, kp_ats, fz_ats, logR, logE, ← List.map_take, ← List.map_drop, List.take_length, spots_len] at hσ_; subst hσ_
          refine TL.st rfl (S_pick rfl rfl rfl) ?_
          intro σ_ hσ_; simp only [nrm, tev, St.step, putO, setsV, addO, ↓reduceIte, Nat.reduceAdd, logT, atT, intern, internL, kp_ents, fz_ents, fz_bytes, kp_bytes, kp_ats, fz_ats, logR, logE, ← List.map_take, ← List.map_drop, List.take_length, spots_len] at hσ_; subst hσ_
          refine TL.st rfl (S_move rfl) ?_
          intro σ_ hσ_; simp only [nrm, tev, St.step, putO, setsV, addO, ↓reduceIte, Nat.reduceAdd, logT, atT, intern, internL, kp_ents, fz_ents, fz_bytes, kp_bytes, kp_ats, fz_ats, logR, logE, ← List.map_take, ← List.map_drop, List.take_length, spots_len] at hσ_; subst hσ_
          first | refine TL.st_g rfl rfl rfl (Nat.le_of_ble_eq_true rfl) rfl (S_fieldAddr rfl rfl (tT rfl) rfl rfl (tT rfl) (by decide)) ?_ | refine TL.st_g rfl rfl rfl (Nat.le_of_ble_eq_true rfl) rfl (S_fieldAddr_eptr rfl rfl (tT rfl) rfl rfl (tT rfl) (by decide)) ?_ | refine TL.sk_g rfl rfl rfl (Nat.le_of_ble_eq_true rfl) rfl rfl ?_
          intro σ_ hσ_; simp only [nrm, tev, St.step, putO, setsV, addO, ↓reduceIte, Nat.reduceAdd, logT, atT, intern, internL, kp_ents, fz_ents, fz_bytes, kp_bytes, kp_ats, fz_ats, logR, logE, ← List.map_take, ← List.map_drop, List.take_length, spots_len] at hσ_; subst hσ_
          first | refine TL.st_g rfl rfl rfl (Nat.le_of_ble_eq_true rfl) rfl (S_load rfl rfl rfl (tT rfl) rfl) ?_ | refine TL.st_g rfl rfl rfl (Nat.le_of_ble_eq_true rfl) rfl (S_load_eptr rfl rfl (tT rfl) rfl) ?_ | refine TL.st_g rfl rfl rfl (Nat.le_of_ble_eq_true rfl) rfl (S_load_row rfl rfl rfl rfl (by assumption) (tT rfl) rfl) ?_ | refine TL.st_g rfl rfl rfl (Nat.le_of_ble_eq_true rfl) rfl (S_load_row (j := 0) rfl rfl rfl rfl (by assumption) (tT rfl) rfl) ?_ | refine TL.sk_g rfl rfl rfl (Nat.le_of_ble_eq_true rfl) rfl rfl ?_
          intro σ_ hσ_; simp only [nrm, tev, St.step, putO, setsV, addO, ↓reduceIte, Nat.reduceAdd, logT, atT, intern, internL, kp_ents, fz_ents, fz_bytes, kp_bytes, kp_ats, fz_ats, logR, logE, ← List.map_take, ← List.map_drop, List.take_length, spots_len] at hσ_; subst hσ_
          first | refine TL.st_g rfl rfl rfl (Nat.le_of_ble_eq_true rfl) rfl (S_fieldAddr rfl rfl (tT rfl) rfl rfl (tT rfl) (by decide)) ?_ | refine TL.st_g rfl rfl rfl (Nat.le_of_ble_eq_true rfl) rfl (S_fieldAddr_eptr rfl rfl (tT rfl) rfl rfl (tT rfl) (by decide)) ?_ | refine TL.sk_g rfl rfl rfl (Nat.le_of_ble_eq_true rfl) rfl rfl ?_
          intro σ_ hσ_; simp only [nrm, tev, St.step, putO, setsV, addO, ↓reduceIte, Nat.reduceAdd, logT, atT, intern, internL, kp_ents, fz_ents, fz_bytes, kp_bytes, kp_ats, fz_ats, logR, logE, ← List.map_take, ← List.map_drop, List.take_length, spots_len] at hσ_; subst hσ_
          first | refine TL.st_g rfl rfl rfl (Nat.le_of_ble_eq_true rfl) rfl (S_load rfl rfl rfl (tT rfl) rfl) ?_ | refine TL.st_g rfl rfl rfl (Nat.le_of_ble_eq_true rfl) rfl (S_load_eptr rfl rfl (tT rfl) rfl) ?_ | refine TL.st_g rfl rfl rfl (Nat.le_of_ble_eq_true rfl) rfl (S_load_row rfl rfl rfl rfl (by assumption) (tT rfl) rfl) ?_ | refine TL.st_g rfl rfl rfl (Nat.le_of_ble_eq_true rfl) rfl (S_load_row (j := 0) rfl rfl rfl rfl (by assumption) (tT rfl) rfl) ?_ | refine TL.sk_g rfl rfl rfl (Nat.le_of_ble_eq_true rfl) rfl rfl ?_
          intro σ_ hσ_; simp only [nrm, tev, St.step, putO, setsV, addO, ↓reduceIte, Nat.reduceAdd, logT, atT, intern, internL, kp_ents, fz_ents, fz_bytes, kp_bytes, kp_ats, fz_ats, logR, logE, ← List.map_take, ← List.map_drop, List.take_length, spots_len] at hσ_; subst hσ_
          first | refine TL.st_g rfl rfl rfl (Nat.le_of_ble_eq_true rfl) rfl (S_call_row rfl rfl rfl (by kernel_rfl) rfl ((same6b_T _ _ u.D v.D hdu hdv).eq rfl (by rw [hD])) rfl) ?_ | refine TL.st_g rfl rfl rfl (Nat.le_of_ble_eq_true rfl) rfl (S_call rfl rfl rfl (by kernel_rfl) rfl ((same6b_T _ _ u.D v.D hdu hdv).eq rfl (by rw [hD]))) ?_ | refine TL.sk_g rfl rfl rfl (Nat.le_of_ble_eq_true rfl) rfl rfl ?_
          intro σ_ hσ_; simp only [nrm, tev, St.step, putO, setsV, addO, ↓reduceIte, Nat.reduceAdd, logT, atT, intern, internL, kp_ents, fz_ents, fz_bytes, kp_bytes, kp_ats, fz_ats, logR, logE, ← List.map_take, ← List.map_drop, List.take_length, spots_len] at hσ_; subst hσ_
          first | refine TL.st_g rfl rfl rfl (Nat.le_of_ble_eq_true rfl) rfl (S_not rfl rfl) ?_ | refine TL.st_g rfl rfl rfl (Nat.le_of_ble_eq_true rfl) rfl (S_neg rfl rfl) ?_ | refine TL.sk_g rfl rfl rfl (Nat.le_of_ble_eq_true rfl) rfl rfl ?_
          intro σ_ hσ_; simp only [nrm, tev, St.step, putO, setsV, addO, ↓reduceIte, Nat.reduceAdd, logT, atT, intern, internL, kp_ents, fz_ents, fz_bytes, kp_bytes, kp_ats, fz_ats, logR, logE, ← List.map_take, ← List.map_drop, List.take_length, spots_len] at hσ_; subst hσ_
          refine TL.st rfl (S_pick rfl rfl rfl) ?_
          intro σ_ hσ_; simp only [nrm, tev, St.step, putO, setsV, addO, ↓reduceIte, Nat.reduceAdd, logT, atT, intern, internL, kp_ents, fz_ents, fz_bytes, kp_bytes, kp_ats, fz_ats, logR, logE, ← List.map_take, ← List.map_drop, List.take_length, spots_len] at hσ_; subst hσ_
          refine TL.nil ?_
          try simp (decide := true) only [thenT, inBlockT, noGotoT, jumpT, ↓reduceIte, true_and]
          refine hK11_ _ ?_
          refine TW.cond_t rfl (rfl) ?_
          refine TW.seq_k ?_
          intro K14_ hK14_
          refine TW.reg ?_
          refine TL.st rfl (S_assign rfl) ?_
          intro σ_ hσ_; simp only [nrm, tev, St.step, putO, setsV, addO, ↓reduceIte, Nat.reduceAdd, logT, atT, intern, internL, kp_ents, fz_ents, fz_bytes, kp_bytes, kp_ats, fz_ats, logR, logE, ← List.map_take, ← List.map_drop, List.take_length, spots_len] at hσ_; subst hσ_
          refine TL.nil ?_
          try simp (decide := true) only [thenT, inBlockT, noGotoT, jumpT, ↓reduceIte, true_and]
          refine hK14_ _ ?_
          refine TW.ret ?_
          try simp (decide := true) only [thenT, inBlockT, noGotoT, jumpT, ↓reduceIte, true_and]
          refine ⟨.inr rfl, _, none, (ResT.one Try.results22 rfl), ?_, (by rintro _ ⟨⟩)⟩
          simp only [nrm, tev, Out_v, Out_agg, Out_tup, OutL_nil, OutL_cons, Out_sl, Out_row_osl, Out_nil_osl, Out_nil_sl, Out_nil_nil, and_true, true_and, logT, atT, logR, logE, fr_ents, fr_ats, hf, List.getD_cons_zero, List.getD_cons_succ]
          have hne : sameE es es2 = false := by
            cases hs : sameE es es2
            · rfl
            · have e1 := sameE_iff.1 hs
              rw [e1, hv] at hu
              exact absurd (Option.some.inj hu).symm (by rintro rfl; simp_all)
          simp [hne]
      · skip
        refine TW.reg ?_
        first | refine TL.st rfl (S_int rfl rfl rfl rfl (vbt (by omega))) ?_ | refine TL.st rfl (S_int rfl rfl rfl rfl (vbf (by omega))) ?_ | refine TL.st rfl (S_int rfl rfl rfl rfl rfl) ?_
        intro σ_ hσ_; simp only [nrm, tev, St.step, putO, setsV, addO, ↓reduceIte, Nat.reduceAdd, logT, atT, intern, internL, kp_ents, fz_ents, fz_bytes, kp_bytes, kp_ats, fz_ats, logR, logE, ← List.map_take, ← List.map_drop, List.take_length, spots_len] at hσ_; subst hσ_
        refine TL.nil ?_
        try simp (decide := true) only [thenT, inBlockT, noGotoT, jumpT, ↓reduceIte, true_and]
        refine hK6_ _ ?_
        refine TW.seq_k ?_
        intro K15_ hK15_
        refine TW.cond_f rfl (rfl) ?_
        refine TW.exit ?_
        try simp (decide := true) only [thenT, inBlockT, noGotoT, jumpT, ↓reduceIte, true_and]
        refine hK4_ _ ?_
        refine TW.seq_k ?_
        intro K16_ hK16_
        refine TW.reg ?_
        refine TL.st rfl (S_assign rfl) ?_
        intro σ_ hσ_; simp only [nrm, tev, St.step, putO, setsV, addO, ↓reduceIte, Nat.reduceAdd, logT, atT, intern, internL, kp_ents, fz_ents, fz_bytes, kp_bytes, kp_ats, fz_ats, logR, logE, ← List.map_take, ← List.map_drop, List.take_length, spots_len] at hσ_; subst hσ_
        refine TL.nil ?_
        try simp (decide := true) only [thenT, inBlockT, noGotoT, jumpT, ↓reduceIte, true_and]
        refine hK16_ _ ?_
        refine TW.ret ?_
        try simp (decide := true) only [thenT, inBlockT, noGotoT, jumpT, ↓reduceIte, true_and]
        refine ⟨.inr rfl, _, none, (ResT.one Try.results22 rfl), ?_, (by rintro _ ⟨⟩)⟩
        simp only [nrm, tev, Out_v, Out_agg, Out_tup, OutL_nil, OutL_cons, Out_sl, Out_row_osl, Out_nil_osl, Out_nil_sl, Out_nil_nil, and_true, true_and, logT, atT, logR, logE, fr_ents, fr_ats, hf, List.getD_cons_zero, List.getD_cons_succ]
        have he : es = es2 := list_same hl fun j hj => hal j (by omega)
        simp [sameE_iff.2 he]
  · skip
    refine TW.reg ?_
    refine TL.st rfl (S_move rfl) ?_
    intro σ_ hσ_; simp only [nrm, tev, St.step, putO, setsV, addO, ↓reduceIte, Nat.reduceAdd, logT, atT, intern, internL, kp_ents, fz_ents, fz_bytes, kp_bytes, kp_ats, fz_ats, logR, logE, ← List.map_take, ← List.map_drop, List.take_length, spots_len] at hσ_; subst hσ_
    first | refine TL.st rfl (S_len rfl rfl (tT rfl) rfl (.inl ⟨_, _, rfl, rfl⟩)) ?_ | refine TL.st rfl (S_len rfl rfl (tT rfl) rfl (.inr (.inl ⟨_, _, _, _, rfl, rfl, rfl⟩))) ?_ | refine TL.st rfl (S_len rfl rfl (tT rfl) rfl (.inr (.inr ⟨rfl, rfl⟩))) ?_ | refine TL.st rfl (S_len_str rfl rfl (tT rfl) rfl rfl) ?_ | refine TL.st rfl (S_len_arr rfl rfl (tT rfl) rfl) ?_
    intro σ_ hσ_; simp only [nrm, tev, St.step, putO, setsV, addO, ↓reduceIte, Nat.reduceAdd, logT, atT, intern, internL, kp_ents, fz_ents, fz_bytes, kp_bytes, kp_ats, fz_ats, logR, logE, ← List.map_take, ← List.map_drop, List.take_length, spots_len] at hσ_; subst hσ_
    refine TL.st rfl (S_move rfl) ?_
    intro σ_ hσ_; simp only [nrm, tev, St.step, putO, setsV, addO, ↓reduceIte, Nat.reduceAdd, logT, atT, intern, internL, kp_ents, fz_ents, fz_bytes, kp_bytes, kp_ats, fz_ats, logR, logE, ← List.map_take, ← List.map_drop, List.take_length, spots_len] at hσ_; subst hσ_
    first | refine TL.st rfl (S_len rfl rfl (tT rfl) rfl (.inl ⟨_, _, rfl, rfl⟩)) ?_ | refine TL.st rfl (S_len rfl rfl (tT rfl) rfl (.inr (.inl ⟨_, _, _, _, rfl, rfl, rfl⟩))) ?_ | refine TL.st rfl (S_len rfl rfl (tT rfl) rfl (.inr (.inr ⟨rfl, rfl⟩))) ?_ | refine TL.st rfl (S_len_str rfl rfl (tT rfl) rfl rfl) ?_ | refine TL.st rfl (S_len_arr rfl rfl (tT rfl) rfl) ?_
    intro σ_ hσ_; simp only [nrm, tev, St.step, putO, setsV, addO, ↓reduceIte, Nat.reduceAdd, logT, atT, intern, internL, kp_ents, fz_ents, fz_bytes, kp_bytes, kp_ats, fz_ats, logR, logE, ← List.map_take, ← List.map_drop, List.take_length, spots_len] at hσ_; subst hσ_
    first | refine TL.st rfl (S_int rfl rfl rfl rfl (vnt (by omega))) ?_ | refine TL.st rfl (S_int rfl rfl rfl rfl (vnf (by omega))) ?_ | refine TL.st rfl (S_int rfl rfl rfl rfl rfl) ?_ | refine TL.st rfl (S_boolneq rfl rfl rfl rfl (tT rfl) rfl) ?_
    intro σ_ hσ_; simp only [nrm, tev, St.step, putO, setsV, addO, ↓reduceIte, Nat.reduceAdd, logT, atT, intern, internL, kp_ents, fz_ents, fz_bytes, kp_bytes, kp_ats, fz_ats, logR, logE, ← List.map_take, ← List.map_drop, List.take_length, spots_len] at hσ_; subst hσ_
    refine TL.nil ?_
    try simp (decide := true) only [thenT, inBlockT, noGotoT, jumpT, ↓reduceIte, true_and]
    refine hK3_ _ ?_
    refine TW.cond_t rfl (rfl) ?_
    refine TW.seq_k ?_
    intro K17_ hK17_
    refine TW.reg ?_
    refine TL.st rfl (S_assign rfl) ?_
    intro σ_ hσ_; simp only [nrm, tev, St.step, putO, setsV, addO, ↓reduceIte, Nat.reduceAdd, logT, atT, intern, internL, kp_ents, fz_ents, fz_bytes, kp_bytes, kp_ats, fz_ats, logR, logE, ← List.map_take, ← List.map_drop, List.take_length, spots_len] at hσ_; subst hσ_
    refine TL.nil ?_
    try simp (decide := true) only [thenT, inBlockT, noGotoT, jumpT, ↓reduceIte, true_and]
    refine hK17_ _ ?_
    refine TW.ret ?_
    try simp (decide := true) only [thenT, inBlockT, noGotoT, jumpT, ↓reduceIte, true_and]
    refine ⟨.inr rfl, _, none, (ResT.one Try.results22 rfl), ?_, (by rintro _ ⟨⟩)⟩
    simp only [nrm, tev, Out_v, Out_agg, Out_tup, OutL_nil, OutL_cons, Out_sl, Out_row_osl, Out_nil_osl, Out_nil_sl, Out_nil_nil, and_true, true_and, logT, atT, logR, logE, fr_ents, fr_ats, hf, List.getD_cons_zero, List.getD_cons_succ]
    have hne : sameE es es2 = false := by
      cases hs : sameE es es2
      · rfl
      · exact absurd (by rw [sameE_iff.1 hs]) hl
    simp [hne]

set_option maxRecDepth 20000 in
set_option maxHeartbeats 1000000 in
theorem same6_T (b b' : Bool) (i t : Int) (es : List Ent) (h : okE es) (b2 b2' : Bool) (i2 t2 : Int) (es2 : List Ent) (h2 : okE es2) :
    TMeets Try.prog 20 [logT i t (.sl b (es.map (entC b'))), logT i2 t2 (.sl b2 (es2.map (entC b2')))] (.v (.bool (sameL i t es i2 t2 es2))) := by
  refine TMeets.of_TW Try.func20 rfl (by simp [PuL, Pu, logT, atT, pu_ents, entC, pu_bytes]) ?_
  intro B w0
  rw [Try.ntmps20]
  simp only [untagL, untag, List.length_cons, List.length_nil, List.replicate_succ, List.replicate_zero, Nat.reduceAdd, Nat.reduceSub, List.cons_append, List.nil_append, logT, atT, untag_ents, untag_bytes, entC]
  refine TW.seq_k ?_
  intro K1_ hK1_
  refine TW.reg ?_
  refine TL.st rfl (S_box rfl rfl) ?_
  intro σ_ hσ_; simp only [nrm, tev, St.step, putO, setsV, addO, ↓reduceIte, Nat.reduceAdd, logT, atT, intern, internL, kp_ents, fz_ents, fz_bytes, kp_bytes, kp_ats, fz_ats, logR, logE, ← List.map_take, ← List.map_drop, List.take_length, spots_len] at hσ_; subst hσ_
  refine TL.st rfl (S_box rfl rfl) ?_
  intro σ_ hσ_; simp only [nrm, tev, St.step, putO, setsV, addO, ↓reduceIte, Nat.reduceAdd, logT, atT, intern, internL, kp_ents, fz_ents, fz_bytes, kp_bytes, kp_ats, fz_ats, logR, logE, ← List.map_take, ← List.map_drop, List.take_length, spots_len] at hσ_; subst hσ_
  refine TL.st rfl (S_assign rfl) ?_
  intro σ_ hσ_; simp only [nrm, tev, St.step, putO, setsV, addO, ↓reduceIte, Nat.reduceAdd, logT, atT, intern, internL, kp_ents, fz_ents, fz_bytes, kp_bytes, kp_ats, fz_ats, logR, logE, ← List.map_take, ← List.map_drop, List.take_length, spots_len] at hσ_; subst hσ_
  refine TL.nil ?_
  try simp (decide := true) only [thenT, inBlockT, noGotoT, jumpT, ↓reduceIte, true_and]
  refine hK1_ _ ?_
  refine TW.seq_k ?_
  intro K2_ hK2_
  cases hq_ : (decide (i = i2) && decide (t = t2))
  · skip
    refine TW.reg ?_
    first | refine TL.st rfl (S_fieldAddr rfl rfl (tT rfl) rfl rfl (tT rfl) (by decide)) ?_ | refine TL.st rfl (S_fieldAddr_eptr rfl rfl (tT rfl) rfl rfl (tT rfl) (by decide)) ?_
    intro σ_ hσ_; simp only [nrm, tev, St.step, putO, setsV, addO, ↓reduceIte, Nat.reduceAdd, logT, atT, intern, internL, kp_ents, fz_ents, fz_bytes, kp_bytes, kp_ats, fz_ats, logR, logE, ← List.map_take, ← List.map_drop, List.take_length, spots_len] at hσ_; subst hσ_
    first | refine TL.st rfl (S_load rfl rfl rfl (tT rfl) rfl) ?_ | refine TL.st rfl (S_load_eptr rfl rfl (tT rfl) rfl) ?_ | refine TL.st rfl (S_load_row rfl rfl rfl rfl (by assumption) (tT rfl) rfl) ?_ | refine TL.st rfl (S_load_row (j := 0) rfl rfl rfl rfl (by assumption) (tT rfl) rfl) ?_
    intro σ_ hσ_; simp only [nrm, tev, St.step, putO, setsV, addO, ↓reduceIte, Nat.reduceAdd, logT, atT, intern, internL, kp_ents, fz_ents, fz_bytes, kp_bytes, kp_ats, fz_ats, logR, logE, ← List.map_take, ← List.map_drop, List.take_length, spots_len] at hσ_; subst hσ_
    first | refine TL.st rfl (S_fieldAddr rfl rfl (tT rfl) rfl rfl (tT rfl) (by decide)) ?_ | refine TL.st rfl (S_fieldAddr_eptr rfl rfl (tT rfl) rfl rfl (tT rfl) (by decide)) ?_
    intro σ_ hσ_; simp only [nrm, tev, St.step, putO, setsV, addO, ↓reduceIte, Nat.reduceAdd, logT, atT, intern, internL, kp_ents, fz_ents, fz_bytes, kp_bytes, kp_ats, fz_ats, logR, logE, ← List.map_take, ← List.map_drop, List.take_length, spots_len] at hσ_; subst hσ_
    first | refine TL.st rfl (S_load rfl rfl rfl (tT rfl) rfl) ?_ | refine TL.st rfl (S_load_eptr rfl rfl (tT rfl) rfl) ?_ | refine TL.st rfl (S_load_row rfl rfl rfl rfl (by assumption) (tT rfl) rfl) ?_ | refine TL.st rfl (S_load_row (j := 0) rfl rfl rfl rfl (by assumption) (tT rfl) rfl) ?_
    intro σ_ hσ_; simp only [nrm, tev, St.step, putO, setsV, addO, ↓reduceIte, Nat.reduceAdd, logT, atT, intern, internL, kp_ents, fz_ents, fz_bytes, kp_bytes, kp_ats, fz_ats, logR, logE, ← List.map_take, ← List.map_drop, List.take_length, spots_len] at hσ_; subst hσ_
    first | refine TL.st rfl (S_int rfl rfl rfl rfl (vbt (by omega))) ?_ | refine TL.st rfl (S_int rfl rfl rfl rfl (vbf (by omega))) ?_ | refine TL.st rfl (S_int rfl rfl rfl rfl rfl) ?_ | refine TL.st rfl (S_boolop rfl rfl rfl rfl (tT rfl) rfl) ?_ | refine TL.st rfl (S_bin (u := .bool true) rfl rfl rfl (fun w => (eqAt_run _ _ _ _ _ _ w).trans (congrArg (fun b => Result.ok (Value.bool b) w) hq_))) ?_ | refine TL.st rfl (S_bin (u := .bool false) rfl rfl rfl (fun w => (eqAt_run _ _ _ _ _ _ w).trans (congrArg (fun b => Result.ok (Value.bool b) w) hq_))) ?_ | refine TL.st rfl (S_bin rfl rfl rfl (eqAt_run _ _ _ _ _ _)) ?_
    intro σ_ hσ_; simp only [nrm, tev, St.step, putO, setsV, addO, ↓reduceIte, Nat.reduceAdd, logT, atT, intern, internL, kp_ents, fz_ents, fz_bytes, kp_bytes, kp_ats, fz_ats, logR, logE, ← List.map_take, ← List.map_drop, List.take_length, spots_len] at hσ_; subst hσ_
    refine TL.st rfl (S_move rfl) ?_
    intro σ_ hσ_; simp only [nrm, tev, St.step, putO, setsV, addO, ↓reduceIte, Nat.reduceAdd, logT, atT, intern, internL, kp_ents, fz_ents, fz_bytes, kp_bytes, kp_ats, fz_ats, logR, logE, ← List.map_take, ← List.map_drop, List.take_length, spots_len] at hσ_; subst hσ_
    first | refine TL.st_g rfl rfl rfl (Nat.le_of_ble_eq_true rfl) rfl (S_fieldAddr rfl rfl (tT rfl) rfl rfl (tT rfl) (by decide)) ?_ | refine TL.st_g rfl rfl rfl (Nat.le_of_ble_eq_true rfl) rfl (S_fieldAddr_eptr rfl rfl (tT rfl) rfl rfl (tT rfl) (by decide)) ?_ | refine TL.sk_g rfl rfl rfl (Nat.le_of_ble_eq_true rfl) rfl rfl ?_
    intro σ_ hσ_; simp only [nrm, tev, St.step, putO, setsV, addO, ↓reduceIte, Nat.reduceAdd, logT, atT, intern, internL, kp_ents, fz_ents, fz_bytes, kp_bytes, kp_ats, fz_ats, logR, logE, ← List.map_take, ← List.map_drop, List.take_length, spots_len] at hσ_; subst hσ_
    first | refine TL.st_g rfl rfl rfl (Nat.le_of_ble_eq_true rfl) rfl (S_load rfl rfl rfl (tT rfl) rfl) ?_ | refine TL.st_g rfl rfl rfl (Nat.le_of_ble_eq_true rfl) rfl (S_load_eptr rfl rfl (tT rfl) rfl) ?_ | refine TL.st_g rfl rfl rfl (Nat.le_of_ble_eq_true rfl) rfl (S_load_row rfl rfl rfl rfl (by assumption) (tT rfl) rfl) ?_ | refine TL.st_g rfl rfl rfl (Nat.le_of_ble_eq_true rfl) rfl (S_load_row (j := 0) rfl rfl rfl rfl (by assumption) (tT rfl) rfl) ?_ | refine TL.sk_g rfl rfl rfl (Nat.le_of_ble_eq_true rfl) rfl rfl ?_
    intro σ_ hσ_; simp only [nrm, tev, St.step, putO, setsV, addO, ↓reduceIte, Nat.reduceAdd, logT, atT, intern, internL, kp_ents, fz_ents, fz_bytes, kp_bytes, kp_ats, fz_ats, logR, logE, ← List.map_take, ← List.map_drop, List.take_length, spots_len] at hσ_; subst hσ_
    first | refine TL.st_g rfl rfl rfl (Nat.le_of_ble_eq_true rfl) rfl (S_fieldAddr rfl rfl (tT rfl) rfl rfl (tT rfl) (by decide)) ?_ | refine TL.st_g rfl rfl rfl (Nat.le_of_ble_eq_true rfl) rfl (S_fieldAddr_eptr rfl rfl (tT rfl) rfl rfl (tT rfl) (by decide)) ?_ | refine TL.sk_g rfl rfl rfl (Nat.le_of_ble_eq_true rfl) rfl rfl ?_
    intro σ_ hσ_; simp only [nrm, tev, St.step, putO, setsV, addO, ↓reduceIte, Nat.reduceAdd, logT, atT, intern, internL, kp_ents, fz_ents, fz_bytes, kp_bytes, kp_ats, fz_ats, logR, logE, ← List.map_take, ← List.map_drop, List.take_length, spots_len] at hσ_; subst hσ_
    first | refine TL.st_g rfl rfl rfl (Nat.le_of_ble_eq_true rfl) rfl (S_load rfl rfl rfl (tT rfl) rfl) ?_ | refine TL.st_g rfl rfl rfl (Nat.le_of_ble_eq_true rfl) rfl (S_load_eptr rfl rfl (tT rfl) rfl) ?_ | refine TL.st_g rfl rfl rfl (Nat.le_of_ble_eq_true rfl) rfl (S_load_row rfl rfl rfl rfl (by assumption) (tT rfl) rfl) ?_ | refine TL.st_g rfl rfl rfl (Nat.le_of_ble_eq_true rfl) rfl (S_load_row (j := 0) rfl rfl rfl rfl (by assumption) (tT rfl) rfl) ?_ | refine TL.sk_g rfl rfl rfl (Nat.le_of_ble_eq_true rfl) rfl rfl ?_
    intro σ_ hσ_; simp only [nrm, tev, St.step, putO, setsV, addO, ↓reduceIte, Nat.reduceAdd, logT, atT, intern, internL, kp_ents, fz_ents, fz_bytes, kp_bytes, kp_ats, fz_ats, logR, logE, ← List.map_take, ← List.map_drop, List.take_length, spots_len] at hσ_; subst hσ_
    first | refine TL.st_g rfl rfl rfl (Nat.le_of_ble_eq_true rfl) rfl (S_call_row rfl rfl rfl (by kernel_rfl) rfl (sameE6_T _ _ _ _ _ _ h h2) rfl) ?_ | refine TL.st_g rfl rfl rfl (Nat.le_of_ble_eq_true rfl) rfl (S_call rfl rfl rfl (by kernel_rfl) rfl (sameE6_T _ _ _ _ _ _ h h2)) ?_ | refine TL.sk_g rfl rfl rfl (Nat.le_of_ble_eq_true rfl) rfl rfl ?_
    intro σ_ hσ_; simp only [nrm, tev, St.step, putO, setsV, addO, ↓reduceIte, Nat.reduceAdd, logT, atT, intern, internL, kp_ents, fz_ents, fz_bytes, kp_bytes, kp_ats, fz_ats, logR, logE, ← List.map_take, ← List.map_drop, List.take_length, spots_len] at hσ_; subst hσ_
    refine TL.st rfl (S_pick rfl rfl rfl) ?_
    intro σ_ hσ_; simp only [nrm, tev, St.step, putO, setsV, addO, ↓reduceIte, Nat.reduceAdd, logT, atT, intern, internL, kp_ents, fz_ents, fz_bytes, kp_bytes, kp_ats, fz_ats, logR, logE, ← List.map_take, ← List.map_drop, List.take_length, spots_len] at hσ_; subst hσ_
    refine TL.st rfl (S_assign rfl) ?_
    intro σ_ hσ_; simp only [nrm, tev, St.step, putO, setsV, addO, ↓reduceIte, Nat.reduceAdd, logT, atT, intern, internL, kp_ents, fz_ents, fz_bytes, kp_bytes, kp_ats, fz_ats, logR, logE, ← List.map_take, ← List.map_drop, List.take_length, spots_len] at hσ_; subst hσ_
    refine TL.nil ?_
    try simp (decide := true) only [thenT, inBlockT, noGotoT, jumpT, ↓reduceIte, true_and]
    refine hK2_ _ ?_
    refine TW.ret ?_
    try simp (decide := true) only [thenT, inBlockT, noGotoT, jumpT, ↓reduceIte, true_and]
    refine ⟨.inr rfl, _, none, (ResT.one Try.results20 rfl), ?_, (by rintro _ ⟨⟩)⟩
    simp only [nrm, tev, Out_v, Out_agg, Out_tup, OutL_nil, OutL_cons, Out_sl, Out_row_osl, Out_nil_osl, Out_nil_sl, Out_nil_nil, and_true, true_and, logT, atT, logR, logE, fr_ents, fr_ats, hf, List.getD_cons_zero, List.getD_cons_succ]
    simp [sameL, hq_]
  · skip
    refine TW.reg ?_
    first | refine TL.st rfl (S_fieldAddr rfl rfl (tT rfl) rfl rfl (tT rfl) (by decide)) ?_ | refine TL.st rfl (S_fieldAddr_eptr rfl rfl (tT rfl) rfl rfl (tT rfl) (by decide)) ?_
    intro σ_ hσ_; simp only [nrm, tev, St.step, putO, setsV, addO, ↓reduceIte, Nat.reduceAdd, logT, atT, intern, internL, kp_ents, fz_ents, fz_bytes, kp_bytes, kp_ats, fz_ats, logR, logE, ← List.map_take, ← List.map_drop, List.take_length, spots_len] at hσ_; subst hσ_
    first | refine TL.st rfl (S_load rfl rfl rfl (tT rfl) rfl) ?_ | refine TL.st rfl (S_load_eptr rfl rfl (tT rfl) rfl) ?_ | refine TL.st rfl (S_load_row rfl rfl rfl rfl (by assumption) (tT rfl) rfl) ?_ | refine TL.st rfl (S_load_row (j := 0) rfl rfl rfl rfl (by assumption) (tT rfl) rfl) ?_
    intro σ_ hσ_; simp only [nrm, tev, St.step, putO, setsV, addO, ↓reduceIte, Nat.reduceAdd, logT, atT, intern, internL, kp_ents, fz_ents, fz_bytes, kp_bytes, kp_ats, fz_ats, logR, logE, ← List.map_take, ← List.map_drop, List.take_length, spots_len] at hσ_; subst hσ_
    first | refine TL.st rfl (S_fieldAddr rfl rfl (tT rfl) rfl rfl (tT rfl) (by decide)) ?_ | refine TL.st rfl (S_fieldAddr_eptr rfl rfl (tT rfl) rfl rfl (tT rfl) (by decide)) ?_
    intro σ_ hσ_; simp only [nrm, tev, St.step, putO, setsV, addO, ↓reduceIte, Nat.reduceAdd, logT, atT, intern, internL, kp_ents, fz_ents, fz_bytes, kp_bytes, kp_ats, fz_ats, logR, logE, ← List.map_take, ← List.map_drop, List.take_length, spots_len] at hσ_; subst hσ_
    first | refine TL.st rfl (S_load rfl rfl rfl (tT rfl) rfl) ?_ | refine TL.st rfl (S_load_eptr rfl rfl (tT rfl) rfl) ?_ | refine TL.st rfl (S_load_row rfl rfl rfl rfl (by assumption) (tT rfl) rfl) ?_ | refine TL.st rfl (S_load_row (j := 0) rfl rfl rfl rfl (by assumption) (tT rfl) rfl) ?_
    intro σ_ hσ_; simp only [nrm, tev, St.step, putO, setsV, addO, ↓reduceIte, Nat.reduceAdd, logT, atT, intern, internL, kp_ents, fz_ents, fz_bytes, kp_bytes, kp_ats, fz_ats, logR, logE, ← List.map_take, ← List.map_drop, List.take_length, spots_len] at hσ_; subst hσ_
    first | refine TL.st rfl (S_int rfl rfl rfl rfl (vbt (by omega))) ?_ | refine TL.st rfl (S_int rfl rfl rfl rfl (vbf (by omega))) ?_ | refine TL.st rfl (S_int rfl rfl rfl rfl rfl) ?_ | refine TL.st rfl (S_boolop rfl rfl rfl rfl (tT rfl) rfl) ?_ | refine TL.st rfl (S_bin (u := .bool true) rfl rfl rfl (fun w => (eqAt_run _ _ _ _ _ _ w).trans (congrArg (fun b => Result.ok (Value.bool b) w) hq_))) ?_ | refine TL.st rfl (S_bin (u := .bool false) rfl rfl rfl (fun w => (eqAt_run _ _ _ _ _ _ w).trans (congrArg (fun b => Result.ok (Value.bool b) w) hq_))) ?_ | refine TL.st rfl (S_bin rfl rfl rfl (eqAt_run _ _ _ _ _ _)) ?_
    intro σ_ hσ_; simp only [nrm, tev, St.step, putO, setsV, addO, ↓reduceIte, Nat.reduceAdd, logT, atT, intern, internL, kp_ents, fz_ents, fz_bytes, kp_bytes, kp_ats, fz_ats, logR, logE, ← List.map_take, ← List.map_drop, List.take_length, spots_len] at hσ_; subst hσ_
    refine TL.st rfl (S_move rfl) ?_
    intro σ_ hσ_; simp only [nrm, tev, St.step, putO, setsV, addO, ↓reduceIte, Nat.reduceAdd, logT, atT, intern, internL, kp_ents, fz_ents, fz_bytes, kp_bytes, kp_ats, fz_ats, logR, logE, ← List.map_take, ← List.map_drop, List.take_length, spots_len] at hσ_; subst hσ_
    first | refine TL.st_g rfl rfl rfl (Nat.le_of_ble_eq_true rfl) rfl (S_fieldAddr rfl rfl (tT rfl) rfl rfl (tT rfl) (by decide)) ?_ | refine TL.st_g rfl rfl rfl (Nat.le_of_ble_eq_true rfl) rfl (S_fieldAddr_eptr rfl rfl (tT rfl) rfl rfl (tT rfl) (by decide)) ?_ | refine TL.sk_g rfl rfl rfl (Nat.le_of_ble_eq_true rfl) rfl rfl ?_
    intro σ_ hσ_; simp only [nrm, tev, St.step, putO, setsV, addO, ↓reduceIte, Nat.reduceAdd, logT, atT, intern, internL, kp_ents, fz_ents, fz_bytes, kp_bytes, kp_ats, fz_ats, logR, logE, ← List.map_take, ← List.map_drop, List.take_length, spots_len] at hσ_; subst hσ_
    first | refine TL.st_g rfl rfl rfl (Nat.le_of_ble_eq_true rfl) rfl (S_load rfl rfl rfl (tT rfl) rfl) ?_ | refine TL.st_g rfl rfl rfl (Nat.le_of_ble_eq_true rfl) rfl (S_load_eptr rfl rfl (tT rfl) rfl) ?_ | refine TL.st_g rfl rfl rfl (Nat.le_of_ble_eq_true rfl) rfl (S_load_row rfl rfl rfl rfl (by assumption) (tT rfl) rfl) ?_ | refine TL.st_g rfl rfl rfl (Nat.le_of_ble_eq_true rfl) rfl (S_load_row (j := 0) rfl rfl rfl rfl (by assumption) (tT rfl) rfl) ?_ | refine TL.sk_g rfl rfl rfl (Nat.le_of_ble_eq_true rfl) rfl rfl ?_
    intro σ_ hσ_; simp only [nrm, tev, St.step, putO, setsV, addO, ↓reduceIte, Nat.reduceAdd, logT, atT, intern, internL, kp_ents, fz_ents, fz_bytes, kp_bytes, kp_ats, fz_ats, logR, logE, ← List.map_take, ← List.map_drop, List.take_length, spots_len] at hσ_; subst hσ_
    first | refine TL.st_g rfl rfl rfl (Nat.le_of_ble_eq_true rfl) rfl (S_fieldAddr rfl rfl (tT rfl) rfl rfl (tT rfl) (by decide)) ?_ | refine TL.st_g rfl rfl rfl (Nat.le_of_ble_eq_true rfl) rfl (S_fieldAddr_eptr rfl rfl (tT rfl) rfl rfl (tT rfl) (by decide)) ?_ | refine TL.sk_g rfl rfl rfl (Nat.le_of_ble_eq_true rfl) rfl rfl ?_
    intro σ_ hσ_; simp only [nrm, tev, St.step, putO, setsV, addO, ↓reduceIte, Nat.reduceAdd, logT, atT, intern, internL, kp_ents, fz_ents, fz_bytes, kp_bytes, kp_ats, fz_ats, logR, logE, ← List.map_take, ← List.map_drop, List.take_length, spots_len] at hσ_; subst hσ_
    first | refine TL.st_g rfl rfl rfl (Nat.le_of_ble_eq_true rfl) rfl (S_load rfl rfl rfl (tT rfl) rfl) ?_ | refine TL.st_g rfl rfl rfl (Nat.le_of_ble_eq_true rfl) rfl (S_load_eptr rfl rfl (tT rfl) rfl) ?_ | refine TL.st_g rfl rfl rfl (Nat.le_of_ble_eq_true rfl) rfl (S_load_row rfl rfl rfl rfl (by assumption) (tT rfl) rfl) ?_ | refine TL.st_g rfl rfl rfl (Nat.le_of_ble_eq_true rfl) rfl (S_load_row (j := 0) rfl rfl rfl rfl (by assumption) (tT rfl) rfl) ?_ | refine TL.sk_g rfl rfl rfl (Nat.le_of_ble_eq_true rfl) rfl rfl ?_
    intro σ_ hσ_; simp only [nrm, tev, St.step, putO, setsV, addO, ↓reduceIte, Nat.reduceAdd, logT, atT, intern, internL, kp_ents, fz_ents, fz_bytes, kp_bytes, kp_ats, fz_ats, logR, logE, ← List.map_take, ← List.map_drop, List.take_length, spots_len] at hσ_; subst hσ_
    first | refine TL.st_g rfl rfl rfl (Nat.le_of_ble_eq_true rfl) rfl (S_call_row rfl rfl rfl (by kernel_rfl) rfl (sameE6_T _ _ _ _ _ _ h h2) rfl) ?_ | refine TL.st_g rfl rfl rfl (Nat.le_of_ble_eq_true rfl) rfl (S_call rfl rfl rfl (by kernel_rfl) rfl (sameE6_T _ _ _ _ _ _ h h2)) ?_ | refine TL.sk_g rfl rfl rfl (Nat.le_of_ble_eq_true rfl) rfl rfl ?_
    intro σ_ hσ_; simp only [nrm, tev, St.step, putO, setsV, addO, ↓reduceIte, Nat.reduceAdd, logT, atT, intern, internL, kp_ents, fz_ents, fz_bytes, kp_bytes, kp_ats, fz_ats, logR, logE, ← List.map_take, ← List.map_drop, List.take_length, spots_len] at hσ_; subst hσ_
    refine TL.st rfl (S_pick rfl rfl rfl) ?_
    intro σ_ hσ_; simp only [nrm, tev, St.step, putO, setsV, addO, ↓reduceIte, Nat.reduceAdd, logT, atT, intern, internL, kp_ents, fz_ents, fz_bytes, kp_bytes, kp_ats, fz_ats, logR, logE, ← List.map_take, ← List.map_drop, List.take_length, spots_len] at hσ_; subst hσ_
    refine TL.st rfl (S_assign rfl) ?_
    intro σ_ hσ_; simp only [nrm, tev, St.step, putO, setsV, addO, ↓reduceIte, Nat.reduceAdd, logT, atT, intern, internL, kp_ents, fz_ents, fz_bytes, kp_bytes, kp_ats, fz_ats, logR, logE, ← List.map_take, ← List.map_drop, List.take_length, spots_len] at hσ_; subst hσ_
    refine TL.nil ?_
    try simp (decide := true) only [thenT, inBlockT, noGotoT, jumpT, ↓reduceIte, true_and]
    refine hK2_ _ ?_
    refine TW.ret ?_
    try simp (decide := true) only [thenT, inBlockT, noGotoT, jumpT, ↓reduceIte, true_and]
    refine ⟨.inr rfl, _, none, (ResT.one Try.results20 rfl), ?_, (by rintro _ ⟨⟩)⟩
    simp only [nrm, tev, Out_v, Out_agg, Out_tup, OutL_nil, OutL_cons, Out_sl, Out_row_osl, Out_nil_osl, Out_nil_sl, Out_nil_nil, and_true, true_and, logT, atT, logR, logE, fr_ents, fr_ats, hf, List.getD_cons_zero, List.getD_cons_succ]
    simp [sameL, hq_]

set_option maxRecDepth 20000 in
set_option maxHeartbeats 1000000 in
theorem spots6_T (b b' : Bool) (i t : Int) (es : List Ent) (h : okE es) (hi0 : 0 ≤ i) (hi1 : i < 18446744073709551616) :
    TMeets Try.prog 56 [atT (i, t), .sl b (es.map (entC b'))] (.osl 24 2 ((spotsL i t es (es.length + 1)).map atC)) := by
  refine TMeets.of_TW Try.func56 rfl (by simp [PuL, Pu, logT, atT, pu_ents, entC, pu_bytes]) ?_
  intro B w0
  rw [Try.ntmps56]
  simp only [untagL, untag, List.length_cons, List.length_nil, List.replicate_succ, List.replicate_zero, Nat.reduceAdd, Nat.reduceSub, List.cons_append, List.nil_append, logT, atT, untag_ents, untag_bytes, entC]
  have hb1_ := h.n
  have e0 : spotsL i t es 1 = [(i, t)] := by simp [spotsL, List.range_succ, spot0 t es hi0 hi1]
  refine TW.seq_k ?_
  intro K1_ hK1_
  refine TW.reg ?_
  refine TL.st rfl (S_box rfl rfl) ?_
  intro σ_ hσ_; simp only [nrm, tev, St.step, putO, setsV, addO, ↓reduceIte, Nat.reduceAdd, logT, atT, intern, internL, kp_ents, fz_ents, fz_bytes, kp_bytes, kp_ats, fz_ats, logR, logE, ← List.map_take, ← List.map_drop, List.take_length, spots_len] at hσ_; subst hσ_
  refine TL.st rfl (S_assign rfl) ?_
  intro σ_ hσ_; simp only [nrm, tev, St.step, putO, setsV, addO, ↓reduceIte, Nat.reduceAdd, logT, atT, intern, internL, kp_ents, fz_ents, fz_bytes, kp_bytes, kp_ats, fz_ats, logR, logE, ← List.map_take, ← List.map_drop, List.take_length, spots_len] at hσ_; subst hσ_
  refine TL.nil ?_
  try simp (decide := true) only [thenT, inBlockT, noGotoT, jumpT, ↓reduceIte, true_and]
  refine hK1_ _ ?_
  refine TW.seq_k ?_
  intro K2_ hK2_
  refine TW.reg ?_
  first | refine TL.st rfl (S_load rfl rfl rfl (tT rfl) rfl) ?_ | refine TL.st rfl (S_load_eptr rfl rfl (tT rfl) rfl) ?_ | refine TL.st rfl (S_load_row rfl rfl rfl rfl (by assumption) (tT rfl) rfl) ?_ | refine TL.st rfl (S_load_row (j := 0) rfl rfl rfl rfl (by assumption) (tT rfl) rfl) ?_
  intro σ_ hσ_; simp only [nrm, tev, St.step, putO, setsV, addO, ↓reduceIte, Nat.reduceAdd, logT, atT, intern, internL, kp_ents, fz_ents, fz_bytes, kp_bytes, kp_ats, fz_ats, logR, logE, ← List.map_take, ← List.map_drop, List.take_length, spots_len] at hσ_; subst hσ_
  refine TL.st rfl (S_buildSlice (xs := [(Go.Operand.tmp 7)]) rfl (tT rfl) rfl (tT rfl) (zT rfl) rfl rfl rfl rfl (by decide) (by decide)) ?_
  intro σ_ hσ_; simp only [nrm, tev, St.step, putO, setsV, addO, ↓reduceIte, Nat.reduceAdd, logT, atT, intern, internL, kp_ents, fz_ents, fz_bytes, kp_bytes, kp_ats, fz_ats, logR, logE, ← List.map_take, ← List.map_drop, List.take_length, spots_len] at hσ_; subst hσ_
  refine TL.st rfl (S_assign rfl) ?_
  intro σ_ hσ_; simp only [nrm, tev, St.step, putO, setsV, addO, ↓reduceIte, Nat.reduceAdd, logT, atT, intern, internL, kp_ents, fz_ents, fz_bytes, kp_bytes, kp_ats, fz_ats, logR, logE, ← List.map_take, ← List.map_drop, List.take_length, spots_len] at hσ_; subst hσ_
  refine TL.nil ?_
  try simp (decide := true) only [thenT, inBlockT, noGotoT, jumpT, ↓reduceIte, true_and]
  refine hK2_ _ ?_
  refine TW.seq_k ?_
  intro K3_ hK3_
  refine TW.seq_k ?_
  intro K4_ hK4_
  refine TW.reg ?_
  refine TL.st rfl (S_move rfl) ?_
  intro σ_ hσ_; simp only [nrm, tev, St.step, putO, setsV, addO, ↓reduceIte, Nat.reduceAdd, logT, atT, intern, internL, kp_ents, fz_ents, fz_bytes, kp_bytes, kp_ats, fz_ats, logR, logE, ← List.map_take, ← List.map_drop, List.take_length, spots_len] at hσ_; subst hσ_
  first | refine TL.st rfl (S_len rfl rfl (tT rfl) rfl (.inl ⟨_, _, rfl, rfl⟩)) ?_ | refine TL.st rfl (S_len rfl rfl (tT rfl) rfl (.inr (.inl ⟨_, _, _, _, rfl, rfl, rfl⟩))) ?_ | refine TL.st rfl (S_len rfl rfl (tT rfl) rfl (.inr (.inr ⟨rfl, rfl⟩))) ?_ | refine TL.st rfl (S_len_str rfl rfl (tT rfl) rfl rfl) ?_ | refine TL.st rfl (S_len_arr rfl rfl (tT rfl) rfl) ?_
  intro σ_ hσ_; simp only [nrm, tev, St.step, putO, setsV, addO, ↓reduceIte, Nat.reduceAdd, logT, atT, intern, internL, kp_ents, fz_ents, fz_bytes, kp_bytes, kp_ats, fz_ats, logR, logE, ← List.map_take, ← List.map_drop, List.take_length, spots_len] at hσ_; subst hσ_
  refine TL.st rfl (S_move rfl) ?_
  intro σ_ hσ_; simp only [nrm, tev, St.step, putO, setsV, addO, ↓reduceIte, Nat.reduceAdd, logT, atT, intern, internL, kp_ents, fz_ents, fz_bytes, kp_bytes, kp_ats, fz_ats, logR, logE, ← List.map_take, ← List.map_drop, List.take_length, spots_len] at hσ_; subst hσ_
  refine TL.nil ?_
  try simp (decide := true) only [thenT, inBlockT, noGotoT, jumpT, ↓reduceIte, true_and]
  refine hK4_ _ ?_
  refine TW.block ?_
  refine TW.loopS (X := Nat) (fun k => k ≤ es.length) (fun k => es.length - k) (fun k => [(5, .row 1), (6, .any), (8, .any), (11, .v (.int .i64 k)), (12, .any), (13, .any), (14, .any), (15, .any), (16, .any), (17, .any), (18, .any), (19, .any), (20, .any), (21, .any), (22, .any), (23, .any), (24, .any), (25, .any), (26, .any), (27, .any), (28, .any), (29, .any)]) (fun k => [(1, LB.row 24 2 ((spotsL i t es (k + 1)).map atC))]) 0 (Nat.zero_le _) ?_ ?_
  · refine SLe.of ?_ ?_ ?_
    · simp [setsL, LeL_cons, LeL_nil, LeT_any, LeT_self, LeT_v, LeT_sl, LeT_nil_sl, List.set_cons_zero, List.set_cons_succ, kp_ats, kp_ents]
    · simp [setsL, LeB_self, LeB_nil, e0, atC]
    · exact LeL.refl _
  · rintro k hk σ_ hσ_
    simp only [nrm, tev, St.step, putO, setsV, addO, ↓reduceIte, Nat.reduceAdd, logT, atT, intern, internL, kp_ents, fz_ents, fz_bytes, kp_bytes, kp_ats, fz_ats, logR, logE, ← List.map_take, ← List.map_drop, List.take_length, spots_len, setsL_nil, setsL_cons] at hσ_; subst hσ_
    refine TW.seq_k ?_
    intro K5_ hK5_
    by_cases hlt : k < es.length
    · skip
      obtain ⟨u, hu⟩ : ∃ u, es[k]? = some u := ⟨es[k]'hlt, List.getElem?_eq_getElem _⟩
      have hc : (es.map (entC false))[k]? = some (entC false u) := by rw [List.getElem?_map, hu]; rfl
      simp only [entC] at hc
      have hb1 := ent_len false es
      have hs1 := spots_at i t es (show k < k + 1 by omega)
      have hs2 : k < ((spotsL i t es (k + 1)).map atC).length := by simp [spots_len]
      refine TW.reg ?_
      first | refine TL.st rfl (S_int rfl rfl rfl rfl (vbt (by omega))) ?_ | refine TL.st rfl (S_int rfl rfl rfl rfl (vbf (by omega))) ?_ | refine TL.st rfl (S_int rfl rfl rfl rfl rfl) ?_
      intro σ_ hσ_; simp only [nrm, tev, St.step, putO, setsV, addO, ↓reduceIte, Nat.reduceAdd, logT, atT, intern, internL, kp_ents, fz_ents, fz_bytes, kp_bytes, kp_ats, fz_ats, logR, logE, ← List.map_take, ← List.map_drop, List.take_length, spots_len] at hσ_; subst hσ_
      refine TL.nil ?_
      try simp (decide := true) only [thenT, inBlockT, noGotoT, jumpT, ↓reduceIte, true_and]
      refine hK5_ _ ?_
      refine TW.seq_k ?_
      intro K6_ hK6_
      refine TW.cond_t rfl (rfl) ?_
      refine TW.skip ?_
      try simp (decide := true) only [thenT, inBlockT, noGotoT, jumpT, ↓reduceIte, true_and]
      refine hK6_ _ ?_
      refine TW.seq_k ?_
      intro K7_ hK7_
      refine TW.block ?_
      refine TW.seq_k ?_
      intro K8_ hK8_
      refine TW.reg ?_
      refine TL.st rfl (S_move rfl) ?_
      intro σ_ hσ_; simp only [nrm, tev, St.step, putO, setsV, addO, ↓reduceIte, Nat.reduceAdd, logT, atT, intern, internL, kp_ents, fz_ents, fz_bytes, kp_bytes, kp_ats, fz_ats, logR, logE, ← List.map_take, ← List.map_drop, List.take_length, spots_len] at hσ_; subst hσ_
      refine TL.st rfl (S_assign rfl) ?_
      intro σ_ hσ_; simp only [nrm, tev, St.step, putO, setsV, addO, ↓reduceIte, Nat.reduceAdd, logT, atT, intern, internL, kp_ents, fz_ents, fz_bytes, kp_bytes, kp_ats, fz_ats, logR, logE, ← List.map_take, ← List.map_drop, List.take_length, spots_len] at hσ_; subst hσ_
      refine TL.nil ?_
      try simp (decide := true) only [thenT, inBlockT, noGotoT, jumpT, ↓reduceIte, true_and]
      refine hK8_ _ ?_
      refine TW.region_app (i := 1) 14 0 28 (by kernel_rfl) (by kernel_rfl) rfl rfl rfl rfl ⟨tT rfl, rfl, tT rfl, ⟨_, zT rfl, rfl⟩, by decide, by decide⟩ ?_
      simp only [List.take_succ_cons, List.take_zero, List.drop_succ_cons, List.drop_zero, List.take_nil, List.drop_nil]
      refine TPar.st rfl (S_move rfl) ?_
      intro s_ h_ hs_ hh_; simp only [nrm, tev, St.step, putO, setsV, addO, ↓reduceIte, Nat.reduceAdd, logT, atT, intern, internL, kp_ents, fz_ents, fz_bytes, kp_bytes, kp_ats, fz_ats, logR, logE, ← List.map_take, ← List.map_drop, List.take_length, spots_len] at hs_ hh_; subst hs_; subst hh_
      refine TPar.st rfl (S_move rfl) ?_
      intro s_ h_ hs_ hh_; simp only [nrm, tev, St.step, putO, setsV, addO, ↓reduceIte, Nat.reduceAdd, logT, atT, intern, internL, kp_ents, fz_ents, fz_bytes, kp_bytes, kp_ats, fz_ats, logR, logE, ← List.map_take, ← List.map_drop, List.take_length, spots_len] at hs_ hh_; subst hs_; subst hh_
      refine TPar.st rfl (S_move rfl) ?_
      intro s_ h_ hs_ hh_; simp only [nrm, tev, St.step, putO, setsV, addO, ↓reduceIte, Nat.reduceAdd, logT, atT, intern, internL, kp_ents, fz_ents, fz_bytes, kp_bytes, kp_ats, fz_ats, logR, logE, ← List.map_take, ← List.map_drop, List.take_length, spots_len] at hs_ hh_; subst hs_; subst hh_
      first | refine TPar.st rfl (S_index_sl rfl rfl rfl (tT rfl) rfl (tT rfl) (by assumption) rfl rfl (by decide)) ?_ | refine TPar.st rfl (S_index_sl rfl rfl rfl (tT rfl) rfl (tT rfl) (by assumption) (by first | rfl | omega) rfl (by decide)) ?_ | refine TPar.st rfl (S_index_row rfl rfl rfl rfl (tT rfl) rfl (tT rfl) rfl rfl (by first | assumption | omega)) ?_ | refine TPar.st rfl (S_index_arr rfl rfl rfl (tT rfl) rfl (tT rfl) rfl (by first | assumption | decide | omega)) ?_
      intro s_ h_ hs_ hh_; simp only [nrm, tev, St.step, putO, setsV, addO, ↓reduceIte, Nat.reduceAdd, logT, atT, intern, internL, kp_ents, fz_ents, fz_bytes, kp_bytes, kp_ats, fz_ats, logR, logE, ← List.map_take, ← List.map_drop, List.take_length, spots_len] at hs_ hh_; subst hs_; subst hh_
      first | refine TPar.st rfl (S_fieldAddr rfl rfl (tT rfl) rfl rfl (tT rfl) (by decide)) ?_ | refine TPar.st rfl (S_fieldAddr_eptr rfl rfl (tT rfl) rfl rfl (tT rfl) (by decide)) ?_
      intro s_ h_ hs_ hh_; simp only [nrm, tev, St.step, putO, setsV, addO, ↓reduceIte, Nat.reduceAdd, logT, atT, intern, internL, kp_ents, fz_ents, fz_bytes, kp_bytes, kp_ats, fz_ats, logR, logE, ← List.map_take, ← List.map_drop, List.take_length, spots_len] at hs_ hh_; subst hs_; subst hh_
      first | refine TPar.st rfl (S_load rfl rfl rfl (tT rfl) rfl) ?_ | refine TPar.st rfl (S_load_eptr rfl rfl (tT rfl) rfl) ?_ | refine TPar.st rfl (S_load_row rfl rfl rfl rfl (by assumption) (tT rfl) rfl) ?_ | refine TPar.st rfl (S_load_row (j := 0) rfl rfl rfl rfl (by assumption) (tT rfl) rfl) ?_
      intro s_ h_ hs_ hh_; simp only [nrm, tev, St.step, putO, setsV, addO, ↓reduceIte, Nat.reduceAdd, logT, atT, intern, internL, kp_ents, fz_ents, fz_bytes, kp_bytes, kp_ats, fz_ats, logR, logE, ← List.map_take, ← List.map_drop, List.take_length, spots_len] at hs_ hh_; subst hs_; subst hh_
      refine TPar.st rfl (S_int rfl rfl rfl rfl rfl) ?_
      intro s_ h_ hs_ hh_; simp only [nrm, tev, St.step, putO, setsV, addO, ↓reduceIte, Nat.reduceAdd, logT, atT, intern, internL, kp_ents, fz_ents, fz_bytes, kp_bytes, kp_ats, fz_ats, logR, logE, ← List.map_take, ← List.map_drop, List.take_length, spots_len] at hs_ hh_; subst hs_; subst hh_
      refine TPar.st rfl (S_move rfl) ?_
      intro s_ h_ hs_ hh_; simp only [nrm, tev, St.step, putO, setsV, addO, ↓reduceIte, Nat.reduceAdd, logT, atT, intern, internL, kp_ents, fz_ents, fz_bytes, kp_bytes, kp_ats, fz_ats, logR, logE, ← List.map_take, ← List.map_drop, List.take_length, spots_len] at hs_ hh_; subst hs_; subst hh_
      refine TPar.st rfl (S_move rfl) ?_
      intro s_ h_ hs_ hh_; simp only [nrm, tev, St.step, putO, setsV, addO, ↓reduceIte, Nat.reduceAdd, logT, atT, intern, internL, kp_ents, fz_ents, fz_bytes, kp_bytes, kp_ats, fz_ats, logR, logE, ← List.map_take, ← List.map_drop, List.take_length, spots_len] at hs_ hh_; subst hs_; subst hh_
      first | refine TPar.st rfl (S_index_sl rfl rfl rfl (tT rfl) rfl (tT rfl) (by assumption) rfl rfl (by decide)) ?_ | refine TPar.st rfl (S_index_sl rfl rfl rfl (tT rfl) rfl (tT rfl) (by assumption) (by first | rfl | omega) rfl (by decide)) ?_ | refine TPar.st rfl (S_index_row rfl rfl rfl rfl (tT rfl) rfl (tT rfl) rfl rfl (by first | assumption | omega)) ?_ | refine TPar.st rfl (S_index_arr rfl rfl rfl (tT rfl) rfl (tT rfl) rfl (by first | assumption | decide | omega)) ?_
      intro s_ h_ hs_ hh_; simp only [nrm, tev, St.step, putO, setsV, addO, ↓reduceIte, Nat.reduceAdd, logT, atT, intern, internL, kp_ents, fz_ents, fz_bytes, kp_bytes, kp_ats, fz_ats, logR, logE, ← List.map_take, ← List.map_drop, List.take_length, spots_len] at hs_ hh_; subst hs_; subst hh_
      first | refine TPar.st rfl (S_fieldAddr rfl rfl (tT rfl) rfl rfl (tT rfl) (by decide)) ?_ | refine TPar.st rfl (S_fieldAddr_eptr rfl rfl (tT rfl) rfl rfl (tT rfl) (by decide)) ?_
      intro s_ h_ hs_ hh_; simp only [nrm, tev, St.step, putO, setsV, addO, ↓reduceIte, Nat.reduceAdd, logT, atT, intern, internL, kp_ents, fz_ents, fz_bytes, kp_bytes, kp_ats, fz_ats, logR, logE, ← List.map_take, ← List.map_drop, List.take_length, spots_len] at hs_ hh_; subst hs_; subst hh_
      first | refine TPar.st rfl (S_load rfl rfl rfl (tT rfl) rfl) ?_ | refine TPar.st rfl (S_load_eptr rfl rfl (tT rfl) rfl) ?_ | refine TPar.st rfl (S_load_row rfl rfl rfl rfl (by assumption) (tT rfl) rfl) ?_ | refine TPar.st rfl (S_load_row (j := 0) rfl rfl rfl rfl (by assumption) (tT rfl) rfl) ?_
      intro s_ h_ hs_ hh_; simp only [nrm, tev, St.step, putO, setsV, addO, ↓reduceIte, Nat.reduceAdd, logT, atT, intern, internL, kp_ents, fz_ents, fz_bytes, kp_bytes, kp_ats, fz_ats, logR, logE, ← List.map_take, ← List.map_drop, List.take_length, spots_len] at hs_ hh_; subst hs_; subst hh_
      refine TPar.st rfl (S_build rfl (tT rfl) rfl (zT rfl) rfl (by repeat (first | exact PlOk.nil | (apply PlOk.cons; exact tT rfl))) rfl rfl) ?_
      intro s_ h_ hs_ hh_; simp only [nrm, tev, St.step, putO, setsV, addO, ↓reduceIte, Nat.reduceAdd, logT, atT, intern, internL, kp_ents, fz_ents, fz_bytes, kp_bytes, kp_ats, fz_ats, logR, logE, ← List.map_take, ← List.map_drop, List.take_length, spots_len] at hs_ hh_; subst hs_; subst hh_
      refine TPar.st rfl (S_buildSlice (xs := [(Go.Operand.tmp 26)]) rfl (tT rfl) rfl (tT rfl) (zT rfl) rfl rfl rfl rfl (by decide) (by decide)) ?_
      intro s_ h_ hs_ hh_; simp only [nrm, tev, St.step, putO, setsV, addO, ↓reduceIte, Nat.reduceAdd, logT, atT, intern, internL, kp_ents, fz_ents, fz_bytes, kp_bytes, kp_ats, fz_ats, logR, logE, ← List.map_take, ← List.map_drop, List.take_length, spots_len] at hs_ hh_; subst hs_; subst hh_
      unfold TPar
      unfold TPu
      refine ⟨_, _, rfl, rfl, (by first | exact .inl ⟨_, rfl⟩ | exact .inr (.inl ⟨_, _, _, rfl, rfl⟩) | exact .inr (.inr ⟨rfl, rfl⟩)), (by first | exact ent_len _ _ | exact byc_len _ _ _ | exact byt_len _ _ | exact byl_len _ | exact cells3 | exact cells2 | simp), (by first | exact ent_one _ _ | exact byc_one _ _ _ | exact byt_one _ _ | exact byl_one _ | simp [TV.one, Value.oneCell']), (by simp [spots_len]; omega), ?_⟩
      refine TL.eqs ?_
      intro σ_ hσ_; simp (decide := true) only [nrm, tev, St.step, putO, setsV, addO, ↓reduceIte, Nat.reduceAdd, logT, atT, intern, internL, kp_ents, fz_ents, fz_bytes, kp_bytes, kp_ats, fz_ats, logR, logE, ← List.map_take, ← List.map_drop, List.take_length, spots_len, kpL, kp, bar, LB.kp, kpLL_append, kpLL, List.map_cons, List.map_nil, List.set_cons_zero, List.set_cons_succ, ↓reduceIte] at hσ_; subst hσ_
      refine TL.st rfl (S_assign rfl) ?_
      intro σ_ hσ_; simp only [nrm, tev, St.step, putO, setsV, addO, ↓reduceIte, Nat.reduceAdd, logT, atT, intern, internL, kp_ents, fz_ents, fz_bytes, kp_bytes, kp_ats, fz_ats, logR, logE, ← List.map_take, ← List.map_drop, List.take_length, spots_len] at hσ_; subst hσ_
      refine TL.nil ?_
      try simp (decide := true) only [thenT, inBlockT, noGotoT, jumpT, ↓reduceIte, true_and]
      refine hK7_ _ ?_
      refine TW.reg ?_
      first | refine TL.st rfl (S_int rfl rfl rfl rfl (vi64 (by omega))) ?_ | refine TL.st rfl (S_int rfl rfl rfl rfl (vu64 (by omega))) ?_ | refine TL.st rfl (S_int rfl rfl rfl rfl rfl) ?_
      intro σ_ hσ_; simp only [nrm, tev, St.step, putO, setsV, addO, ↓reduceIte, Nat.reduceAdd, logT, atT, intern, internL, kp_ents, fz_ents, fz_bytes, kp_bytes, kp_ats, fz_ats, logR, logE, ← List.map_take, ← List.map_drop, List.take_length, spots_len] at hσ_; subst hσ_
      refine TL.st rfl (S_move rfl) ?_
      intro σ_ hσ_; simp only [nrm, tev, St.step, putO, setsV, addO, ↓reduceIte, Nat.reduceAdd, logT, atT, intern, internL, kp_ents, fz_ents, fz_bytes, kp_bytes, kp_ats, fz_ats, logR, logE, ← List.map_take, ← List.map_drop, List.take_length, spots_len] at hσ_; subst hσ_
      refine TL.nil ?_
      try simp (decide := true) only [thenT, inBlockT, noGotoT, jumpT, ↓reduceIte, true_and]
      refine ⟨(k + 1), by omega, by omega, ?_⟩
      refine SLe.back 2 ?_ ?_ ?_
      · simp [setsL, kpL, kp, low, kpLL, LeL_cons, LeL_nil, LeT_any, LeT_self, LeT_v, LeT_sl, LeT_nil_sl, List.set_cons_zero, List.set_cons_succ, kp_ats, kp_ents]
      · rw [spots_step i t es (k + 1), spot_next i t es k u hu]; simp [-List.map_map, setsL, LB.kp, kpL, kp, low, kpLL, kpLL_append, LeB_self, LeB_nil, kp_ats, atC]
      · simp [kpL, LeL_nil]
    · skip
      have hke : k = es.length := by omega
      subst hke
      refine TW.reg ?_
      first | refine TL.st rfl (S_int rfl rfl rfl rfl (vbt (by omega))) ?_ | refine TL.st rfl (S_int rfl rfl rfl rfl (vbf (by omega))) ?_ | refine TL.st rfl (S_int rfl rfl rfl rfl rfl) ?_
      intro σ_ hσ_; simp only [nrm, tev, St.step, putO, setsV, addO, ↓reduceIte, Nat.reduceAdd, logT, atT, intern, internL, kp_ents, fz_ents, fz_bytes, kp_bytes, kp_ats, fz_ats, logR, logE, ← List.map_take, ← List.map_drop, List.take_length, spots_len] at hσ_; subst hσ_
      refine TL.nil ?_
      try simp (decide := true) only [thenT, inBlockT, noGotoT, jumpT, ↓reduceIte, true_and]
      refine hK5_ _ ?_
      refine TW.seq_k ?_
      intro K9_ hK9_
      refine TW.cond_f rfl (rfl) ?_
      refine TW.exit ?_
      try simp (decide := true) only [thenT, inBlockT, noGotoT, jumpT, ↓reduceIte, true_and]
      refine hK3_ _ ?_
      refine TW.seq_k ?_
      intro K10_ hK10_
      refine TW.reg ?_
      refine TL.st rfl (S_move rfl) ?_
      intro σ_ hσ_; simp only [nrm, tev, St.step, putO, setsV, addO, ↓reduceIte, Nat.reduceAdd, logT, atT, intern, internL, kp_ents, fz_ents, fz_bytes, kp_bytes, kp_ats, fz_ats, logR, logE, ← List.map_take, ← List.map_drop, List.take_length, spots_len] at hσ_; subst hσ_
      refine TL.st rfl (S_assign rfl) ?_
      intro σ_ hσ_; simp only [nrm, tev, St.step, putO, setsV, addO, ↓reduceIte, Nat.reduceAdd, logT, atT, intern, internL, kp_ents, fz_ents, fz_bytes, kp_bytes, kp_ats, fz_ats, logR, logE, ← List.map_take, ← List.map_drop, List.take_length, spots_len] at hσ_; subst hσ_
      refine TL.nil ?_
      try simp (decide := true) only [thenT, inBlockT, noGotoT, jumpT, ↓reduceIte, true_and]
      refine hK10_ _ ?_
      refine TW.ret ?_
      try simp (decide := true) only [thenT, inBlockT, noGotoT, jumpT, ↓reduceIte, true_and]
      refine ⟨.inr rfl, _, some 1, (ResT.one Try.results56 rfl), ?_, (by rintro _ ⟨⟩; trivial)⟩
      simp only [nrm, tev, Out_v, Out_agg, Out_tup, OutL_nil, OutL_cons, Out_sl, Out_row_osl, Out_nil_osl, Out_nil_sl, Out_nil_nil, and_true, true_and, logT, atT, logR, logE, fr_ents, fr_ats, hf, List.getD_cons_zero, List.getD_cons_succ]
      done

set_option maxRecDepth 20000 in
set_option maxHeartbeats 1000000 in
theorem last6_T (b b' : Bool) (i t : Int) (es : List Ent) (h : okE es) (hi0 : 0 ≤ i) (hi1 : i < 18446744073709551616) :
    TMeets Try.prog 28 [logT i t (.sl b (es.map (entC b')))] (atT (spotN i t es es.length)) := by
  refine TMeets.of_TW Try.func28 rfl (by simp [PuL, Pu, logT, atT, pu_ents, entC, pu_bytes]) ?_
  intro B w0
  rw [Try.ntmps28]
  simp only [untagL, untag, List.length_cons, List.length_nil, List.replicate_succ, List.replicate_zero, Nat.reduceAdd, Nat.reduceSub, List.cons_append, List.nil_append, logT, atT, untag_ents, untag_bytes, entC]
  have hb1_ := h.n
  have hs1 := spots_at i t es (show es.length < es.length + 1 by omega)
  have hs2 : es.length < ((spotsL i t es (es.length + 1)).map atC).length := by simp [spots_len]
  refine TW.seq_k ?_
  intro K1_ hK1_
  refine TW.reg ?_
  refine TL.st rfl (S_box rfl rfl) ?_
  intro σ_ hσ_; simp only [nrm, tev, St.step, putO, setsV, addO, ↓reduceIte, Nat.reduceAdd, logT, atT, intern, internL, kp_ents, fz_ents, fz_bytes, kp_bytes, kp_ats, fz_ats, logR, logE, ← List.map_take, ← List.map_drop, List.take_length, spots_len] at hσ_; subst hσ_
  refine TL.st rfl (S_alloc rfl (zT rfl) rfl) ?_
  intro σ_ hσ_; simp only [nrm, tev, St.step, putO, setsV, addO, ↓reduceIte, Nat.reduceAdd, logT, atT, intern, internL, kp_ents, fz_ents, fz_bytes, kp_bytes, kp_ats, fz_ats, logR, logE, ← List.map_take, ← List.map_drop, List.take_length, spots_len] at hσ_; subst hσ_
  refine TL.nil ?_
  try simp (decide := true) only [thenT, inBlockT, noGotoT, jumpT, ↓reduceIte, true_and]
  refine hK1_ _ ?_
  refine TW.seq_k ?_
  intro K2_ hK2_
  refine TW.reg ?_
  first | refine TL.st rfl (S_fieldAddr rfl rfl (tT rfl) rfl rfl (tT rfl) (by decide)) ?_ | refine TL.st rfl (S_fieldAddr_eptr rfl rfl (tT rfl) rfl rfl (tT rfl) (by decide)) ?_
  intro σ_ hσ_; simp only [nrm, tev, St.step, putO, setsV, addO, ↓reduceIte, Nat.reduceAdd, logT, atT, intern, internL, kp_ents, fz_ents, fz_bytes, kp_bytes, kp_ats, fz_ats, logR, logE, ← List.map_take, ← List.map_drop, List.take_length, spots_len] at hσ_; subst hσ_
  first | refine TL.st rfl (S_load rfl rfl rfl (tT rfl) rfl) ?_ | refine TL.st rfl (S_load_eptr rfl rfl (tT rfl) rfl) ?_ | refine TL.st rfl (S_load_row rfl rfl rfl rfl (by assumption) (tT rfl) rfl) ?_ | refine TL.st rfl (S_load_row (j := 0) rfl rfl rfl rfl (by assumption) (tT rfl) rfl) ?_
  intro σ_ hσ_; simp only [nrm, tev, St.step, putO, setsV, addO, ↓reduceIte, Nat.reduceAdd, logT, atT, intern, internL, kp_ents, fz_ents, fz_bytes, kp_bytes, kp_ats, fz_ats, logR, logE, ← List.map_take, ← List.map_drop, List.take_length, spots_len] at hσ_; subst hσ_
  first | refine TL.st rfl (S_fieldAddr rfl rfl (tT rfl) rfl rfl (tT rfl) (by decide)) ?_ | refine TL.st rfl (S_fieldAddr_eptr rfl rfl (tT rfl) rfl rfl (tT rfl) (by decide)) ?_
  intro σ_ hσ_; simp only [nrm, tev, St.step, putO, setsV, addO, ↓reduceIte, Nat.reduceAdd, logT, atT, intern, internL, kp_ents, fz_ents, fz_bytes, kp_bytes, kp_ats, fz_ats, logR, logE, ← List.map_take, ← List.map_drop, List.take_length, spots_len] at hσ_; subst hσ_
  first | refine TL.st rfl (S_load rfl rfl rfl (tT rfl) rfl) ?_ | refine TL.st rfl (S_load_eptr rfl rfl (tT rfl) rfl) ?_ | refine TL.st rfl (S_load_row rfl rfl rfl rfl (by assumption) (tT rfl) rfl) ?_ | refine TL.st rfl (S_load_row (j := 0) rfl rfl rfl rfl (by assumption) (tT rfl) rfl) ?_
  intro σ_ hσ_; simp only [nrm, tev, St.step, putO, setsV, addO, ↓reduceIte, Nat.reduceAdd, logT, atT, intern, internL, kp_ents, fz_ents, fz_bytes, kp_bytes, kp_ats, fz_ats, logR, logE, ← List.map_take, ← List.map_drop, List.take_length, spots_len] at hσ_; subst hσ_
  first | refine TL.st rfl (S_call_row rfl rfl rfl (by kernel_rfl) rfl (spots6_T _ _ _ _ _ h hi0 hi1) rfl) ?_ | refine TL.st rfl (S_call rfl rfl rfl (by kernel_rfl) rfl (spots6_T _ _ _ _ _ h hi0 hi1)) ?_
  intro σ_ hσ_; simp only [nrm, tev, St.step, putO, setsV, addO, ↓reduceIte, Nat.reduceAdd, logT, atT, intern, internL, kp_ents, fz_ents, fz_bytes, kp_bytes, kp_ats, fz_ats, logR, logE, ← List.map_take, ← List.map_drop, List.take_length, spots_len] at hσ_; subst hσ_
  refine TL.st rfl (S_assign rfl) ?_
  intro σ_ hσ_; simp only [nrm, tev, St.step, putO, setsV, addO, ↓reduceIte, Nat.reduceAdd, logT, atT, intern, internL, kp_ents, fz_ents, fz_bytes, kp_bytes, kp_ats, fz_ats, logR, logE, ← List.map_take, ← List.map_drop, List.take_length, spots_len] at hσ_; subst hσ_
  refine TL.nil ?_
  try simp (decide := true) only [thenT, inBlockT, noGotoT, jumpT, ↓reduceIte, true_and]
  refine hK2_ _ ?_
  refine TW.seq_k ?_
  intro K3_ hK3_
  refine TW.reg ?_
  refine TL.st rfl (S_move rfl) ?_
  intro σ_ hσ_; simp only [nrm, tev, St.step, putO, setsV, addO, ↓reduceIte, Nat.reduceAdd, logT, atT, intern, internL, kp_ents, fz_ents, fz_bytes, kp_bytes, kp_ats, fz_ats, logR, logE, ← List.map_take, ← List.map_drop, List.take_length, spots_len] at hσ_; subst hσ_
  refine TL.st rfl (S_move rfl) ?_
  intro σ_ hσ_; simp only [nrm, tev, St.step, putO, setsV, addO, ↓reduceIte, Nat.reduceAdd, logT, atT, intern, internL, kp_ents, fz_ents, fz_bytes, kp_bytes, kp_ats, fz_ats, logR, logE, ← List.map_take, ← List.map_drop, List.take_length, spots_len] at hσ_; subst hσ_
  first | refine TL.st rfl (S_len rfl rfl (tT rfl) rfl (.inl ⟨_, _, rfl, rfl⟩)) ?_ | refine TL.st rfl (S_len rfl rfl (tT rfl) rfl (.inr (.inl ⟨_, _, _, _, rfl, rfl, rfl⟩))) ?_ | refine TL.st rfl (S_len rfl rfl (tT rfl) rfl (.inr (.inr ⟨rfl, rfl⟩))) ?_ | refine TL.st rfl (S_len_str rfl rfl (tT rfl) rfl rfl) ?_ | refine TL.st rfl (S_len_arr rfl rfl (tT rfl) rfl) ?_
  intro σ_ hσ_; simp only [nrm, tev, St.step, putO, setsV, addO, ↓reduceIte, Nat.reduceAdd, logT, atT, intern, internL, kp_ents, fz_ents, fz_bytes, kp_bytes, kp_ats, fz_ats, logR, logE, ← List.map_take, ← List.map_drop, List.take_length, spots_len] at hσ_; subst hσ_
  refine TL.st rfl (S_int (u' := .int .i64 (es.length : Int)) rfl rfl rfl rfl ((vi64 (by omega)).trans (by rw [show ((es.length + 1 : Nat) : Int) - 1 = (es.length : Int) by omega]))) ?_
  intro σ_ hσ_; simp only [nrm, tev, St.step, putO, setsV, addO, ↓reduceIte, Nat.reduceAdd, logT, atT, intern, internL, kp_ents, fz_ents, fz_bytes, kp_bytes, kp_ats, fz_ats, logR, logE, ← List.map_take, ← List.map_drop, List.take_length, spots_len] at hσ_; subst hσ_
  first | refine TL.st rfl (S_index_sl rfl rfl rfl (tT rfl) rfl (tT rfl) (by assumption) rfl rfl (by decide)) ?_ | refine TL.st rfl (S_index_sl rfl rfl rfl (tT rfl) rfl (tT rfl) (by assumption) (by first | rfl | omega) rfl (by decide)) ?_ | refine TL.st rfl (S_index_row rfl rfl rfl rfl (tT rfl) rfl (tT rfl) rfl rfl (by first | assumption | omega)) ?_ | refine TL.st rfl (S_index_arr rfl rfl rfl (tT rfl) rfl (tT rfl) rfl (by first | assumption | decide | omega)) ?_
  intro σ_ hσ_; simp only [nrm, tev, St.step, putO, setsV, addO, ↓reduceIte, Nat.reduceAdd, logT, atT, intern, internL, kp_ents, fz_ents, fz_bytes, kp_bytes, kp_ats, fz_ats, logR, logE, ← List.map_take, ← List.map_drop, List.take_length, spots_len] at hσ_; subst hσ_
  first | refine TL.st rfl (S_load rfl rfl rfl (tT rfl) rfl) ?_ | refine TL.st rfl (S_load_eptr rfl rfl (tT rfl) rfl) ?_ | refine TL.st rfl (S_load_row rfl rfl rfl rfl (by assumption) (tT rfl) rfl) ?_ | refine TL.st rfl (S_load_row (j := 0) rfl rfl rfl rfl (by assumption) (tT rfl) rfl) ?_
  intro σ_ hσ_; simp only [nrm, tev, St.step, putO, setsV, addO, ↓reduceIte, Nat.reduceAdd, logT, atT, intern, internL, kp_ents, fz_ents, fz_bytes, kp_bytes, kp_ats, fz_ats, logR, logE, ← List.map_take, ← List.map_drop, List.take_length, spots_len] at hσ_; subst hσ_
  first | refine TL.sto rfl rfl rfl rfl (tT rfl) rfl rfl rfl (Nat.le_of_ble_eq_true rfl) ?_ | refine TL.sto_row rfl rfl rfl rfl rfl (by assumption) (tT rfl) rfl rfl rfl (Nat.le_of_ble_eq_true rfl) ?_ | refine TL.sto_row (j := 0) rfl rfl rfl rfl rfl (by assumption) (tT rfl) rfl rfl rfl (Nat.le_of_ble_eq_true rfl) ?_
  intro σ_ hσ_; simp only [nrm, tev, St.step, putO, setsV, addO, ↓reduceIte, Nat.reduceAdd, logT, atT, intern, internL, kp_ents, fz_ents, fz_bytes, kp_bytes, kp_ats, fz_ats, logR, logE, ← List.map_take, ← List.map_drop, List.take_length, spots_len] at hσ_; subst hσ_
  refine TL.nil ?_
  try simp (decide := true) only [thenT, inBlockT, noGotoT, jumpT, ↓reduceIte, true_and]
  refine hK3_ _ ?_
  refine TW.ret ?_
  try simp (decide := true) only [thenT, inBlockT, noGotoT, jumpT, ↓reduceIte, true_and]
  refine ⟨.inr rfl, _, none, (ResT.one Try.results28 ⟨_, _, _, _, _, rfl, rfl, tT rfl, rfl⟩), ?_, (by rintro _ ⟨⟩)⟩
  simp only [nrm, tev, Out_v, Out_agg, Out_tup, OutL_nil, OutL_cons, Out_sl, Out_row_osl, Out_nil_osl, Out_nil_sl, Out_nil_nil, and_true, true_and, logT, atT, logR, logE, fr_ents, fr_ats, hf, List.getD_cons_zero, List.getD_cons_succ]
  done

end Go.Proofs.Ytpckkajodpiiaaa
