/- Logs that are cut, extended, met: what the program makes. No condition. -/
import Derived.Test.YtpckkajodpiiaaaTE2
import Derived.Test.YtpckkajodpiiaaaT11
import Derived.Test.YtpckkajodpiiaaaT15
namespace Go.Proofs.Ytpckkajodpiiaaa
open Go.RowKit
set_option linter.unusedVariables false
set_option linter.unusedSimpArgs false

/-- Entries as they come: their numbers are such, and they are not too many. -/
structure okE (es : List Ent) : Prop where
  w : wfE es
  n : es.length ≤ 1000000
  d : ∀ e ∈ es, e.D.length ≤ 1000000
theorem okE.n9 {es : List Ent} (h : okE es) : es.length ≤ 1000000000 := by have := h.n; omega
theorem okE.d12 {es : List Ent} (h : okE es) : ∀ e ∈ es, e.D.length ≤ 1000000000000 := fun e he => by have := h.d e he; omega
theorem okE.sub {es l : List Ent} (h : okE es) (hs : ∀ e ∈ l, e ∈ es) (hn : l.length ≤ es.length) : okE l := ⟨fun e he => h.w e (hs e he), by have := h.n; omega, fun e he => h.d e (hs e he)⟩
theorem okE.drop {es : List Ent} (h : okE es) (k : Nat) : okE (es.drop k) := h.sub (fun _ he => List.mem_of_mem_drop he) (by simp)
theorem okE.take {es : List Ent} (h : okE es) (k : Nat) : okE (es.take k) := h.sub (fun _ he => List.mem_of_mem_take he) (by simp; omega)
theorem ent_len (b : Bool) (es : List Ent) : ∀ c ∈ es.map (entC b), c.length = 3 := fun c hc => by obtain ⟨e, _, rfl⟩ := List.mem_map.1 hc; rfl
theorem ent_one (b : Bool) (es : List Ent) : ∀ c ∈ es.map (entC b), c.all TV.one = true := fun c hc => by obtain ⟨e, _, rfl⟩ := List.mem_map.1 hc; rfl

/-- A log as a result, its entries in memory of their own; by an error nothing. -/
def logR (i t : Int) (es : List Ent) : TV := logT i t (.osl 46 3 (es.map (entC true)))
def logE (e i t : Int) (es : List Ent) : TV := if e = 0 then logR i t es else logR 0 0 []
def extE (i t : Int) (es more : List Ent) : Int := if standB more (spotN i t es es.length).2 = true then (if 16 < es.length + more.length ∨ roomB (spotN i t es es.length).1 more.length = false then 6 else 0) else 2
theorem spot0 {i : Int} (t : Int) (es : List Ent) (h0 : 0 ≤ i) (h1 : i < 18446744073709551616) : spotN i t es 0 = (i, t) := by
  simp [spotN]
  omega
theorem spot_bd (i t : Int) (es : List Ent) (k : Nat) : 0 ≤ (spotN i t es k).1 ∧ (spotN i t es k).1 < 18446744073709551616 := by
  simp only [spotN]
  omega

set_option maxRecDepth 20000 in
set_option maxHeartbeats 1000000 in
theorem newer_T (x y : Int × Int) :
    TMeets Try.prog 40 [atT x, atT y] (.v (.bool (newerB x y))) := by
  refine TMeets.of_TW Try.func40 rfl (by simp [PuL, Pu, logT, atT, pu_ents]) ?_
  intro B w0
  rw [Try.ntmps40]
  simp only [untagL, untag, List.length_cons, List.length_nil, List.replicate_succ, List.replicate_zero, Nat.reduceAdd, Nat.reduceSub, List.cons_append, List.nil_append, logT, atT, untag_ents]
  refine TW.seq_k ?_
  intro K1_ hK1_
  refine TW.reg ?_
  refine TL.st rfl (S_box rfl rfl) ?_
  intro σ_ hσ_; simp only [nrm, tev, St.step, putO, setsV, addO, ↓reduceIte, Nat.reduceAdd, logT, atT, intern, internL, kp_ents, logR, logE] at hσ_; subst hσ_
  refine TL.st rfl (S_box rfl rfl) ?_
  intro σ_ hσ_; simp only [nrm, tev, St.step, putO, setsV, addO, ↓reduceIte, Nat.reduceAdd, logT, atT, intern, internL, kp_ents, logR, logE] at hσ_; subst hσ_
  refine TL.st rfl (S_assign rfl) ?_
  intro σ_ hσ_; simp only [nrm, tev, St.step, putO, setsV, addO, ↓reduceIte, Nat.reduceAdd, logT, atT, intern, internL, kp_ents, logR, logE] at hσ_; subst hσ_
  refine TL.nil ?_
  try simp (decide := true) only [thenT, inBlockT, noGotoT, jumpT, ↓reduceIte, true_and]
  refine hK1_ _ ?_
  refine TW.seq_k ?_
  intro K2_ hK2_
  rcases (show y.2 < x.2 ∨ (x.2 = y.2 ∧ y.1 < x.1) ∨ (x.2 = y.2 ∧ ¬ y.1 < x.1) ∨ x.2 < y.2 by omega) with h1 | h1 | h1 | h1
  · skip
    refine TW.reg ?_
    first | refine TL.st rfl (S_fieldAddr rfl rfl (tT rfl) rfl rfl (tT rfl) (by decide)) ?_ | refine TL.st rfl (S_fieldAddr_eptr rfl rfl (tT rfl) rfl rfl (tT rfl) (by decide)) ?_
    intro σ_ hσ_; simp only [nrm, tev, St.step, putO, setsV, addO, ↓reduceIte, Nat.reduceAdd, logT, atT, intern, internL, kp_ents, logR, logE] at hσ_; subst hσ_
    first | refine TL.st rfl (S_load rfl rfl rfl (tT rfl) rfl) ?_ | refine TL.st rfl (S_load_eptr rfl rfl (tT rfl) rfl) ?_ | refine TL.st rfl (S_load_row rfl rfl rfl rfl (by assumption) (tT rfl) rfl) ?_ | refine TL.st rfl (S_load_row (j := 0) rfl rfl rfl rfl (by assumption) (tT rfl) rfl) ?_
    intro σ_ hσ_; simp only [nrm, tev, St.step, putO, setsV, addO, ↓reduceIte, Nat.reduceAdd, logT, atT, intern, internL, kp_ents, logR, logE] at hσ_; subst hσ_
    first | refine TL.st rfl (S_fieldAddr rfl rfl (tT rfl) rfl rfl (tT rfl) (by decide)) ?_ | refine TL.st rfl (S_fieldAddr_eptr rfl rfl (tT rfl) rfl rfl (tT rfl) (by decide)) ?_
    intro σ_ hσ_; simp only [nrm, tev, St.step, putO, setsV, addO, ↓reduceIte, Nat.reduceAdd, logT, atT, intern, internL, kp_ents, logR, logE] at hσ_; subst hσ_
    first | refine TL.st rfl (S_load rfl rfl rfl (tT rfl) rfl) ?_ | refine TL.st rfl (S_load_eptr rfl rfl (tT rfl) rfl) ?_ | refine TL.st rfl (S_load_row rfl rfl rfl rfl (by assumption) (tT rfl) rfl) ?_ | refine TL.st rfl (S_load_row (j := 0) rfl rfl rfl rfl (by assumption) (tT rfl) rfl) ?_
    intro σ_ hσ_; simp only [nrm, tev, St.step, putO, setsV, addO, ↓reduceIte, Nat.reduceAdd, logT, atT, intern, internL, kp_ents, logR, logE] at hσ_; subst hσ_
    first | refine TL.st rfl (S_int rfl rfl rfl rfl (vbt (by omega))) ?_ | refine TL.st rfl (S_int rfl rfl rfl rfl (vbf (by omega))) ?_ | refine TL.st rfl (S_int rfl rfl rfl rfl rfl) ?_
    intro σ_ hσ_; simp only [nrm, tev, St.step, putO, setsV, addO, ↓reduceIte, Nat.reduceAdd, logT, atT, intern, internL, kp_ents, logR, logE] at hσ_; subst hσ_
    refine TL.st rfl (S_move rfl) ?_
    intro σ_ hσ_; simp only [nrm, tev, St.step, putO, setsV, addO, ↓reduceIte, Nat.reduceAdd, logT, atT, intern, internL, kp_ents, logR, logE] at hσ_; subst hσ_
    first | refine TL.st_g rfl rfl rfl (Nat.le_of_ble_eq_true rfl) rfl (S_fieldAddr rfl rfl (tT rfl) rfl rfl (tT rfl) (by decide)) ?_ | refine TL.st_g rfl rfl rfl (Nat.le_of_ble_eq_true rfl) rfl (S_fieldAddr_eptr rfl rfl (tT rfl) rfl rfl (tT rfl) (by decide)) ?_ | refine TL.sk_g rfl rfl rfl (Nat.le_of_ble_eq_true rfl) rfl rfl ?_
    intro σ_ hσ_; simp only [nrm, tev, St.step, putO, setsV, addO, ↓reduceIte, Nat.reduceAdd, logT, atT, intern, internL, kp_ents, logR, logE] at hσ_; subst hσ_
    first | refine TL.st_g rfl rfl rfl (Nat.le_of_ble_eq_true rfl) rfl (S_load rfl rfl rfl (tT rfl) rfl) ?_ | refine TL.st_g rfl rfl rfl (Nat.le_of_ble_eq_true rfl) rfl (S_load_eptr rfl rfl (tT rfl) rfl) ?_ | refine TL.st_g rfl rfl rfl (Nat.le_of_ble_eq_true rfl) rfl (S_load_row rfl rfl rfl rfl (by assumption) (tT rfl) rfl) ?_ | refine TL.st_g rfl rfl rfl (Nat.le_of_ble_eq_true rfl) rfl (S_load_row (j := 0) rfl rfl rfl rfl (by assumption) (tT rfl) rfl) ?_ | refine TL.sk_g rfl rfl rfl (Nat.le_of_ble_eq_true rfl) rfl rfl ?_
    intro σ_ hσ_; simp only [nrm, tev, St.step, putO, setsV, addO, ↓reduceIte, Nat.reduceAdd, logT, atT, intern, internL, kp_ents, logR, logE] at hσ_; subst hσ_
    first | refine TL.st_g rfl rfl rfl (Nat.le_of_ble_eq_true rfl) rfl (S_fieldAddr rfl rfl (tT rfl) rfl rfl (tT rfl) (by decide)) ?_ | refine TL.st_g rfl rfl rfl (Nat.le_of_ble_eq_true rfl) rfl (S_fieldAddr_eptr rfl rfl (tT rfl) rfl rfl (tT rfl) (by decide)) ?_ | refine TL.sk_g rfl rfl rfl (Nat.le_of_ble_eq_true rfl) rfl rfl ?_
    intro σ_ hσ_; simp only [nrm, tev, St.step, putO, setsV, addO, ↓reduceIte, Nat.reduceAdd, logT, atT, intern, internL, kp_ents, logR, logE] at hσ_; subst hσ_
    first | refine TL.st_g rfl rfl rfl (Nat.le_of_ble_eq_true rfl) rfl (S_load rfl rfl rfl (tT rfl) rfl) ?_ | refine TL.st_g rfl rfl rfl (Nat.le_of_ble_eq_true rfl) rfl (S_load_eptr rfl rfl (tT rfl) rfl) ?_ | refine TL.st_g rfl rfl rfl (Nat.le_of_ble_eq_true rfl) rfl (S_load_row rfl rfl rfl rfl (by assumption) (tT rfl) rfl) ?_ | refine TL.st_g rfl rfl rfl (Nat.le_of_ble_eq_true rfl) rfl (S_load_row (j := 0) rfl rfl rfl rfl (by assumption) (tT rfl) rfl) ?_ | refine TL.sk_g rfl rfl rfl (Nat.le_of_ble_eq_true rfl) rfl rfl ?_
    intro σ_ hσ_; simp only [nrm, tev, St.step, putO, setsV, addO, ↓reduceIte, Nat.reduceAdd, logT, atT, intern, internL, kp_ents, logR, logE] at hσ_; subst hσ_
    first | refine TL.st_g rfl rfl rfl (Nat.le_of_ble_eq_true rfl) rfl (S_int rfl rfl rfl rfl (vbt (by omega))) ?_ | refine TL.st_g rfl rfl rfl (Nat.le_of_ble_eq_true rfl) rfl (S_int rfl rfl rfl rfl (vbf (by omega))) ?_ | refine TL.st_g rfl rfl rfl (Nat.le_of_ble_eq_true rfl) rfl (S_int rfl rfl rfl rfl rfl) ?_ | refine TL.st_g rfl rfl rfl (Nat.le_of_ble_eq_true rfl) rfl (S_boolop rfl rfl rfl rfl (tT rfl) rfl) ?_ | refine TL.sk_g rfl rfl rfl (Nat.le_of_ble_eq_true rfl) rfl rfl ?_
    intro σ_ hσ_; simp only [nrm, tev, St.step, putO, setsV, addO, ↓reduceIte, Nat.reduceAdd, logT, atT, intern, internL, kp_ents, logR, logE] at hσ_; subst hσ_
    first | refine TL.st_g rfl rfl rfl (Nat.le_of_ble_eq_true rfl) rfl (S_move rfl) ?_ | refine TL.sk_g rfl rfl rfl (Nat.le_of_ble_eq_true rfl) rfl rfl ?_
    intro σ_ hσ_; simp only [nrm, tev, St.step, putO, setsV, addO, ↓reduceIte, Nat.reduceAdd, logT, atT, intern, internL, kp_ents, logR, logE] at hσ_; subst hσ_
    first | refine TL.st_g rfl rfl rfl (Nat.le_of_ble_eq_true rfl) rfl (S_fieldAddr rfl rfl (tT rfl) rfl rfl (tT rfl) (by decide)) ?_ | refine TL.st_g rfl rfl rfl (Nat.le_of_ble_eq_true rfl) rfl (S_fieldAddr_eptr rfl rfl (tT rfl) rfl rfl (tT rfl) (by decide)) ?_ | refine TL.sk_g rfl rfl rfl (Nat.le_of_ble_eq_true rfl) rfl rfl ?_
    intro σ_ hσ_; simp only [nrm, tev, St.step, putO, setsV, addO, ↓reduceIte, Nat.reduceAdd, logT, atT, intern, internL, kp_ents, logR, logE] at hσ_; subst hσ_
    first | refine TL.st_g rfl rfl rfl (Nat.le_of_ble_eq_true rfl) rfl (S_load rfl rfl rfl (tT rfl) rfl) ?_ | refine TL.st_g rfl rfl rfl (Nat.le_of_ble_eq_true rfl) rfl (S_load_eptr rfl rfl (tT rfl) rfl) ?_ | refine TL.st_g rfl rfl rfl (Nat.le_of_ble_eq_true rfl) rfl (S_load_row rfl rfl rfl rfl (by assumption) (tT rfl) rfl) ?_ | refine TL.st_g rfl rfl rfl (Nat.le_of_ble_eq_true rfl) rfl (S_load_row (j := 0) rfl rfl rfl rfl (by assumption) (tT rfl) rfl) ?_ | refine TL.sk_g rfl rfl rfl (Nat.le_of_ble_eq_true rfl) rfl rfl ?_
    intro σ_ hσ_; simp only [nrm, tev, St.step, putO, setsV, addO, ↓reduceIte, Nat.reduceAdd, logT, atT, intern, internL, kp_ents, logR, logE] at hσ_; subst hσ_
    first | refine TL.st_g rfl rfl rfl (Nat.le_of_ble_eq_true rfl) rfl (S_fieldAddr rfl rfl (tT rfl) rfl rfl (tT rfl) (by decide)) ?_ | refine TL.st_g rfl rfl rfl (Nat.le_of_ble_eq_true rfl) rfl (S_fieldAddr_eptr rfl rfl (tT rfl) rfl rfl (tT rfl) (by decide)) ?_ | refine TL.sk_g rfl rfl rfl (Nat.le_of_ble_eq_true rfl) rfl rfl ?_
    intro σ_ hσ_; simp only [nrm, tev, St.step, putO, setsV, addO, ↓reduceIte, Nat.reduceAdd, logT, atT, intern, internL, kp_ents, logR, logE] at hσ_; subst hσ_
    first | refine TL.st_g rfl rfl rfl (Nat.le_of_ble_eq_true rfl) rfl (S_load rfl rfl rfl (tT rfl) rfl) ?_ | refine TL.st_g rfl rfl rfl (Nat.le_of_ble_eq_true rfl) rfl (S_load_eptr rfl rfl (tT rfl) rfl) ?_ | refine TL.st_g rfl rfl rfl (Nat.le_of_ble_eq_true rfl) rfl (S_load_row rfl rfl rfl rfl (by assumption) (tT rfl) rfl) ?_ | refine TL.st_g rfl rfl rfl (Nat.le_of_ble_eq_true rfl) rfl (S_load_row (j := 0) rfl rfl rfl rfl (by assumption) (tT rfl) rfl) ?_ | refine TL.sk_g rfl rfl rfl (Nat.le_of_ble_eq_true rfl) rfl rfl ?_
    intro σ_ hσ_; simp only [nrm, tev, St.step, putO, setsV, addO, ↓reduceIte, Nat.reduceAdd, logT, atT, intern, internL, kp_ents, logR, logE] at hσ_; subst hσ_
    first | refine TL.st_g rfl rfl rfl (Nat.le_of_ble_eq_true rfl) rfl (S_int rfl rfl rfl rfl (vbt (by omega))) ?_ | refine TL.st_g rfl rfl rfl (Nat.le_of_ble_eq_true rfl) rfl (S_int rfl rfl rfl rfl (vbf (by omega))) ?_ | refine TL.st_g rfl rfl rfl (Nat.le_of_ble_eq_true rfl) rfl (S_int rfl rfl rfl rfl rfl) ?_ | refine TL.sk_g rfl rfl rfl (Nat.le_of_ble_eq_true rfl) rfl rfl ?_
    intro σ_ hσ_; simp only [nrm, tev, St.step, putO, setsV, addO, ↓reduceIte, Nat.reduceAdd, logT, atT, intern, internL, kp_ents, logR, logE] at hσ_; subst hσ_
    first | refine TL.st_g rfl rfl rfl (Nat.le_of_ble_eq_true rfl) rfl (S_pick rfl rfl rfl) ?_ | refine TL.sk_g rfl rfl rfl (Nat.le_of_ble_eq_true rfl) rfl rfl ?_
    intro σ_ hσ_; simp only [nrm, tev, St.step, putO, setsV, addO, ↓reduceIte, Nat.reduceAdd, logT, atT, intern, internL, kp_ents, logR, logE] at hσ_; subst hσ_
    refine TL.st rfl (S_pick rfl rfl rfl) ?_
    intro σ_ hσ_; simp only [nrm, tev, St.step, putO, setsV, addO, ↓reduceIte, Nat.reduceAdd, logT, atT, intern, internL, kp_ents, logR, logE] at hσ_; subst hσ_
    refine TL.st rfl (S_assign rfl) ?_
    intro σ_ hσ_; simp only [nrm, tev, St.step, putO, setsV, addO, ↓reduceIte, Nat.reduceAdd, logT, atT, intern, internL, kp_ents, logR, logE] at hσ_; subst hσ_
    refine TL.nil ?_
    try simp (decide := true) only [thenT, inBlockT, noGotoT, jumpT, ↓reduceIte, true_and]
    refine hK2_ _ ?_
    refine TW.ret ?_
    try simp (decide := true) only [thenT, inBlockT, noGotoT, jumpT, ↓reduceIte, true_and]
    refine ⟨.inr rfl, _, none, (ResT.one Try.results40 rfl), ?_, (by rintro _ ⟨⟩)⟩
    simp only [nrm, tev, Out_v, Out_agg, Out_tup, OutL_nil, OutL_cons, Out_sl, Out_row_osl, Out_nil_osl, Out_nil_sl, Out_nil_nil, and_true, true_and, logT, atT, logR, logE, fr_ents, hf, List.getD_cons_zero, List.getD_cons_succ]
    simp [newerB, h1]
  · skip
    refine TW.reg ?_
    first | refine TL.st rfl (S_fieldAddr rfl rfl (tT rfl) rfl rfl (tT rfl) (by decide)) ?_ | refine TL.st rfl (S_fieldAddr_eptr rfl rfl (tT rfl) rfl rfl (tT rfl) (by decide)) ?_
    intro σ_ hσ_; simp only [nrm, tev, St.step, putO, setsV, addO, ↓reduceIte, Nat.reduceAdd, logT, atT, intern, internL, kp_ents, logR, logE] at hσ_; subst hσ_
    first | refine TL.st rfl (S_load rfl rfl rfl (tT rfl) rfl) ?_ | refine TL.st rfl (S_load_eptr rfl rfl (tT rfl) rfl) ?_ | refine TL.st rfl (S_load_row rfl rfl rfl rfl (by assumption) (tT rfl) rfl) ?_ | refine TL.st rfl (S_load_row (j := 0) rfl rfl rfl rfl (by assumption) (tT rfl) rfl) ?_
    intro σ_ hσ_; simp only [nrm, tev, St.step, putO, setsV, addO, ↓reduceIte, Nat.reduceAdd, logT, atT, intern, internL, kp_ents, logR, logE] at hσ_; subst hσ_
    first | refine TL.st rfl (S_fieldAddr rfl rfl (tT rfl) rfl rfl (tT rfl) (by decide)) ?_ | refine TL.st rfl (S_fieldAddr_eptr rfl rfl (tT rfl) rfl rfl (tT rfl) (by decide)) ?_
    intro σ_ hσ_; simp only [nrm, tev, St.step, putO, setsV, addO, ↓reduceIte, Nat.reduceAdd, logT, atT, intern, internL, kp_ents, logR, logE] at hσ_; subst hσ_
    first | refine TL.st rfl (S_load rfl rfl rfl (tT rfl) rfl) ?_ | refine TL.st rfl (S_load_eptr rfl rfl (tT rfl) rfl) ?_ | refine TL.st rfl (S_load_row rfl rfl rfl rfl (by assumption) (tT rfl) rfl) ?_ | refine TL.st rfl (S_load_row (j := 0) rfl rfl rfl rfl (by assumption) (tT rfl) rfl) ?_
    intro σ_ hσ_; simp only [nrm, tev, St.step, putO, setsV, addO, ↓reduceIte, Nat.reduceAdd, logT, atT, intern, internL, kp_ents, logR, logE] at hσ_; subst hσ_
    first | refine TL.st rfl (S_int rfl rfl rfl rfl (vbt (by omega))) ?_ | refine TL.st rfl (S_int rfl rfl rfl rfl (vbf (by omega))) ?_ | refine TL.st rfl (S_int rfl rfl rfl rfl rfl) ?_
    intro σ_ hσ_; simp only [nrm, tev, St.step, putO, setsV, addO, ↓reduceIte, Nat.reduceAdd, logT, atT, intern, internL, kp_ents, logR, logE] at hσ_; subst hσ_
    refine TL.st rfl (S_move rfl) ?_
    intro σ_ hσ_; simp only [nrm, tev, St.step, putO, setsV, addO, ↓reduceIte, Nat.reduceAdd, logT, atT, intern, internL, kp_ents, logR, logE] at hσ_; subst hσ_
    first | refine TL.st_g rfl rfl rfl (Nat.le_of_ble_eq_true rfl) rfl (S_fieldAddr rfl rfl (tT rfl) rfl rfl (tT rfl) (by decide)) ?_ | refine TL.st_g rfl rfl rfl (Nat.le_of_ble_eq_true rfl) rfl (S_fieldAddr_eptr rfl rfl (tT rfl) rfl rfl (tT rfl) (by decide)) ?_ | refine TL.sk_g rfl rfl rfl (Nat.le_of_ble_eq_true rfl) rfl rfl ?_
    intro σ_ hσ_; simp only [nrm, tev, St.step, putO, setsV, addO, ↓reduceIte, Nat.reduceAdd, logT, atT, intern, internL, kp_ents, logR, logE] at hσ_; subst hσ_
    first | refine TL.st_g rfl rfl rfl (Nat.le_of_ble_eq_true rfl) rfl (S_load rfl rfl rfl (tT rfl) rfl) ?_ | refine TL.st_g rfl rfl rfl (Nat.le_of_ble_eq_true rfl) rfl (S_load_eptr rfl rfl (tT rfl) rfl) ?_ | refine TL.st_g rfl rfl rfl (Nat.le_of_ble_eq_true rfl) rfl (S_load_row rfl rfl rfl rfl (by assumption) (tT rfl) rfl) ?_ | refine TL.st_g rfl rfl rfl (Nat.le_of_ble_eq_true rfl) rfl (S_load_row (j := 0) rfl rfl rfl rfl (by assumption) (tT rfl) rfl) ?_ | refine TL.sk_g rfl rfl rfl (Nat.le_of_ble_eq_true rfl) rfl rfl ?_
    intro σ_ hσ_; simp only [nrm, tev, St.step, putO, setsV, addO, ↓reduceIte, Nat.reduceAdd, logT, atT, intern, internL, kp_ents, logR, logE] at hσ_; subst hσ_
    first | refine TL.st_g rfl rfl rfl (Nat.le_of_ble_eq_true rfl) rfl (S_fieldAddr rfl rfl (tT rfl) rfl rfl (tT rfl) (by decide)) ?_ | refine TL.st_g rfl rfl rfl (Nat.le_of_ble_eq_true rfl) rfl (S_fieldAddr_eptr rfl rfl (tT rfl) rfl rfl (tT rfl) (by decide)) ?_ | refine TL.sk_g rfl rfl rfl (Nat.le_of_ble_eq_true rfl) rfl rfl ?_
    intro σ_ hσ_; simp only [nrm, tev, St.step, putO, setsV, addO, ↓reduceIte, Nat.reduceAdd, logT, atT, intern, internL, kp_ents, logR, logE] at hσ_; subst hσ_
    first | refine TL.st_g rfl rfl rfl (Nat.le_of_ble_eq_true rfl) rfl (S_load rfl rfl rfl (tT rfl) rfl) ?_ | refine TL.st_g rfl rfl rfl (Nat.le_of_ble_eq_true rfl) rfl (S_load_eptr rfl rfl (tT rfl) rfl) ?_ | refine TL.st_g rfl rfl rfl (Nat.le_of_ble_eq_true rfl) rfl (S_load_row rfl rfl rfl rfl (by assumption) (tT rfl) rfl) ?_ | refine TL.st_g rfl rfl rfl (Nat.le_of_ble_eq_true rfl) rfl (S_load_row (j := 0) rfl rfl rfl rfl (by assumption) (tT rfl) rfl) ?_ | refine TL.sk_g rfl rfl rfl (Nat.le_of_ble_eq_true rfl) rfl rfl ?_
    intro σ_ hσ_; simp only [nrm, tev, St.step, putO, setsV, addO, ↓reduceIte, Nat.reduceAdd, logT, atT, intern, internL, kp_ents, logR, logE] at hσ_; subst hσ_
    first | refine TL.st_g rfl rfl rfl (Nat.le_of_ble_eq_true rfl) rfl (S_int rfl rfl rfl rfl (vbt (by omega))) ?_ | refine TL.st_g rfl rfl rfl (Nat.le_of_ble_eq_true rfl) rfl (S_int rfl rfl rfl rfl (vbf (by omega))) ?_ | refine TL.st_g rfl rfl rfl (Nat.le_of_ble_eq_true rfl) rfl (S_int rfl rfl rfl rfl rfl) ?_ | refine TL.st_g rfl rfl rfl (Nat.le_of_ble_eq_true rfl) rfl (S_boolop rfl rfl rfl rfl (tT rfl) rfl) ?_ | refine TL.sk_g rfl rfl rfl (Nat.le_of_ble_eq_true rfl) rfl rfl ?_
    intro σ_ hσ_; simp only [nrm, tev, St.step, putO, setsV, addO, ↓reduceIte, Nat.reduceAdd, logT, atT, intern, internL, kp_ents, logR, logE] at hσ_; subst hσ_
    first | refine TL.st_g rfl rfl rfl (Nat.le_of_ble_eq_true rfl) rfl (S_move rfl) ?_ | refine TL.sk_g rfl rfl rfl (Nat.le_of_ble_eq_true rfl) rfl rfl ?_
    intro σ_ hσ_; simp only [nrm, tev, St.step, putO, setsV, addO, ↓reduceIte, Nat.reduceAdd, logT, atT, intern, internL, kp_ents, logR, logE] at hσ_; subst hσ_
    first | refine TL.st_g rfl rfl rfl (Nat.le_of_ble_eq_true rfl) rfl (S_fieldAddr rfl rfl (tT rfl) rfl rfl (tT rfl) (by decide)) ?_ | refine TL.st_g rfl rfl rfl (Nat.le_of_ble_eq_true rfl) rfl (S_fieldAddr_eptr rfl rfl (tT rfl) rfl rfl (tT rfl) (by decide)) ?_ | refine TL.sk_g rfl rfl rfl (Nat.le_of_ble_eq_true rfl) rfl rfl ?_
    intro σ_ hσ_; simp only [nrm, tev, St.step, putO, setsV, addO, ↓reduceIte, Nat.reduceAdd, logT, atT, intern, internL, kp_ents, logR, logE] at hσ_; subst hσ_
    first | refine TL.st_g rfl rfl rfl (Nat.le_of_ble_eq_true rfl) rfl (S_load rfl rfl rfl (tT rfl) rfl) ?_ | refine TL.st_g rfl rfl rfl (Nat.le_of_ble_eq_true rfl) rfl (S_load_eptr rfl rfl (tT rfl) rfl) ?_ | refine TL.st_g rfl rfl rfl (Nat.le_of_ble_eq_true rfl) rfl (S_load_row rfl rfl rfl rfl (by assumption) (tT rfl) rfl) ?_ | refine TL.st_g rfl rfl rfl (Nat.le_of_ble_eq_true rfl) rfl (S_load_row (j := 0) rfl rfl rfl rfl (by assumption) (tT rfl) rfl) ?_ | refine TL.sk_g rfl rfl rfl (Nat.le_of_ble_eq_true rfl) rfl rfl ?_
    intro σ_ hσ_; simp only [nrm, tev, St.step, putO, setsV, addO, ↓reduceIte, Nat.reduceAdd, logT, atT, intern, internL, kp_ents, logR, logE] at hσ_; subst hσ_
    first | refine TL.st_g rfl rfl rfl (Nat.le_of_ble_eq_true rfl) rfl (S_fieldAddr rfl rfl (tT rfl) rfl rfl (tT rfl) (by decide)) ?_ | refine TL.st_g rfl rfl rfl (Nat.le_of_ble_eq_true rfl) rfl (S_fieldAddr_eptr rfl rfl (tT rfl) rfl rfl (tT rfl) (by decide)) ?_ | refine TL.sk_g rfl rfl rfl (Nat.le_of_ble_eq_true rfl) rfl rfl ?_
    intro σ_ hσ_; simp only [nrm, tev, St.step, putO, setsV, addO, ↓reduceIte, Nat.reduceAdd, logT, atT, intern, internL, kp_ents, logR, logE] at hσ_; subst hσ_
    first | refine TL.st_g rfl rfl rfl (Nat.le_of_ble_eq_true rfl) rfl (S_load rfl rfl rfl (tT rfl) rfl) ?_ | refine TL.st_g rfl rfl rfl (Nat.le_of_ble_eq_true rfl) rfl (S_load_eptr rfl rfl (tT rfl) rfl) ?_ | refine TL.st_g rfl rfl rfl (Nat.le_of_ble_eq_true rfl) rfl (S_load_row rfl rfl rfl rfl (by assumption) (tT rfl) rfl) ?_ | refine TL.st_g rfl rfl rfl (Nat.le_of_ble_eq_true rfl) rfl (S_load_row (j := 0) rfl rfl rfl rfl (by assumption) (tT rfl) rfl) ?_ | refine TL.sk_g rfl rfl rfl (Nat.le_of_ble_eq_true rfl) rfl rfl ?_
    intro σ_ hσ_; simp only [nrm, tev, St.step, putO, setsV, addO, ↓reduceIte, Nat.reduceAdd, logT, atT, intern, internL, kp_ents, logR, logE] at hσ_; subst hσ_
    first | refine TL.st_g rfl rfl rfl (Nat.le_of_ble_eq_true rfl) rfl (S_int rfl rfl rfl rfl (vbt (by omega))) ?_ | refine TL.st_g rfl rfl rfl (Nat.le_of_ble_eq_true rfl) rfl (S_int rfl rfl rfl rfl (vbf (by omega))) ?_ | refine TL.st_g rfl rfl rfl (Nat.le_of_ble_eq_true rfl) rfl (S_int rfl rfl rfl rfl rfl) ?_ | refine TL.sk_g rfl rfl rfl (Nat.le_of_ble_eq_true rfl) rfl rfl ?_
    intro σ_ hσ_; simp only [nrm, tev, St.step, putO, setsV, addO, ↓reduceIte, Nat.reduceAdd, logT, atT, intern, internL, kp_ents, logR, logE] at hσ_; subst hσ_
    first | refine TL.st_g rfl rfl rfl (Nat.le_of_ble_eq_true rfl) rfl (S_pick rfl rfl rfl) ?_ | refine TL.sk_g rfl rfl rfl (Nat.le_of_ble_eq_true rfl) rfl rfl ?_
    intro σ_ hσ_; simp only [nrm, tev, St.step, putO, setsV, addO, ↓reduceIte, Nat.reduceAdd, logT, atT, intern, internL, kp_ents, logR, logE] at hσ_; subst hσ_
    refine TL.st rfl (S_pick rfl rfl rfl) ?_
    intro σ_ hσ_; simp only [nrm, tev, St.step, putO, setsV, addO, ↓reduceIte, Nat.reduceAdd, logT, atT, intern, internL, kp_ents, logR, logE] at hσ_; subst hσ_
    refine TL.st rfl (S_assign rfl) ?_
    intro σ_ hσ_; simp only [nrm, tev, St.step, putO, setsV, addO, ↓reduceIte, Nat.reduceAdd, logT, atT, intern, internL, kp_ents, logR, logE] at hσ_; subst hσ_
    refine TL.nil ?_
    try simp (decide := true) only [thenT, inBlockT, noGotoT, jumpT, ↓reduceIte, true_and]
    refine hK2_ _ ?_
    refine TW.ret ?_
    try simp (decide := true) only [thenT, inBlockT, noGotoT, jumpT, ↓reduceIte, true_and]
    refine ⟨.inr rfl, _, none, (ResT.one Try.results40 rfl), ?_, (by rintro _ ⟨⟩)⟩
    simp only [nrm, tev, Out_v, Out_agg, Out_tup, OutL_nil, OutL_cons, Out_sl, Out_row_osl, Out_nil_osl, Out_nil_sl, Out_nil_nil, and_true, true_and, logT, atT, logR, logE, fr_ents, hf, List.getD_cons_zero, List.getD_cons_succ]
    simp [newerB, h1]
  · skip
    refine TW.reg ?_
    first | refine TL.st rfl (S_fieldAddr rfl rfl (tT rfl) rfl rfl (tT rfl) (by decide)) ?_ | refine TL.st rfl (S_fieldAddr_eptr rfl rfl (tT rfl) rfl rfl (tT rfl) (by decide)) ?_
    intro σ_ hσ_; simp only [nrm, tev, St.step, putO, setsV, addO, ↓reduceIte, Nat.reduceAdd, logT, atT, intern, internL, kp_ents, logR, logE] at hσ_; subst hσ_
    first | refine TL.st rfl (S_load rfl rfl rfl (tT rfl) rfl) ?_ | refine TL.st rfl (S_load_eptr rfl rfl (tT rfl) rfl) ?_ | refine TL.st rfl (S_load_row rfl rfl rfl rfl (by assumption) (tT rfl) rfl) ?_ | refine TL.st rfl (S_load_row (j := 0) rfl rfl rfl rfl (by assumption) (tT rfl) rfl) ?_
    intro σ_ hσ_; simp only [nrm, tev, St.step, putO, setsV, addO, ↓reduceIte, Nat.reduceAdd, logT, atT, intern, internL, kp_ents, logR, logE] at hσ_; subst hσ_
    first | refine TL.st rfl (S_fieldAddr rfl rfl (tT rfl) rfl rfl (tT rfl) (by decide)) ?_ | refine TL.st rfl (S_fieldAddr_eptr rfl rfl (tT rfl) rfl rfl (tT rfl) (by decide)) ?_
    intro σ_ hσ_; simp only [nrm, tev, St.step, putO, setsV, addO, ↓reduceIte, Nat.reduceAdd, logT, atT, intern, internL, kp_ents, logR, logE] at hσ_; subst hσ_
    first | refine TL.st rfl (S_load rfl rfl rfl (tT rfl) rfl) ?_ | refine TL.st rfl (S_load_eptr rfl rfl (tT rfl) rfl) ?_ | refine TL.st rfl (S_load_row rfl rfl rfl rfl (by assumption) (tT rfl) rfl) ?_ | refine TL.st rfl (S_load_row (j := 0) rfl rfl rfl rfl (by assumption) (tT rfl) rfl) ?_
    intro σ_ hσ_; simp only [nrm, tev, St.step, putO, setsV, addO, ↓reduceIte, Nat.reduceAdd, logT, atT, intern, internL, kp_ents, logR, logE] at hσ_; subst hσ_
    first | refine TL.st rfl (S_int rfl rfl rfl rfl (vbt (by omega))) ?_ | refine TL.st rfl (S_int rfl rfl rfl rfl (vbf (by omega))) ?_ | refine TL.st rfl (S_int rfl rfl rfl rfl rfl) ?_
    intro σ_ hσ_; simp only [nrm, tev, St.step, putO, setsV, addO, ↓reduceIte, Nat.reduceAdd, logT, atT, intern, internL, kp_ents, logR, logE] at hσ_; subst hσ_
    refine TL.st rfl (S_move rfl) ?_
    intro σ_ hσ_; simp only [nrm, tev, St.step, putO, setsV, addO, ↓reduceIte, Nat.reduceAdd, logT, atT, intern, internL, kp_ents, logR, logE] at hσ_; subst hσ_
    first | refine TL.st_g rfl rfl rfl (Nat.le_of_ble_eq_true rfl) rfl (S_fieldAddr rfl rfl (tT rfl) rfl rfl (tT rfl) (by decide)) ?_ | refine TL.st_g rfl rfl rfl (Nat.le_of_ble_eq_true rfl) rfl (S_fieldAddr_eptr rfl rfl (tT rfl) rfl rfl (tT rfl) (by decide)) ?_ | refine TL.sk_g rfl rfl rfl (Nat.le_of_ble_eq_true rfl) rfl rfl ?_
    intro σ_ hσ_; simp only [nrm, tev, St.step, putO, setsV, addO, ↓reduceIte, Nat.reduceAdd, logT, atT, intern, internL, kp_ents, logR, logE] at hσ_; subst hσ_
    first | refine TL.st_g rfl rfl rfl (Nat.le_of_ble_eq_true rfl) rfl (S_load rfl rfl rfl (tT rfl) rfl) ?_ | refine TL.st_g rfl rfl rfl (Nat.le_of_ble_eq_true rfl) rfl (S_load_eptr rfl rfl (tT rfl) rfl) ?_ | refine TL.st_g rfl rfl rfl (Nat.le_of_ble_eq_true rfl) rfl (S_load_row rfl rfl rfl rfl (by assumption) (tT rfl) rfl) ?_ | refine TL.st_g rfl rfl rfl (Nat.le_of_ble_eq_true rfl) rfl (S_load_row (j := 0) rfl rfl rfl rfl (by assumption) (tT rfl) rfl) ?_ | refine TL.sk_g rfl rfl rfl (Nat.le_of_ble_eq_true rfl) rfl rfl ?_
    intro σ_ hσ_; simp only [nrm, tev, St.step, putO, setsV, addO, ↓reduceIte, Nat.reduceAdd, logT, atT, intern, internL, kp_ents, logR, logE] at hσ_; subst hσ_
    first | refine TL.st_g rfl rfl rfl (Nat.le_of_ble_eq_true rfl) rfl (S_fieldAddr rfl rfl (tT rfl) rfl rfl (tT rfl) (by decide)) ?_ | refine TL.st_g rfl rfl rfl (Nat.le_of_ble_eq_true rfl) rfl (S_fieldAddr_eptr rfl rfl (tT rfl) rfl rfl (tT rfl) (by decide)) ?_ | refine TL.sk_g rfl rfl rfl (Nat.le_of_ble_eq_true rfl) rfl rfl ?_
    intro σ_ hσ_; simp only [nrm, tev, St.step, putO, setsV, addO, ↓reduceIte, Nat.reduceAdd, logT, atT, intern, internL, kp_ents, logR, logE] at hσ_; subst hσ_
    first | refine TL.st_g rfl rfl rfl (Nat.le_of_ble_eq_true rfl) rfl (S_load rfl rfl rfl (tT rfl) rfl) ?_ | refine TL.st_g rfl rfl rfl (Nat.le_of_ble_eq_true rfl) rfl (S_load_eptr rfl rfl (tT rfl) rfl) ?_ | refine TL.st_g rfl rfl rfl (Nat.le_of_ble_eq_true rfl) rfl (S_load_row rfl rfl rfl rfl (by assumption) (tT rfl) rfl) ?_ | refine TL.st_g rfl rfl rfl (Nat.le_of_ble_eq_true rfl) rfl (S_load_row (j := 0) rfl rfl rfl rfl (by assumption) (tT rfl) rfl) ?_ | refine TL.sk_g rfl rfl rfl (Nat.le_of_ble_eq_true rfl) rfl rfl ?_
    intro σ_ hσ_; simp only [nrm, tev, St.step, putO, setsV, addO, ↓reduceIte, Nat.reduceAdd, logT, atT, intern, internL, kp_ents, logR, logE] at hσ_; subst hσ_
    first | refine TL.st_g rfl rfl rfl (Nat.le_of_ble_eq_true rfl) rfl (S_int rfl rfl rfl rfl (vbt (by omega))) ?_ | refine TL.st_g rfl rfl rfl (Nat.le_of_ble_eq_true rfl) rfl (S_int rfl rfl rfl rfl (vbf (by omega))) ?_ | refine TL.st_g rfl rfl rfl (Nat.le_of_ble_eq_true rfl) rfl (S_int rfl rfl rfl rfl rfl) ?_ | refine TL.st_g rfl rfl rfl (Nat.le_of_ble_eq_true rfl) rfl (S_boolop rfl rfl rfl rfl (tT rfl) rfl) ?_ | refine TL.sk_g rfl rfl rfl (Nat.le_of_ble_eq_true rfl) rfl rfl ?_
    intro σ_ hσ_; simp only [nrm, tev, St.step, putO, setsV, addO, ↓reduceIte, Nat.reduceAdd, logT, atT, intern, internL, kp_ents, logR, logE] at hσ_; subst hσ_
    first | refine TL.st_g rfl rfl rfl (Nat.le_of_ble_eq_true rfl) rfl (S_move rfl) ?_ | refine TL.sk_g rfl rfl rfl (Nat.le_of_ble_eq_true rfl) rfl rfl ?_
    intro σ_ hσ_; simp only [nrm, tev, St.step, putO, setsV, addO, ↓reduceIte, Nat.reduceAdd, logT, atT, intern, internL, kp_ents, logR, logE] at hσ_; subst hσ_
    first | refine TL.st_g rfl rfl rfl (Nat.le_of_ble_eq_true rfl) rfl (S_fieldAddr rfl rfl (tT rfl) rfl rfl (tT rfl) (by decide)) ?_ | refine TL.st_g rfl rfl rfl (Nat.le_of_ble_eq_true rfl) rfl (S_fieldAddr_eptr rfl rfl (tT rfl) rfl rfl (tT rfl) (by decide)) ?_ | refine TL.sk_g rfl rfl rfl (Nat.le_of_ble_eq_true rfl) rfl rfl ?_
    intro σ_ hσ_; simp only [nrm, tev, St.step, putO, setsV, addO, ↓reduceIte, Nat.reduceAdd, logT, atT, intern, internL, kp_ents, logR, logE] at hσ_; subst hσ_
    first | refine TL.st_g rfl rfl rfl (Nat.le_of_ble_eq_true rfl) rfl (S_load rfl rfl rfl (tT rfl) rfl) ?_ | refine TL.st_g rfl rfl rfl (Nat.le_of_ble_eq_true rfl) rfl (S_load_eptr rfl rfl (tT rfl) rfl) ?_ | refine TL.st_g rfl rfl rfl (Nat.le_of_ble_eq_true rfl) rfl (S_load_row rfl rfl rfl rfl (by assumption) (tT rfl) rfl) ?_ | refine TL.st_g rfl rfl rfl (Nat.le_of_ble_eq_true rfl) rfl (S_load_row (j := 0) rfl rfl rfl rfl (by assumption) (tT rfl) rfl) ?_ | refine TL.sk_g rfl rfl rfl (Nat.le_of_ble_eq_true rfl) rfl rfl ?_
    intro σ_ hσ_; simp only [nrm, tev, St.step, putO, setsV, addO, ↓reduceIte, Nat.reduceAdd, logT, atT, intern, internL, kp_ents, logR, logE] at hσ_; subst hσ_
    first | refine TL.st_g rfl rfl rfl (Nat.le_of_ble_eq_true rfl) rfl (S_fieldAddr rfl rfl (tT rfl) rfl rfl (tT rfl) (by decide)) ?_ | refine TL.st_g rfl rfl rfl (Nat.le_of_ble_eq_true rfl) rfl (S_fieldAddr_eptr rfl rfl (tT rfl) rfl rfl (tT rfl) (by decide)) ?_ | refine TL.sk_g rfl rfl rfl (Nat.le_of_ble_eq_true rfl) rfl rfl ?_
    intro σ_ hσ_; simp only [nrm, tev, St.step, putO, setsV, addO, ↓reduceIte, Nat.reduceAdd, logT, atT, intern, internL, kp_ents, logR, logE] at hσ_; subst hσ_
    first | refine TL.st_g rfl rfl rfl (Nat.le_of_ble_eq_true rfl) rfl (S_load rfl rfl rfl (tT rfl) rfl) ?_ | refine TL.st_g rfl rfl rfl (Nat.le_of_ble_eq_true rfl) rfl (S_load_eptr rfl rfl (tT rfl) rfl) ?_ | refine TL.st_g rfl rfl rfl (Nat.le_of_ble_eq_true rfl) rfl (S_load_row rfl rfl rfl rfl (by assumption) (tT rfl) rfl) ?_ | refine TL.st_g rfl rfl rfl (Nat.le_of_ble_eq_true rfl) rfl (S_load_row (j := 0) rfl rfl rfl rfl (by assumption) (tT rfl) rfl) ?_ | refine TL.sk_g rfl rfl rfl (Nat.le_of_ble_eq_true rfl) rfl rfl ?_
    intro σ_ hσ_; simp only [nrm, tev, St.step, putO, setsV, addO, ↓reduceIte, Nat.reduceAdd, logT, atT, intern, internL, kp_ents, logR, logE] at hσ_; subst hσ_
    first | refine TL.st_g rfl rfl rfl (Nat.le_of_ble_eq_true rfl) rfl (S_int rfl rfl rfl rfl (vbt (by omega))) ?_ | refine TL.st_g rfl rfl rfl (Nat.le_of_ble_eq_true rfl) rfl (S_int rfl rfl rfl rfl (vbf (by omega))) ?_ | refine TL.st_g rfl rfl rfl (Nat.le_of_ble_eq_true rfl) rfl (S_int rfl rfl rfl rfl rfl) ?_ | refine TL.sk_g rfl rfl rfl (Nat.le_of_ble_eq_true rfl) rfl rfl ?_
    intro σ_ hσ_; simp only [nrm, tev, St.step, putO, setsV, addO, ↓reduceIte, Nat.reduceAdd, logT, atT, intern, internL, kp_ents, logR, logE] at hσ_; subst hσ_
    first | refine TL.st_g rfl rfl rfl (Nat.le_of_ble_eq_true rfl) rfl (S_pick rfl rfl rfl) ?_ | refine TL.sk_g rfl rfl rfl (Nat.le_of_ble_eq_true rfl) rfl rfl ?_
    intro σ_ hσ_; simp only [nrm, tev, St.step, putO, setsV, addO, ↓reduceIte, Nat.reduceAdd, logT, atT, intern, internL, kp_ents, logR, logE] at hσ_; subst hσ_
    refine TL.st rfl (S_pick rfl rfl rfl) ?_
    intro σ_ hσ_; simp only [nrm, tev, St.step, putO, setsV, addO, ↓reduceIte, Nat.reduceAdd, logT, atT, intern, internL, kp_ents, logR, logE] at hσ_; subst hσ_
    refine TL.st rfl (S_assign rfl) ?_
    intro σ_ hσ_; simp only [nrm, tev, St.step, putO, setsV, addO, ↓reduceIte, Nat.reduceAdd, logT, atT, intern, internL, kp_ents, logR, logE] at hσ_; subst hσ_
    refine TL.nil ?_
    try simp (decide := true) only [thenT, inBlockT, noGotoT, jumpT, ↓reduceIte, true_and]
    refine hK2_ _ ?_
    refine TW.ret ?_
    try simp (decide := true) only [thenT, inBlockT, noGotoT, jumpT, ↓reduceIte, true_and]
    refine ⟨.inr rfl, _, none, (ResT.one Try.results40 rfl), ?_, (by rintro _ ⟨⟩)⟩
    simp only [nrm, tev, Out_v, Out_agg, Out_tup, OutL_nil, OutL_cons, Out_sl, Out_row_osl, Out_nil_osl, Out_nil_sl, Out_nil_nil, and_true, true_and, logT, atT, logR, logE, fr_ents, hf, List.getD_cons_zero, List.getD_cons_succ]
    simp [newerB, h1]
  · skip
    refine TW.reg ?_
    first | refine TL.st rfl (S_fieldAddr rfl rfl (tT rfl) rfl rfl (tT rfl) (by decide)) ?_ | refine TL.st rfl (S_fieldAddr_eptr rfl rfl (tT rfl) rfl rfl (tT rfl) (by decide)) ?_
    intro σ_ hσ_; simp only [nrm, tev, St.step, putO, setsV, addO, ↓reduceIte, Nat.reduceAdd, logT, atT, intern, internL, kp_ents, logR, logE] at hσ_; subst hσ_
    first | refine TL.st rfl (S_load rfl rfl rfl (tT rfl) rfl) ?_ | refine TL.st rfl (S_load_eptr rfl rfl (tT rfl) rfl) ?_ | refine TL.st rfl (S_load_row rfl rfl rfl rfl (by assumption) (tT rfl) rfl) ?_ | refine TL.st rfl (S_load_row (j := 0) rfl rfl rfl rfl (by assumption) (tT rfl) rfl) ?_
    intro σ_ hσ_; simp only [nrm, tev, St.step, putO, setsV, addO, ↓reduceIte, Nat.reduceAdd, logT, atT, intern, internL, kp_ents, logR, logE] at hσ_; subst hσ_
    first | refine TL.st rfl (S_fieldAddr rfl rfl (tT rfl) rfl rfl (tT rfl) (by decide)) ?_ | refine TL.st rfl (S_fieldAddr_eptr rfl rfl (tT rfl) rfl rfl (tT rfl) (by decide)) ?_
    intro σ_ hσ_; simp only [nrm, tev, St.step, putO, setsV, addO, ↓reduceIte, Nat.reduceAdd, logT, atT, intern, internL, kp_ents, logR, logE] at hσ_; subst hσ_
    first | refine TL.st rfl (S_load rfl rfl rfl (tT rfl) rfl) ?_ | refine TL.st rfl (S_load_eptr rfl rfl (tT rfl) rfl) ?_ | refine TL.st rfl (S_load_row rfl rfl rfl rfl (by assumption) (tT rfl) rfl) ?_ | refine TL.st rfl (S_load_row (j := 0) rfl rfl rfl rfl (by assumption) (tT rfl) rfl) ?_
    intro σ_ hσ_; simp only [nrm, tev, St.step, putO, setsV, addO, ↓reduceIte, Nat.reduceAdd, logT, atT, intern, internL, kp_ents, logR, logE] at hσ_; subst hσ_
    first | refine TL.st rfl (S_int rfl rfl rfl rfl (vbt (by omega))) ?_ | refine TL.st rfl (S_int rfl rfl rfl rfl (vbf (by omega))) ?_ | refine TL.st rfl (S_int rfl rfl rfl rfl rfl) ?_
    intro σ_ hσ_; simp only [nrm, tev, St.step, putO, setsV, addO, ↓reduceIte, Nat.reduceAdd, logT, atT, intern, internL, kp_ents, logR, logE] at hσ_; subst hσ_
    refine TL.st rfl (S_move rfl) ?_
    intro σ_ hσ_; simp only [nrm, tev, St.step, putO, setsV, addO, ↓reduceIte, Nat.reduceAdd, logT, atT, intern, internL, kp_ents, logR, logE] at hσ_; subst hσ_
    first | refine TL.st_g rfl rfl rfl (Nat.le_of_ble_eq_true rfl) rfl (S_fieldAddr rfl rfl (tT rfl) rfl rfl (tT rfl) (by decide)) ?_ | refine TL.st_g rfl rfl rfl (Nat.le_of_ble_eq_true rfl) rfl (S_fieldAddr_eptr rfl rfl (tT rfl) rfl rfl (tT rfl) (by decide)) ?_ | refine TL.sk_g rfl rfl rfl (Nat.le_of_ble_eq_true rfl) rfl rfl ?_
    intro σ_ hσ_; simp only [nrm, tev, St.step, putO, setsV, addO, ↓reduceIte, Nat.reduceAdd, logT, atT, intern, internL, kp_ents, logR, logE] at hσ_; subst hσ_
    first | refine TL.st_g rfl rfl rfl (Nat.le_of_ble_eq_true rfl) rfl (S_load rfl rfl rfl (tT rfl) rfl) ?_ | refine TL.st_g rfl rfl rfl (Nat.le_of_ble_eq_true rfl) rfl (S_load_eptr rfl rfl (tT rfl) rfl) ?_ | refine TL.st_g rfl rfl rfl (Nat.le_of_ble_eq_true rfl) rfl (S_load_row rfl rfl rfl rfl (by assumption) (tT rfl) rfl) ?_ | refine TL.st_g rfl rfl rfl (Nat.le_of_ble_eq_true rfl) rfl (S_load_row (j := 0) rfl rfl rfl rfl (by assumption) (tT rfl) rfl) ?_ | refine TL.sk_g rfl rfl rfl (Nat.le_of_ble_eq_true rfl) rfl rfl ?_
    intro σ_ hσ_; simp only [nrm, tev, St.step, putO, setsV, addO, ↓reduceIte, Nat.reduceAdd, logT, atT, intern, internL, kp_ents, logR, logE] at hσ_; subst hσ_
    first | refine TL.st_g rfl rfl rfl (Nat.le_of_ble_eq_true rfl) rfl (S_fieldAddr rfl rfl (tT rfl) rfl rfl (tT rfl) (by decide)) ?_ | refine TL.st_g rfl rfl rfl (Nat.le_of_ble_eq_true rfl) rfl (S_fieldAddr_eptr rfl rfl (tT rfl) rfl rfl (tT rfl) (by decide)) ?_ | refine TL.sk_g rfl rfl rfl (Nat.le_of_ble_eq_true rfl) rfl rfl ?_
    intro σ_ hσ_; simp only [nrm, tev, St.step, putO, setsV, addO, ↓reduceIte, Nat.reduceAdd, logT, atT, intern, internL, kp_ents, logR, logE] at hσ_; subst hσ_
    first | refine TL.st_g rfl rfl rfl (Nat.le_of_ble_eq_true rfl) rfl (S_load rfl rfl rfl (tT rfl) rfl) ?_ | refine TL.st_g rfl rfl rfl (Nat.le_of_ble_eq_true rfl) rfl (S_load_eptr rfl rfl (tT rfl) rfl) ?_ | refine TL.st_g rfl rfl rfl (Nat.le_of_ble_eq_true rfl) rfl (S_load_row rfl rfl rfl rfl (by assumption) (tT rfl) rfl) ?_ | refine TL.st_g rfl rfl rfl (Nat.le_of_ble_eq_true rfl) rfl (S_load_row (j := 0) rfl rfl rfl rfl (by assumption) (tT rfl) rfl) ?_ | refine TL.sk_g rfl rfl rfl (Nat.le_of_ble_eq_true rfl) rfl rfl ?_
    intro σ_ hσ_; simp only [nrm, tev, St.step, putO, setsV, addO, ↓reduceIte, Nat.reduceAdd, logT, atT, intern, internL, kp_ents, logR, logE] at hσ_; subst hσ_
    first | refine TL.st_g rfl rfl rfl (Nat.le_of_ble_eq_true rfl) rfl (S_int rfl rfl rfl rfl (vbt (by omega))) ?_ | refine TL.st_g rfl rfl rfl (Nat.le_of_ble_eq_true rfl) rfl (S_int rfl rfl rfl rfl (vbf (by omega))) ?_ | refine TL.st_g rfl rfl rfl (Nat.le_of_ble_eq_true rfl) rfl (S_int rfl rfl rfl rfl rfl) ?_ | refine TL.st_g rfl rfl rfl (Nat.le_of_ble_eq_true rfl) rfl (S_boolop rfl rfl rfl rfl (tT rfl) rfl) ?_ | refine TL.sk_g rfl rfl rfl (Nat.le_of_ble_eq_true rfl) rfl rfl ?_
    intro σ_ hσ_; simp only [nrm, tev, St.step, putO, setsV, addO, ↓reduceIte, Nat.reduceAdd, logT, atT, intern, internL, kp_ents, logR, logE] at hσ_; subst hσ_
    first | refine TL.st_g rfl rfl rfl (Nat.le_of_ble_eq_true rfl) rfl (S_move rfl) ?_ | refine TL.sk_g rfl rfl rfl (Nat.le_of_ble_eq_true rfl) rfl rfl ?_
    intro σ_ hσ_; simp only [nrm, tev, St.step, putO, setsV, addO, ↓reduceIte, Nat.reduceAdd, logT, atT, intern, internL, kp_ents, logR, logE] at hσ_; subst hσ_
    first | refine TL.st_g rfl rfl rfl (Nat.le_of_ble_eq_true rfl) rfl (S_fieldAddr rfl rfl (tT rfl) rfl rfl (tT rfl) (by decide)) ?_ | refine TL.st_g rfl rfl rfl (Nat.le_of_ble_eq_true rfl) rfl (S_fieldAddr_eptr rfl rfl (tT rfl) rfl rfl (tT rfl) (by decide)) ?_ | refine TL.sk_g rfl rfl rfl (Nat.le_of_ble_eq_true rfl) rfl rfl ?_
    intro σ_ hσ_; simp only [nrm, tev, St.step, putO, setsV, addO, ↓reduceIte, Nat.reduceAdd, logT, atT, intern, internL, kp_ents, logR, logE] at hσ_; subst hσ_
    first | refine TL.st_g rfl rfl rfl (Nat.le_of_ble_eq_true rfl) rfl (S_load rfl rfl rfl (tT rfl) rfl) ?_ | refine TL.st_g rfl rfl rfl (Nat.le_of_ble_eq_true rfl) rfl (S_load_eptr rfl rfl (tT rfl) rfl) ?_ | refine TL.st_g rfl rfl rfl (Nat.le_of_ble_eq_true rfl) rfl (S_load_row rfl rfl rfl rfl (by assumption) (tT rfl) rfl) ?_ | refine TL.st_g rfl rfl rfl (Nat.le_of_ble_eq_true rfl) rfl (S_load_row (j := 0) rfl rfl rfl rfl (by assumption) (tT rfl) rfl) ?_ | refine TL.sk_g rfl rfl rfl (Nat.le_of_ble_eq_true rfl) rfl rfl ?_
    intro σ_ hσ_; simp only [nrm, tev, St.step, putO, setsV, addO, ↓reduceIte, Nat.reduceAdd, logT, atT, intern, internL, kp_ents, logR, logE] at hσ_; subst hσ_
    first | refine TL.st_g rfl rfl rfl (Nat.le_of_ble_eq_true rfl) rfl (S_fieldAddr rfl rfl (tT rfl) rfl rfl (tT rfl) (by decide)) ?_ | refine TL.st_g rfl rfl rfl (Nat.le_of_ble_eq_true rfl) rfl (S_fieldAddr_eptr rfl rfl (tT rfl) rfl rfl (tT rfl) (by decide)) ?_ | refine TL.sk_g rfl rfl rfl (Nat.le_of_ble_eq_true rfl) rfl rfl ?_
    intro σ_ hσ_; simp only [nrm, tev, St.step, putO, setsV, addO, ↓reduceIte, Nat.reduceAdd, logT, atT, intern, internL, kp_ents, logR, logE] at hσ_; subst hσ_
    first | refine TL.st_g rfl rfl rfl (Nat.le_of_ble_eq_true rfl) rfl (S_load rfl rfl rfl (tT rfl) rfl) ?_ | refine TL.st_g rfl rfl rfl (Nat.le_of_ble_eq_true rfl) rfl (S_load_eptr rfl rfl (tT rfl) rfl) ?_ | refine TL.st_g rfl rfl rfl (Nat.le_of_ble_eq_true rfl) rfl (S_load_row rfl rfl rfl rfl (by assumption) (tT rfl) rfl) ?_ | refine TL.st_g rfl rfl rfl (Nat.le_of_ble_eq_true rfl) rfl (S_load_row (j := 0) rfl rfl rfl rfl (by assumption) (tT rfl) rfl) ?_ | refine TL.sk_g rfl rfl rfl (Nat.le_of_ble_eq_true rfl) rfl rfl ?_
    intro σ_ hσ_; simp only [nrm, tev, St.step, putO, setsV, addO, ↓reduceIte, Nat.reduceAdd, logT, atT, intern, internL, kp_ents, logR, logE] at hσ_; subst hσ_
    first | refine TL.st_g rfl rfl rfl (Nat.le_of_ble_eq_true rfl) rfl (S_int rfl rfl rfl rfl (vbt (by omega))) ?_ | refine TL.st_g rfl rfl rfl (Nat.le_of_ble_eq_true rfl) rfl (S_int rfl rfl rfl rfl (vbf (by omega))) ?_ | refine TL.st_g rfl rfl rfl (Nat.le_of_ble_eq_true rfl) rfl (S_int rfl rfl rfl rfl rfl) ?_ | refine TL.sk_g rfl rfl rfl (Nat.le_of_ble_eq_true rfl) rfl rfl ?_
    intro σ_ hσ_; simp only [nrm, tev, St.step, putO, setsV, addO, ↓reduceIte, Nat.reduceAdd, logT, atT, intern, internL, kp_ents, logR, logE] at hσ_; subst hσ_
    first | refine TL.st_g rfl rfl rfl (Nat.le_of_ble_eq_true rfl) rfl (S_pick rfl rfl rfl) ?_ | refine TL.sk_g rfl rfl rfl (Nat.le_of_ble_eq_true rfl) rfl rfl ?_
    intro σ_ hσ_; simp only [nrm, tev, St.step, putO, setsV, addO, ↓reduceIte, Nat.reduceAdd, logT, atT, intern, internL, kp_ents, logR, logE] at hσ_; subst hσ_
    refine TL.st rfl (S_pick rfl rfl rfl) ?_
    intro σ_ hσ_; simp only [nrm, tev, St.step, putO, setsV, addO, ↓reduceIte, Nat.reduceAdd, logT, atT, intern, internL, kp_ents, logR, logE] at hσ_; subst hσ_
    refine TL.st rfl (S_assign rfl) ?_
    intro σ_ hσ_; simp only [nrm, tev, St.step, putO, setsV, addO, ↓reduceIte, Nat.reduceAdd, logT, atT, intern, internL, kp_ents, logR, logE] at hσ_; subst hσ_
    refine TL.nil ?_
    try simp (decide := true) only [thenT, inBlockT, noGotoT, jumpT, ↓reduceIte, true_and]
    refine hK2_ _ ?_
    refine TW.ret ?_
    try simp (decide := true) only [thenT, inBlockT, noGotoT, jumpT, ↓reduceIte, true_and]
    refine ⟨.inr rfl, _, none, (ResT.one Try.results40 rfl), ?_, (by rintro _ ⟨⟩)⟩
    simp only [nrm, tev, Out_v, Out_agg, Out_tup, OutL_nil, OutL_cons, Out_sl, Out_row_osl, Out_nil_osl, Out_nil_sl, Out_nil_nil, and_true, true_and, logT, atT, logR, logE, fr_ents, hf, List.getD_cons_zero, List.getD_cons_succ]
    simp [newerB]
    omega

set_option maxRecDepth 20000 in
set_option maxHeartbeats 1000000 in
theorem ahead_T (b b' : Bool) (i t : Int) (es : List Ent) (h : okE es) (hi0 : 0 ≤ i) (hi1 : i < 18446744073709551616) (x : Int) (hx0 : 0 ≤ x) (hx1 : x < 18446744073709551616) :
    TMeets Try.prog 48 [logT i t (.sl b (es.map (entC b'))), .v (.int .u64 x)] (.tup [.v (.int .i64 (aheadN i t es x).1), .v (.int .i64 (aheadN i t es x).2)]) := by
  refine TMeets.of_TW Try.func48 rfl (by simp [PuL, Pu, logT, atT, pu_ents]) ?_
  intro B w0
  rw [Try.ntmps48]
  simp only [untagL, untag, List.length_cons, List.length_nil, List.replicate_succ, List.replicate_zero, Nat.reduceAdd, Nat.reduceSub, List.cons_append, List.nil_append, logT, atT, untag_ents]
  refine TW.seq_k ?_
  intro K1_ hK1_
  refine TW.reg ?_
  refine TL.st rfl (S_box rfl rfl) ?_
  intro σ_ hσ_; simp only [nrm, tev, St.step, putO, setsV, addO, ↓reduceIte, Nat.reduceAdd, logT, atT, intern, internL, kp_ents, logR, logE] at hσ_; subst hσ_
  refine TL.st rfl (S_assign rfl) ?_
  intro σ_ hσ_; simp only [nrm, tev, St.step, putO, setsV, addO, ↓reduceIte, Nat.reduceAdd, logT, atT, intern, internL, kp_ents, logR, logE] at hσ_; subst hσ_
  refine TL.st rfl (S_assign rfl) ?_
  intro σ_ hσ_; simp only [nrm, tev, St.step, putO, setsV, addO, ↓reduceIte, Nat.reduceAdd, logT, atT, intern, internL, kp_ents, logR, logE] at hσ_; subst hσ_
  refine TL.nil ?_
  try simp (decide := true) only [thenT, inBlockT, noGotoT, jumpT, ↓reduceIte, true_and]
  refine hK1_ _ ?_
  refine TW.seq_k ?_
  intro K2_ hK2_
  refine TW.reg ?_
  refine TL.st rfl (S_assign rfl) ?_
  intro σ_ hσ_; simp only [nrm, tev, St.step, putO, setsV, addO, ↓reduceIte, Nat.reduceAdd, logT, atT, intern, internL, kp_ents, logR, logE] at hσ_; subst hσ_
  refine TL.nil ?_
  try simp (decide := true) only [thenT, inBlockT, noGotoT, jumpT, ↓reduceIte, true_and]
  refine hK2_ _ ?_
  refine TW.seq_k ?_
  intro K3_ hK3_
  refine TW.seq_k ?_
  intro K4_ hK4_
  refine TW.reg ?_
  first | refine TL.st rfl (S_load rfl rfl rfl (tT rfl) rfl) ?_ | refine TL.st rfl (S_load_eptr rfl rfl (tT rfl) rfl) ?_ | refine TL.st rfl (S_load_row rfl rfl rfl rfl (by assumption) (tT rfl) rfl) ?_ | refine TL.st rfl (S_load_row (j := 0) rfl rfl rfl rfl (by assumption) (tT rfl) rfl) ?_
  intro σ_ hσ_; simp only [nrm, tev, St.step, putO, setsV, addO, ↓reduceIte, Nat.reduceAdd, logT, atT, intern, internL, kp_ents, logR, logE] at hσ_; subst hσ_
  rcases (show mayB i t es = false ∨ (mayB i t es = true ∧ 0 < x) ∨ (mayB i t es = true ∧ x = 0) by cases mayB i t es <;> simp <;> omega) with hm | ⟨hm, hx⟩ | ⟨hm, hx⟩
  · skip
    first | refine TL.st rfl (S_call_row rfl rfl rfl (by kernel_rfl) rfl ((may_T _ _ _ _ _ h.w h.n9 hi0 hi1).eq rfl (by rw [hm])) rfl) ?_ | refine TL.st rfl (S_call rfl rfl rfl (by kernel_rfl) rfl ((may_T _ _ _ _ _ h.w h.n9 hi0 hi1).eq rfl (by rw [hm]))) ?_
    intro σ_ hσ_; simp only [nrm, tev, St.step, putO, setsV, addO, ↓reduceIte, Nat.reduceAdd, logT, atT, intern, internL, kp_ents, logR, logE] at hσ_; subst hσ_
    first | refine TL.st rfl (S_not rfl rfl) ?_ | refine TL.st rfl (S_neg rfl rfl) ?_
    intro σ_ hσ_; simp only [nrm, tev, St.step, putO, setsV, addO, ↓reduceIte, Nat.reduceAdd, logT, atT, intern, internL, kp_ents, logR, logE] at hσ_; subst hσ_
    refine TL.nil ?_
    try simp (decide := true) only [thenT, inBlockT, noGotoT, jumpT, ↓reduceIte, true_and]
    refine hK4_ _ ?_
    refine TW.cond_t rfl (rfl) ?_
    refine TW.seq_k ?_
    intro K5_ hK5_
    refine TW.reg ?_
    refine TL.st rfl (S_move rfl) ?_
    intro σ_ hσ_; simp only [nrm, tev, St.step, putO, setsV, addO, ↓reduceIte, Nat.reduceAdd, logT, atT, intern, internL, kp_ents, logR, logE] at hσ_; subst hσ_
    refine TL.st rfl (S_assign rfl) ?_
    intro σ_ hσ_; simp only [nrm, tev, St.step, putO, setsV, addO, ↓reduceIte, Nat.reduceAdd, logT, atT, intern, internL, kp_ents, logR, logE] at hσ_; subst hσ_
    refine TL.st rfl (S_assign rfl) ?_
    intro σ_ hσ_; simp only [nrm, tev, St.step, putO, setsV, addO, ↓reduceIte, Nat.reduceAdd, logT, atT, intern, internL, kp_ents, logR, logE] at hσ_; subst hσ_
    refine TL.nil ?_
    try simp (decide := true) only [thenT, inBlockT, noGotoT, jumpT, ↓reduceIte, true_and]
    refine hK5_ _ ?_
    refine TW.ret ?_
    try simp (decide := true) only [thenT, inBlockT, noGotoT, jumpT, ↓reduceIte, true_and]
    refine ⟨.inr rfl, _, none, (ResT.two Try.results48 rfl rfl), ?_, (by rintro _ ⟨⟩)⟩
    simp only [nrm, tev, Out_v, Out_agg, Out_tup, OutL_nil, OutL_cons, Out_sl, Out_row_osl, Out_nil_osl, Out_nil_sl, Out_nil_nil, and_true, true_and, logT, atT, logR, logE, fr_ents, hf, List.getD_cons_zero, List.getD_cons_succ]
    simp [aheadN, hm]
  · skip
    first | refine TL.st rfl (S_call_row rfl rfl rfl (by kernel_rfl) rfl ((may_T _ _ _ _ _ h.w h.n9 hi0 hi1).eq rfl (by rw [hm])) rfl) ?_ | refine TL.st rfl (S_call rfl rfl rfl (by kernel_rfl) rfl ((may_T _ _ _ _ _ h.w h.n9 hi0 hi1).eq rfl (by rw [hm]))) ?_
    intro σ_ hσ_; simp only [nrm, tev, St.step, putO, setsV, addO, ↓reduceIte, Nat.reduceAdd, logT, atT, intern, internL, kp_ents, logR, logE] at hσ_; subst hσ_
    first | refine TL.st rfl (S_not rfl rfl) ?_ | refine TL.st rfl (S_neg rfl rfl) ?_
    intro σ_ hσ_; simp only [nrm, tev, St.step, putO, setsV, addO, ↓reduceIte, Nat.reduceAdd, logT, atT, intern, internL, kp_ents, logR, logE] at hσ_; subst hσ_
    refine TL.nil ?_
    try simp (decide := true) only [thenT, inBlockT, noGotoT, jumpT, ↓reduceIte, true_and]
    refine hK4_ _ ?_
    refine TW.cond_f rfl (rfl) ?_
    refine TW.skip ?_
    try simp (decide := true) only [thenT, inBlockT, noGotoT, jumpT, ↓reduceIte, true_and]
    refine hK3_ _ ?_
    refine TW.seq_k ?_
    intro K6_ hK6_
    refine TW.seq_k ?_
    intro K7_ hK7_
    refine TW.reg ?_
    refine TL.st rfl (S_move rfl) ?_
    intro σ_ hσ_; simp only [nrm, tev, St.step, putO, setsV, addO, ↓reduceIte, Nat.reduceAdd, logT, atT, intern, internL, kp_ents, logR, logE] at hσ_; subst hσ_
    first | refine TL.st rfl (S_int rfl rfl rfl rfl (vbt (by omega))) ?_ | refine TL.st rfl (S_int rfl rfl rfl rfl (vbf (by omega))) ?_ | refine TL.st rfl (S_int rfl rfl rfl rfl rfl) ?_
    intro σ_ hσ_; simp only [nrm, tev, St.step, putO, setsV, addO, ↓reduceIte, Nat.reduceAdd, logT, atT, intern, internL, kp_ents, logR, logE] at hσ_; subst hσ_
    refine TL.nil ?_
    try simp (decide := true) only [thenT, inBlockT, noGotoT, jumpT, ↓reduceIte, true_and]
    refine hK7_ _ ?_
    refine TW.cond_t rfl (rfl) ?_
    rcases ofN_cases i (x - 1) es.length with ⟨k, hkn, hk, hk1, hk2⟩ | ⟨hk, hk1⟩
    · skip
      refine TW.reg ?_
      first | refine TL.st rfl (S_load rfl rfl rfl (tT rfl) rfl) ?_ | refine TL.st rfl (S_load_eptr rfl rfl (tT rfl) rfl) ?_ | refine TL.st rfl (S_load_row rfl rfl rfl rfl (by assumption) (tT rfl) rfl) ?_ | refine TL.st rfl (S_load_row (j := 0) rfl rfl rfl rfl (by assumption) (tT rfl) rfl) ?_
      intro σ_ hσ_; simp only [nrm, tev, St.step, putO, setsV, addO, ↓reduceIte, Nat.reduceAdd, logT, atT, intern, internL, kp_ents, logR, logE] at hσ_; subst hσ_
      refine TL.st rfl (S_move rfl) ?_
      intro σ_ hσ_; simp only [nrm, tev, St.step, putO, setsV, addO, ↓reduceIte, Nat.reduceAdd, logT, atT, intern, internL, kp_ents, logR, logE] at hσ_; subst hσ_
      first | refine TL.st rfl (S_int rfl rfl rfl rfl (vi64 (by omega))) ?_ | refine TL.st rfl (S_int rfl rfl rfl rfl (vu64 (by omega))) ?_ | refine TL.st rfl (S_int rfl rfl rfl rfl rfl) ?_
      intro σ_ hσ_; simp only [nrm, tev, St.step, putO, setsV, addO, ↓reduceIte, Nat.reduceAdd, logT, atT, intern, internL, kp_ents, logR, logE] at hσ_; subst hσ_
      first | refine TL.st rfl (S_call_row rfl rfl rfl (by kernel_rfl) rfl ((of_T _ _ _ _ _ h.w h.n9 hi0 hi1 _).eq rfl (by rw [hk])) rfl) ?_ | refine TL.st rfl (S_call rfl rfl rfl (by kernel_rfl) rfl ((of_T _ _ _ _ _ h.w h.n9 hi0 hi1 _).eq rfl (by rw [hk]))) ?_
      intro σ_ hσ_; simp only [nrm, tev, St.step, putO, setsV, addO, ↓reduceIte, Nat.reduceAdd, logT, atT, intern, internL, kp_ents, logR, logE] at hσ_; subst hσ_
      refine TL.st rfl (S_assign rfl) ?_
      intro σ_ hσ_; simp only [nrm, tev, St.step, putO, setsV, addO, ↓reduceIte, Nat.reduceAdd, logT, atT, intern, internL, kp_ents, logR, logE] at hσ_; subst hσ_
      refine TL.nil ?_
      try simp (decide := true) only [thenT, inBlockT, noGotoT, jumpT, ↓reduceIte, true_and]
      refine hK6_ _ ?_
      refine TW.seq_k ?_
      intro K8_ hK8_
      refine TW.seq_k ?_
      intro K9_ hK9_
      refine TW.reg ?_
      refine TL.st rfl (S_move rfl) ?_
      intro σ_ hσ_; simp only [nrm, tev, St.step, putO, setsV, addO, ↓reduceIte, Nat.reduceAdd, logT, atT, intern, internL, kp_ents, logR, logE] at hσ_; subst hσ_
      first | refine TL.st rfl (S_int rfl rfl rfl rfl (vbt (by omega))) ?_ | refine TL.st rfl (S_int rfl rfl rfl rfl (vbf (by omega))) ?_ | refine TL.st rfl (S_int rfl rfl rfl rfl rfl) ?_
      intro σ_ hσ_; simp only [nrm, tev, St.step, putO, setsV, addO, ↓reduceIte, Nat.reduceAdd, logT, atT, intern, internL, kp_ents, logR, logE] at hσ_; subst hσ_
      refine TL.nil ?_
      try simp (decide := true) only [thenT, inBlockT, noGotoT, jumpT, ↓reduceIte, true_and]
      refine hK9_ _ ?_
      refine TW.cond_f rfl (rfl) ?_
      refine TW.skip ?_
      try simp (decide := true) only [thenT, inBlockT, noGotoT, jumpT, ↓reduceIte, true_and]
      refine hK8_ _ ?_
      refine TW.seq_k ?_
      intro K10_ hK10_
      refine TW.reg ?_
      refine TL.st rfl (S_move rfl) ?_
      intro σ_ hσ_; simp only [nrm, tev, St.step, putO, setsV, addO, ↓reduceIte, Nat.reduceAdd, logT, atT, intern, internL, kp_ents, logR, logE] at hσ_; subst hσ_
      refine TL.st rfl (S_assign rfl) ?_
      intro σ_ hσ_; simp only [nrm, tev, St.step, putO, setsV, addO, ↓reduceIte, Nat.reduceAdd, logT, atT, intern, internL, kp_ents, logR, logE] at hσ_; subst hσ_
      refine TL.st rfl (S_assign rfl) ?_
      intro σ_ hσ_; simp only [nrm, tev, St.step, putO, setsV, addO, ↓reduceIte, Nat.reduceAdd, logT, atT, intern, internL, kp_ents, logR, logE] at hσ_; subst hσ_
      refine TL.nil ?_
      try simp (decide := true) only [thenT, inBlockT, noGotoT, jumpT, ↓reduceIte, true_and]
      refine hK10_ _ ?_
      refine TW.ret ?_
      try simp (decide := true) only [thenT, inBlockT, noGotoT, jumpT, ↓reduceIte, true_and]
      refine ⟨.inr rfl, _, none, (ResT.two Try.results48 rfl rfl), ?_, (by rintro _ ⟨⟩)⟩
      simp only [nrm, tev, Out_v, Out_agg, Out_tup, OutL_nil, OutL_cons, Out_sl, Out_row_osl, Out_nil_osl, Out_nil_sl, Out_nil_nil, and_true, true_and, logT, atT, logR, logE, fr_ents, hf, List.getD_cons_zero, List.getD_cons_succ]
      simp [aheadN, hm, hx, hk]
    · skip
      refine TW.reg ?_
      first | refine TL.st rfl (S_load rfl rfl rfl (tT rfl) rfl) ?_ | refine TL.st rfl (S_load_eptr rfl rfl (tT rfl) rfl) ?_ | refine TL.st rfl (S_load_row rfl rfl rfl rfl (by assumption) (tT rfl) rfl) ?_ | refine TL.st rfl (S_load_row (j := 0) rfl rfl rfl rfl (by assumption) (tT rfl) rfl) ?_
      intro σ_ hσ_; simp only [nrm, tev, St.step, putO, setsV, addO, ↓reduceIte, Nat.reduceAdd, logT, atT, intern, internL, kp_ents, logR, logE] at hσ_; subst hσ_
      refine TL.st rfl (S_move rfl) ?_
      intro σ_ hσ_; simp only [nrm, tev, St.step, putO, setsV, addO, ↓reduceIte, Nat.reduceAdd, logT, atT, intern, internL, kp_ents, logR, logE] at hσ_; subst hσ_
      first | refine TL.st rfl (S_int rfl rfl rfl rfl (vi64 (by omega))) ?_ | refine TL.st rfl (S_int rfl rfl rfl rfl (vu64 (by omega))) ?_ | refine TL.st rfl (S_int rfl rfl rfl rfl rfl) ?_
      intro σ_ hσ_; simp only [nrm, tev, St.step, putO, setsV, addO, ↓reduceIte, Nat.reduceAdd, logT, atT, intern, internL, kp_ents, logR, logE] at hσ_; subst hσ_
      first | refine TL.st rfl (S_call_row rfl rfl rfl (by kernel_rfl) rfl ((of_T _ _ _ _ _ h.w h.n9 hi0 hi1 _).eq rfl (by rw [hk])) rfl) ?_ | refine TL.st rfl (S_call rfl rfl rfl (by kernel_rfl) rfl ((of_T _ _ _ _ _ h.w h.n9 hi0 hi1 _).eq rfl (by rw [hk]))) ?_
      intro σ_ hσ_; simp only [nrm, tev, St.step, putO, setsV, addO, ↓reduceIte, Nat.reduceAdd, logT, atT, intern, internL, kp_ents, logR, logE] at hσ_; subst hσ_
      refine TL.st rfl (S_assign rfl) ?_
      intro σ_ hσ_; simp only [nrm, tev, St.step, putO, setsV, addO, ↓reduceIte, Nat.reduceAdd, logT, atT, intern, internL, kp_ents, logR, logE] at hσ_; subst hσ_
      refine TL.nil ?_
      try simp (decide := true) only [thenT, inBlockT, noGotoT, jumpT, ↓reduceIte, true_and]
      refine hK6_ _ ?_
      refine TW.seq_k ?_
      intro K11_ hK11_
      refine TW.seq_k ?_
      intro K12_ hK12_
      refine TW.reg ?_
      refine TL.st rfl (S_move rfl) ?_
      intro σ_ hσ_; simp only [nrm, tev, St.step, putO, setsV, addO, ↓reduceIte, Nat.reduceAdd, logT, atT, intern, internL, kp_ents, logR, logE] at hσ_; subst hσ_
      first | refine TL.st rfl (S_int rfl rfl rfl rfl (vbt (by omega))) ?_ | refine TL.st rfl (S_int rfl rfl rfl rfl (vbf (by omega))) ?_ | refine TL.st rfl (S_int rfl rfl rfl rfl rfl) ?_
      intro σ_ hσ_; simp only [nrm, tev, St.step, putO, setsV, addO, ↓reduceIte, Nat.reduceAdd, logT, atT, intern, internL, kp_ents, logR, logE] at hσ_; subst hσ_
      refine TL.nil ?_
      try simp (decide := true) only [thenT, inBlockT, noGotoT, jumpT, ↓reduceIte, true_and]
      refine hK12_ _ ?_
      refine TW.cond_t rfl (rfl) ?_
      refine TW.seq_k ?_
      intro K13_ hK13_
      refine TW.reg ?_
      refine TL.st rfl (S_move rfl) ?_
      intro σ_ hσ_; simp only [nrm, tev, St.step, putO, setsV, addO, ↓reduceIte, Nat.reduceAdd, logT, atT, intern, internL, kp_ents, logR, logE] at hσ_; subst hσ_
      refine TL.st rfl (S_assign rfl) ?_
      intro σ_ hσ_; simp only [nrm, tev, St.step, putO, setsV, addO, ↓reduceIte, Nat.reduceAdd, logT, atT, intern, internL, kp_ents, logR, logE] at hσ_; subst hσ_
      refine TL.st rfl (S_assign rfl) ?_
      intro σ_ hσ_; simp only [nrm, tev, St.step, putO, setsV, addO, ↓reduceIte, Nat.reduceAdd, logT, atT, intern, internL, kp_ents, logR, logE] at hσ_; subst hσ_
      refine TL.nil ?_
      try simp (decide := true) only [thenT, inBlockT, noGotoT, jumpT, ↓reduceIte, true_and]
      refine hK13_ _ ?_
      refine TW.ret ?_
      try simp (decide := true) only [thenT, inBlockT, noGotoT, jumpT, ↓reduceIte, true_and]
      refine ⟨.inr rfl, _, none, (ResT.two Try.results48 rfl rfl), ?_, (by rintro _ ⟨⟩)⟩
      simp only [nrm, tev, Out_v, Out_agg, Out_tup, OutL_nil, OutL_cons, Out_sl, Out_row_osl, Out_nil_osl, Out_nil_sl, Out_nil_nil, and_true, true_and, logT, atT, logR, logE, fr_ents, hf, List.getD_cons_zero, List.getD_cons_succ]
      simp [aheadN, hm, hx, hk]
  · skip
    first | refine TL.st rfl (S_call_row rfl rfl rfl (by kernel_rfl) rfl ((may_T _ _ _ _ _ h.w h.n9 hi0 hi1).eq rfl (by rw [hm])) rfl) ?_ | refine TL.st rfl (S_call rfl rfl rfl (by kernel_rfl) rfl ((may_T _ _ _ _ _ h.w h.n9 hi0 hi1).eq rfl (by rw [hm]))) ?_
    intro σ_ hσ_; simp only [nrm, tev, St.step, putO, setsV, addO, ↓reduceIte, Nat.reduceAdd, logT, atT, intern, internL, kp_ents, logR, logE] at hσ_; subst hσ_
    first | refine TL.st rfl (S_not rfl rfl) ?_ | refine TL.st rfl (S_neg rfl rfl) ?_
    intro σ_ hσ_; simp only [nrm, tev, St.step, putO, setsV, addO, ↓reduceIte, Nat.reduceAdd, logT, atT, intern, internL, kp_ents, logR, logE] at hσ_; subst hσ_
    refine TL.nil ?_
    try simp (decide := true) only [thenT, inBlockT, noGotoT, jumpT, ↓reduceIte, true_and]
    refine hK4_ _ ?_
    refine TW.cond_f rfl (rfl) ?_
    refine TW.skip ?_
    try simp (decide := true) only [thenT, inBlockT, noGotoT, jumpT, ↓reduceIte, true_and]
    refine hK3_ _ ?_
    refine TW.seq_k ?_
    intro K14_ hK14_
    refine TW.seq_k ?_
    intro K15_ hK15_
    refine TW.reg ?_
    refine TL.st rfl (S_move rfl) ?_
    intro σ_ hσ_; simp only [nrm, tev, St.step, putO, setsV, addO, ↓reduceIte, Nat.reduceAdd, logT, atT, intern, internL, kp_ents, logR, logE] at hσ_; subst hσ_
    first | refine TL.st rfl (S_int rfl rfl rfl rfl (vbt (by omega))) ?_ | refine TL.st rfl (S_int rfl rfl rfl rfl (vbf (by omega))) ?_ | refine TL.st rfl (S_int rfl rfl rfl rfl rfl) ?_
    intro σ_ hσ_; simp only [nrm, tev, St.step, putO, setsV, addO, ↓reduceIte, Nat.reduceAdd, logT, atT, intern, internL, kp_ents, logR, logE] at hσ_; subst hσ_
    refine TL.nil ?_
    try simp (decide := true) only [thenT, inBlockT, noGotoT, jumpT, ↓reduceIte, true_and]
    refine hK15_ _ ?_
    refine TW.cond_f rfl (rfl) ?_
    refine TW.skip ?_
    try simp (decide := true) only [thenT, inBlockT, noGotoT, jumpT, ↓reduceIte, true_and]
    refine hK14_ _ ?_
    refine TW.seq_k ?_
    intro K16_ hK16_
    refine TW.seq_k ?_
    intro K17_ hK17_
    refine TW.reg ?_
    refine TL.st rfl (S_move rfl) ?_
    intro σ_ hσ_; simp only [nrm, tev, St.step, putO, setsV, addO, ↓reduceIte, Nat.reduceAdd, logT, atT, intern, internL, kp_ents, logR, logE] at hσ_; subst hσ_
    first | refine TL.st rfl (S_int rfl rfl rfl rfl (vbt (by omega))) ?_ | refine TL.st rfl (S_int rfl rfl rfl rfl (vbf (by omega))) ?_ | refine TL.st rfl (S_int rfl rfl rfl rfl rfl) ?_
    intro σ_ hσ_; simp only [nrm, tev, St.step, putO, setsV, addO, ↓reduceIte, Nat.reduceAdd, logT, atT, intern, internL, kp_ents, logR, logE] at hσ_; subst hσ_
    refine TL.nil ?_
    try simp (decide := true) only [thenT, inBlockT, noGotoT, jumpT, ↓reduceIte, true_and]
    refine hK17_ _ ?_
    refine TW.cond_t rfl (rfl) ?_
    refine TW.seq_k ?_
    intro K18_ hK18_
    refine TW.reg ?_
    refine TL.st rfl (S_move rfl) ?_
    intro σ_ hσ_; simp only [nrm, tev, St.step, putO, setsV, addO, ↓reduceIte, Nat.reduceAdd, logT, atT, intern, internL, kp_ents, logR, logE] at hσ_; subst hσ_
    refine TL.st rfl (S_assign rfl) ?_
    intro σ_ hσ_; simp only [nrm, tev, St.step, putO, setsV, addO, ↓reduceIte, Nat.reduceAdd, logT, atT, intern, internL, kp_ents, logR, logE] at hσ_; subst hσ_
    refine TL.st rfl (S_assign rfl) ?_
    intro σ_ hσ_; simp only [nrm, tev, St.step, putO, setsV, addO, ↓reduceIte, Nat.reduceAdd, logT, atT, intern, internL, kp_ents, logR, logE] at hσ_; subst hσ_
    refine TL.nil ?_
    try simp (decide := true) only [thenT, inBlockT, noGotoT, jumpT, ↓reduceIte, true_and]
    refine hK18_ _ ?_
    refine TW.ret ?_
    try simp (decide := true) only [thenT, inBlockT, noGotoT, jumpT, ↓reduceIte, true_and]
    refine ⟨.inr rfl, _, none, (ResT.two Try.results48 rfl rfl), ?_, (by rintro _ ⟨⟩)⟩
    simp only [nrm, tev, Out_v, Out_agg, Out_tup, OutL_nil, OutL_cons, Out_sl, Out_row_osl, Out_nil_osl, Out_nil_sl, Out_nil_nil, and_true, true_and, logT, atT, logR, logE, fr_ents, hf, List.getD_cons_zero, List.getD_cons_succ]
    simp [aheadN, hm, hx]


theorem ahead_cases (i t : Int) (es : List Ent) (x : Int) : (∃ k : Nat, k ≤ es.length ∧ aheadN i t es x = ((k : Int), 0) ∧ mayB i t es = true ∧ 0 < x ∧ (i + k) % 18446744073709551616 = x - 1) ∨ (∃ e : Int, (e = 4 ∨ e = 160) ∧ aheadN i t es x = (-1, e)) := by
  unfold aheadN
  cases hm : mayB i t es with
  | false => exact .inr ⟨160, .inr rfl, by simp⟩
  | true =>
    rcases ofN_cases i (x - 1) es.length with ⟨k, h1, h2, h3, _⟩ | ⟨h2, _⟩
    · by_cases hx : 0 < x
      · exact .inl ⟨k, h1, by simp [hx, h2], rfl, hx, h3⟩
      · exact .inr ⟨4, .inl rfl, by simp [hx]⟩
    · exact .inr ⟨4, .inl rfl, by simp [h2]⟩
section
variable (b b' : Bool) (i t : Int) (es : List Ent) (h : okE es) (hi0 : 0 ≤ i) (hi1 : i < 18446744073709551616)
include h hi0 hi1
theorem part0_T (k : Nat) (hk : k ≤ es.length) : TMeets Try.prog 49 [logT i t (.sl b (es.map (entC b'))), .v (.int .i64 0), .v (.int .i64 k)] (logR i t (es.take k)) := by
  have := part_T b b' i t es h.w h.n9 hi0 hi1 h.d12 0 k (Nat.zero_le _) hk
  rw [spot0 t es hi0 hi1] at this
  exact this
theorem partm_T (k m : Nat) (hk : k + m ≤ es.length) : TMeets Try.prog 49 [logT i t (.sl b (es.map (entC b'))), .v (.int .i64 k), .v (.int .i64 (k + m))] (logR (spotN i t es k).1 (spotN i t es k).2 ((es.drop k).take m)) := by
  have := part_T b b' i t es h.w h.n9 hi0 hi1 h.d12 k (k + m) (by omega) hk
  rw [List.drop_take, show k + m - k = m by omega] at this
  exact this
end
/-- What Cut says. -/
def cutL (i t : Int) (es : List Ent) (x : Int) : List Ent := es.take (aheadN i t es x).1.toNat
def compE (i t : Int) (es : List Ent) (x : Int) : Int := if mayB i t es = true then (if 0 ≤ ofN i x es.length then 0 else 4) else 160

set_option maxRecDepth 20000 in
set_option maxHeartbeats 1000000 in
theorem cut_T (b b' : Bool) (i t : Int) (es : List Ent) (h : okE es) (hi0 : 0 ≤ i) (hi1 : i < 18446744073709551616) (x : Int) (hx0 : 0 ≤ x) (hx1 : x < 18446744073709551616) :
    TMeets Try.prog 14 [logT i t (.sl b (es.map (entC b'))), .v (.int .u64 x)] (.tup [logE (aheadN i t es x).2 i t (cutL i t es x), .v (.int .i64 (aheadN i t es x).2)]) := by
  refine TMeets.of_TW Try.func14 rfl (by simp [PuL, Pu, logT, atT, pu_ents]) ?_
  intro B w0
  rw [Try.ntmps14]
  simp only [untagL, untag, List.length_cons, List.length_nil, List.replicate_succ, List.replicate_zero, Nat.reduceAdd, Nat.reduceSub, List.cons_append, List.nil_append, logT, atT, untag_ents]
  refine TW.seq_k ?_
  intro K1_ hK1_
  refine TW.reg ?_
  refine TL.st rfl (S_box rfl rfl) ?_
  intro σ_ hσ_; simp only [nrm, tev, St.step, putO, setsV, addO, ↓reduceIte, Nat.reduceAdd, logT, atT, intern, internL, kp_ents, logR, logE] at hσ_; subst hσ_
  refine TL.st rfl (S_alloc rfl (zT rfl) rfl) ?_
  intro σ_ hσ_; simp only [nrm, tev, St.step, putO, setsV, addO, ↓reduceIte, Nat.reduceAdd, logT, atT, intern, internL, kp_ents, logR, logE] at hσ_; subst hσ_
  refine TL.st rfl (S_assign rfl) ?_
  intro σ_ hσ_; simp only [nrm, tev, St.step, putO, setsV, addO, ↓reduceIte, Nat.reduceAdd, logT, atT, intern, internL, kp_ents, logR, logE] at hσ_; subst hσ_
  refine TL.nil ?_
  try simp (decide := true) only [thenT, inBlockT, noGotoT, jumpT, ↓reduceIte, true_and]
  refine hK1_ _ ?_
  refine TW.seq_k ?_
  intro K2_ hK2_
  refine TW.reg ?_
  first | refine TL.st rfl (S_load rfl rfl rfl (tT rfl) rfl) ?_ | refine TL.st rfl (S_load_eptr rfl rfl (tT rfl) rfl) ?_ | refine TL.st rfl (S_load_row rfl rfl rfl rfl (by assumption) (tT rfl) rfl) ?_ | refine TL.st rfl (S_load_row (j := 0) rfl rfl rfl rfl (by assumption) (tT rfl) rfl) ?_
  intro σ_ hσ_; simp only [nrm, tev, St.step, putO, setsV, addO, ↓reduceIte, Nat.reduceAdd, logT, atT, intern, internL, kp_ents, logR, logE] at hσ_; subst hσ_
  refine TL.st rfl (S_build rfl (tT rfl) rfl (zT rfl) rfl (by repeat (first | exact PlOk.nil | (apply PlOk.cons; exact tT rfl))) rfl rfl) ?_
  intro σ_ hσ_; simp only [nrm, tev, St.step, putO, setsV, addO, ↓reduceIte, Nat.reduceAdd, logT, atT, intern, internL, kp_ents, logR, logE] at hσ_; subst hσ_
  refine TL.st rfl (S_alloc rfl (zT rfl) rfl) ?_
  intro σ_ hσ_; simp only [nrm, tev, St.step, putO, setsV, addO, ↓reduceIte, Nat.reduceAdd, logT, atT, intern, internL, kp_ents, logR, logE] at hσ_; subst hσ_
  first | refine TL.sto rfl rfl rfl rfl (tT rfl) rfl rfl rfl (Nat.le_of_ble_eq_true rfl) ?_ | refine TL.sto_row rfl rfl rfl rfl rfl (by assumption) (tT rfl) rfl rfl rfl (Nat.le_of_ble_eq_true rfl) ?_ | refine TL.sto_row (j := 0) rfl rfl rfl rfl rfl (by assumption) (tT rfl) rfl rfl rfl (Nat.le_of_ble_eq_true rfl) ?_
  intro σ_ hσ_; simp only [nrm, tev, St.step, putO, setsV, addO, ↓reduceIte, Nat.reduceAdd, logT, atT, intern, internL, kp_ents, logR, logE] at hσ_; subst hσ_
  refine TL.nil ?_
  try simp (decide := true) only [thenT, inBlockT, noGotoT, jumpT, ↓reduceIte, true_and]
  refine hK2_ _ ?_
  refine TW.seq_k ?_
  intro K3_ hK3_
  refine TW.reg ?_
  first | refine TL.st rfl (S_load rfl rfl rfl (tT rfl) rfl) ?_ | refine TL.st rfl (S_load_eptr rfl rfl (tT rfl) rfl) ?_ | refine TL.st rfl (S_load_row rfl rfl rfl rfl (by assumption) (tT rfl) rfl) ?_ | refine TL.st rfl (S_load_row (j := 0) rfl rfl rfl rfl (by assumption) (tT rfl) rfl) ?_
  intro σ_ hσ_; simp only [nrm, tev, St.step, putO, setsV, addO, ↓reduceIte, Nat.reduceAdd, logT, atT, intern, internL, kp_ents, logR, logE] at hσ_; subst hσ_
  refine TL.st rfl (S_move rfl) ?_
  intro σ_ hσ_; simp only [nrm, tev, St.step, putO, setsV, addO, ↓reduceIte, Nat.reduceAdd, logT, atT, intern, internL, kp_ents, logR, logE] at hσ_; subst hσ_
  rcases ahead_cases i t es x with ⟨k, hkn, hk, hk1, hk2, hk3⟩ | ⟨e, he, hk⟩
  · skip
    first | refine TL.st rfl (S_call_row rfl rfl rfl (by kernel_rfl) rfl ((ahead_T _ _ _ _ _ h hi0 hi1 x hx0 hx1).eq rfl (by rw [hk])) rfl) ?_ | refine TL.st rfl (S_call rfl rfl rfl (by kernel_rfl) rfl ((ahead_T _ _ _ _ _ h hi0 hi1 x hx0 hx1).eq rfl (by rw [hk]))) ?_
    intro σ_ hσ_; simp only [nrm, tev, St.step, putO, setsV, addO, ↓reduceIte, Nat.reduceAdd, logT, atT, intern, internL, kp_ents, logR, logE] at hσ_; subst hσ_
    refine TL.st rfl (S_move rfl) ?_
    intro σ_ hσ_; simp only [nrm, tev, St.step, putO, setsV, addO, ↓reduceIte, Nat.reduceAdd, logT, atT, intern, internL, kp_ents, logR, logE] at hσ_; subst hσ_
    refine TL.st rfl (S_extract rfl rfl rfl) ?_
    intro σ_ hσ_; simp only [nrm, tev, St.step, putO, setsV, addO, ↓reduceIte, Nat.reduceAdd, logT, atT, intern, internL, kp_ents, logR, logE] at hσ_; subst hσ_
    refine TL.st rfl (S_extract rfl rfl rfl) ?_
    intro σ_ hσ_; simp only [nrm, tev, St.step, putO, setsV, addO, ↓reduceIte, Nat.reduceAdd, logT, atT, intern, internL, kp_ents, logR, logE] at hσ_; subst hσ_
    refine TL.st rfl (S_assign rfl) ?_
    intro σ_ hσ_; simp only [nrm, tev, St.step, putO, setsV, addO, ↓reduceIte, Nat.reduceAdd, logT, atT, intern, internL, kp_ents, logR, logE] at hσ_; subst hσ_
    refine TL.st rfl (S_assign rfl) ?_
    intro σ_ hσ_; simp only [nrm, tev, St.step, putO, setsV, addO, ↓reduceIte, Nat.reduceAdd, logT, atT, intern, internL, kp_ents, logR, logE] at hσ_; subst hσ_
    refine TL.nil ?_
    try simp (decide := true) only [thenT, inBlockT, noGotoT, jumpT, ↓reduceIte, true_and]
    refine hK3_ _ ?_
    refine TW.seq_k ?_
    intro K4_ hK4_
    refine TW.seq_k ?_
    intro K5_ hK5_
    refine TW.reg ?_
    refine TL.st rfl (S_move rfl) ?_
    intro σ_ hσ_; simp only [nrm, tev, St.step, putO, setsV, addO, ↓reduceIte, Nat.reduceAdd, logT, atT, intern, internL, kp_ents, logR, logE] at hσ_; subst hσ_
    first | refine TL.st rfl (S_int rfl rfl rfl rfl (vnt (by omega))) ?_ | refine TL.st rfl (S_int rfl rfl rfl rfl (vnf (by omega))) ?_ | refine TL.st rfl (S_int rfl rfl rfl rfl rfl) ?_ | refine TL.st rfl (S_boolneq rfl rfl rfl rfl (tT rfl) rfl) ?_
    intro σ_ hσ_; simp only [nrm, tev, St.step, putO, setsV, addO, ↓reduceIte, Nat.reduceAdd, logT, atT, intern, internL, kp_ents, logR, logE] at hσ_; subst hσ_
    refine TL.nil ?_
    try simp (decide := true) only [thenT, inBlockT, noGotoT, jumpT, ↓reduceIte, true_and]
    refine hK5_ _ ?_
    refine TW.cond_f rfl (rfl) ?_
    refine TW.skip ?_
    try simp (decide := true) only [thenT, inBlockT, noGotoT, jumpT, ↓reduceIte, true_and]
    refine hK4_ _ ?_
    refine TW.seq_k ?_
    intro K6_ hK6_
    refine TW.reg ?_
    first | refine TL.st rfl (S_load rfl rfl rfl (tT rfl) rfl) ?_ | refine TL.st rfl (S_load_eptr rfl rfl (tT rfl) rfl) ?_ | refine TL.st rfl (S_load_row rfl rfl rfl rfl (by assumption) (tT rfl) rfl) ?_ | refine TL.st rfl (S_load_row (j := 0) rfl rfl rfl rfl (by assumption) (tT rfl) rfl) ?_
    intro σ_ hσ_; simp only [nrm, tev, St.step, putO, setsV, addO, ↓reduceIte, Nat.reduceAdd, logT, atT, intern, internL, kp_ents, logR, logE] at hσ_; subst hσ_
    refine TL.st rfl (S_move rfl) ?_
    intro σ_ hσ_; simp only [nrm, tev, St.step, putO, setsV, addO, ↓reduceIte, Nat.reduceAdd, logT, atT, intern, internL, kp_ents, logR, logE] at hσ_; subst hσ_
    first | refine TL.st rfl (S_call_row rfl rfl rfl (by kernel_rfl) rfl (part0_T _ _ _ _ _ h hi0 hi1 _ hkn) rfl) ?_ | refine TL.st rfl (S_call rfl rfl rfl (by kernel_rfl) rfl (part0_T _ _ _ _ _ h hi0 hi1 _ hkn)) ?_
    intro σ_ hσ_; simp only [nrm, tev, St.step, putO, setsV, addO, ↓reduceIte, Nat.reduceAdd, logT, atT, intern, internL, kp_ents, logR, logE] at hσ_; subst hσ_
    refine TL.st rfl (S_field rfl rfl (tT rfl) rfl rfl (tT rfl) rfl) ?_
    intro σ_ hσ_; simp only [nrm, tev, St.step, putO, setsV, addO, ↓reduceIte, Nat.reduceAdd, logT, atT, intern, internL, kp_ents, logR, logE] at hσ_; subst hσ_
    first | refine TL.sto rfl rfl rfl rfl (tT rfl) rfl rfl rfl (Nat.le_of_ble_eq_true rfl) ?_ | refine TL.sto_row rfl rfl rfl rfl rfl (by assumption) (tT rfl) rfl rfl rfl (Nat.le_of_ble_eq_true rfl) ?_ | refine TL.sto_row (j := 0) rfl rfl rfl rfl rfl (by assumption) (tT rfl) rfl rfl rfl (Nat.le_of_ble_eq_true rfl) ?_
    intro σ_ hσ_; simp only [nrm, tev, St.step, putO, setsV, addO, ↓reduceIte, Nat.reduceAdd, logT, atT, intern, internL, kp_ents, logR, logE] at hσ_; subst hσ_
    refine TL.st rfl (S_assign rfl) ?_
    intro σ_ hσ_; simp only [nrm, tev, St.step, putO, setsV, addO, ↓reduceIte, Nat.reduceAdd, logT, atT, intern, internL, kp_ents, logR, logE] at hσ_; subst hσ_
    refine TL.nil ?_
    try simp (decide := true) only [thenT, inBlockT, noGotoT, jumpT, ↓reduceIte, true_and]
    refine hK6_ _ ?_
    refine TW.ret ?_
    try simp (decide := true) only [thenT, inBlockT, noGotoT, jumpT, ↓reduceIte, true_and]
    refine ⟨.inr rfl, _, some 3, (ResT.two Try.results14 ⟨_, _, _, _, _, rfl, rfl, tT rfl, rfl⟩ rfl), ?_, (by rintro _ ⟨⟩; trivial)⟩
    simp (decide := true) only [cutL, hk, logE, ↓reduceIte, Int.toNat_natCast]
    simp only [nrm, tev, Out_v, Out_agg, Out_tup, OutL_nil, OutL_cons, Out_sl, Out_row_osl, Out_nil_osl, Out_nil_sl, Out_nil_nil, and_true, true_and, logT, atT, logR, logE, fr_ents, hf, List.getD_cons_zero, List.getD_cons_succ]
    try simp
  · skip
    have hne : ¬ e = 0 := by omega
    first | refine TL.st rfl (S_call_row rfl rfl rfl (by kernel_rfl) rfl ((ahead_T _ _ _ _ _ h hi0 hi1 x hx0 hx1).eq rfl (by rw [hk])) rfl) ?_ | refine TL.st rfl (S_call rfl rfl rfl (by kernel_rfl) rfl ((ahead_T _ _ _ _ _ h hi0 hi1 x hx0 hx1).eq rfl (by rw [hk]))) ?_
    intro σ_ hσ_; simp only [nrm, tev, St.step, putO, setsV, addO, ↓reduceIte, Nat.reduceAdd, logT, atT, intern, internL, kp_ents, logR, logE] at hσ_; subst hσ_
    refine TL.st rfl (S_move rfl) ?_
    intro σ_ hσ_; simp only [nrm, tev, St.step, putO, setsV, addO, ↓reduceIte, Nat.reduceAdd, logT, atT, intern, internL, kp_ents, logR, logE] at hσ_; subst hσ_
    refine TL.st rfl (S_extract rfl rfl rfl) ?_
    intro σ_ hσ_; simp only [nrm, tev, St.step, putO, setsV, addO, ↓reduceIte, Nat.reduceAdd, logT, atT, intern, internL, kp_ents, logR, logE] at hσ_; subst hσ_
    refine TL.st rfl (S_extract rfl rfl rfl) ?_
    intro σ_ hσ_; simp only [nrm, tev, St.step, putO, setsV, addO, ↓reduceIte, Nat.reduceAdd, logT, atT, intern, internL, kp_ents, logR, logE] at hσ_; subst hσ_
    refine TL.st rfl (S_assign rfl) ?_
    intro σ_ hσ_; simp only [nrm, tev, St.step, putO, setsV, addO, ↓reduceIte, Nat.reduceAdd, logT, atT, intern, internL, kp_ents, logR, logE] at hσ_; subst hσ_
    refine TL.st rfl (S_assign rfl) ?_
    intro σ_ hσ_; simp only [nrm, tev, St.step, putO, setsV, addO, ↓reduceIte, Nat.reduceAdd, logT, atT, intern, internL, kp_ents, logR, logE] at hσ_; subst hσ_
    refine TL.nil ?_
    try simp (decide := true) only [thenT, inBlockT, noGotoT, jumpT, ↓reduceIte, true_and]
    refine hK3_ _ ?_
    refine TW.seq_k ?_
    intro K7_ hK7_
    refine TW.seq_k ?_
    intro K8_ hK8_
    refine TW.reg ?_
    refine TL.st rfl (S_move rfl) ?_
    intro σ_ hσ_; simp only [nrm, tev, St.step, putO, setsV, addO, ↓reduceIte, Nat.reduceAdd, logT, atT, intern, internL, kp_ents, logR, logE] at hσ_; subst hσ_
    first | refine TL.st rfl (S_int rfl rfl rfl rfl (vnt (by omega))) ?_ | refine TL.st rfl (S_int rfl rfl rfl rfl (vnf (by omega))) ?_ | refine TL.st rfl (S_int rfl rfl rfl rfl rfl) ?_ | refine TL.st rfl (S_boolneq rfl rfl rfl rfl (tT rfl) rfl) ?_
    intro σ_ hσ_; simp only [nrm, tev, St.step, putO, setsV, addO, ↓reduceIte, Nat.reduceAdd, logT, atT, intern, internL, kp_ents, logR, logE] at hσ_; subst hσ_
    refine TL.nil ?_
    try simp (decide := true) only [thenT, inBlockT, noGotoT, jumpT, ↓reduceIte, true_and]
    refine hK8_ _ ?_
    refine TW.cond_t rfl (rfl) ?_
    refine TW.seq_k ?_
    intro K9_ hK9_
    refine TW.reg ?_
    refine TL.st rfl (S_build rfl (tT rfl) rfl (zT rfl) rfl (by repeat (first | exact PlOk.nil | (apply PlOk.cons; exact tT rfl))) rfl rfl) ?_
    intro σ_ hσ_; simp only [nrm, tev, St.step, putO, setsV, addO, ↓reduceIte, Nat.reduceAdd, logT, atT, intern, internL, kp_ents, logR, logE] at hσ_; subst hσ_
    refine TL.st rfl (S_move rfl) ?_
    intro σ_ hσ_; simp only [nrm, tev, St.step, putO, setsV, addO, ↓reduceIte, Nat.reduceAdd, logT, atT, intern, internL, kp_ents, logR, logE] at hσ_; subst hσ_
    first | refine TL.sto rfl rfl rfl rfl (tT rfl) rfl rfl rfl (Nat.le_of_ble_eq_true rfl) ?_ | refine TL.sto_row rfl rfl rfl rfl rfl (by assumption) (tT rfl) rfl rfl rfl (Nat.le_of_ble_eq_true rfl) ?_ | refine TL.sto_row (j := 0) rfl rfl rfl rfl rfl (by assumption) (tT rfl) rfl rfl rfl (Nat.le_of_ble_eq_true rfl) ?_
    intro σ_ hσ_; simp only [nrm, tev, St.step, putO, setsV, addO, ↓reduceIte, Nat.reduceAdd, logT, atT, intern, internL, kp_ents, logR, logE] at hσ_; subst hσ_
    refine TL.st rfl (S_assign rfl) ?_
    intro σ_ hσ_; simp only [nrm, tev, St.step, putO, setsV, addO, ↓reduceIte, Nat.reduceAdd, logT, atT, intern, internL, kp_ents, logR, logE] at hσ_; subst hσ_
    refine TL.nil ?_
    try simp (decide := true) only [thenT, inBlockT, noGotoT, jumpT, ↓reduceIte, true_and]
    refine hK9_ _ ?_
    refine TW.ret ?_
    try simp (decide := true) only [thenT, inBlockT, noGotoT, jumpT, ↓reduceIte, true_and]
    refine ⟨.inr rfl, _, none, (ResT.two Try.results14 ⟨_, _, _, _, _, rfl, rfl, tT rfl, rfl⟩ rfl), ?_, (by rintro _ ⟨⟩)⟩
    simp (decide := true) only [cutL, hk, logE, hne, ↓reduceIte]
    simp only [nrm, tev, Out_v, Out_agg, Out_tup, OutL_nil, OutL_cons, Out_sl, Out_row_osl, Out_nil_osl, Out_nil_sl, Out_nil_nil, and_true, true_and, logT, atT, logR, logE, fr_ents, hf, List.getD_cons_zero, List.getD_cons_succ]
    try simp

set_option maxRecDepth 20000 in
set_option maxHeartbeats 1000000 in
theorem ext_T (b b' : Bool) (i t : Int) (es : List Ent) (h : okE es) (hi0 : 0 ≤ i) (hi1 : i < 18446744073709551616) (b2 b2' : Bool) (more : List Ent) (h2 : okE more) :
    TMeets Try.prog 46 [logT i t (.sl b (es.map (entC b'))), .sl b2 (more.map (entC b2'))] (.tup [logE (extE i t es more) i t (es ++ more), .v (.int .i64 (extE i t es more))]) := by
  refine TMeets.of_TW Try.func46 rfl (by simp [PuL, Pu, logT, atT, pu_ents]) ?_
  intro B w0
  rw [Try.ntmps46]
  simp only [untagL, untag, List.length_cons, List.length_nil, List.replicate_succ, List.replicate_zero, Nat.reduceAdd, Nat.reduceSub, List.cons_append, List.nil_append, logT, atT, untag_ents]
  have hb1_ := h.n; have hb2_ := h2.n
  refine TW.seq_k ?_
  intro K1_ hK1_
  refine TW.reg ?_
  refine TL.st rfl (S_box rfl rfl) ?_
  intro σ_ hσ_; simp only [nrm, tev, St.step, putO, setsV, addO, ↓reduceIte, Nat.reduceAdd, logT, atT, intern, internL, kp_ents, logR, logE] at hσ_; subst hσ_
  refine TL.st rfl (S_alloc rfl (zT rfl) rfl) ?_
  intro σ_ hσ_; simp only [nrm, tev, St.step, putO, setsV, addO, ↓reduceIte, Nat.reduceAdd, logT, atT, intern, internL, kp_ents, logR, logE] at hσ_; subst hσ_
  refine TL.st rfl (S_assign rfl) ?_
  intro σ_ hσ_; simp only [nrm, tev, St.step, putO, setsV, addO, ↓reduceIte, Nat.reduceAdd, logT, atT, intern, internL, kp_ents, logR, logE] at hσ_; subst hσ_
  refine TL.nil ?_
  try simp (decide := true) only [thenT, inBlockT, noGotoT, jumpT, ↓reduceIte, true_and]
  refine hK1_ _ ?_
  refine TW.seq_k ?_
  intro K2_ hK2_
  refine TW.reg ?_
  first | refine TL.st rfl (S_load rfl rfl rfl (tT rfl) rfl) ?_ | refine TL.st rfl (S_load_eptr rfl rfl (tT rfl) rfl) ?_ | refine TL.st rfl (S_load_row rfl rfl rfl rfl (by assumption) (tT rfl) rfl) ?_ | refine TL.st rfl (S_load_row (j := 0) rfl rfl rfl rfl (by assumption) (tT rfl) rfl) ?_
  intro σ_ hσ_; simp only [nrm, tev, St.step, putO, setsV, addO, ↓reduceIte, Nat.reduceAdd, logT, atT, intern, internL, kp_ents, logR, logE] at hσ_; subst hσ_
  first | refine TL.st rfl (S_call_row rfl rfl rfl (by kernel_rfl) rfl (end_T _ _ _ _ _ h.w h.n9 hi0 hi1) rfl) ?_ | refine TL.st rfl (S_call rfl rfl rfl (by kernel_rfl) rfl (end_T _ _ _ _ _ h.w h.n9 hi0 hi1)) ?_
  intro σ_ hσ_; simp only [nrm, tev, St.step, putO, setsV, addO, ↓reduceIte, Nat.reduceAdd, logT, atT, intern, internL, kp_ents, logR, logE] at hσ_; subst hσ_
  refine TL.st rfl (S_alloc rfl (zT rfl) rfl) ?_
  intro σ_ hσ_; simp only [nrm, tev, St.step, putO, setsV, addO, ↓reduceIte, Nat.reduceAdd, logT, atT, intern, internL, kp_ents, logR, logE] at hσ_; subst hσ_
  first | refine TL.sto rfl rfl rfl rfl (tT rfl) rfl rfl rfl (Nat.le_of_ble_eq_true rfl) ?_ | refine TL.sto_row rfl rfl rfl rfl rfl (by assumption) (tT rfl) rfl rfl rfl (Nat.le_of_ble_eq_true rfl) ?_ | refine TL.sto_row (j := 0) rfl rfl rfl rfl rfl (by assumption) (tT rfl) rfl rfl rfl (Nat.le_of_ble_eq_true rfl) ?_
  intro σ_ hσ_; simp only [nrm, tev, St.step, putO, setsV, addO, ↓reduceIte, Nat.reduceAdd, logT, atT, intern, internL, kp_ents, logR, logE] at hσ_; subst hσ_
  refine TL.nil ?_
  try simp (decide := true) only [thenT, inBlockT, noGotoT, jumpT, ↓reduceIte, true_and]
  refine hK2_ _ ?_
  refine TW.seq_k ?_
  intro K3_ hK3_
  refine TW.block ?_
  refine TW.seq_k ?_
  intro K4_ hK4_
  refine TW.reg ?_
  refine TL.st rfl (S_move rfl) ?_
  intro σ_ hσ_; simp only [nrm, tev, St.step, putO, setsV, addO, ↓reduceIte, Nat.reduceAdd, logT, atT, intern, internL, kp_ents, logR, logE] at hσ_; subst hσ_
  first | refine TL.st rfl (S_fieldAddr rfl rfl (tT rfl) rfl rfl (tT rfl) (by decide)) ?_ | refine TL.st rfl (S_fieldAddr_eptr rfl rfl (tT rfl) rfl rfl (tT rfl) (by decide)) ?_
  intro σ_ hσ_; simp only [nrm, tev, St.step, putO, setsV, addO, ↓reduceIte, Nat.reduceAdd, logT, atT, intern, internL, kp_ents, logR, logE] at hσ_; subst hσ_
  first | refine TL.st rfl (S_load rfl rfl rfl (tT rfl) rfl) ?_ | refine TL.st rfl (S_load_eptr rfl rfl (tT rfl) rfl) ?_ | refine TL.st rfl (S_load_row rfl rfl rfl rfl (by assumption) (tT rfl) rfl) ?_ | refine TL.st rfl (S_load_row (j := 0) rfl rfl rfl rfl (by assumption) (tT rfl) rfl) ?_
  intro σ_ hσ_; simp only [nrm, tev, St.step, putO, setsV, addO, ↓reduceIte, Nat.reduceAdd, logT, atT, intern, internL, kp_ents, logR, logE] at hσ_; subst hσ_
  cases hst : standB more (spotN i t es es.length).2
  · skip
    first | refine TL.st rfl (S_call_row rfl rfl rfl (by kernel_rfl) rfl ((stand_T _ _ _ h2.w h2.n9 _).eq rfl (by rw [hst])) rfl) ?_ | refine TL.st rfl (S_call rfl rfl rfl (by kernel_rfl) rfl ((stand_T _ _ _ h2.w h2.n9 _).eq rfl (by rw [hst]))) ?_
    intro σ_ hσ_; simp only [nrm, tev, St.step, putO, setsV, addO, ↓reduceIte, Nat.reduceAdd, logT, atT, intern, internL, kp_ents, logR, logE] at hσ_; subst hσ_
    first | refine TL.st rfl (S_not rfl rfl) ?_ | refine TL.st rfl (S_neg rfl rfl) ?_
    intro σ_ hσ_; simp only [nrm, tev, St.step, putO, setsV, addO, ↓reduceIte, Nat.reduceAdd, logT, atT, intern, internL, kp_ents, logR, logE] at hσ_; subst hσ_
    refine TL.st rfl (S_assign rfl) ?_
    intro σ_ hσ_; simp only [nrm, tev, St.step, putO, setsV, addO, ↓reduceIte, Nat.reduceAdd, logT, atT, intern, internL, kp_ents, logR, logE] at hσ_; subst hσ_
    refine TL.nil ?_
    try simp (decide := true) only [thenT, inBlockT, noGotoT, jumpT, ↓reduceIte, true_and]
    refine hK4_ _ ?_
    refine TW.cond_t rfl (rfl) ?_
    refine TW.seq_k ?_
    intro K5_ hK5_
    refine TW.reg ?_
    refine TL.st rfl (S_build rfl (tT rfl) rfl (zT rfl) rfl (by repeat (first | exact PlOk.nil | (apply PlOk.cons; exact tT rfl))) rfl rfl) ?_
    intro σ_ hσ_; simp only [nrm, tev, St.step, putO, setsV, addO, ↓reduceIte, Nat.reduceAdd, logT, atT, intern, internL, kp_ents, logR, logE] at hσ_; subst hσ_
    first | refine TL.sto rfl rfl rfl rfl (tT rfl) rfl rfl rfl (Nat.le_of_ble_eq_true rfl) ?_ | refine TL.sto_row rfl rfl rfl rfl rfl (by assumption) (tT rfl) rfl rfl rfl (Nat.le_of_ble_eq_true rfl) ?_ | refine TL.sto_row (j := 0) rfl rfl rfl rfl rfl (by assumption) (tT rfl) rfl rfl rfl (Nat.le_of_ble_eq_true rfl) ?_
    intro σ_ hσ_; simp only [nrm, tev, St.step, putO, setsV, addO, ↓reduceIte, Nat.reduceAdd, logT, atT, intern, internL, kp_ents, logR, logE] at hσ_; subst hσ_
    refine TL.st rfl (S_assign rfl) ?_
    intro σ_ hσ_; simp only [nrm, tev, St.step, putO, setsV, addO, ↓reduceIte, Nat.reduceAdd, logT, atT, intern, internL, kp_ents, logR, logE] at hσ_; subst hσ_
    refine TL.nil ?_
    try simp (decide := true) only [thenT, inBlockT, noGotoT, jumpT, ↓reduceIte, true_and]
    refine hK5_ _ ?_
    refine TW.ret ?_
    try simp (decide := true) only [thenT, inBlockT, noGotoT, jumpT, ↓reduceIte, true_and]
    refine ⟨.inr rfl, _, none, (ResT.two Try.results46 ⟨_, _, _, _, _, rfl, rfl, tT rfl, rfl⟩ rfl), ?_, (by rintro _ ⟨⟩)⟩
    simp (decide := true) only [extE, hst, logE, Bool.false_eq_true, ↓reduceIte, show ¬ (2 : Int) = 0 by omega]
    simp only [nrm, tev, Out_v, Out_agg, Out_tup, OutL_nil, OutL_cons, Out_sl, Out_row_osl, Out_nil_osl, Out_nil_sl, Out_nil_nil, and_true, true_and, logT, atT, logR, logE, fr_ents, hf, List.getD_cons_zero, List.getD_cons_succ]
    try simp
  · skip
    first | refine TL.st rfl (S_call_row rfl rfl rfl (by kernel_rfl) rfl ((stand_T _ _ _ h2.w h2.n9 _).eq rfl (by rw [hst])) rfl) ?_ | refine TL.st rfl (S_call rfl rfl rfl (by kernel_rfl) rfl ((stand_T _ _ _ h2.w h2.n9 _).eq rfl (by rw [hst]))) ?_
    intro σ_ hσ_; simp only [nrm, tev, St.step, putO, setsV, addO, ↓reduceIte, Nat.reduceAdd, logT, atT, intern, internL, kp_ents, logR, logE] at hσ_; subst hσ_
    first | refine TL.st rfl (S_not rfl rfl) ?_ | refine TL.st rfl (S_neg rfl rfl) ?_
    intro σ_ hσ_; simp only [nrm, tev, St.step, putO, setsV, addO, ↓reduceIte, Nat.reduceAdd, logT, atT, intern, internL, kp_ents, logR, logE] at hσ_; subst hσ_
    refine TL.st rfl (S_assign rfl) ?_
    intro σ_ hσ_; simp only [nrm, tev, St.step, putO, setsV, addO, ↓reduceIte, Nat.reduceAdd, logT, atT, intern, internL, kp_ents, logR, logE] at hσ_; subst hσ_
    refine TL.nil ?_
    try simp (decide := true) only [thenT, inBlockT, noGotoT, jumpT, ↓reduceIte, true_and]
    refine hK4_ _ ?_
    refine TW.cond_f rfl (rfl) ?_
    refine TW.seq_k ?_
    intro K6_ hK6_
    rcases (show 16 < es.length + more.length ∨ (¬ 16 < es.length + more.length ∧ roomB (spotN i t es es.length).1 more.length = false) ∨ (¬ 16 < es.length + more.length ∧ roomB (spotN i t es es.length).1 more.length = true) by cases roomB (spotN i t es es.length).1 more.length <;> simp <;> omega) with h16 | ⟨h16, hrm⟩ | ⟨h16, hrm⟩
    · skip
      have hb1 := h.n; have hb2 := h2.n
      refine TW.reg ?_
      first | refine TL.st rfl (S_fieldAddr rfl rfl (tT rfl) rfl rfl (tT rfl) (by decide)) ?_ | refine TL.st rfl (S_fieldAddr_eptr rfl rfl (tT rfl) rfl rfl (tT rfl) (by decide)) ?_
      intro σ_ hσ_; simp only [nrm, tev, St.step, putO, setsV, addO, ↓reduceIte, Nat.reduceAdd, logT, atT, intern, internL, kp_ents, logR, logE] at hσ_; subst hσ_
      first | refine TL.st rfl (S_fieldAddr rfl rfl (tT rfl) rfl rfl (tT rfl) (by decide)) ?_ | refine TL.st rfl (S_fieldAddr_eptr rfl rfl (tT rfl) rfl rfl (tT rfl) (by decide)) ?_
      intro σ_ hσ_; simp only [nrm, tev, St.step, putO, setsV, addO, ↓reduceIte, Nat.reduceAdd, logT, atT, intern, internL, kp_ents, logR, logE] at hσ_; subst hσ_
      first | refine TL.st rfl (S_load rfl rfl rfl (tT rfl) rfl) ?_ | refine TL.st rfl (S_load_eptr rfl rfl (tT rfl) rfl) ?_ | refine TL.st rfl (S_load_row rfl rfl rfl rfl (by assumption) (tT rfl) rfl) ?_ | refine TL.st rfl (S_load_row (j := 0) rfl rfl rfl rfl (by assumption) (tT rfl) rfl) ?_
      intro σ_ hσ_; simp only [nrm, tev, St.step, putO, setsV, addO, ↓reduceIte, Nat.reduceAdd, logT, atT, intern, internL, kp_ents, logR, logE] at hσ_; subst hσ_
      first | refine TL.st rfl (S_len rfl rfl (tT rfl) rfl (.inl ⟨_, _, rfl, rfl⟩)) ?_ | refine TL.st rfl (S_len rfl rfl (tT rfl) rfl (.inr (.inl ⟨_, _, _, _, rfl, rfl, rfl⟩))) ?_ | refine TL.st rfl (S_len rfl rfl (tT rfl) rfl (.inr (.inr ⟨rfl, rfl⟩))) ?_ | refine TL.st rfl (S_len_str rfl rfl (tT rfl) rfl rfl) ?_ | refine TL.st rfl (S_len_arr rfl rfl (tT rfl) rfl) ?_
      intro σ_ hσ_; simp only [nrm, tev, St.step, putO, setsV, addO, ↓reduceIte, Nat.reduceAdd, logT, atT, intern, internL, kp_ents, logR, logE] at hσ_; subst hσ_
      refine TL.st rfl (S_move rfl) ?_
      intro σ_ hσ_; simp only [nrm, tev, St.step, putO, setsV, addO, ↓reduceIte, Nat.reduceAdd, logT, atT, intern, internL, kp_ents, logR, logE] at hσ_; subst hσ_
      first | refine TL.st rfl (S_len rfl rfl (tT rfl) rfl (.inl ⟨_, _, rfl, rfl⟩)) ?_ | refine TL.st rfl (S_len rfl rfl (tT rfl) rfl (.inr (.inl ⟨_, _, _, _, rfl, rfl, rfl⟩))) ?_ | refine TL.st rfl (S_len rfl rfl (tT rfl) rfl (.inr (.inr ⟨rfl, rfl⟩))) ?_ | refine TL.st rfl (S_len_str rfl rfl (tT rfl) rfl rfl) ?_ | refine TL.st rfl (S_len_arr rfl rfl (tT rfl) rfl) ?_
      intro σ_ hσ_; simp only [nrm, tev, St.step, putO, setsV, addO, ↓reduceIte, Nat.reduceAdd, logT, atT, intern, internL, kp_ents, logR, logE] at hσ_; subst hσ_
      first | refine TL.st rfl (S_int rfl rfl rfl rfl (vi64 (by omega))) ?_ | refine TL.st rfl (S_int rfl rfl rfl rfl (vu64 (by omega))) ?_ | refine TL.st rfl (S_int rfl rfl rfl rfl rfl) ?_
      intro σ_ hσ_; simp only [nrm, tev, St.step, putO, setsV, addO, ↓reduceIte, Nat.reduceAdd, logT, atT, intern, internL, kp_ents, logR, logE] at hσ_; subst hσ_
      first | refine TL.st rfl (S_int rfl rfl rfl rfl (vbt (by omega))) ?_ | refine TL.st rfl (S_int rfl rfl rfl rfl (vbf (by omega))) ?_ | refine TL.st rfl (S_int rfl rfl rfl rfl rfl) ?_
      intro σ_ hσ_; simp only [nrm, tev, St.step, putO, setsV, addO, ↓reduceIte, Nat.reduceAdd, logT, atT, intern, internL, kp_ents, logR, logE] at hσ_; subst hσ_
      refine TL.st rfl (S_move rfl) ?_
      intro σ_ hσ_; simp only [nrm, tev, St.step, putO, setsV, addO, ↓reduceIte, Nat.reduceAdd, logT, atT, intern, internL, kp_ents, logR, logE] at hσ_; subst hσ_
      first | refine TL.st_g rfl rfl rfl (Nat.le_of_ble_eq_true rfl) rfl (S_fieldAddr rfl rfl (tT rfl) rfl rfl (tT rfl) (by decide)) ?_ | refine TL.st_g rfl rfl rfl (Nat.le_of_ble_eq_true rfl) rfl (S_fieldAddr_eptr rfl rfl (tT rfl) rfl rfl (tT rfl) (by decide)) ?_ | refine TL.sk_g rfl rfl rfl (Nat.le_of_ble_eq_true rfl) rfl rfl ?_
      intro σ_ hσ_; simp only [nrm, tev, St.step, putO, setsV, addO, ↓reduceIte, Nat.reduceAdd, logT, atT, intern, internL, kp_ents, logR, logE] at hσ_; subst hσ_
      first | refine TL.st_g rfl rfl rfl (Nat.le_of_ble_eq_true rfl) rfl (S_load rfl rfl rfl (tT rfl) rfl) ?_ | refine TL.st_g rfl rfl rfl (Nat.le_of_ble_eq_true rfl) rfl (S_load_eptr rfl rfl (tT rfl) rfl) ?_ | refine TL.st_g rfl rfl rfl (Nat.le_of_ble_eq_true rfl) rfl (S_load_row rfl rfl rfl rfl (by assumption) (tT rfl) rfl) ?_ | refine TL.st_g rfl rfl rfl (Nat.le_of_ble_eq_true rfl) rfl (S_load_row (j := 0) rfl rfl rfl rfl (by assumption) (tT rfl) rfl) ?_ | refine TL.sk_g rfl rfl rfl (Nat.le_of_ble_eq_true rfl) rfl rfl ?_
      intro σ_ hσ_; simp only [nrm, tev, St.step, putO, setsV, addO, ↓reduceIte, Nat.reduceAdd, logT, atT, intern, internL, kp_ents, logR, logE] at hσ_; subst hσ_
      first | refine TL.st_g rfl rfl rfl (Nat.le_of_ble_eq_true rfl) rfl (S_move rfl) ?_ | refine TL.sk_g rfl rfl rfl (Nat.le_of_ble_eq_true rfl) rfl rfl ?_
      intro σ_ hσ_; simp only [nrm, tev, St.step, putO, setsV, addO, ↓reduceIte, Nat.reduceAdd, logT, atT, intern, internL, kp_ents, logR, logE] at hσ_; subst hσ_
      first | refine TL.st_g rfl rfl rfl (Nat.le_of_ble_eq_true rfl) rfl (S_len rfl rfl (tT rfl) rfl (.inl ⟨_, _, rfl, rfl⟩)) ?_ | refine TL.st_g rfl rfl rfl (Nat.le_of_ble_eq_true rfl) rfl (S_len rfl rfl (tT rfl) rfl (.inr (.inl ⟨_, _, _, _, rfl, rfl, rfl⟩))) ?_ | refine TL.st_g rfl rfl rfl (Nat.le_of_ble_eq_true rfl) rfl (S_len rfl rfl (tT rfl) rfl (.inr (.inr ⟨rfl, rfl⟩))) ?_ | refine TL.st_g rfl rfl rfl (Nat.le_of_ble_eq_true rfl) rfl (S_len_str rfl rfl (tT rfl) rfl rfl) ?_ | refine TL.st_g rfl rfl rfl (Nat.le_of_ble_eq_true rfl) rfl (S_len_arr rfl rfl (tT rfl) rfl) ?_ | refine TL.sk_g rfl rfl rfl (Nat.le_of_ble_eq_true rfl) rfl rfl ?_
      intro σ_ hσ_; simp only [nrm, tev, St.step, putO, setsV, addO, ↓reduceIte, Nat.reduceAdd, logT, atT, intern, internL, kp_ents, logR, logE] at hσ_; subst hσ_
      first | refine TL.st_g rfl rfl rfl (Nat.le_of_ble_eq_true rfl) rfl (S_call_row rfl rfl rfl (by kernel_rfl) rfl ((room_T _ _ (spot_bd i t es _).1 (spot_bd i t es _).2 (by have := h2.n; omega)).eq rfl (by rw [hrm])) rfl) ?_ | refine TL.st_g rfl rfl rfl (Nat.le_of_ble_eq_true rfl) rfl (S_call rfl rfl rfl (by kernel_rfl) rfl ((room_T _ _ (spot_bd i t es _).1 (spot_bd i t es _).2 (by have := h2.n; omega)).eq rfl (by rw [hrm]))) ?_ | refine TL.sk_g rfl rfl rfl (Nat.le_of_ble_eq_true rfl) rfl rfl ?_
      intro σ_ hσ_; simp only [nrm, tev, St.step, putO, setsV, addO, ↓reduceIte, Nat.reduceAdd, logT, atT, intern, internL, kp_ents, logR, logE] at hσ_; subst hσ_
      first | refine TL.st_g rfl rfl rfl (Nat.le_of_ble_eq_true rfl) rfl (S_not rfl rfl) ?_ | refine TL.st_g rfl rfl rfl (Nat.le_of_ble_eq_true rfl) rfl (S_neg rfl rfl) ?_ | refine TL.sk_g rfl rfl rfl (Nat.le_of_ble_eq_true rfl) rfl rfl ?_
      intro σ_ hσ_; simp only [nrm, tev, St.step, putO, setsV, addO, ↓reduceIte, Nat.reduceAdd, logT, atT, intern, internL, kp_ents, logR, logE] at hσ_; subst hσ_
      refine TL.st rfl (S_pick rfl rfl rfl) ?_
      intro σ_ hσ_; simp only [nrm, tev, St.step, putO, setsV, addO, ↓reduceIte, Nat.reduceAdd, logT, atT, intern, internL, kp_ents, logR, logE] at hσ_; subst hσ_
      refine TL.st rfl (S_assign rfl) ?_
      intro σ_ hσ_; simp only [nrm, tev, St.step, putO, setsV, addO, ↓reduceIte, Nat.reduceAdd, logT, atT, intern, internL, kp_ents, logR, logE] at hσ_; subst hσ_
      refine TL.nil ?_
      try simp (decide := true) only [thenT, inBlockT, noGotoT, jumpT, ↓reduceIte, true_and]
      refine hK6_ _ ?_
      refine TW.cond_t rfl (rfl) ?_
      refine TW.seq_k ?_
      intro K7_ hK7_
      refine TW.reg ?_
      refine TL.st rfl (S_build rfl (tT rfl) rfl (zT rfl) rfl (by repeat (first | exact PlOk.nil | (apply PlOk.cons; exact tT rfl))) rfl rfl) ?_
      intro σ_ hσ_; simp only [nrm, tev, St.step, putO, setsV, addO, ↓reduceIte, Nat.reduceAdd, logT, atT, intern, internL, kp_ents, logR, logE] at hσ_; subst hσ_
      first | refine TL.sto rfl rfl rfl rfl (tT rfl) rfl rfl rfl (Nat.le_of_ble_eq_true rfl) ?_ | refine TL.sto_row rfl rfl rfl rfl rfl (by assumption) (tT rfl) rfl rfl rfl (Nat.le_of_ble_eq_true rfl) ?_ | refine TL.sto_row (j := 0) rfl rfl rfl rfl rfl (by assumption) (tT rfl) rfl rfl rfl (Nat.le_of_ble_eq_true rfl) ?_
      intro σ_ hσ_; simp only [nrm, tev, St.step, putO, setsV, addO, ↓reduceIte, Nat.reduceAdd, logT, atT, intern, internL, kp_ents, logR, logE] at hσ_; subst hσ_
      refine TL.st rfl (S_assign rfl) ?_
      intro σ_ hσ_; simp only [nrm, tev, St.step, putO, setsV, addO, ↓reduceIte, Nat.reduceAdd, logT, atT, intern, internL, kp_ents, logR, logE] at hσ_; subst hσ_
      refine TL.nil ?_
      try simp (decide := true) only [thenT, inBlockT, noGotoT, jumpT, ↓reduceIte, true_and]
      refine hK7_ _ ?_
      refine TW.ret ?_
      try simp (decide := true) only [thenT, inBlockT, noGotoT, jumpT, ↓reduceIte, true_and]
      refine ⟨.inr rfl, _, none, (ResT.two Try.results46 ⟨_, _, _, _, _, rfl, rfl, tT rfl, rfl⟩ rfl), ?_, (by rintro _ ⟨⟩)⟩
      simp (decide := true) only [extE, hst, logE, h16, true_or, ↓reduceIte, show ¬ (6 : Int) = 0 by omega]
      simp only [nrm, tev, Out_v, Out_agg, Out_tup, OutL_nil, OutL_cons, Out_sl, Out_row_osl, Out_nil_osl, Out_nil_sl, Out_nil_nil, and_true, true_and, logT, atT, logR, logE, fr_ents, hf, List.getD_cons_zero, List.getD_cons_succ]
      try simp
    · skip
      have hb1 := h.n; have hb2 := h2.n
      refine TW.reg ?_
      first | refine TL.st rfl (S_fieldAddr rfl rfl (tT rfl) rfl rfl (tT rfl) (by decide)) ?_ | refine TL.st rfl (S_fieldAddr_eptr rfl rfl (tT rfl) rfl rfl (tT rfl) (by decide)) ?_
      intro σ_ hσ_; simp only [nrm, tev, St.step, putO, setsV, addO, ↓reduceIte, Nat.reduceAdd, logT, atT, intern, internL, kp_ents, logR, logE] at hσ_; subst hσ_
      first | refine TL.st rfl (S_fieldAddr rfl rfl (tT rfl) rfl rfl (tT rfl) (by decide)) ?_ | refine TL.st rfl (S_fieldAddr_eptr rfl rfl (tT rfl) rfl rfl (tT rfl) (by decide)) ?_
      intro σ_ hσ_; simp only [nrm, tev, St.step, putO, setsV, addO, ↓reduceIte, Nat.reduceAdd, logT, atT, intern, internL, kp_ents, logR, logE] at hσ_; subst hσ_
      first | refine TL.st rfl (S_load rfl rfl rfl (tT rfl) rfl) ?_ | refine TL.st rfl (S_load_eptr rfl rfl (tT rfl) rfl) ?_ | refine TL.st rfl (S_load_row rfl rfl rfl rfl (by assumption) (tT rfl) rfl) ?_ | refine TL.st rfl (S_load_row (j := 0) rfl rfl rfl rfl (by assumption) (tT rfl) rfl) ?_
      intro σ_ hσ_; simp only [nrm, tev, St.step, putO, setsV, addO, ↓reduceIte, Nat.reduceAdd, logT, atT, intern, internL, kp_ents, logR, logE] at hσ_; subst hσ_
      first | refine TL.st rfl (S_len rfl rfl (tT rfl) rfl (.inl ⟨_, _, rfl, rfl⟩)) ?_ | refine TL.st rfl (S_len rfl rfl (tT rfl) rfl (.inr (.inl ⟨_, _, _, _, rfl, rfl, rfl⟩))) ?_ | refine TL.st rfl (S_len rfl rfl (tT rfl) rfl (.inr (.inr ⟨rfl, rfl⟩))) ?_ | refine TL.st rfl (S_len_str rfl rfl (tT rfl) rfl rfl) ?_ | refine TL.st rfl (S_len_arr rfl rfl (tT rfl) rfl) ?_
      intro σ_ hσ_; simp only [nrm, tev, St.step, putO, setsV, addO, ↓reduceIte, Nat.reduceAdd, logT, atT, intern, internL, kp_ents, logR, logE] at hσ_; subst hσ_
      refine TL.st rfl (S_move rfl) ?_
      intro σ_ hσ_; simp only [nrm, tev, St.step, putO, setsV, addO, ↓reduceIte, Nat.reduceAdd, logT, atT, intern, internL, kp_ents, logR, logE] at hσ_; subst hσ_
      first | refine TL.st rfl (S_len rfl rfl (tT rfl) rfl (.inl ⟨_, _, rfl, rfl⟩)) ?_ | refine TL.st rfl (S_len rfl rfl (tT rfl) rfl (.inr (.inl ⟨_, _, _, _, rfl, rfl, rfl⟩))) ?_ | refine TL.st rfl (S_len rfl rfl (tT rfl) rfl (.inr (.inr ⟨rfl, rfl⟩))) ?_ | refine TL.st rfl (S_len_str rfl rfl (tT rfl) rfl rfl) ?_ | refine TL.st rfl (S_len_arr rfl rfl (tT rfl) rfl) ?_
      intro σ_ hσ_; simp only [nrm, tev, St.step, putO, setsV, addO, ↓reduceIte, Nat.reduceAdd, logT, atT, intern, internL, kp_ents, logR, logE] at hσ_; subst hσ_
      first | refine TL.st rfl (S_int rfl rfl rfl rfl (vi64 (by omega))) ?_ | refine TL.st rfl (S_int rfl rfl rfl rfl (vu64 (by omega))) ?_ | refine TL.st rfl (S_int rfl rfl rfl rfl rfl) ?_
      intro σ_ hσ_; simp only [nrm, tev, St.step, putO, setsV, addO, ↓reduceIte, Nat.reduceAdd, logT, atT, intern, internL, kp_ents, logR, logE] at hσ_; subst hσ_
      first | refine TL.st rfl (S_int rfl rfl rfl rfl (vbt (by omega))) ?_ | refine TL.st rfl (S_int rfl rfl rfl rfl (vbf (by omega))) ?_ | refine TL.st rfl (S_int rfl rfl rfl rfl rfl) ?_
      intro σ_ hσ_; simp only [nrm, tev, St.step, putO, setsV, addO, ↓reduceIte, Nat.reduceAdd, logT, atT, intern, internL, kp_ents, logR, logE] at hσ_; subst hσ_
      refine TL.st rfl (S_move rfl) ?_
      intro σ_ hσ_; simp only [nrm, tev, St.step, putO, setsV, addO, ↓reduceIte, Nat.reduceAdd, logT, atT, intern, internL, kp_ents, logR, logE] at hσ_; subst hσ_
      first | refine TL.st_g rfl rfl rfl (Nat.le_of_ble_eq_true rfl) rfl (S_fieldAddr rfl rfl (tT rfl) rfl rfl (tT rfl) (by decide)) ?_ | refine TL.st_g rfl rfl rfl (Nat.le_of_ble_eq_true rfl) rfl (S_fieldAddr_eptr rfl rfl (tT rfl) rfl rfl (tT rfl) (by decide)) ?_ | refine TL.sk_g rfl rfl rfl (Nat.le_of_ble_eq_true rfl) rfl rfl ?_
      intro σ_ hσ_; simp only [nrm, tev, St.step, putO, setsV, addO, ↓reduceIte, Nat.reduceAdd, logT, atT, intern, internL, kp_ents, logR, logE] at hσ_; subst hσ_
      first | refine TL.st_g rfl rfl rfl (Nat.le_of_ble_eq_true rfl) rfl (S_load rfl rfl rfl (tT rfl) rfl) ?_ | refine TL.st_g rfl rfl rfl (Nat.le_of_ble_eq_true rfl) rfl (S_load_eptr rfl rfl (tT rfl) rfl) ?_ | refine TL.st_g rfl rfl rfl (Nat.le_of_ble_eq_true rfl) rfl (S_load_row rfl rfl rfl rfl (by assumption) (tT rfl) rfl) ?_ | refine TL.st_g rfl rfl rfl (Nat.le_of_ble_eq_true rfl) rfl (S_load_row (j := 0) rfl rfl rfl rfl (by assumption) (tT rfl) rfl) ?_ | refine TL.sk_g rfl rfl rfl (Nat.le_of_ble_eq_true rfl) rfl rfl ?_
      intro σ_ hσ_; simp only [nrm, tev, St.step, putO, setsV, addO, ↓reduceIte, Nat.reduceAdd, logT, atT, intern, internL, kp_ents, logR, logE] at hσ_; subst hσ_
      first | refine TL.st_g rfl rfl rfl (Nat.le_of_ble_eq_true rfl) rfl (S_move rfl) ?_ | refine TL.sk_g rfl rfl rfl (Nat.le_of_ble_eq_true rfl) rfl rfl ?_
      intro σ_ hσ_; simp only [nrm, tev, St.step, putO, setsV, addO, ↓reduceIte, Nat.reduceAdd, logT, atT, intern, internL, kp_ents, logR, logE] at hσ_; subst hσ_
      first | refine TL.st_g rfl rfl rfl (Nat.le_of_ble_eq_true rfl) rfl (S_len rfl rfl (tT rfl) rfl (.inl ⟨_, _, rfl, rfl⟩)) ?_ | refine TL.st_g rfl rfl rfl (Nat.le_of_ble_eq_true rfl) rfl (S_len rfl rfl (tT rfl) rfl (.inr (.inl ⟨_, _, _, _, rfl, rfl, rfl⟩))) ?_ | refine TL.st_g rfl rfl rfl (Nat.le_of_ble_eq_true rfl) rfl (S_len rfl rfl (tT rfl) rfl (.inr (.inr ⟨rfl, rfl⟩))) ?_ | refine TL.st_g rfl rfl rfl (Nat.le_of_ble_eq_true rfl) rfl (S_len_str rfl rfl (tT rfl) rfl rfl) ?_ | refine TL.st_g rfl rfl rfl (Nat.le_of_ble_eq_true rfl) rfl (S_len_arr rfl rfl (tT rfl) rfl) ?_ | refine TL.sk_g rfl rfl rfl (Nat.le_of_ble_eq_true rfl) rfl rfl ?_
      intro σ_ hσ_; simp only [nrm, tev, St.step, putO, setsV, addO, ↓reduceIte, Nat.reduceAdd, logT, atT, intern, internL, kp_ents, logR, logE] at hσ_; subst hσ_
      first | refine TL.st_g rfl rfl rfl (Nat.le_of_ble_eq_true rfl) rfl (S_call_row rfl rfl rfl (by kernel_rfl) rfl ((room_T _ _ (spot_bd i t es _).1 (spot_bd i t es _).2 (by have := h2.n; omega)).eq rfl (by rw [hrm])) rfl) ?_ | refine TL.st_g rfl rfl rfl (Nat.le_of_ble_eq_true rfl) rfl (S_call rfl rfl rfl (by kernel_rfl) rfl ((room_T _ _ (spot_bd i t es _).1 (spot_bd i t es _).2 (by have := h2.n; omega)).eq rfl (by rw [hrm]))) ?_ | refine TL.sk_g rfl rfl rfl (Nat.le_of_ble_eq_true rfl) rfl rfl ?_
      intro σ_ hσ_; simp only [nrm, tev, St.step, putO, setsV, addO, ↓reduceIte, Nat.reduceAdd, logT, atT, intern, internL, kp_ents, logR, logE] at hσ_; subst hσ_
      first | refine TL.st_g rfl rfl rfl (Nat.le_of_ble_eq_true rfl) rfl (S_not rfl rfl) ?_ | refine TL.st_g rfl rfl rfl (Nat.le_of_ble_eq_true rfl) rfl (S_neg rfl rfl) ?_ | refine TL.sk_g rfl rfl rfl (Nat.le_of_ble_eq_true rfl) rfl rfl ?_
      intro σ_ hσ_; simp only [nrm, tev, St.step, putO, setsV, addO, ↓reduceIte, Nat.reduceAdd, logT, atT, intern, internL, kp_ents, logR, logE] at hσ_; subst hσ_
      refine TL.st rfl (S_pick rfl rfl rfl) ?_
      intro σ_ hσ_; simp only [nrm, tev, St.step, putO, setsV, addO, ↓reduceIte, Nat.reduceAdd, logT, atT, intern, internL, kp_ents, logR, logE] at hσ_; subst hσ_
      refine TL.st rfl (S_assign rfl) ?_
      intro σ_ hσ_; simp only [nrm, tev, St.step, putO, setsV, addO, ↓reduceIte, Nat.reduceAdd, logT, atT, intern, internL, kp_ents, logR, logE] at hσ_; subst hσ_
      refine TL.nil ?_
      try simp (decide := true) only [thenT, inBlockT, noGotoT, jumpT, ↓reduceIte, true_and]
      refine hK6_ _ ?_
      refine TW.cond_t rfl (rfl) ?_
      refine TW.seq_k ?_
      intro K8_ hK8_
      refine TW.reg ?_
      refine TL.st rfl (S_build rfl (tT rfl) rfl (zT rfl) rfl (by repeat (first | exact PlOk.nil | (apply PlOk.cons; exact tT rfl))) rfl rfl) ?_
      intro σ_ hσ_; simp only [nrm, tev, St.step, putO, setsV, addO, ↓reduceIte, Nat.reduceAdd, logT, atT, intern, internL, kp_ents, logR, logE] at hσ_; subst hσ_
      first | refine TL.sto rfl rfl rfl rfl (tT rfl) rfl rfl rfl (Nat.le_of_ble_eq_true rfl) ?_ | refine TL.sto_row rfl rfl rfl rfl rfl (by assumption) (tT rfl) rfl rfl rfl (Nat.le_of_ble_eq_true rfl) ?_ | refine TL.sto_row (j := 0) rfl rfl rfl rfl rfl (by assumption) (tT rfl) rfl rfl rfl (Nat.le_of_ble_eq_true rfl) ?_
      intro σ_ hσ_; simp only [nrm, tev, St.step, putO, setsV, addO, ↓reduceIte, Nat.reduceAdd, logT, atT, intern, internL, kp_ents, logR, logE] at hσ_; subst hσ_
      refine TL.st rfl (S_assign rfl) ?_
      intro σ_ hσ_; simp only [nrm, tev, St.step, putO, setsV, addO, ↓reduceIte, Nat.reduceAdd, logT, atT, intern, internL, kp_ents, logR, logE] at hσ_; subst hσ_
      refine TL.nil ?_
      try simp (decide := true) only [thenT, inBlockT, noGotoT, jumpT, ↓reduceIte, true_and]
      refine hK8_ _ ?_
      refine TW.ret ?_
      try simp (decide := true) only [thenT, inBlockT, noGotoT, jumpT, ↓reduceIte, true_and]
      refine ⟨.inr rfl, _, none, (ResT.two Try.results46 ⟨_, _, _, _, _, rfl, rfl, tT rfl, rfl⟩ rfl), ?_, (by rintro _ ⟨⟩)⟩
      simp (decide := true) only [extE, hst, logE, hrm, or_true, ↓reduceIte, show ¬ (6 : Int) = 0 by omega]
      simp only [nrm, tev, Out_v, Out_agg, Out_tup, OutL_nil, OutL_cons, Out_sl, Out_row_osl, Out_nil_osl, Out_nil_sl, Out_nil_nil, and_true, true_and, logT, atT, logR, logE, fr_ents, hf, List.getD_cons_zero, List.getD_cons_succ]
      try simp
    · skip
      have hb1 := h.n; have hb2 := h2.n
      refine TW.reg ?_
      first | refine TL.st rfl (S_fieldAddr rfl rfl (tT rfl) rfl rfl (tT rfl) (by decide)) ?_ | refine TL.st rfl (S_fieldAddr_eptr rfl rfl (tT rfl) rfl rfl (tT rfl) (by decide)) ?_
      intro σ_ hσ_; simp only [nrm, tev, St.step, putO, setsV, addO, ↓reduceIte, Nat.reduceAdd, logT, atT, intern, internL, kp_ents, logR, logE] at hσ_; subst hσ_
      first | refine TL.st rfl (S_fieldAddr rfl rfl (tT rfl) rfl rfl (tT rfl) (by decide)) ?_ | refine TL.st rfl (S_fieldAddr_eptr rfl rfl (tT rfl) rfl rfl (tT rfl) (by decide)) ?_
      intro σ_ hσ_; simp only [nrm, tev, St.step, putO, setsV, addO, ↓reduceIte, Nat.reduceAdd, logT, atT, intern, internL, kp_ents, logR, logE] at hσ_; subst hσ_
      first | refine TL.st rfl (S_load rfl rfl rfl (tT rfl) rfl) ?_ | refine TL.st rfl (S_load_eptr rfl rfl (tT rfl) rfl) ?_ | refine TL.st rfl (S_load_row rfl rfl rfl rfl (by assumption) (tT rfl) rfl) ?_ | refine TL.st rfl (S_load_row (j := 0) rfl rfl rfl rfl (by assumption) (tT rfl) rfl) ?_
      intro σ_ hσ_; simp only [nrm, tev, St.step, putO, setsV, addO, ↓reduceIte, Nat.reduceAdd, logT, atT, intern, internL, kp_ents, logR, logE] at hσ_; subst hσ_
      first | refine TL.st rfl (S_len rfl rfl (tT rfl) rfl (.inl ⟨_, _, rfl, rfl⟩)) ?_ | refine TL.st rfl (S_len rfl rfl (tT rfl) rfl (.inr (.inl ⟨_, _, _, _, rfl, rfl, rfl⟩))) ?_ | refine TL.st rfl (S_len rfl rfl (tT rfl) rfl (.inr (.inr ⟨rfl, rfl⟩))) ?_ | refine TL.st rfl (S_len_str rfl rfl (tT rfl) rfl rfl) ?_ | refine TL.st rfl (S_len_arr rfl rfl (tT rfl) rfl) ?_
      intro σ_ hσ_; simp only [nrm, tev, St.step, putO, setsV, addO, ↓reduceIte, Nat.reduceAdd, logT, atT, intern, internL, kp_ents, logR, logE] at hσ_; subst hσ_
      refine TL.st rfl (S_move rfl) ?_
      intro σ_ hσ_; simp only [nrm, tev, St.step, putO, setsV, addO, ↓reduceIte, Nat.reduceAdd, logT, atT, intern, internL, kp_ents, logR, logE] at hσ_; subst hσ_
      first | refine TL.st rfl (S_len rfl rfl (tT rfl) rfl (.inl ⟨_, _, rfl, rfl⟩)) ?_ | refine TL.st rfl (S_len rfl rfl (tT rfl) rfl (.inr (.inl ⟨_, _, _, _, rfl, rfl, rfl⟩))) ?_ | refine TL.st rfl (S_len rfl rfl (tT rfl) rfl (.inr (.inr ⟨rfl, rfl⟩))) ?_ | refine TL.st rfl (S_len_str rfl rfl (tT rfl) rfl rfl) ?_ | refine TL.st rfl (S_len_arr rfl rfl (tT rfl) rfl) ?_
      intro σ_ hσ_; simp only [nrm, tev, St.step, putO, setsV, addO, ↓reduceIte, Nat.reduceAdd, logT, atT, intern, internL, kp_ents, logR, logE] at hσ_; subst hσ_
      first | refine TL.st rfl (S_int rfl rfl rfl rfl (vi64 (by omega))) ?_ | refine TL.st rfl (S_int rfl rfl rfl rfl (vu64 (by omega))) ?_ | refine TL.st rfl (S_int rfl rfl rfl rfl rfl) ?_
      intro σ_ hσ_; simp only [nrm, tev, St.step, putO, setsV, addO, ↓reduceIte, Nat.reduceAdd, logT, atT, intern, internL, kp_ents, logR, logE] at hσ_; subst hσ_
      first | refine TL.st rfl (S_int rfl rfl rfl rfl (vbt (by omega))) ?_ | refine TL.st rfl (S_int rfl rfl rfl rfl (vbf (by omega))) ?_ | refine TL.st rfl (S_int rfl rfl rfl rfl rfl) ?_
      intro σ_ hσ_; simp only [nrm, tev, St.step, putO, setsV, addO, ↓reduceIte, Nat.reduceAdd, logT, atT, intern, internL, kp_ents, logR, logE] at hσ_; subst hσ_
      refine TL.st rfl (S_move rfl) ?_
      intro σ_ hσ_; simp only [nrm, tev, St.step, putO, setsV, addO, ↓reduceIte, Nat.reduceAdd, logT, atT, intern, internL, kp_ents, logR, logE] at hσ_; subst hσ_
      first | refine TL.st_g rfl rfl rfl (Nat.le_of_ble_eq_true rfl) rfl (S_fieldAddr rfl rfl (tT rfl) rfl rfl (tT rfl) (by decide)) ?_ | refine TL.st_g rfl rfl rfl (Nat.le_of_ble_eq_true rfl) rfl (S_fieldAddr_eptr rfl rfl (tT rfl) rfl rfl (tT rfl) (by decide)) ?_ | refine TL.sk_g rfl rfl rfl (Nat.le_of_ble_eq_true rfl) rfl rfl ?_
      intro σ_ hσ_; simp only [nrm, tev, St.step, putO, setsV, addO, ↓reduceIte, Nat.reduceAdd, logT, atT, intern, internL, kp_ents, logR, logE] at hσ_; subst hσ_
      first | refine TL.st_g rfl rfl rfl (Nat.le_of_ble_eq_true rfl) rfl (S_load rfl rfl rfl (tT rfl) rfl) ?_ | refine TL.st_g rfl rfl rfl (Nat.le_of_ble_eq_true rfl) rfl (S_load_eptr rfl rfl (tT rfl) rfl) ?_ | refine TL.st_g rfl rfl rfl (Nat.le_of_ble_eq_true rfl) rfl (S_load_row rfl rfl rfl rfl (by assumption) (tT rfl) rfl) ?_ | refine TL.st_g rfl rfl rfl (Nat.le_of_ble_eq_true rfl) rfl (S_load_row (j := 0) rfl rfl rfl rfl (by assumption) (tT rfl) rfl) ?_ | refine TL.sk_g rfl rfl rfl (Nat.le_of_ble_eq_true rfl) rfl rfl ?_
      intro σ_ hσ_; simp only [nrm, tev, St.step, putO, setsV, addO, ↓reduceIte, Nat.reduceAdd, logT, atT, intern, internL, kp_ents, logR, logE] at hσ_; subst hσ_
      first | refine TL.st_g rfl rfl rfl (Nat.le_of_ble_eq_true rfl) rfl (S_move rfl) ?_ | refine TL.sk_g rfl rfl rfl (Nat.le_of_ble_eq_true rfl) rfl rfl ?_
      intro σ_ hσ_; simp only [nrm, tev, St.step, putO, setsV, addO, ↓reduceIte, Nat.reduceAdd, logT, atT, intern, internL, kp_ents, logR, logE] at hσ_; subst hσ_
      first | refine TL.st_g rfl rfl rfl (Nat.le_of_ble_eq_true rfl) rfl (S_len rfl rfl (tT rfl) rfl (.inl ⟨_, _, rfl, rfl⟩)) ?_ | refine TL.st_g rfl rfl rfl (Nat.le_of_ble_eq_true rfl) rfl (S_len rfl rfl (tT rfl) rfl (.inr (.inl ⟨_, _, _, _, rfl, rfl, rfl⟩))) ?_ | refine TL.st_g rfl rfl rfl (Nat.le_of_ble_eq_true rfl) rfl (S_len rfl rfl (tT rfl) rfl (.inr (.inr ⟨rfl, rfl⟩))) ?_ | refine TL.st_g rfl rfl rfl (Nat.le_of_ble_eq_true rfl) rfl (S_len_str rfl rfl (tT rfl) rfl rfl) ?_ | refine TL.st_g rfl rfl rfl (Nat.le_of_ble_eq_true rfl) rfl (S_len_arr rfl rfl (tT rfl) rfl) ?_ | refine TL.sk_g rfl rfl rfl (Nat.le_of_ble_eq_true rfl) rfl rfl ?_
      intro σ_ hσ_; simp only [nrm, tev, St.step, putO, setsV, addO, ↓reduceIte, Nat.reduceAdd, logT, atT, intern, internL, kp_ents, logR, logE] at hσ_; subst hσ_
      first | refine TL.st_g rfl rfl rfl (Nat.le_of_ble_eq_true rfl) rfl (S_call_row rfl rfl rfl (by kernel_rfl) rfl ((room_T _ _ (spot_bd i t es _).1 (spot_bd i t es _).2 (by have := h2.n; omega)).eq rfl (by rw [hrm])) rfl) ?_ | refine TL.st_g rfl rfl rfl (Nat.le_of_ble_eq_true rfl) rfl (S_call rfl rfl rfl (by kernel_rfl) rfl ((room_T _ _ (spot_bd i t es _).1 (spot_bd i t es _).2 (by have := h2.n; omega)).eq rfl (by rw [hrm]))) ?_ | refine TL.sk_g rfl rfl rfl (Nat.le_of_ble_eq_true rfl) rfl rfl ?_
      intro σ_ hσ_; simp only [nrm, tev, St.step, putO, setsV, addO, ↓reduceIte, Nat.reduceAdd, logT, atT, intern, internL, kp_ents, logR, logE] at hσ_; subst hσ_
      first | refine TL.st_g rfl rfl rfl (Nat.le_of_ble_eq_true rfl) rfl (S_not rfl rfl) ?_ | refine TL.st_g rfl rfl rfl (Nat.le_of_ble_eq_true rfl) rfl (S_neg rfl rfl) ?_ | refine TL.sk_g rfl rfl rfl (Nat.le_of_ble_eq_true rfl) rfl rfl ?_
      intro σ_ hσ_; simp only [nrm, tev, St.step, putO, setsV, addO, ↓reduceIte, Nat.reduceAdd, logT, atT, intern, internL, kp_ents, logR, logE] at hσ_; subst hσ_
      refine TL.st rfl (S_pick rfl rfl rfl) ?_
      intro σ_ hσ_; simp only [nrm, tev, St.step, putO, setsV, addO, ↓reduceIte, Nat.reduceAdd, logT, atT, intern, internL, kp_ents, logR, logE] at hσ_; subst hσ_
      refine TL.st rfl (S_assign rfl) ?_
      intro σ_ hσ_; simp only [nrm, tev, St.step, putO, setsV, addO, ↓reduceIte, Nat.reduceAdd, logT, atT, intern, internL, kp_ents, logR, logE] at hσ_; subst hσ_
      refine TL.nil ?_
      try simp (decide := true) only [thenT, inBlockT, noGotoT, jumpT, ↓reduceIte, true_and]
      refine hK6_ _ ?_
      refine TW.cond_f rfl (rfl) ?_
      refine TW.skip ?_
      try simp (decide := true) only [thenT, inBlockT, noGotoT, jumpT, ↓reduceIte, true_and]
      refine hK3_ _ ?_
      refine TW.seq_k ?_
      intro K9_ hK9_
      refine TW.reg ?_
      first | refine TL.st rfl (S_load rfl rfl rfl (tT rfl) rfl) ?_ | refine TL.st rfl (S_load_eptr rfl rfl (tT rfl) rfl) ?_ | refine TL.st rfl (S_load_row rfl rfl rfl rfl (by assumption) (tT rfl) rfl) ?_ | refine TL.st rfl (S_load_row (j := 0) rfl rfl rfl rfl (by assumption) (tT rfl) rfl) ?_
      intro σ_ hσ_; simp only [nrm, tev, St.step, putO, setsV, addO, ↓reduceIte, Nat.reduceAdd, logT, atT, intern, internL, kp_ents, logR, logE] at hσ_; subst hσ_
      first | refine TL.st rfl (S_fieldAddr rfl rfl (tT rfl) rfl rfl (tT rfl) (by decide)) ?_ | refine TL.st rfl (S_fieldAddr_eptr rfl rfl (tT rfl) rfl rfl (tT rfl) (by decide)) ?_
      intro σ_ hσ_; simp only [nrm, tev, St.step, putO, setsV, addO, ↓reduceIte, Nat.reduceAdd, logT, atT, intern, internL, kp_ents, logR, logE] at hσ_; subst hσ_
      first | refine TL.st rfl (S_fieldAddr rfl rfl (tT rfl) rfl rfl (tT rfl) (by decide)) ?_ | refine TL.st rfl (S_fieldAddr_eptr rfl rfl (tT rfl) rfl rfl (tT rfl) (by decide)) ?_
      intro σ_ hσ_; simp only [nrm, tev, St.step, putO, setsV, addO, ↓reduceIte, Nat.reduceAdd, logT, atT, intern, internL, kp_ents, logR, logE] at hσ_; subst hσ_
      first | refine TL.st rfl (S_load rfl rfl rfl (tT rfl) rfl) ?_ | refine TL.st rfl (S_load_eptr rfl rfl (tT rfl) rfl) ?_ | refine TL.st rfl (S_load_row rfl rfl rfl rfl (by assumption) (tT rfl) rfl) ?_ | refine TL.st rfl (S_load_row (j := 0) rfl rfl rfl rfl (by assumption) (tT rfl) rfl) ?_
      intro σ_ hσ_; simp only [nrm, tev, St.step, putO, setsV, addO, ↓reduceIte, Nat.reduceAdd, logT, atT, intern, internL, kp_ents, logR, logE] at hσ_; subst hσ_
      first | refine TL.st rfl (S_len rfl rfl (tT rfl) rfl (.inl ⟨_, _, rfl, rfl⟩)) ?_ | refine TL.st rfl (S_len rfl rfl (tT rfl) rfl (.inr (.inl ⟨_, _, _, _, rfl, rfl, rfl⟩))) ?_ | refine TL.st rfl (S_len rfl rfl (tT rfl) rfl (.inr (.inr ⟨rfl, rfl⟩))) ?_ | refine TL.st rfl (S_len_str rfl rfl (tT rfl) rfl rfl) ?_ | refine TL.st rfl (S_len_arr rfl rfl (tT rfl) rfl) ?_
      intro σ_ hσ_; simp only [nrm, tev, St.step, putO, setsV, addO, ↓reduceIte, Nat.reduceAdd, logT, atT, intern, internL, kp_ents, logR, logE] at hσ_; subst hσ_
      first | refine TL.st rfl (S_call_row rfl rfl rfl (by kernel_rfl) rfl ((part0_T _ _ _ _ _ h hi0 hi1 _ (Nat.le_refl _)).eq rfl (by rw [List.take_of_length_le (Nat.le_refl _)])) rfl) ?_ | refine TL.st rfl (S_call rfl rfl rfl (by kernel_rfl) rfl ((part0_T _ _ _ _ _ h hi0 hi1 _ (Nat.le_refl _)).eq rfl (by rw [List.take_of_length_le (Nat.le_refl _)]))) ?_
      intro σ_ hσ_; simp only [nrm, tev, St.step, putO, setsV, addO, ↓reduceIte, Nat.reduceAdd, logT, atT, intern, internL, kp_ents, logR, logE] at hσ_; subst hσ_
      refine TL.st rfl (S_alloc rfl (zT rfl) rfl) ?_
      intro σ_ hσ_; simp only [nrm, tev, St.step, putO, setsV, addO, ↓reduceIte, Nat.reduceAdd, logT, atT, intern, internL, kp_ents, logR, logE] at hσ_; subst hσ_
      first | refine TL.sto rfl rfl rfl rfl (tT rfl) rfl rfl rfl (Nat.le_of_ble_eq_true rfl) ?_ | refine TL.sto_row rfl rfl rfl rfl rfl (by assumption) (tT rfl) rfl rfl rfl (Nat.le_of_ble_eq_true rfl) ?_ | refine TL.sto_row (j := 0) rfl rfl rfl rfl rfl (by assumption) (tT rfl) rfl rfl rfl (Nat.le_of_ble_eq_true rfl) ?_
      intro σ_ hσ_; simp only [nrm, tev, St.step, putO, setsV, addO, ↓reduceIte, Nat.reduceAdd, logT, atT, intern, internL, kp_ents, logR, logE] at hσ_; subst hσ_
      refine TL.nil ?_
      try simp (decide := true) only [thenT, inBlockT, noGotoT, jumpT, ↓reduceIte, true_and]
      refine hK9_ _ ?_
      refine TW.seq_k ?_
      intro K10_ hK10_
      refine TW.region_app (i := 3) 5 2 46 (by kernel_rfl) (by kernel_rfl) rfl rfl rfl rfl ⟨tT rfl, rfl, tT rfl, ⟨_, zT rfl, rfl⟩, by decide, by decide⟩ ?_
      simp only [List.take_succ_cons, List.take_zero, List.drop_succ_cons, List.drop_zero, List.take_nil, List.drop_nil]
      first | refine TPar.st rfl (S_fieldAddr rfl rfl (tT rfl) rfl rfl (tT rfl) (by decide)) ?_ | refine TPar.st rfl (S_fieldAddr_eptr rfl rfl (tT rfl) rfl rfl (tT rfl) (by decide)) ?_
      intro s_ h_ hs_ hh_; simp only [nrm, tev, St.step, putO, setsV, addO, ↓reduceIte, Nat.reduceAdd, logT, atT, intern, internL, kp_ents, logR, logE] at hs_ hh_; subst hs_; subst hh_
      first | refine TPar.st rfl (S_fieldAddr rfl rfl (tT rfl) rfl rfl (tT rfl) (by decide)) ?_ | refine TPar.st rfl (S_fieldAddr_eptr rfl rfl (tT rfl) rfl rfl (tT rfl) (by decide)) ?_
      intro s_ h_ hs_ hh_; simp only [nrm, tev, St.step, putO, setsV, addO, ↓reduceIte, Nat.reduceAdd, logT, atT, intern, internL, kp_ents, logR, logE] at hs_ hh_; subst hs_; subst hh_
      first | refine TPar.st rfl (S_load rfl rfl rfl (tT rfl) rfl) ?_ | refine TPar.st rfl (S_load_eptr rfl rfl (tT rfl) rfl) ?_ | refine TPar.st rfl (S_load_row rfl rfl rfl rfl (by assumption) (tT rfl) rfl) ?_ | refine TPar.st rfl (S_load_row (j := 0) rfl rfl rfl rfl (by assumption) (tT rfl) rfl) ?_
      intro s_ h_ hs_ hh_; simp only [nrm, tev, St.step, putO, setsV, addO, ↓reduceIte, Nat.reduceAdd, logT, atT, intern, internL, kp_ents, logR, logE] at hs_ hh_; subst hs_; subst hh_
      refine TPar.st rfl (S_move rfl) ?_
      intro s_ h_ hs_ hh_; simp only [nrm, tev, St.step, putO, setsV, addO, ↓reduceIte, Nat.reduceAdd, logT, atT, intern, internL, kp_ents, logR, logE] at hs_ hh_; subst hs_; subst hh_
      first | refine TPar.st rfl (S_call_row rfl rfl rfl (by kernel_rfl) rfl (cloned_T _ _ _ h2.w h2.n9 h2.d12) rfl) ?_ | refine TPar.st rfl (S_call rfl rfl rfl (by kernel_rfl) rfl (cloned_T _ _ _ h2.w h2.n9 h2.d12)) ?_
      intro s_ h_ hs_ hh_; simp only [nrm, tev, St.step, putO, setsV, addO, ↓reduceIte, Nat.reduceAdd, logT, atT, intern, internL, kp_ents, logR, logE] at hs_ hh_; subst hs_; subst hh_
      unfold TPar
      first | refine TPu.st rfl (S_fieldAddr rfl rfl (tT rfl) rfl rfl (tT rfl) (by decide)) (by intro x hx; simp [Op.operands] at hx; subst hx; rfl) rfl ?_
      intro s_ hs_; simp only [nrm, tev, St.step, putO, setsV, addO, ↓reduceIte, Nat.reduceAdd, logT, atT, intern, internL, kp_ents, logR, logE] at hs_; subst hs_
      first | refine TPu.st rfl (S_fieldAddr rfl rfl (tT rfl) rfl rfl (tT rfl) (by decide)) (by intro x hx; simp [Op.operands] at hx; subst hx; rfl) rfl ?_
      intro s_ hs_; simp only [nrm, tev, St.step, putO, setsV, addO, ↓reduceIte, Nat.reduceAdd, logT, atT, intern, internL, kp_ents, logR, logE] at hs_; subst hs_
      unfold TPu
      refine ⟨_, _, rfl, rfl, (by first | exact .inl ⟨_, rfl⟩ | exact .inr (.inl ⟨_, _, _, rfl, rfl⟩) | exact .inr (.inr ⟨rfl, rfl⟩)), (by first | exact ent_len _ _ | simp), (by first | exact ent_one _ _ | simp [TV.one, Value.oneCell']), (by simp; omega), ?_⟩
      refine TL.eqs ?_
      intro σ_ hσ_; simp (decide := true) only [nrm, tev, St.step, putO, setsV, addO, ↓reduceIte, Nat.reduceAdd, logT, atT, intern, internL, kp_ents, logR, logE, kpL, kp, bar, LB.kp, kpLL_append, kpLL, List.map_cons, List.map_nil, List.set_cons_zero, List.set_cons_succ, ↓reduceIte] at hσ_; subst hσ_
      first | refine TL.sto rfl rfl rfl rfl (tT rfl) rfl rfl rfl (Nat.le_of_ble_eq_true rfl) ?_ | refine TL.sto_row rfl rfl rfl rfl rfl (by assumption) (tT rfl) rfl rfl rfl (Nat.le_of_ble_eq_true rfl) ?_ | refine TL.sto_row (j := 0) rfl rfl rfl rfl rfl (by assumption) (tT rfl) rfl rfl rfl (Nat.le_of_ble_eq_true rfl) ?_
      intro σ_ hσ_; simp only [nrm, tev, St.step, putO, setsV, addO, ↓reduceIte, Nat.reduceAdd, logT, atT, intern, internL, kp_ents, logR, logE] at hσ_; subst hσ_
      refine TL.nil ?_
      try simp (decide := true) only [thenT, inBlockT, noGotoT, jumpT, ↓reduceIte, true_and]
      refine hK10_ _ ?_
      refine TW.seq_k ?_
      intro K11_ hK11_
      refine TW.reg ?_
      first | refine TL.st rfl (S_load rfl rfl rfl (tT rfl) rfl) ?_ | refine TL.st rfl (S_load_eptr rfl rfl (tT rfl) rfl) ?_ | refine TL.st rfl (S_load_row rfl rfl rfl rfl (by assumption) (tT rfl) rfl) ?_ | refine TL.st rfl (S_load_row (j := 0) rfl rfl rfl rfl (by assumption) (tT rfl) rfl) ?_
      intro σ_ hσ_; simp only [nrm, tev, St.step, putO, setsV, addO, ↓reduceIte, Nat.reduceAdd, logT, atT, intern, internL, kp_ents, logR, logE] at hσ_; subst hσ_
      first | refine TL.sto rfl rfl rfl rfl (tT rfl) rfl rfl rfl (Nat.le_of_ble_eq_true rfl) ?_ | refine TL.sto_row rfl rfl rfl rfl rfl (by assumption) (tT rfl) rfl rfl rfl (Nat.le_of_ble_eq_true rfl) ?_ | refine TL.sto_row (j := 0) rfl rfl rfl rfl rfl (by assumption) (tT rfl) rfl rfl rfl (Nat.le_of_ble_eq_true rfl) ?_
      intro σ_ hσ_; simp only [nrm, tev, St.step, putO, setsV, addO, ↓reduceIte, Nat.reduceAdd, logT, atT, intern, internL, kp_ents, logR, logE] at hσ_; subst hσ_
      refine TL.st rfl (S_assign rfl) ?_
      intro σ_ hσ_; simp only [nrm, tev, St.step, putO, setsV, addO, ↓reduceIte, Nat.reduceAdd, logT, atT, intern, internL, kp_ents, logR, logE] at hσ_; subst hσ_
      refine TL.nil ?_
      try simp (decide := true) only [thenT, inBlockT, noGotoT, jumpT, ↓reduceIte, true_and]
      refine hK11_ _ ?_
      refine TW.ret ?_
      try simp (decide := true) only [thenT, inBlockT, noGotoT, jumpT, ↓reduceIte, true_and]
      refine ⟨.inr rfl, _, some 3, (ResT.two Try.results46 ⟨_, _, _, _, _, rfl, rfl, tT rfl, rfl⟩ rfl), ?_, (by rintro _ ⟨⟩; trivial)⟩
      simp (decide := true) only [extE, hst, logE, h16, hrm, Bool.true_eq_false, or_self, ↓reduceIte]
      simp only [nrm, tev, Out_v, Out_agg, Out_tup, OutL_nil, OutL_cons, Out_sl, Out_row_osl, Out_nil_osl, Out_nil_sl, Out_nil_nil, and_true, true_and, logT, atT, logR, logE, fr_ents, hf, List.getD_cons_zero, List.getD_cons_succ]
      try simp [FrLL_append, fr_ents]

end Go.Proofs.Ytpckkajodpiiaaa
