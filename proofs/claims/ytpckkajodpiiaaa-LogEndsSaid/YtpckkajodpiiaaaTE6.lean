/- Logs that are the same, and that take offers. No condition. -/
import Derived.Test.YtpckkajodpiiaaaTE5
import Derived.Test.YtpckkajodpiiaaaT13
import Derived.Test.YtpckkajodpiiaaaT15
namespace Go.Proofs.Ytpckkajodpiiaaa
open Go.RowKit
set_option linter.unusedVariables false
set_option linter.unusedSimpArgs false

def entU (e : Ent) : Int × Int × List Int := (e.T, e.K, e.D)
/-- Are these the same entries? -/
def sameE (a b : List Ent) : Bool := decide (a.map entU = b.map entU)
theorem entU_inj {x y : Ent} (h : entU x = entU y) : x = y := by
  cases x; cases y
  simp only [entU, Prod.mk.injEq] at h
  simp [h]
theorem sameE_iff {a b : List Ent} : sameE a b = true ↔ a = b := by
  simp only [sameE, decide_eq_true_eq]
  refine ⟨fun h => ?_, fun h => by rw [h]⟩
  refine List.ext_getElem? fun j => ?_
  have h1 : (a.map entU)[j]? = (b.map entU)[j]? := by rw [h]
  rw [List.getElem?_map, List.getElem?_map] at h1
  cases h2 : a[j]? <;> cases h3 : b[j]? <;> rw [h2, h3] at h1 <;> simp at h1
  rw [entU_inj h1]
def same1 (x y : Ent) : Bool := decide (x.T = y.T) && decide (x.K = y.K) && decide (x.D = y.D)
def sameL (i t : Int) (a : List Ent) (i2 t2 : Int) (b : List Ent) : Bool := decide (i = i2) && decide (t = t2) && sameE a b
/-- What Take says, and what the log is then. -/
def takeQ (i t : Int) (es : List Ent) (p : Int × Int) (more : List Ent) : Nat := (p.1 + meetN i t es p.1 more - i).toNat
def takeE (i t : Int) (es : List Ent) (p : Int × Int) (more : List Ent) : Int :=
  if meetE i t es p more = 0 then (if meetN i t es p.1 more < more.length then extE i t (es.take (takeQ i t es p more)) (more.drop (meetN i t es p.1 more)) else 0) else meetE i t es p more
def takeL (i t : Int) (es : List Ent) (p : Int × Int) (more : List Ent) : List Ent := if meetN i t es p.1 more < more.length then es.take (takeQ i t es p more) ++ more.drop (meetN i t es p.1 more) else es
def takeA (i t : Int) (es : List Ent) (p : Int × Int) (more : List Ent) : Int := if takeE i t es p more = 0 then p.1 + more.length else 0
/-- What From says. -/
def fromE (i t : Int) (es : List Ent) (x n : Int) : Int := if (aheadN i t es x).2 = 0 then (if n < 0 then 2 else 0) else (aheadN i t es x).2
def fromA (i t : Int) (es : List Ent) (x n : Int) : Int × Int := if fromE i t es x n = 0 then spotN i t es (aheadN i t es x).1.toNat else (0, 0)
def fromL (i t : Int) (es : List Ent) (x n : Int) : List Ent := if fromE i t es x n = 0 then (es.drop (aheadN i t es x).1.toNat).take n.toNat else []

set_option maxRecDepth 20000 in
set_option maxHeartbeats 1000000 in
theorem meet_T (b b' : Bool) (i t : Int) (es : List Ent) (h : okE es) (hi0 : 0 ≤ i) (hi1 : i < 18446744073709551616) (b2 b2' : Bool) (more : List Ent) (h2 : okE more) (p : Int × Int) (hp0 : 0 ≤ p.1) (hp1 : p.1 < 18446744073709551616) :
    TMeets Try.prog 24 [logT i t (.sl b (es.map (entC b'))), atT p, .sl b2 (more.map (entC b2'))] (.tup [.v (.int .i64 (meetR i t es p more)), .v (.int .i64 (meetE i t es p more))]) := by
  refine TMeets.of_TW Try.func24 rfl (by simp [PuL, Pu, logT, atT, pu_ents, entC, pu_bytes]) ?_
  intro B w0
  rw [Try.ntmps24]
  simp only [untagL, untag, List.length_cons, List.length_nil, List.replicate_succ, List.replicate_zero, Nat.reduceAdd, Nat.reduceSub, List.cons_append, List.nil_append, logT, atT, untag_ents, untag_bytes, entC]
  refine TW.seq_k ?_
  intro K1_ hK1_
  refine TW.reg ?_
  refine TL.st rfl (S_box rfl rfl) ?_
  intro σ_ hσ_; simp only [nrm, tev, St.step, putO, setsV, addO, ↓reduceIte, Nat.reduceAdd, logT, atT, intern, internL, kp_ents, fz_ents, fz_bytes, kp_bytes, logR, logE, ← List.map_take, ← List.map_drop, List.take_length] at hσ_; subst hσ_
  refine TL.st rfl (S_box rfl rfl) ?_
  intro σ_ hσ_; simp only [nrm, tev, St.step, putO, setsV, addO, ↓reduceIte, Nat.reduceAdd, logT, atT, intern, internL, kp_ents, fz_ents, fz_bytes, kp_bytes, logR, logE, ← List.map_take, ← List.map_drop, List.take_length] at hσ_; subst hσ_
  refine TL.st rfl (S_assign rfl) ?_
  intro σ_ hσ_; simp only [nrm, tev, St.step, putO, setsV, addO, ↓reduceIte, Nat.reduceAdd, logT, atT, intern, internL, kp_ents, fz_ents, fz_bytes, kp_bytes, logR, logE, ← List.map_take, ← List.map_drop, List.take_length] at hσ_; subst hσ_
  refine TL.st rfl (S_assign rfl) ?_
  intro σ_ hσ_; simp only [nrm, tev, St.step, putO, setsV, addO, ↓reduceIte, Nat.reduceAdd, logT, atT, intern, internL, kp_ents, fz_ents, fz_bytes, kp_bytes, logR, logE, ← List.map_take, ← List.map_drop, List.take_length] at hσ_; subst hσ_
  refine TL.nil ?_
  try simp (decide := true) only [thenT, inBlockT, noGotoT, jumpT, ↓reduceIte, true_and]
  refine hK1_ _ ?_
  refine TW.seq_k ?_
  intro K2_ hK2_
  refine TW.reg ?_
  first | refine TL.st rfl (S_load rfl rfl rfl (tT rfl) rfl) ?_ | refine TL.st rfl (S_load_eptr rfl rfl (tT rfl) rfl) ?_ | refine TL.st rfl (S_load_row rfl rfl rfl rfl (by assumption) (tT rfl) rfl) ?_ | refine TL.st rfl (S_load_row (j := 0) rfl rfl rfl rfl (by assumption) (tT rfl) rfl) ?_
  intro σ_ hσ_; simp only [nrm, tev, St.step, putO, setsV, addO, ↓reduceIte, Nat.reduceAdd, logT, atT, intern, internL, kp_ents, fz_ents, fz_bytes, kp_bytes, logR, logE, ← List.map_take, ← List.map_drop, List.take_length] at hσ_; subst hσ_
  refine TL.st rfl (S_build rfl (tT rfl) rfl (zT rfl) rfl (by repeat (first | exact PlOk.nil | (apply PlOk.cons; exact tT rfl))) rfl rfl) ?_
  intro σ_ hσ_; simp only [nrm, tev, St.step, putO, setsV, addO, ↓reduceIte, Nat.reduceAdd, logT, atT, intern, internL, kp_ents, fz_ents, fz_bytes, kp_bytes, logR, logE, ← List.map_take, ← List.map_drop, List.take_length] at hσ_; subst hσ_
  first | refine TL.st rfl (S_load rfl rfl rfl (tT rfl) rfl) ?_ | refine TL.st rfl (S_load_eptr rfl rfl (tT rfl) rfl) ?_ | refine TL.st rfl (S_load_row rfl rfl rfl rfl (by assumption) (tT rfl) rfl) ?_ | refine TL.st rfl (S_load_row (j := 0) rfl rfl rfl rfl (by assumption) (tT rfl) rfl) ?_
  intro σ_ hσ_; simp only [nrm, tev, St.step, putO, setsV, addO, ↓reduceIte, Nat.reduceAdd, logT, atT, intern, internL, kp_ents, fz_ents, fz_bytes, kp_bytes, logR, logE, ← List.map_take, ← List.map_drop, List.take_length] at hσ_; subst hσ_
  refine TL.st rfl (S_move rfl) ?_
  intro σ_ hσ_; simp only [nrm, tev, St.step, putO, setsV, addO, ↓reduceIte, Nat.reduceAdd, logT, atT, intern, internL, kp_ents, fz_ents, fz_bytes, kp_bytes, logR, logE, ← List.map_take, ← List.map_drop, List.take_length] at hσ_; subst hσ_
  first | refine TL.st rfl (S_call_row rfl rfl rfl (by kernel_rfl) rfl (meet0_T _ _ _ _ _ h hi0 hi1 _ _ _ h2 _ hp0 hp1) rfl) ?_ | refine TL.st rfl (S_call rfl rfl rfl (by kernel_rfl) rfl (meet0_T _ _ _ _ _ h hi0 hi1 _ _ _ h2 _ hp0 hp1)) ?_
  intro σ_ hσ_; simp only [nrm, tev, St.step, putO, setsV, addO, ↓reduceIte, Nat.reduceAdd, logT, atT, intern, internL, kp_ents, fz_ents, fz_bytes, kp_bytes, logR, logE, ← List.map_take, ← List.map_drop, List.take_length] at hσ_; subst hσ_
  refine TL.st rfl (S_extract rfl rfl rfl) ?_
  intro σ_ hσ_; simp only [nrm, tev, St.step, putO, setsV, addO, ↓reduceIte, Nat.reduceAdd, logT, atT, intern, internL, kp_ents, fz_ents, fz_bytes, kp_bytes, logR, logE, ← List.map_take, ← List.map_drop, List.take_length] at hσ_; subst hσ_
  refine TL.st rfl (S_extract rfl rfl rfl) ?_
  intro σ_ hσ_; simp only [nrm, tev, St.step, putO, setsV, addO, ↓reduceIte, Nat.reduceAdd, logT, atT, intern, internL, kp_ents, fz_ents, fz_bytes, kp_bytes, logR, logE, ← List.map_take, ← List.map_drop, List.take_length] at hσ_; subst hσ_
  refine TL.st rfl (S_assign rfl) ?_
  intro σ_ hσ_; simp only [nrm, tev, St.step, putO, setsV, addO, ↓reduceIte, Nat.reduceAdd, logT, atT, intern, internL, kp_ents, fz_ents, fz_bytes, kp_bytes, logR, logE, ← List.map_take, ← List.map_drop, List.take_length] at hσ_; subst hσ_
  refine TL.st rfl (S_assign rfl) ?_
  intro σ_ hσ_; simp only [nrm, tev, St.step, putO, setsV, addO, ↓reduceIte, Nat.reduceAdd, logT, atT, intern, internL, kp_ents, fz_ents, fz_bytes, kp_bytes, logR, logE, ← List.map_take, ← List.map_drop, List.take_length] at hσ_; subst hσ_
  refine TL.nil ?_
  try simp (decide := true) only [thenT, inBlockT, noGotoT, jumpT, ↓reduceIte, true_and]
  refine hK2_ _ ?_
  refine TW.ret ?_
  try simp (decide := true) only [thenT, inBlockT, noGotoT, jumpT, ↓reduceIte, true_and]
  refine ⟨.inr rfl, _, none, (ResT.two Try.results24 rfl rfl), ?_, (by rintro _ ⟨⟩)⟩
  simp only [nrm, tev, Out_v, Out_agg, Out_tup, OutL_nil, OutL_cons, Out_sl, Out_row_osl, Out_nil_osl, Out_nil_sl, Out_nil_nil, and_true, true_and, logT, atT, logR, logE, fr_ents, hf, List.getD_cons_zero, List.getD_cons_succ]
  done

end Go.Proofs.Ytpckkajodpiiaaa
