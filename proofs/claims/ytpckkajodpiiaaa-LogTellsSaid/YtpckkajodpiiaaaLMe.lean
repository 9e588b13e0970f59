/- What a log meets of offers, and what it is then: the walk. No condition. -/
import Derived.Test.YtpckkajodpiiaaaLR
import Derived.Test.YtpckkajodpiiaaaU10
import Derived.Test.YtpckkajodpiiaaaLS
import Derived.Test.YtpckkajodpiiaaaTEA
namespace Go.Proofs.Ytpckkajodpiiaaa
open Go.RowKit
set_option linter.unusedVariables false
set_option linter.unusedSimpArgs false
set_option maxRecDepth 20000
def take6X (i t : Int) (es : List Ent) (p : Int × Int) (more : List Ent) : Int := (spotN p.1 p.2 more (meet6N i t es p.1 more + 1)).1
def take6E (i t : Int) (es : List Ent) (p : Int × Int) (more : List Ent) : Int :=
  if meet6E i t es p more = 0 then (if meet6N i t es p.1 more = more.length then 0 else if cut6E i es (take6X i t es p more) = 0 then extE i t (cut6L i es (take6X i t es p more)) (more.drop (meet6N i t es p.1 more)) else cut6E i es (take6X i t es p more)) else meet6E i t es p more
def take6L (i t : Int) (es : List Ent) (p : Int × Int) (more : List Ent) : List Ent := if meet6N i t es p.1 more = more.length then es else cut6L i es (take6X i t es p more) ++ more.drop (meet6N i t es p.1 more)
def take6A (i t : Int) (es : List Ent) (p : Int × Int) (more : List Ent) : Int := if take6E i t es p more = 0 then p.1 + more.length else 0
theorem dOk.cut {es : List Ent} (h : dOk es) (i x : Int) : dOk (cut6L i es x) := h.take _
end Go.Proofs.Ytpckkajodpiiaaa

namespace Go.Proofs.Ytpckkajodpiiaaa
open Go.RowKit
set_option linter.unusedVariables false
set_option linter.unusedSimpArgs false
set_option maxRecDepth 20000
theorem wakes_X : XMeets Try.prog 10 [] (.p (.v (.bool true)) (nlv _)) := ⟨by kernel_rfl, wakes_T⟩
theorem own_X (b b' : Bool) (i t : Int) (es : List Ent) (hn : es.length ≤ 9223372036854775807) {F : List Ent} (hF : fewL es = F) : XMeets Try.prog 11 [logT i t (.sl b (es.map (entC b')))] (.ag [.p (.v (.int .u64 i)) (nlv _), .p (.v (.int .u64 t)) (nlv _), .p (.sl true (F.map (entC true))) (nl_ents _ _).sl]) := by
  subst hF
  exact .of_shr (by kernel_rfl) (own_T b b' i t es hn) ⟨trivial, trivial, fr_ents _, trivial⟩ rfl
theorem right_X (b b' : Bool) (i t : Int) (es : List Ent) (h : okE es) (hi0 : 0 ≤ i) (hi1 : i < 18446744073709551616) (ht0 : 0 ≤ t) : XMeets Try.prog 19 [logT i t (.sl b (es.map (entC b')))] (.p (.v (.bool (mayB i t es))) (nlv _)) := ⟨by kernel_rfl, right_T b b' i t es h.w h.n9 hi0 hi1 ht0⟩
theorem num6_ofN {i x : Int} {N : Nat} (h0 : 0 ≤ i) (hr : roomB i N = true) : num6 i x N = ofN i x N := by
  simp only [roomB, Bool.and_eq_true, decide_eq_true_eq] at hr
  rcases ofN_cases i x N with ⟨k, h1, h2, h3, h4⟩ | ⟨h1, h2⟩
  · rw [h2]
    exact num6_at h1 h3 fun j hj e => by omega
  · rw [h1]
    exact num6_no h2
theorem may_room6 {i t : Int} {es : List Ent} (h : mayB i t es = true) : roomB i es.length = true := by
  simp only [mayB, Bool.and_eq_true] at h; exact h.1.2
theorem has_6 {i t : Int} {es : List Ent} (h0 : 0 ≤ i) (h : mayB i t es = true) (a b : Int) : has6B i t es a b = hasB i t es a b := by
  unfold has6B hasB
  rw [num6_ofN h0 (may_room6 h)]
/-- Entries that can be written over. -/
def Wo (x : List Ent) : Prop := x.length ≤ 1000 ∧ ∀ e ∈ x, e.D.length ≤ 1000000
theorem Wo.nil : Wo [] := ⟨by simp, by simp⟩
theorem Wo.few (es : List Ent) : Wo (fewL es) := ⟨by simp [fewL]; omega, fun e he => by
  obtain ⟨x, hx, rfl⟩ := List.mem_map.1 he
  simp [cutE]; omega⟩
theorem Wo.app {a b c d : List Ent} (h1 : a = fewL c) (h2 : b = fewL d) : Wo (a ++ b) := by
  subst h1 h2
  refine ⟨by simp [fewL]; omega, fun e he => ?_⟩
  rcases List.mem_append.1 he with he | he
  · exact (Wo.few _).2 e he
  · exact (Wo.few _).2 e he
theorem Wo.sub {a b : List Ent} (h : Wo a) (hl : b.length ≤ a.length) (hs : ∀ e ∈ b, e ∈ a) : Wo b := ⟨by have := h.1; omega, fun e he => h.2 e (hs e he)⟩
theorem Wo.take {a : List Ent} (h : Wo a) (k : Nat) : Wo (a.take k) := h.sub (by simp; omega) fun e he => List.mem_of_mem_take he
theorem Wo.drop {a : List Ent} (h : Wo a) (k : Nat) : Wo (a.drop k) := h.sub (by simp) fun e he => List.mem_of_mem_drop he
theorem Wo.S {x : List Ent} (h : Wo x) {i t : Int} : SpB Try.prog 21 [logT i t (.sl true (x.map (entC true)))] := over_S (by have := h.1; omega) fun e he => by have := h.2 e he; omega
theorem pin_nl (i t : Int) (F : List Ent) : NlL [TV.v (.int .u64 i), .v (.int .u64 t), .sl false (F.map (entC false))] := .cons (nlv _) (.cons (nlv _) (.cons (nl_ents _ _).sl .nil))
theorem notF {b : Bool} (h : b = true) : (!b) = false := by rw [h]; rfl
theorem Wo.tk {F G c d : List Ent} (h1 : fewL c = F) (h2 : fewL d = G) (i t : Int) (p : Int × Int) : Wo (takeL i t F p G) := by
  have hA := Wo.app (a := F) (b := G) h1.symm h2.symm
  unfold takeL
  split
  · refine hA.sub (by simp; omega) fun z hz => ?_
    rcases List.mem_append.1 hz with hz | hz
    · exact List.mem_append_left _ (List.mem_of_mem_take hz)
    · exact List.mem_append_right _ (List.mem_of_mem_drop hz)
  · exact hA.sub (by simp) fun z hz => List.mem_append_left _ hz
theorem Wo.d {x : List Ent} (h : Wo x) : dOk x := h.2
theorem Wo.n {x : List Ent} (h : Wo x) : x.length ≤ 1000000 := by have := h.1; omega
theorem same6_W (b b' c c' : Bool) (i t i2 t2 : Int) {x : List Ent} (y : List Ent) (h : Wo x) : XMeets Try.prog 20 [logT i t (.sl b (x.map (entC b'))), logT i2 t2 (.sl c (y.map (entC c')))] (.p (.v (.bool (sameL i t x i2 t2 y))) (nlv _)) := same6_X b b' c c' i t i2 t2 x y h.d h.n
end Go.Proofs.Ytpckkajodpiiaaa
