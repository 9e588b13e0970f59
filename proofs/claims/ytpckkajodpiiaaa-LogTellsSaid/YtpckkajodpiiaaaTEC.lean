/- The program's Conf as a contract over trees. No condition. -/
import Derived.Test.YtpckkajodpiiaaaE15
import Derived.Test.YtpckkajodpiiaaaTE6
import Derived.Test.YtpckkajodpiiaaaLQ
namespace Go.Proofs.Ytpckkajodpiiaaa
open Go.RowKit
set_option linter.unusedVariables false
set_option linter.unusedSimpArgs false

/-- An owned row of bytes as a result. -/
theorem osl_of_bytes {base : Nat} {w' : World} {A : Option Addr} {n c : Nat} {l : List Int} (h : w'.ownsRow base 5 1 (.slice A n c) n (ib .u8 l)) :
    Dn (rsCx base w' (.slice A n c)) (.osl 5 1 (l.map byC)) (.slice A n c) := by
  have hn : n = l.length := by have := (Sees.of_own h).1; simpa [ib] using this.symm
  subst hn
  simp only [Dn, List.length_map]
  refine ⟨A, c, l.map (fun x => [.int .u8 x]), rfl, ⟨rfl, ?_⟩, fun x hx => by obtain ⟨y, _, rfl⟩ := List.mem_map.1 hx; rfl, ?_⟩
  · have : (l.map (fun x => [Value.int .u8 x])).flatten = ib .u8 l := by
      generalize l = m
      induction m with
      | nil => rfl
      | cons x m ih => simp [ib] at ih ⊢; exact ih
    rw [this]
    exact h
  · have k2 : ∀ m : List Int, DnLL (rsCx base w' (.slice A l.length c)) (m.map byC) (m.map fun x => [.int .u8 x]) := by
      intro m
      induction m with
      | nil => simp [DnLL]
      | cons x m ih => exact DnLL.cons (by simp [byC, DnL, Dn]) ih
    exact k2 l
theorem conf_T (b b' : Bool) (i t : Int) (es : List Ent) (h : okE es) (hi0 : 0 ≤ i) (hi1 : i < 18446744073709551616) (x : Int) :
    TMeets Try.prog 36 [logT i t (.sl b (es.map (entC b'))), .v (.int .u64 x)] (.tup [.v (.int .u64 (confR i t x es).1), .osl 5 1 ((confR i t x es).2.1.map byC), .v (.bool (confR i t x es).2.2)]) := fun C vals _ hd => by
  obtain ⟨A, n, c, ps, us, rfl, h1, h2, h3, h4, hes, h6, h7⟩ := log_args hd h.w
  simp only [DnL, Dn] at h7
  obtain ⟨_, _, rfl, rfl, rfl⟩ := h7
  have hn := h.n9
  have hl : n ≤ 1000000000 := by omega
  have hps : ∀ p ∈ ps, p.n ≤ 1000000000000 := fun p hp => by
    rw [h6 p hp]
    exact h.d12 p.e (by rw [← hes]; exact List.mem_map.2 ⟨p, hp, rfl⟩)
  refine (conf_any i t A n c ps x C.w h4 h2 hl hi0 hi1 hps).mono ?_
  rintro e w' ⟨A', n', c', rfl, h9, hb⟩
  rw [hes] at h9 ⊢
  have h10 := osl_of_bytes h9
  refine ⟨_, .slice A' n' c', rfl, hb, fun g hg => ?_, ?_⟩
  · exact h9.lt g (by cases A' <;> exact hg)
  · simp only [Dn]
    exact ⟨[.int .u64 (confR i t x es).1, .slice A' n' c', .bool (confR i t x es).2.2], rfl, DnL.cons (by simp [Dn]) (DnL.cons h10 (DnL.cons (by simp [Dn]) DnL.nil))⟩
theorem cfR_6 (i t x : Int) (es : List Ent) : ∀ k, cfR i t x es k = cf6 i t x es k
  | 0 => rfl
  | k + 1 => by
    show (match es[k]? with
      | some e => if e.K = 3 ∧ (spotN i t es (k + 1)).1 ≤ x then ((spotN i t es (k + 1)).1, e.D, true) else cfR i t x es k
      | none => cfR i t x es k) = _
    rw [cfR_6 i t x es k]
    rfl
theorem conf_X (b b' : Bool) (i t : Int) (es : List Ent) (h : okE es) (hi0 : 0 ≤ i) (hi1 : i < 18446744073709551616) (x : Int) :
    XMeets Try.prog 36 [logT i t (.sl b (es.map (entC b'))), .v (.int .u64 x)] (.tu [.p (.v (.int .u64 (confR i t x es).1)) (nlv _), .p (.sl true ((confR i t x es).2.1.map byC)) (nl_byc _).sl, .p (.v (.bool (confR i t x es).2.2)) (nlv _)]) :=
  .of_shr (by kernel_rfl) (conf_T b b' i t es h hi0 hi1 x) ⟨trivial, fr_bytes _, trivial, trivial⟩ rfl
end Go.Proofs.Ytpckkajodpiiaaa
