/- Which nets are the same, and what the document says of one. No condition. -/
import Derived.Test.YtmhmldpccccjbaaN3
namespace Go.Proofs.Ytmhmldpccccjbaa
open Go.RowKit
set_option linter.unusedVariables false
set_option linter.unusedSimpArgs false
set_option maxRecDepth 20000
deriving instance DecidableEq for Sl
deriving instance DecidableEq for NetA
structure NetA.Sz (n : NetA) : Prop where
  s : n.s.length ≤ 100000
  d : n.d.length ≤ 100000
  b : ∀ x ∈ n.s, x.b.length ≤ 100000
theorem NetA.Ok.sz {n : NetA} (h : n.Ok) : n.Sz := ⟨by have := h.sn; omega, by have := h.dn; omega, fun x hx => (h.s x hx).n⟩
/-- A net that can be gone through. -/
def fewS (s : Sl) : Sl := ⟨s.a, s.f, s.t, s.b.take 70001⟩
def fewN (n : NetA) : NetA := ⟨(n.s.take 81).map fewS, n.l, n.d.take 70⟩
/-- What comes in. -/
structure NetA.In (n : NetA) : Prop where
  s : ∀ x ∈ n.s, I64 x.a ∧ I64 x.f ∧ I64 x.t ∧ x.b.length ≤ 9223372036854775807
  sn : n.s.length ≤ 9223372036854775807
  l : I64 n.l
  d : ∀ x ∈ n.d, I64 x.1 ∧ I64 x.2
  dn : n.d.length ≤ 9223372036854775807
def fewR (s : List Sl) (k : Nat) : List Sl := (s.take (min k 81)).map fewS
section
variable {P : Program} {B : Nat} {w0 : World} {T : Tab} {n : Nat} {e : Env} {h : List XLB} {gs : Frames} {K : XQ} {c : Code}
end
theorem k0_ok : (⟨[], 79, []⟩ : NetA).Ok := ⟨by simp, by simp, by simp [I64], by simp, by simp⟩
theorem k1_ok : (⟨[⟨0, 1, 2, [7]⟩, ⟨1, 1, 3, [8]⟩], 1, []⟩ : NetA).Ok := ⟨by intro x hx; simp only [List.mem_cons, List.not_mem_nil, or_false] at hx; rcases hx with rfl | rfl <;> exact ⟨by simp [I64], by simp [I64], by simp [I64], by simp⟩, by simp, by simp [I64], by simp, by simp⟩
theorem k2_ok : (⟨[⟨0, 1, 2, [7]⟩, ⟨1, 1, 3, [8]⟩, ⟨2, 1, 2, [7]⟩], 2, []⟩ : NetA).Ok := ⟨by intro x hx; simp only [List.mem_cons, List.not_mem_nil, or_false] at hx; rcases hx with rfl | rfl | rfl <;> exact ⟨by simp [I64], by simp [I64], by simp [I64], by simp⟩, by simp, by simp [I64], by simp, by simp⟩
set_option maxRecDepth 20000 in
theorem wakes_X  : XMeets Try.prog 9 [] (.p (.v (.bool (true))) (nlv _)) := by
  refine XMeets.of_X tabX_ok (avs := []) [] (by kernel_rfl) Try.func9 rfl (by simp [PuL, Pu]) (rfl) rfl rfl ?_
  intro B w0
  conv => whnf
  refine .ct ?_
  conv => whnf
  refine CallG.mk (send_X true true true true true (⟨[], 79, []⟩ : NetA) 1 [(2, [7]), (3, [8])] k0_ok (by intro m hm; simp only [List.mem_cons, List.not_mem_nil, or_false] at hm; rcases hm with rfl | rfl <;> simp) (by simp) ((⟨[⟨0, 1, 2, [7]⟩, ⟨1, 1, 3, [8]⟩], 1, []⟩ : NetA), 0) (by kernel_rfl)) rfl ?_
  conv => whnf
  refine .ct ?_
  conv => whnf
  refine CallG.mk (double_X true true true (⟨[⟨0, 1, 2, [7]⟩, ⟨1, 1, 3, [8]⟩], 1, []⟩ : NetA) 0 k1_ok (by omega) ((⟨[⟨0, 1, 2, [7]⟩, ⟨1, 1, 3, [8]⟩, ⟨2, 1, 2, [7]⟩], 2, []⟩ : NetA), 0) (by kernel_rfl)) rfl ?_
  conv => whnf
  refine .ct ?_
  conv => whnf
  refine CallG.mk (deliver_X true true true (⟨[⟨0, 1, 2, [7]⟩, ⟨1, 1, 3, [8]⟩, ⟨2, 1, 2, [7]⟩], 2, []⟩ : NetA) 1 k2_ok (by omega) ((⟨[⟨0, 1, 2, [7]⟩, ⟨2, 1, 2, [7]⟩], 2, []⟩ : NetA), ⟨1, 1, 3, [8]⟩, 0) (by kernel_rfl)) rfl ?_
  conv => whnf
  refine IdxG.mk rfl rfl ?_
  conv => whnf
  refine ⟨rfl, ?_⟩
  conv => whnf
  refine IdxG.mk rfl rfl ?_
  conv => whnf
  refine ⟨rfl, ?_⟩
  conv => whnf
  refine FinG.mk none ?_ (by rintro _ ⟨⟩)
  simp only [outs, List.length_map, List.length_append, List.length_take, List.length_drop, List.length_cons, List.length_nil, slC, dfC, netX, net0, List.map_nil, mix_len, pkX, slX, sl0, delS]
  simp; done
end Go.Proofs.Ytmhmldpccccjbaa
