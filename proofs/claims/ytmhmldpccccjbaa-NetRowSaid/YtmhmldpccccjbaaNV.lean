/- Nets: what the document says of slots that are filled, emptied and meant. No condition. -/
import Derived.Test.YtmhmldpccccjbaaN4
import Derived.Test.YtmhmldpccccjbaaU24
import Derived.Test.YtmhmldpccccjbaaNB
import Derived.Deep.LoopGhost
namespace Go.Proofs.Ytmhmldpccccjbaa
open Go.RowKit
set_option linter.unusedVariables false
set_option linter.unusedSimpArgs false

def insD (d : List (Int × Int)) (x : Int × Int) : List (Int × Int) := d.take (posD d (dk x)) ++ [x] ++ d.drop (posD d (dk x))
def delD (d : List (Int × Int)) (x : Int × Int) : List (Int × Int) := d.take (posD d (dk x)) ++ d.drop (posD d (dk x) + 1)
end Go.Proofs.Ytmhmldpccccjbaa

namespace Go.Proofs.Ytmhmldpccccjbaa
open Go.RowKit
set_option linter.unusedVariables false
set_option linter.unusedSimpArgs false

/-- A row of elements of sz cells: numbers at o, slices of bytes at o2 (where told). -/
structure RowV (S : Nat → Prop) (M : Nat) (w : World) (A : Option Addr) (n : Nat) (ps : List (Option Addr × Nat × Nat)) : Prop where
  len : ps.length = n
  row : ∀ ad, A = some ad → 0 < n → M ≤ ad.block ∧ Unf w ad.block ∧ S ad.block
  cell : ∀ (j : Nat) p, ps[j]? = some p → ∃ ad, A = some ad ∧ ICell w (ad.add (j * 4)) .i64 ∧ w.cell? ⟨(ad.add (j * 4)).block, (ad.add (j * 4)).off + 1 + 2, none⟩ = some (.slice p.1 p.2.1 p.2.2)
  data : ∀ p ∈ ps, ∀ k, k < p.2.1 → ∃ bd, p.1 = some bd ∧ M ≤ bd.block ∧ Unf w bd.block ∧ S bd.block ∧ ICell w (bd.add k) .u8
structure RowD (S : Nat → Prop) (M : Nat) (w : World) (A : Option Addr) (n : Nat) : Prop where
  row : ∀ ad, A = some ad → 0 < n → M ≤ ad.block ∧ Unf w ad.block ∧ S ad.block
  cell : ∀ (j : Nat), j < n → ∃ ad, A = some ad ∧ ICell w ⟨(ad.add (j * 2)).block, (ad.add (j * 2)).off + 1, none⟩ .i64
theorem RowV.grow {S : Nat → Prop} {M : Nat} {w w' : World} {A : Option Addr} {n : Nat} {ps : List (Option Addr × Nat × Nat)} (h : RowV S M w A n ps) (hb : Below w.heap.size w w') : RowV S M w' A n ps where
  len := h.len
  row ad ha h0 := ⟨(h.row ad ha h0).1, (h.row ad ha h0).2.1.grow hb, (h.row ad ha h0).2.2⟩
  cell j p hp := by
    obtain ⟨ad, h1, h2, h3⟩ := h.cell j p hp
    exact ⟨ad, h1, h2.grow hb, (hb.cell (World.block_lt_of_cell? w _ h3)).trans h3⟩
  data p hp k hk := by
    obtain ⟨bd, h1, h2, h3, h5, h4⟩ := h.data p hp k hk
    exact ⟨bd, h1, h2, h3.grow hb, h5, h4.grow hb⟩
theorem RowV.set {S : Nat → Prop} {M : Nat} {w : World} {A : Option Addr} {n : Nat} {ps : List (Option Addr × Nat × Nat)} (h : RowV S M w A n ps) {q : Addr} {k : IntKind} (hq : ICell w q k) (y : Int) : RowV S M (w.setCell q (.int k y)) A n ps where
  len := h.len
  row ad ha h0 := ⟨(h.row ad ha h0).1, (h.row ad ha h0).2.1.set q _, (h.row ad ha h0).2.2⟩
  cell j p hp := by
    obtain ⟨ad, h1, h2, h3⟩ := h.cell j p hp
    exact ⟨ad, h1, h2.set hq y, cell_set h3 hq y⟩
  data p hp k hk := by
    obtain ⟨bd, h1, h2, h3, h5, h4⟩ := h.data p hp k hk
    exact ⟨bd, h1, h2, h3.set q _, h5, h4.set hq y⟩
theorem RowD.grow {S : Nat → Prop} {M : Nat} {w w' : World} {A : Option Addr} {n : Nat} (h : RowD S M w A n) (hb : Below w.heap.size w w') : RowD S M w' A n where
  row ad ha h0 := ⟨(h.row ad ha h0).1, (h.row ad ha h0).2.1.grow hb, (h.row ad ha h0).2.2⟩
  cell j hj := by
    obtain ⟨ad, h1, h2⟩ := h.cell j hj
    exact ⟨ad, h1, h2.grow hb⟩
theorem RowD.set {S : Nat → Prop} {M : Nat} {w : World} {A : Option Addr} {n : Nat} (h : RowD S M w A n) {q : Addr} {k : IntKind} (hq : ICell w q k) (y : Int) : RowD S M (w.setCell q (.int k y)) A n where
  row ad ha h0 := ⟨(h.row ad ha h0).1, (h.row ad ha h0).2.1.set q _, (h.row ad ha h0).2.2⟩
  cell j hj := by
    obtain ⟨ad, h1, h2⟩ := h.cell j hj
    exact ⟨ad, h1, h2.set hq y⟩
def netV (A : Option Addr) (n c : Nat) (l : Int) (D : Option Addr) (m d : Nat) : Value := .agg #[.slice A n c, .int .i64 l, .slice D m d]

end Go.Proofs.Ytmhmldpccccjbaa

namespace Go.Proofs.Ytmhmldpccccjbaa
open Go.RowKit
set_option linter.unusedVariables false
set_option linter.unusedSimpArgs false

/-- A net of so many parts. -/
structure NetA.Sh (n m : NetA) : Prop where
  s : n.s.length = m.s.length
  d : n.d.length = m.d.length
  b : ∀ x ∈ n.s, ∃ y ∈ m.s, x.b.length = y.b.length
def netCX (n : NetA) : List XV := [.p (.sl true (n.s.map (slC true))) (nl_sl _ _).sl, .p (.v (.int .i64 n.l)) (nlv _), .p (.sl true (n.d.map dfC)) (nl_df _).sl]
theorem NetA.Sh.sz {n m : NetA} (h : n.Sh m) (hm : m.Sz) : n.Sz := ⟨by rw [h.s]; exact hm.s, by rw [h.d]; exact hm.d, fun x hx => by obtain ⟨y, hy, e⟩ := h.b x hx; rw [e]; exact hm.b y hy⟩
/-- All pairs in their order. -/
def allP : List (Int × Int) := (List.range 64).map fun i => (((i / 8 : Nat) : Int) + 1, ((i % 8 : Nat) : Int) + 1)
def hearB (d : List (Int × Int)) (f t : Int) (is : Bool) (x : Int × Int) : Bool := if x = (f, t) then !is else decide (x ∈ d)
def hearL (d : List (Int × Int)) (f t : Int) (is : Bool) (k : Nat) : List (Int × Int) := (allP.take k).filter (hearB d f t is)
/-- What the document asks of a slot. -/
def okS (s : List Sl) (j : Nat) (x : Sl) : Prop := 0 ≤ x.a ∧ lastA s j < x.a ∧ x.a < 80 ∧ pkB x.f x.t x.b.length = true
def okD (d : List (Int × Int)) (j : Nat) (x : Int × Int) : Prop := pkB x.1 x.2 0 = true ∧ ∀ i p, j = i + 1 → d[i]? = some p → dk p < dk x
end Go.Proofs.Ytmhmldpccccjbaa

namespace Go.Proofs.Ytmhmldpccccjbaa
open Go.RowKit
set_option linter.unusedVariables false
set_option linter.unusedSimpArgs false

/-- What a slot carries. -/
def carr (s : List Sl) (x : Int) : Sl := (s.find? fun y => decide (y.a = x)).getD sl0
/-- None of the first slots is the one asked for. -/
def noCar (s : List Sl) (x : Int) (k : Nat) : Prop := ∀ j y, j < k → s[j]? = some y → y.a ≠ x
/-- The slots of a net, of which one carries something else. -/
def withO (s : List Sl) (x : Int) (p : Sl) (is : Bool) (i : Nat) : Option Sl :=
  if (i : Int) = x then if is = true then some ⟨i, p.f, p.t, p.b⟩ else none
  else if hasS s i = true then some ⟨i, (carr s i).f, (carr s i).t, (carr s i).b⟩ else none
def withR (s : List Sl) (x : Int) (p : Sl) (is : Bool) (k : Nat) : List Sl := (List.range k).filterMap (withO s x p is)
/-- The slot ahead of the next that is asked. -/
def lastI (l : Int) : Nat → Int
  | 0 => l
  | i + 1 => slotN l i
theorem mt_none {n : NetA} (h : rightB n = true) {p : Int} (hp : 0 ≤ p) (hs : n.s = []) : mtK n.s p = (0, 4) := mtK_f hp fun j _ => by rw [hs]; rfl
end Go.Proofs.Ytmhmldpccccjbaa
