/- Nets: what the document says of slots that are filled, emptied and meant. No condition. -/
import Derived.Test.YtmhmldpccccjbaaN4
import Derived.Test.YtmhmldpccccjbaaU24
import Derived.Test.YtmhmldpccccjbaaNB
import Derived.Deep.LoopGhost
namespace Go.Proofs.Ytmhmldpccccjbaa
open Go.RowKit
set_option linter.unusedVariables false
set_option linter.unusedSimpArgs false

theorem right_ok {n : NetA} (h : Right n) : n.Ok := by
  refine ⟨fun x hx => ?_, by have := h.s.n; omega, ?_, fun x hx => ?_, by have := h.d.n; omega⟩
  · have h1 := h.s.w x hx
    have h2 := pkB_iff.1 (h.p x hx)
    unfold inWay at h1
    exact ⟨⟨by omega, by omega⟩, ⟨by omega, by omega⟩, ⟨by omega, by omega⟩, by omega⟩
  · have := h.l
    exact ⟨by omega, by omega⟩
  · have h2 := pkB_iff.1 (h.d.w x hx)
    exact ⟨⟨by omega, by omega⟩, by omega, by omega⟩
def insD (d : List (Int × Int)) (x : Int × Int) : List (Int × Int) := d.take (posD d (dk x)) ++ [x] ++ d.drop (posD d (dk x))
def delD (d : List (Int × Int)) (x : Int × Int) : List (Int × Int) := d.take (posD d (dk x)) ++ d.drop (posD d (dk x) + 1)
theorem wayD_of {d : List (Int × Int)} (hw : ∀ y ∈ d, pkB y.1 y.2 0 = true) (ho : d.Pairwise fun x y => dk x < dk y) : WayD d := by
  refine ⟨?_, hw, ho⟩
  have := rise_len (l := d.map dk) (lo := 0) (hi := 100) (List.pairwise_map.2 ho) (fun x hx => by
    obtain ⟨y, hy, rfl⟩ := List.mem_map.1 hx
    have := pkB_iff.1 (hw y hy)
    unfold dk; omega) (by omega)
  simp at this
  omega
theorem posD_lt' {s : List (Int × Int)} {x : Int} : ∀ {m : Nat} {y : Int × Int}, m < posD s x → s[m]? = some y → dk y < x := by
  induction s with
  | nil => intro m y h hy; simp at hy
  | cons a s ih =>
    intro m y h hy
    unfold posD at h
    by_cases ha : dk a < x
    · rw [List.takeWhile_cons_of_pos (by simpa using ha), List.length_cons] at h
      cases m with
      | zero => simp at hy; subst hy; exact ha
      | succ m => exact ih (m := m) (by unfold posD; omega) (by simpa using hy)
    · rw [List.takeWhile_cons_of_neg (by simpa using ha)] at h
      simp at h
theorem posD_ge' {s : List (Int × Int)} {x : Int} (ho : s.Pairwise fun x y => dk x < dk y) : ∀ {m : Nat} {y : Int × Int}, posD s x ≤ m → s[m]? = some y → x ≤ dk y := by
  induction s with
  | nil => intro m y h hy; simp at hy
  | cons a s ih =>
    intro m y h hy
    unfold posD at h
    by_cases ha : dk a < x
    · rw [List.takeWhile_cons_of_pos (by simpa using ha), List.length_cons] at h
      cases m with
      | zero => omega
      | succ m => exact ih (List.pairwise_cons.1 ho).2 (m := m) (by unfold posD; omega) (by simpa using hy)
    · cases m with
      | zero => simp at hy; subst hy; omega
      | succ m =>
        have := (List.pairwise_cons.1 ho).1 y (List.mem_of_getElem? (by simpa using hy))
        omega
theorem ge_gt {d : List (Int × Int)} {x : Int × Int} (hd : WayD d) (hx : pkB x.1 x.2 0 = true) (hn : x ∉ d) {m : Nat} {y : Int × Int} (hm : posD d (dk x) ≤ m) (hy : d[m]? = some y) : dk x < dk y := by
  have h1 := posD_ge' hd.o hm hy
  have hyd := List.mem_of_getElem? hy
  have h2 : dk y ≠ dk x := fun e => hn ((ordN_dk (hd.w y hyd) hx).2.2.2 e ▸ hyd)
  omega
theorem insD_way {d : List (Int × Int)} {x : Int × Int} (hd : WayD d) (hx : pkB x.1 x.2 0 = true) (hn : x ∉ d) : WayD (insD d x) := by
  unfold insD
  refine wayD_of (fun y hy => ?_) ?_
  · simp only [List.mem_append, List.mem_singleton] at hy
    rcases hy with (hy | rfl) | hy
    · exact hd.w y (List.mem_of_mem_take hy)
    · exact hx
    · exact hd.w y (List.mem_of_mem_drop hy)
  · have hz : ∀ z ∈ d.drop (posD d (dk x)), dk x < dk z := fun z hz => by
      obtain ⟨m, hm, rfl⟩ := List.getElem_of_mem hz
      rw [List.length_drop] at hm
      rw [List.getElem_drop]
      exact ge_gt hd hx hn (m := posD d (dk x) + m) (by omega) (List.getElem?_eq_getElem (by omega))
    have hy : ∀ y ∈ d.take (posD d (dk x)), dk y < dk x := fun y hy => by
      obtain ⟨m, hm, rfl⟩ := List.getElem_of_mem hy
      rw [List.length_take] at hm
      rw [List.getElem_take]
      exact posD_lt' (s := d) (m := m) (by omega) (List.getElem?_eq_getElem (by omega))
    rw [List.pairwise_append, List.pairwise_append]
    refine ⟨⟨hd.o.sublist (List.take_sublist _ _), by simp, fun y hy' z hz' => ?_⟩, hd.o.sublist (List.drop_sublist _ _), fun y hy' z hz' => ?_⟩
    · simp only [List.mem_singleton] at hz'
      subst hz'; exact hy y hy'
    · have h2 := hz z hz'
      rcases List.mem_append.1 hy' with hy' | hy'
      · have := hy y hy'; omega
      · simp only [List.mem_singleton] at hy'
        subst hy'; exact h2
theorem delD_way {d : List (Int × Int)} {x : Int × Int} (hd : WayD d) : WayD (delD d x) := by
  have hs : (delD d x).Sublist d := by
    unfold delD
    have h1 : (d.drop (posD d (dk x) + 1)).Sublist (d.drop (posD d (dk x))) := by
      rw [Nat.add_comm, ← List.drop_drop]
      simpa using (List.drop_sublist 1 (d.drop (posD d (dk x))))
    have := (List.Sublist.refl (d.take (posD d (dk x)))).append h1
    rwa [List.take_append_drop] at this
  exact wayD_of (fun y hy => hd.w y (hs.subset hy)) (hd.o.sublist hs)
theorem right_ins {n : NetA} {x : Int × Int} (h : Right n) (hp : pkB x.1 x.2 0 = true) (hn : x ∉ n.d) : Right ⟨n.s, n.l, insD n.d x⟩ := ⟨h.l, h.s, h.p, insD_way h.d hp hn⟩
theorem right_del {n : NetA} {x : Int × Int} (h : Right n) : Right ⟨n.s, n.l, delD n.d x⟩ := ⟨h.l, h.s, h.p, delD_way h.d⟩
end Go.Proofs.Ytmhmldpccccjbaa

namespace Go.Proofs.Ytmhmldpccccjbaa
open Go.RowKit
set_option linter.unusedVariables false
set_option linter.unusedSimpArgs false

/-- A row of elements of sz cells: numbers at o, slices of bytes at o2 (where told). -/
structure RowV (S : Nat → Prop) (M : Nat) (w : World) (A : Option Addr) (n : Nat) (ps : List (Option Addr × Nat × Nat)) : Prop where
  len : ps.length = n
  row : ∀ ad, A = some ad → 0 < n → M ≤ ad.block ∧ Unf w ad.block ∧ S ad.block
  cell : ∀ (j : Nat) p, ps[j]? = some p → ∃ ad, A = some ad ∧ ICell w (ad.add (j * 4)) .i64 ∧ w.cell? ⟨(ad.add (j * 4)).block, (ad.add (j * 4)).off + 1 + 2, none⟩ = some (.slice p.1 p.2.1 p.2.2)
  data : ∀ p ∈ ps, ∀ k, k < p.2.1 → ∃ bd, p.1 = some bd ∧ M ≤ bd.block ∧ Unf w bd.block ∧ S bd.block ∧ ICell w (bd.add k) .u8
structure RowD (S : Nat → Prop) (M : Nat) (w : World) (A : Option Addr) (n : Nat) : Prop where
  row : ∀ ad, A = some ad → 0 < n → M ≤ ad.block ∧ Unf w ad.block ∧ S ad.block
  cell : ∀ (j : Nat), j < n → ∃ ad, A = some ad ∧ ICell w ⟨(ad.add (j * 2)).block, (ad.add (j * 2)).off + 1, none⟩ .i64
theorem RowV.grow {S : Nat → Prop} {M : Nat} {w w' : World} {A : Option Addr} {n : Nat} {ps : List (Option Addr × Nat × Nat)} (h : RowV S M w A n ps) (hb : Below w.heap.size w w') : RowV S M w' A n ps where
  len := h.len
  row ad ha h0 := ⟨(h.row ad ha h0).1, (h.row ad ha h0).2.1.grow hb, (h.row ad ha h0).2.2⟩
  cell j p hp := by
    obtain ⟨ad, h1, h2, h3⟩ := h.cell j p hp
    exact ⟨ad, h1, h2.grow hb, (hb.cell (World.block_lt_of_cell? w _ h3)).trans h3⟩
  data p hp k hk := by
    obtain ⟨bd, h1, h2, h3, h5, h4⟩ := h.data p hp k hk
    exact ⟨bd, h1, h2, h3.grow hb, h5, h4.grow hb⟩
theorem RowV.set {S : Nat → Prop} {M : Nat} {w : World} {A : Option Addr} {n : Nat} {ps : List (Option Addr × Nat × Nat)} (h : RowV S M w A n ps) {q : Addr} {k : IntKind} (hq : ICell w q k) (y : Int) : RowV S M (w.setCell q (.int k y)) A n ps where
  len := h.len
  row ad ha h0 := ⟨(h.row ad ha h0).1, (h.row ad ha h0).2.1.set q _, (h.row ad ha h0).2.2⟩
  cell j p hp := by
    obtain ⟨ad, h1, h2, h3⟩ := h.cell j p hp
    exact ⟨ad, h1, h2.set hq y, cell_set h3 hq y⟩
  data p hp k hk := by
    obtain ⟨bd, h1, h2, h3, h5, h4⟩ := h.data p hp k hk
    exact ⟨bd, h1, h2, h3.set q _, h5, h4.set hq y⟩
theorem RowD.grow {S : Nat → Prop} {M : Nat} {w w' : World} {A : Option Addr} {n : Nat} (h : RowD S M w A n) (hb : Below w.heap.size w w') : RowD S M w' A n where
  row ad ha h0 := ⟨(h.row ad ha h0).1, (h.row ad ha h0).2.1.grow hb, (h.row ad ha h0).2.2⟩
  cell j hj := by
    obtain ⟨ad, h1, h2⟩ := h.cell j hj
    exact ⟨ad, h1, h2.grow hb⟩
theorem RowD.set {S : Nat → Prop} {M : Nat} {w : World} {A : Option Addr} {n : Nat} (h : RowD S M w A n) {q : Addr} {k : IntKind} (hq : ICell w q k) (y : Int) : RowD S M (w.setCell q (.int k y)) A n where
  row ad ha h0 := ⟨(h.row ad ha h0).1, (h.row ad ha h0).2.1.set q _, (h.row ad ha h0).2.2⟩
  cell j hj := by
    obtain ⟨ad, h1, h2⟩ := h.cell j hj
    exact ⟨ad, h1, h2.set hq y⟩
def netV (A : Option Addr) (n c : Nat) (l : Int) (D : Option Addr) (m d : Nat) : Value := .agg #[.slice A n c, .int .i64 l, .slice D m d]

end Go.Proofs.Ytmhmldpccccjbaa

namespace Go.Proofs.Ytmhmldpccccjbaa
open Go.RowKit
set_option linter.unusedVariables false
set_option linter.unusedSimpArgs false

/-- A net of so many parts. -/
structure NetA.Sh (n m : NetA) : Prop where
  s : n.s.length = m.s.length
  d : n.d.length = m.d.length
  b : ∀ x ∈ n.s, ∃ y ∈ m.s, x.b.length = y.b.length
def netCX (n : NetA) : List XV := [.p (.sl true (n.s.map (slC true))) (nl_sl _ _).sl, .p (.v (.int .i64 n.l)) (nlv _), .p (.sl true (n.d.map dfC)) (nl_df _).sl]
theorem NetA.Sh.sz {n m : NetA} (h : n.Sh m) (hm : m.Sz) : n.Sz := ⟨by rw [h.s]; exact hm.s, by rw [h.d]; exact hm.d, fun x hx => by obtain ⟨y, hy, e⟩ := h.b x hx; rw [e]; exact hm.b y hy⟩
/-- All pairs in their order. -/
def allP : List (Int × Int) := (List.range 64).map fun i => (((i / 8 : Nat) : Int) + 1, ((i % 8 : Nat) : Int) + 1)
def hearB (d : List (Int × Int)) (f t : Int) (is : Bool) (x : Int × Int) : Bool := if x = (f, t) then !is else decide (x ∈ d)
def hearL (d : List (Int × Int)) (f t : Int) (is : Bool) (k : Nat) : List (Int × Int) := (allP.take k).filter (hearB d f t is)
/-- What the document asks of a slot. -/
def okS (s : List Sl) (j : Nat) (x : Sl) : Prop := 0 ≤ x.a ∧ lastA s j < x.a ∧ x.a < 80 ∧ pkB x.f x.t x.b.length = true
def okD (d : List (Int × Int)) (j : Nat) (x : Int × Int) : Prop := pkB x.1 x.2 0 = true ∧ ∀ i p, j = i + 1 → d[i]? = some p → dk p < dk x
end Go.Proofs.Ytmhmldpccccjbaa

namespace Go.Proofs.Ytmhmldpccccjbaa
open Go.RowKit
set_option linter.unusedVariables false
set_option linter.unusedSimpArgs false

/-- What a slot carries. -/
def carr (s : List Sl) (x : Int) : Sl := (s.find? fun y => decide (y.a = x)).getD sl0
/-- None of the first slots is the one asked for. -/
def noCar (s : List Sl) (x : Int) (k : Nat) : Prop := ∀ j y, j < k → s[j]? = some y → y.a ≠ x
/-- The slots of a net, of which one carries something else. -/
def withO (s : List Sl) (x : Int) (p : Sl) (is : Bool) (i : Nat) : Option Sl :=
  if (i : Int) = x then if is = true then some ⟨i, p.f, p.t, p.b⟩ else none
  else if hasS s i = true then some ⟨i, (carr s i).f, (carr s i).t, (carr s i).b⟩ else none
def withR (s : List Sl) (x : Int) (p : Sl) (is : Bool) (k : Nat) : List Sl := (List.range k).filterMap (withO s x p is)
theorem insS_mem {s : List Sl} {x y : Sl} : y ∈ insS s x ↔ y = x ∨ y ∈ s := by
  unfold insS
  conv => rhs; rw [← List.take_append_drop (posS s x.a) s]
  simp only [List.mem_append, List.mem_singleton]
  constructor
  · rintro ((h | h) | h)
    · exact .inr (.inl h)
    · exact .inl h
    · exact .inr (.inr h)
  · rintro (h | h | h)
    · exact .inl (.inr h)
    · exact .inl (.inl h)
    · exact .inr h
theorem delS_sub (s : List Sl) (k : Nat) : (delS s k).Sublist s := by
  unfold delS
  have h1 : (s.drop (k + 1)).Sublist (s.drop k) := by
    rw [Nat.add_comm, ← List.drop_drop]
    simpa [Nat.add_comm] using (List.drop_sublist 1 (s.drop k))
  have := (List.Sublist.refl (s.take k)).append h1
  rwa [List.take_append_drop] at this
/-- The slot ahead of the next that is asked. -/
def lastI (l : Int) : Nat → Int
  | 0 => l
  | i + 1 => slotN l i
theorem mt_none {n : NetA} (h : rightB n = true) {p : Int} (hp : 0 ≤ p) (hs : n.s = []) : mtK n.s p = (0, 4) := mtK_f hp fun j _ => by rw [hs]; rfl
end Go.Proofs.Ytmhmldpccccjbaa
