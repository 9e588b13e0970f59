/- Who hears whom, by the document: the walk. No condition. -/
import Derived.Test.YtmhmldpccccjbaaN4
import Derived.Test.YtmhmldpccccjbaaU18
import Derived.Test.YtmhmldpccccjbaaNB
import Derived.Deep.LoopGhost
import Derived.Test.YtmhmldpccccjbaaU18
namespace Go.Proofs.Ytmhmldpccccjbaa
open Go.RowKit
set_option linter.unusedVariables false
set_option linter.unusedSimpArgs false

theorem net0_ok : net0.Ok := ⟨by simp [net0], by simp [net0], by simp [net0, I64], by simp [net0], by simp [net0]⟩
def insD (d : List (Int × Int)) (x : Int × Int) : List (Int × Int) := d.take (posD d (dk x)) ++ [x] ++ d.drop (posD d (dk x))
def delD (d : List (Int × Int)) (x : Int × Int) : List (Int × Int) := d.take (posD d (dk x)) ++ d.drop (posD d (dk x) + 1)
end Go.Proofs.Ytmhmldpccccjbaa

namespace Go.Proofs.Ytmhmldpccccjbaa
open Go.RowKit
set_option linter.unusedVariables false
set_option linter.unusedSimpArgs false

/-- A row of elements of sz cells: numbers at o, slices of bytes at o2 (where told). -/
structure RowV (S : Nat → Prop) (M : Nat) (w : World) (A : Option Addr) (n : Nat) (ps : List (Option Addr × Nat × Nat)) : Prop where
  len : ps.length = n
  row : ∀ ad, A = some ad → 0 < n → M ≤ ad.block ∧ Unf w ad.block ∧ S ad.block
  cell : ∀ (j : Nat) p, ps[j]? = some p → ∃ ad, A = some ad ∧ ICell w (ad.add (j * 4)) .i64 ∧ w.cell? ⟨(ad.add (j * 4)).block, (ad.add (j * 4)).off + 1 + 2, none⟩ = some (.slice p.1 p.2.1 p.2.2)
  data : ∀ p ∈ ps, ∀ k, k < p.2.1 → ∃ bd, p.1 = some bd ∧ M ≤ bd.block ∧ Unf w bd.block ∧ S bd.block ∧ ICell w (bd.add k) .u8
structure RowD (S : Nat → Prop) (M : Nat) (w : World) (A : Option Addr) (n : Nat) : Prop where
  row : ∀ ad, A = some ad → 0 < n → M ≤ ad.block ∧ Unf w ad.block ∧ S ad.block
  cell : ∀ (j : Nat), j < n → ∃ ad, A = some ad ∧ ICell w ⟨(ad.add (j * 2)).block, (ad.add (j * 2)).off + 1, none⟩ .i64
theorem RowV.grow {S : Nat → Prop} {M : Nat} {w w' : World} {A : Option Addr} {n : Nat} {ps : List (Option Addr × Nat × Nat)} (h : RowV S M w A n ps) (hb : Below w.heap.size w w') : RowV S M w' A n ps where
  len := h.len
  row ad ha h0 := ⟨(h.row ad ha h0).1, (h.row ad ha h0).2.1.grow hb, (h.row ad ha h0).2.2⟩
  cell j p hp := by
    obtain ⟨ad, h1, h2, h3⟩ := h.cell j p hp
    exact ⟨ad, h1, h2.grow hb, (hb.cell (World.block_lt_of_cell? w _ h3)).trans h3⟩
  data p hp k hk := by
    obtain ⟨bd, h1, h2, h3, h5, h4⟩ := h.data p hp k hk
    exact ⟨bd, h1, h2, h3.grow hb, h5, h4.grow hb⟩
theorem RowV.set {S : Nat → Prop} {M : Nat} {w : World} {A : Option Addr} {n : Nat} {ps : List (Option Addr × Nat × Nat)} (h : RowV S M w A n ps) {q : Addr} {k : IntKind} (hq : ICell w q k) (y : Int) : RowV S M (w.setCell q (.int k y)) A n ps where
  len := h.len
  row ad ha h0 := ⟨(h.row ad ha h0).1, (h.row ad ha h0).2.1.set q _, (h.row ad ha h0).2.2⟩
  cell j p hp := by
    obtain ⟨ad, h1, h2, h3⟩ := h.cell j p hp
    exact ⟨ad, h1, h2.set hq y, cell_set h3 hq y⟩
  data p hp k hk := by
    obtain ⟨bd, h1, h2, h3, h5, h4⟩ := h.data p hp k hk
    exact ⟨bd, h1, h2, h3.set q _, h5, h4.set hq y⟩
theorem RowD.grow {S : Nat → Prop} {M : Nat} {w w' : World} {A : Option Addr} {n : Nat} (h : RowD S M w A n) (hb : Below w.heap.size w w') : RowD S M w' A n where
  row ad ha h0 := ⟨(h.row ad ha h0).1, (h.row ad ha h0).2.1.grow hb, (h.row ad ha h0).2.2⟩
  cell j hj := by
    obtain ⟨ad, h1, h2⟩ := h.cell j hj
    exact ⟨ad, h1, h2.grow hb⟩
theorem RowD.set {S : Nat → Prop} {M : Nat} {w : World} {A : Option Addr} {n : Nat} (h : RowD S M w A n) {q : Addr} {k : IntKind} (hq : ICell w q k) (y : Int) : RowD S M (w.setCell q (.int k y)) A n where
  row ad ha h0 := ⟨(h.row ad ha h0).1, (h.row ad ha h0).2.1.set q _, (h.row ad ha h0).2.2⟩
  cell j hj := by
    obtain ⟨ad, h1, h2⟩ := h.cell j hj
    exact ⟨ad, h1, h2.set hq y⟩
def netV (A : Option Addr) (n c : Nat) (l : Int) (D : Option Addr) (m d : Nat) : Value := .agg #[.slice A n c, .int .i64 l, .slice D m d]

set_option maxHeartbeats 1600000 in
theorem spoil_any (S : Nat → Prop) (M : Nat) (A : Option Addr) (n c : Nat) (ps : List (Option Addr × Nat × Nat)) (l : Int) (D : Option Addr) (m d : Nat) (w : World) (hv : RowV S M w A n ps) (hd : RowD S M w D m) (hn : n ≤ 1000000000) (hm : m ≤ 1000000000) (hpl : ∀ p ∈ ps, p.2.1 ≤ 1000000000000) (hM : M ≤ w.heap.size) :
    Calls Try.prog 19 #[netV A n c l D m d] w fun e w' => e = .returned (.tuple #[]) ∧ ShpS S M w w' := by
  have HPL := Lib.hid hv.len
  unfold netV
  go_enter Try.func19, Try.ntmps19
  have q0 := Blk.new w 25 #[.slice A n c, .int .i64 l, .slice D m d]
  have c0 := q0.cell 0
  simp at c0
  have hB0 := (ShpS.refl S M w).grow hM ((Below.refl w.heap.size w).alloc (Nat.le_refl _) (.cells #[.slice A n c, .int .i64 l, .slice D m d] 25))
  have hlt0 : ∀ ad, A = some ad → 0 < n → w.heap.size ≠ ad.block := fun ad ha h0 => by have := (hv.row ad ha h0).2.1.lt_; omega
  have hlt2 : ∀ ad, D = some ad → 0 < m → w.heap.size ≠ ad.block := fun ad ha h0 => by have := (hd.row ad ha h0).2.1.lt_; omega
  have hlt1 : ∀ p ∈ ps, ∀ bd, p.1 = some bd → 0 < p.2.1 → w.heap.size ≠ bd.block := fun p hp bd hb h0 => by
    obtain ⟨bd', h1, _, h2, _⟩ := hv.data p hp 0 h0
    rw [hb] at h1
    injection h1 with h1
    subst h1
    have := h2.lt_
    omega
  have hv1 := hv.grow ((Below.refl w.heap.size w).alloc (Nat.le_refl _) (.cells #[.slice A n c, .int .i64 l, .slice D m d] 25))
  have hd1 := hd.grow ((Below.refl w.heap.size w).alloc (Nat.le_refl _) (.cells #[.slice A n c, .int .i64 l, .slice D m d] 25))
  clear hv hd
  go_wp2
  go_loopw [8] (fun v wr => ∃ (k : Nat), k ≤ n ∧ v = .int .i64 k ∧ RowV S M wr A n ps ∧ RowD S M wr D m ∧ Blk wr w.heap.size 25 #[.slice A n c, .int .i64 l, .slice D m d] ∧ ShpS S M w wr) (fun v _ => n - (intOf v).toNat)
  case atStart => exact ⟨0, by omega, rfl, hv1, hd1, q0, hB0⟩
  case round =>
    clear hv1 hd1 q0 hB0 c0
    obtain ⟨k, hk, rfl, hv, hd, q, hB⟩ := hrel
    have c1 := q.cell 0
    have c2 := q.cell 2
    simp at c1 c2
    by_cases hlt : k < n
    · obtain ⟨p, hp⟩ : ∃ p, ps[k]? = some p := ⟨ps[k]'(by have := HPL.out; omega), List.getElem?_eq_getElem _⟩
      obtain ⟨ad, rfl, ⟨x, hx⟩, hD⟩ := hv.cell k p hp
      have hpn := hpl p (List.mem_of_getElem? hp)
      have hpm := List.mem_of_getElem? hp
      obtain ⟨f0, hu, hS0⟩ := hv.row ad rfl (by omega)
      have g0 := hlt0 ad rfl (by omega)
      have hf : wr.frozen? (ad.add (k * 4)) = false := Unf.frozen (by rw [addr_block]; exact hu)
      have hv2 := hv.set (q := ad.add (k * 4)) ⟨x, hx⟩
      have hd2 := hd.set (q := ad.add (k * 4)) ⟨x, hx⟩
      have q2 := fun u => q.far (p := ad.add (k * 4)) (by rw [addr_block]; exact g0) u
      have hB2 := hB.set (q := ad.add (k * 4)) (by rw [addr_block]; exact f0) (by rw [addr_block]; exact hS0) ⟨x, hx⟩
      have hv3 := hv2 99
      have hd3 := hd2 99
      have q3 := q2 (.int .i64 99)
      have hB3 := hB2 99
      clear hv hd q hB hu hD c2 hv2 hd2 q2 hB2
      obtain ⟨ad', e1, -, hD⟩ := hv3.cell k p hp
      injection e1 with e1
      subst e1
      have c3 := q3.cell 0
      simp at c3
      go_wp2
      go_loopw [24] (fun v wr => ∃ (k2 : Nat), k2 ≤ p.2.1 ∧ v = .int .i64 k2 ∧ RowV S M wr (some ad) n ps ∧ RowD S M wr D m ∧ Blk wr w.heap.size 25 #[.slice (some ad) n c, .int .i64 l, .slice D m d] ∧ ShpS S M w wr) (fun v _ => p.2.1 - (intOf v).toNat)
      case atStart => exact ⟨0, by omega, rfl, hv3, hd3, q3, hB3⟩
      case round =>
        clear hD hv3 hd3 q3 hB3 c1 c3 hf hx
        obtain ⟨k2, hk2, rfl, hv, hd, q, hB⟩ := hrel
        have c1 := q.cell 0
        simp at c1
        obtain ⟨ad', e1, -, hD⟩ := hv.cell k p hp
        injection e1 with e1
        subst e1
        by_cases hlt2' : k2 < p.2.1
        · obtain ⟨bd, hbd, hM2, hu, hS2, x, hx⟩ := hv.data p hpm k2 hlt2'
          have hne := hlt1 p hpm bd hbd (by omega)
          have hf : wr.frozen? (bd.add k2) = false := Unf.frozen (by rw [addr_block]; exact hu)
          have hv2 := hv.set (q := bd.add k2) ⟨x, hx⟩
          have hd2 := hd.set (q := bd.add k2) ⟨x, hx⟩
          have q2 := fun u => q.far (p := bd.add k2) (by rw [addr_block]; exact hne) u
          have hB2 := hB.set (q := bd.add k2) (by rw [addr_block]; exact hM2) (by rw [addr_block]; exact hS2) ⟨x, hx⟩
          rw [hbd] at hD
          clear hv hd q hB hu
          go_wp2
          go_roundw
          case rel => exact ⟨k2 + 1, by omega, by go_num, hv2 _, hd2 _, q2 _, hB2 _⟩
          case measure => simp [intOf]; omega
        · obtain rfl : k2 = p.2.1 := by omega
          clear hD
          go_wp2
          go_roundw
          case rel => exact ⟨k + 1, by omega, by go_num, hv, hd, q, hB⟩
          case measure => simp [intOf]; omega
    · obtain ⟨k0, hk0⟩ : ∃ k0, k0 = n := ⟨_, rfl⟩
      obtain rfl : k = n := by omega
      go_wp2
      go_loopw [44] (fun v wr => ∃ (k2 : Nat), k2 ≤ m ∧ v = .int .i64 k2 ∧ RowD S M wr D m ∧ Blk wr w.heap.size 25 #[.slice A k c, .int .i64 l, .slice D m d] ∧ ShpS S M w wr) (fun v _ => m - (intOf v).toNat)
      case atStart => exact ⟨0, by omega, rfl, hd, q, hB⟩
      case round =>
        clear hv hd q hB c1 c2
        obtain ⟨j, hj, rfl, hd, q, hB⟩ := hrel
        have c1 := q.cell 2
        simp at c1
        by_cases hlt' : j < m
        · obtain ⟨ad, rfl, x, hx⟩ := hd.cell j hlt'
          obtain ⟨f0, hu, hS0⟩ := hd.row ad rfl (by omega)
          have g0 := hlt2 ad rfl (by omega)
          have hf : wr.frozen? ⟨(ad.add (j * 2)).block, (ad.add (j * 2)).off + 1, none⟩ = false := Unf.frozen (by rw [addr_block]; exact hu)
          have hd2 := hd.set (q := ⟨(ad.add (j * 2)).block, (ad.add (j * 2)).off + 1, none⟩) ⟨x, hx⟩
          have q2 := fun u => q.far (p := ⟨(ad.add (j * 2)).block, (ad.add (j * 2)).off + 1, none⟩) (by rw [addr_block]; exact g0) u
          have hB2 := hB.set (q := ⟨(ad.add (j * 2)).block, (ad.add (j * 2)).off + 1, none⟩) (by rw [addr_block]; exact f0) (by rw [addr_block]; exact hS0) ⟨x, hx⟩
          clear hd q hB hu
          go_wp2
          go_roundw
          case rel => exact ⟨j + 1, by omega, by go_num, hd2 _, q2 _, hB2 _⟩
          case measure => simp [intOf]; omega
        · obtain rfl : j = m := by omega
          go_wp2
          exact bodyPost_end (v := .tuple #[]) (by simp [results, Try.f19]) rfl ⟨rfl, hB⟩
theorem bytesV {C : Cx} : ∀ {l : List Int} {css : List (List Value)}, DnLL C (l.map by1) css → ∀ k, k < l.length → ∃ x, css.flatten[k]? = some (.int .u8 x)
  | [], css, h, k, hk => by simp at hk
  | x :: l, css, h, k, hk => by
    simp only [List.map_cons, DnLL] at h
    obtain ⟨u, us, rfl, h1, h2⟩ := h
    simp only [by1, DnL, Dn] at h1
    obtain ⟨v, vs, rfl, h3, rfl⟩ := h1
    subst h3
    cases k with
    | zero => exact ⟨x, rfl⟩
    | succ k => simpa using bytesV h2 k (by simpa using hk)
/-- What a slot's cells are. -/
theorem slV {C : Cx} {s : Sl} {cs : List Value} (h : DnL C (slC true s) cs) : ∃ (p : Option Addr × Nat × Nat), cs = [.int .i64 s.a, .int .i64 s.f, .int .i64 s.t, .slice p.1 p.2.1 p.2.2] ∧ p.2.1 = s.b.length ∧ ∀ k, k < p.2.1 → ∃ bd, p.1 = some bd ∧ C.B ≤ bd.block ∧ Unf C.w bd.block ∧ C.S bd.block ∧ ICell C.w (bd.add k) .u8 := by
  simp only [slC, DnL, Dn] at h
  obtain ⟨u1, us1, rfl, rfl, u2, us2, rfl, rfl, u4, us4, rfl, rfl, u3, us3, rfl, ⟨A, c, css, sz, rfl, h2, h3, h4, h5, h6, h7⟩, rfl⟩ := h
  refine ⟨(A, (s.b.map by1).length, c), rfl, by simp, fun k hk => ?_⟩
  have hk' : k < s.b.length := by simpa using hk
  cases A with
  | none =>
    have := h4 rfl
    rw [List.map_eq_nil_iff] at this
    rw [this] at hk'
    simp at hk'
  | some bd =>
    obtain ⟨h8, h9⟩ := h7 bd rfl
    obtain ⟨hS, _, h10⟩ := h8 (by intro h0; rw [List.map_eq_nil_iff] at h0; rw [h0] at hk'; simp at hk')
    obtain ⟨x, hx⟩ := bytesV h6 k hk'
    exact ⟨bd, rfl, (h10 trivial).1, (h10 trivial).2, hS, x, h9 k _ hx⟩
theorem slsV {C : Cx} : ∀ {es : List Sl} {css : List (List Value)}, DnLL C (es.map (slC true)) css → ∃ ps : List (Option Addr × Nat × Nat), ps.length = es.length ∧ (∀ p ∈ ps, ∃ e ∈ es, p.2.1 = e.b.length) ∧
    (∀ p ∈ ps, ∀ k, k < p.2.1 → ∃ bd, p.1 = some bd ∧ C.B ≤ bd.block ∧ Unf C.w bd.block ∧ C.S bd.block ∧ ICell C.w (bd.add k) .u8) ∧
    ∀ (j : Nat) p, ps[j]? = some p → (∃ x, css.flatten[j * 4]? = some (.int .i64 x)) ∧ css.flatten[j * 4 + 3]? = some (.slice p.1 p.2.1 p.2.2)
  | [], css, h => ⟨[], rfl, by simp, by simp, by simp⟩
  | e :: es, css, h => by
    simp only [List.map_cons, DnLL] at h
    obtain ⟨u, us, rfl, h1, h2⟩ := h
    obtain ⟨p, rfl, h3, h4⟩ := slV h1
    obtain ⟨ps, g1, g2, g3, g4⟩ := slsV h2
    refine ⟨p :: ps, by simp [g1], ?_, ?_, ?_⟩
    · intro q hq
      rcases List.mem_cons.1 hq with rfl | hq
      · exact ⟨e, by simp, h3⟩
      · obtain ⟨e', he, h5⟩ := g2 q hq
        exact ⟨e', by simp [he], h5⟩
    · intro q hq
      rcases List.mem_cons.1 hq with rfl | hq
      · exact h4
      · exact g3 q hq
    · intro j q hq
      cases j with
      | zero =>
        simp only [List.getElem?_cons_zero, Option.some.injEq] at hq
        subst hq
        exact ⟨⟨e.a, rfl⟩, rfl⟩
      | succ j =>
        simp only [List.getElem?_cons_succ] at hq
        obtain ⟨⟨x, hx⟩, hy⟩ := g4 j q hq
        refine ⟨⟨x, ?_⟩, ?_⟩
        · rw [show (j + 1) * 4 = j * 4 + 4 by omega]; simpa using hx
        · rw [show (j + 1) * 4 + 3 = (j * 4 + 3) + 4 by omega]; simpa using hy
theorem dfsV {C : Cx} : ∀ {ds : List (Int × Int)} {css : List (List Value)}, DnLL C (ds.map dfC) css → ∀ j, j < ds.length → ∃ x, css.flatten[j * 2 + 1]? = some (.int .i64 x)
  | [], css, h, j, hj => by simp at hj
  | d :: ds, css, h, j, hj => by
    simp only [List.map_cons, DnLL] at h
    obtain ⟨u, us, rfl, h1, h2⟩ := h
    simp only [dfC, DnL, Dn] at h1
    obtain ⟨u1, us1, rfl, rfl, u2, us2, rfl, rfl, rfl⟩ := h1
    cases j with
    | zero => exact ⟨d.2, rfl⟩
    | succ j =>
      obtain ⟨x, hx⟩ := dfsV h2 j (by simpa using hj)
      exact ⟨x, by rw [show (j + 1) * 2 + 1 = (j * 2 + 1) + 2 by omega]; simpa using hx⟩
theorem addr_off (ad : Addr) (i o : Nat) (ho : 0 < o) : (⟨(ad.add i).block, (ad.add i).off + o, none⟩ : Addr) = ad.add (i + o) := by
  unfold Addr.add
  by_cases h0 : i = 0
  · subst h0; simp; intro e; omega
  · rw [if_neg h0, if_neg (by omega)]; simp only [Nat.add_assoc]
theorem spoil_S {n : NetA} (hn : n.s.length ≤ 1000000000) (hm : n.d.length ≤ 1000000000) (hd : ∀ e ∈ n.s, e.b.length ≤ 1000000000000) : SpL Try.prog 19 [netT true true true n] := ⟨by kernel_rfl, fun C vals hB hh => by
  simp only [netT, DnL, Dn] at hh
  obtain ⟨u, us, rfl, ⟨vs, rfl, u1, us1, rfl, ⟨A, c, css, sz, rfl, h2, h3, h4, h5, h6, h7⟩, u2, us2, rfl, rfl, u3, us3, rfl, ⟨D, dc, dss, dz, rfl, d2, d3, d4, d5, d6, d7⟩, rfl⟩, rfl⟩ := hh
  obtain ⟨ps, g1, g2, g3, g4⟩ := slsV h6
  have hl : (n.s.map (slC true)).length = n.s.length := by simp
  have hl2 : (n.d.map dfC).length = n.d.length := by simp
  have hp : ∀ ad, A = some ad → 0 < n.s.length → C.B ≤ ad.block ∧ Unf C.w ad.block ∧ C.S ad.block := fun ad ha h0 => by
    obtain ⟨q1, _, q2⟩ := (h7 ad ha).1 (by intro hz; rw [List.map_eq_nil_iff] at hz; rw [hz] at h0; simp at h0)
    exact ⟨(q2 trivial).1, (q2 trivial).2, q1⟩
  have hv : RowV C.S C.B C.w A (n.s.map (slC true)).length ps := by
    rw [hl]
    refine ⟨g1, hp, fun j p hj => ?_, g3⟩
    obtain ⟨⟨x, hx⟩, hy⟩ := g4 j p hj
    cases A with
    | none =>
      have := h4 rfl
      rw [List.map_eq_nil_iff] at this
      rw [this] at g1
      have := (List.getElem?_eq_some_iff.1 hj).1
      simp at g1
      rw [g1] at this
      simp at this
    | some ad =>
      refine ⟨ad, rfl, ⟨x, (h7 ad rfl).2 _ _ hx⟩, ?_⟩
      rw [show (⟨(ad.add (j * 4)).block, (ad.add (j * 4)).off + 1 + 2, none⟩ : Addr) = ad.add (j * 4 + 3) from addr_off ad (j * 4) 3 (by omega)]
      exact (h7 ad rfl).2 _ _ hy
  have hw : RowD C.S C.B C.w D (n.d.map dfC).length := by
    rw [hl2]
    refine ⟨fun ad ha h0 => ?_, fun j hj => ?_⟩
    · obtain ⟨q1, _, q2⟩ := (d7 ad ha).1 (by intro hz; rw [List.map_eq_nil_iff] at hz; rw [hz] at h0; simp at h0)
      exact ⟨(q2 trivial).1, (q2 trivial).2, q1⟩
    · cases D with
      | none =>
        have := d4 rfl
        rw [List.map_eq_nil_iff] at this
        rw [this] at hj
        simp at hj
      | some ad =>
        obtain ⟨x, hx⟩ := dfsV d6 j hj
        refine ⟨ad, rfl, x, ?_⟩
        rw [addr_off ad (j * 2) 1 (by omega)]
        exact (d7 ad rfl).2 _ _ hx
  exact spoil_any C.S C.B A _ c ps n.l D _ dc C.w hv hw (by rw [hl]; exact hn) (by rw [hl2]; exact hm) (fun p hpm => by obtain ⟨e, he, h5⟩ := g2 p hpm; rw [h5]; exact hd e he) hB⟩
theorem bl_bytes {C C' : Cx} : ∀ {l : List Int} {css : List (List Value)}, DnLL C (l.map by1) css → ∀ {css2 : List (List Value)}, css2.length = css.length → (∀ (k : Nat) (v : Value), css.flatten[k]? = some v → css2.flatten[k]? = some v ∨ ∃ x, css2.flatten[k]? = some (.int .u8 x)) → (∀ x ∈ css2, x.length = 1) → ∃ l2 : List Int, l2.length = l.length ∧ DnLL C' (l2.map by1) css2
  | [], css, h, css2, hl, hc, h1 => by
    simp only [List.map_nil, DnLL] at h
    subst h
    exact ⟨[], rfl, by simp only [List.map_nil, DnLL]; exact List.eq_nil_of_length_eq_zero hl⟩
  | x :: l, css, h, [], hl, hc, h1 => by
    simp only [List.map_cons, DnLL] at h
    obtain ⟨u, us, rfl, _, _⟩ := h
    simp at hl
  | x :: l, css, h, y :: css2, hl, hc, h1 => by
    simp only [List.map_cons, DnLL] at h
    obtain ⟨u, us, rfl, h2, h3⟩ := h
    simp only [by1, DnL, Dn] at h2
    obtain ⟨v, vs, rfl, h4, rfl⟩ := h2
    subst h4
    have hy := h1 y (by simp)
    obtain ⟨z, rfl⟩ : ∃ z, y = [z] := by
      cases y with
      | nil => simp at hy
      | cons z r => cases r with
        | nil => exact ⟨z, rfl⟩
        | cons _ _ => simp at hy
    have h5 := hc 0 _ rfl
    obtain ⟨x2, rfl⟩ : ∃ x2, z = .int .u8 x2 := by
      rcases h5 with h5 | ⟨x2, h5⟩
      · exact ⟨x, by simpa using h5⟩
      · exact ⟨x2, by simpa using h5⟩
    obtain ⟨l2, h6, h7⟩ := bl_bytes (C' := C') h3 (css2 := css2) (by simpa using hl) (fun k v hk => by simpa using hc (k + 1) v (by simpa using hk)) (fun w hw => h1 w (by simp [hw]))
    exact ⟨x2 :: l2, by simp [h6], by simp only [List.map_cons, DnLL]; exact ⟨_, _, rfl, by simp [by1, DnL, Dn], h7⟩⟩
/-- The cells of a row behind a call that writes numbers over numbers. -/
theorem bl_cells {M : Nat} {w w' : World} (hs : Shp M w w') {ad : Addr} : ∀ (cs : List Value), (∀ (j : Nat) (x : Value), cs[j]? = some x → w.cell? (ad.add j) = some x) → ∃ cs2 : List Value, cs2.length = cs.length ∧ (∀ (j : Nat) (x : Value), cs2[j]? = some x → w'.cell? (ad.add j) = some x) ∧ ∀ (j : Nat) (x : Value), cs[j]? = some x → cs2[j]? = some x ∨ ∃ k y z, x = .int k y ∧ cs2[j]? = some (.int k z) := by
  intro cs h
  refine ⟨(List.range cs.length).map fun j => (w'.cell? (ad.add j)).getD .nilFunc, by simp, fun j x hx => ?_, fun j x hx => ?_⟩
  · rw [List.getElem?_map] at hx
    cases hr : (List.range cs.length)[j]? with
    | none => rw [hr] at hx; cases hx
    | some k =>
      obtain ⟨hk, rfl⟩ := List.getElem?_eq_some_iff.1 hr
      rw [hr] at hx
      simp only [Option.map_some, Option.some.injEq, List.getElem_range] at hx
      have hj : j < cs.length := by simpa using hk
      rcases hs.cell _ _ (h j cs[j] (List.getElem?_eq_getElem hj)) with h4 | ⟨k, a, b, h4, h5⟩
      · rw [h4] at hx; rw [h4, ← hx]; rfl
      · rw [h5] at hx; rw [h5, ← hx]; rfl
  · have hj := (List.getElem?_eq_some_iff.1 hx).1
    rw [List.getElem?_map, List.getElem?_range hj]
    rcases hs.cell _ _ (h j x hx) with h4 | ⟨k, a, b, h4, h5⟩
    · left; simp [h4]
    · right; exact ⟨k, a, b, h4, by simp [h5]⟩
theorem Dn.sl_e {C : Cx} {b : Bool} {els : List (List TV)} {u : Value} (h : Dn C (.sl b els) u) : ∃ (A : Option Addr) (c : Nat) (css : List (List Value)) (sz : Nat), u = .slice A els.length c ∧ els.length ≤ c ∧ c ≤ maxLen ∧ (A = none → els = []) ∧ (∀ x ∈ css, x.length = sz) ∧ DnLL C els css ∧
    ∀ ad, A = some ad → (els ≠ [] → C.S ad.block ∧ ad.block < C.w.heap.size ∧ (b = true → C.B ≤ ad.block ∧ Unf C.w ad.block)) ∧ ∀ (j : Nat) (x : Value), css.flatten[j]? = some x → C.w.cell? (ad.add j) = some x := by
  simp only [Dn] at h; exact h
theorem Dn.sl_m {C : Cx} {b : Bool} {els : List (List TV)} {A : Option Addr} {c : Nat} {css : List (List Value)} {sz : Nat} (h1 : els.length ≤ c) (h2 : c ≤ maxLen) (h3 : A = none → els = []) (h4 : ∀ x ∈ css, x.length = sz) (h5 : DnLL C els css)
    (h6 : ∀ ad, A = some ad → (els ≠ [] → C.S ad.block ∧ ad.block < C.w.heap.size ∧ (b = true → C.B ≤ ad.block ∧ Unf C.w ad.block)) ∧ ∀ (j : Nat) (x : Value), css.flatten[j]? = some x → C.w.cell? (ad.add j) = some x) : Dn C (.sl b els) (.slice A els.length c) := by
  simp only [Dn]; exact ⟨A, c, css, sz, rfl, h1, h2, h3, h4, h5, h6⟩
theorem sing_flat : ∀ {cs : List Value}, (cs.map fun x => [x]).flatten = cs
  | [] => rfl
  | x :: cs => by simp [sing_flat (cs := cs)]
theorem bl_sl {C C' : Cx} (hs : ShpS C.S C.B C.w C'.w) (hB : C'.B = C.B) (hS : ∀ k, C.S k → C'.S k) {ad : Addr} (h : C.S ad.block ∧ ad.block < C.w.heap.size ∧ (true = true → C.B ≤ ad.block ∧ Unf C.w ad.block)) : C'.S ad.block ∧ ad.block < C'.w.heap.size ∧ (true = true → C'.B ≤ ad.block ∧ Unf C'.w ad.block) :=
  ⟨hS _ h.1, Nat.lt_of_lt_of_le h.2.1 hs.s.below.size, fun _ => ⟨by rw [hB]; exact (h.2.2 rfl).1, hs.s.unf _ (h.2.2 rfl).2⟩⟩
theorem bl_data {C C' : Cx} (hs : ShpS C.S C.B C.w C'.w) (hB : C'.B = C.B) (hS : ∀ k, C.S k → C'.S k) {l : List Int} {u : Value} (h : Dn C (.sl true (l.map by1)) u) : ∃ l2 : List Int, l2.length = l.length ∧ Dn C' (.sl true (l2.map by1)) u := by
  obtain ⟨A, c, css, sz, rfl, h2, h3, h4, h5, h6, h7⟩ := h.sl_e
  have hcl := h6.len
  cases A with
  | none =>
    have := h4 rfl
    rw [List.map_eq_nil_iff] at this
    subst this
    exact ⟨[], rfl, Dn.sl_m (css := []) (sz := 0) h2 h3 (fun _ => rfl) (by simp) (by simp [DnLL]) (fun ad ha => by cases ha)⟩
  | some ad =>
    obtain ⟨h8, h9⟩ := h7 ad rfl
    obtain ⟨cs2, g1, g2, g3⟩ := bl_cells hs.s (ad := ad) css.flatten h9
    have hall : ∀ (k : Nat) (v : Value), css.flatten[k]? = some v → (cs2.map fun x => [x]).flatten[k]? = some v ∨ ∃ x, (cs2.map fun x => [x]).flatten[k]? = some (.int .u8 x) := by
      intro k v hv
      rw [sing_flat]
      rcases g3 k v hv with h1 | ⟨kk, y, z, h1, h2⟩
      · exact .inl h1
      · have hk : k < l.length := by
          have h3 := (List.getElem?_eq_some_iff.1 hv).1
          have : css.flatten.length = l.length := by
            have key : ∀ (l : List Int) (css : List (List Value)), DnLL C (l.map by1) css → css.flatten.length = l.length := by
              intro l
              induction l with
              | nil => intro css h; simp only [List.map_nil, DnLL] at h; subst h; rfl
              | cons x l ih =>
                intro css h
                simp only [List.map_cons, DnLL] at h
                obtain ⟨u, us, rfl, h2, h3⟩ := h
                have := h2.len
                have := ih us h3
                simp [by1] at *
                omega
            exact key l css h6
          omega
        obtain ⟨x, hx⟩ := bytesV h6 k hk
        rw [hv] at hx
        rw [h1] at hx
        injection hx with hx
        injection hx with hx hx2
        subst hx
        exact .inr ⟨z, h2⟩
    have hfl : css.flatten.length = css.length := by
      have key : ∀ (l : List Int) (css : List (List Value)), DnLL C (l.map by1) css → css.flatten.length = css.length := by
        intro l
        induction l with
        | nil => intro css h; simp only [List.map_nil, DnLL] at h; subst h; rfl
        | cons x l ih =>
          intro css h
          simp only [List.map_cons, DnLL] at h
          obtain ⟨u, us, rfl, h2, h3⟩ := h
          have := h2.len
          have := ih us h3
          simp [by1] at *
          omega
      exact key l css h6
    obtain ⟨l2, g4, g5⟩ := bl_bytes (C' := C') h6 (css2 := cs2.map fun x => [x]) (by simp [g1, hfl]) hall (fun x hx => by obtain ⟨y, _, rfl⟩ := List.mem_map.1 hx; rfl)
    refine ⟨l2, g4, ?_⟩
    have e1 : (l.map by1).length = (l2.map by1).length := by simp [g4]
    rw [e1] at h2 ⊢
    refine Dn.sl_m (sz := 1) h2 h3 (fun h => by cases h) (fun x hx => by obtain ⟨y, _, rfl⟩ := List.mem_map.1 hx; rfl) g5 (fun ad' ha => ?_)
    injection ha with ha
    subst ha
    refine ⟨fun hne => bl_sl hs hB hS (h8 fun h0 => hne ?_), fun j x hx => g2 j x (by rw [sing_flat] at hx; exact hx)⟩
    rw [List.map_eq_nil_iff] at h0 ⊢
    subst h0
    exact List.eq_nil_of_length_eq_zero g4
theorem bl_rows {C C' : Cx} (hs : ShpS C.S C.B C.w C'.w) (hB : C'.B = C.B) (hS : ∀ k, C.S k → C'.S k) : ∀ {es : List Sl} {css : List (List Value)} {cs2 : List Value}, DnLL C (es.map (slC true)) css → cs2.length = css.flatten.length → (∀ (j : Nat) (x : Value), css.flatten[j]? = some x → cs2[j]? = some x ∨ ∃ k y z, x = .int k y ∧ cs2[j]? = some (.int k z)) →
    ∃ (es2 : List Sl) (css2 : List (List Value)), css2.flatten = cs2 ∧ (∀ x ∈ css2, x.length = 4) ∧ es2.length = es.length ∧ (∀ e ∈ es2, ∃ e0 ∈ es, e.b.length = e0.b.length) ∧ DnLL C' (es2.map (slC true)) css2
  | [], css, cs2, h, hl, hc => by
    simp only [List.map_nil, DnLL] at h
    subst h
    obtain rfl : cs2 = [] := List.eq_nil_of_length_eq_zero (by simpa using hl)
    exact ⟨[], [], rfl, by simp, rfl, by simp, by simp [DnLL]⟩
  | e :: es, css, cs2, h, hl, hc => by
    simp only [List.map_cons, DnLL] at h
    obtain ⟨u, us, rfl, h1, h2⟩ := h
    simp only [slC, DnL] at h1
    obtain ⟨u1, us1, rfl, h11, u2, us2, rfl, h12, u4, us4, rfl, h14, u3, us3, rfl, h13, rfl⟩ := h1
    simp only [Dn] at h11 h12 h14
    subst h11 h12 h14
    match cs2, hl, hc with
    | x1 :: x2 :: x4 :: x3 :: cs2, hl, hc =>
      obtain ⟨es2, css2, g1, g2, g3, g4, g5⟩ := bl_rows hs hB hS (cs2 := cs2) h2 (by simp only [List.flatten_cons, List.length_append, List.length_cons, List.length_nil] at hl; omega) (fun j x hx => by have := hc (j + 4) x (by simpa using hx); simpa using this)
      obtain ⟨D2, g6, g7⟩ := bl_data hs hB hS h13
      have q1 : ∃ a, x1 = .int .i64 a := by
        rcases hc 0 _ rfl with h | ⟨k, y, z, h3, h4⟩
        · exact ⟨e.a, by simpa using h⟩
        · injection h3 with h3; subst h3; exact ⟨z, by simpa using h4⟩
      have q2 : ∃ a, x2 = .int .i64 a := by
        rcases hc 1 _ rfl with h | ⟨k, y, z, h3, h4⟩
        · exact ⟨e.f, by simpa using h⟩
        · injection h3 with h3; subst h3; exact ⟨z, by simpa using h4⟩
      have q4 : ∃ a, x4 = .int .i64 a := by
        rcases hc 2 _ rfl with h | ⟨k, y, z, h3, h4⟩
        · exact ⟨e.t, by simpa using h⟩
        · injection h3 with h3; subst h3; exact ⟨z, by simpa using h4⟩
      have q3 : x3 = u3 := by
        rcases hc 3 _ rfl with h | ⟨k, y, z, h3, h4⟩
        · simpa using h
        · subst h3
          obtain ⟨_, _, _, _, h, _⟩ := h13.sl_e
          cases h
      obtain ⟨T2, rfl⟩ := q1
      obtain ⟨K2, rfl⟩ := q2
      obtain ⟨J2, rfl⟩ := q4
      subst q3
      refine ⟨⟨T2, K2, J2, D2⟩ :: es2, [.int .i64 T2, .int .i64 K2, .int .i64 J2, x3] :: css2, by simp [g1], ?_, by simp [g3], ?_, ?_⟩
      · intro x hx
        rcases List.mem_cons.1 hx with rfl | hx
        · rfl
        · exact g2 x hx
      · intro x hx
        rcases List.mem_cons.1 hx with rfl | hx
        · exact ⟨e, by simp, g6⟩
        · obtain ⟨e0, h5, h6⟩ := g4 x hx
          exact ⟨e0, by simp [h5], h6⟩
      · simp only [List.map_cons, DnLL]
        refine ⟨_, _, rfl, ?_, g5⟩
        simp only [slC, DnL]
        exact ⟨_, _, rfl, by simp only [Dn], _, _, rfl, by simp only [Dn], _, _, rfl, by simp only [Dn], _, _, rfl, g7, rfl⟩
    | [], hl, _ => simp at hl
    | [_], hl, _ => simp at hl
    | [_, _], hl, _ => simp at hl
    | [_, _, _], hl, _ => simp at hl
theorem bl_sls {C C' : Cx} (hs : ShpS C.S C.B C.w C'.w) (hB : C'.B = C.B) (hS : ∀ k, C.S k → C'.S k) {es : List Sl} {u : Value} (h : Dn C (.sl true (es.map (slC true))) u) : ∃ es2 : List Sl, es2.length = es.length ∧ (∀ e ∈ es2, ∃ e0 ∈ es, e.b.length = e0.b.length) ∧ Dn C' (.sl true (es2.map (slC true))) u := by
  obtain ⟨A, c, css, sz, rfl, h2, h3, h4, h5, h6, h7⟩ := h.sl_e
  cases A with
  | none =>
    have := h4 rfl
    rw [List.map_eq_nil_iff] at this
    subst this
    exact ⟨[], rfl, by simp, Dn.sl_m (css := []) (sz := 0) h2 h3 (fun _ => rfl) (by simp) (by simp [DnLL]) (fun ad ha => by cases ha)⟩
  | some ad =>
    obtain ⟨h8, h9⟩ := h7 ad rfl
    obtain ⟨cs2, g1, g2, g3⟩ := bl_cells hs.s (ad := ad) css.flatten h9
    obtain ⟨es2, css2, k1, k2, k3, k4, k5⟩ := bl_rows hs hB hS h6 g1 g3
    refine ⟨es2, k3, k4, ?_⟩
    have e1 : (es.map (slC true)).length = (es2.map (slC true)).length := by simp [k3]
    rw [e1] at h2 ⊢
    refine Dn.sl_m (sz := 4) h2 h3 (fun h => by cases h) k2 k5 (fun ad' ha => ?_)
    injection ha with ha
    subst ha
    refine ⟨fun hne => bl_sl hs hB hS (h8 fun h0 => hne ?_), fun j x hx => g2 j x (by rw [k1] at hx; exact hx)⟩
    rw [List.map_eq_nil_iff] at h0 ⊢
    subst h0
    exact List.eq_nil_of_length_eq_zero k3
end Go.Proofs.Ytmhmldpccccjbaa

namespace Go.Proofs.Ytmhmldpccccjbaa
open Go.RowKit
set_option linter.unusedVariables false
set_option linter.unusedSimpArgs false

theorem bl_drows {C C' : Cx} : ∀ {ds : List (Int × Int)} {css : List (List Value)} {cs2 : List Value}, DnLL C (ds.map dfC) css → cs2.length = css.flatten.length → (∀ (j : Nat) (x : Value), css.flatten[j]? = some x → cs2[j]? = some x ∨ ∃ k y z, x = .int k y ∧ cs2[j]? = some (.int k z)) →
    ∃ (ds2 : List (Int × Int)) (css2 : List (List Value)), css2.flatten = cs2 ∧ (∀ x ∈ css2, x.length = 2) ∧ ds2.length = ds.length ∧ DnLL C' (ds2.map dfC) css2
  | [], css, cs2, h, hl, hc => by
    simp only [List.map_nil, DnLL] at h
    subst h
    obtain rfl : cs2 = [] := List.eq_nil_of_length_eq_zero (by simpa using hl)
    exact ⟨[], [], rfl, by simp, rfl, by simp [DnLL]⟩
  | e :: es, css, cs2, h, hl, hc => by
    simp only [List.map_cons, DnLL] at h
    obtain ⟨u, us, rfl, h1, h2⟩ := h
    simp only [dfC, DnL] at h1
    obtain ⟨u1, us1, rfl, h11, u2, us2, rfl, h12, rfl⟩ := h1
    simp only [Dn] at h11 h12
    subst h11 h12
    match cs2, hl, hc with
    | x1 :: x2 :: cs2, hl, hc =>
      obtain ⟨es2, css2, g1, g2, g3, g5⟩ := bl_drows (C' := C') (cs2 := cs2) h2 (by simp only [List.flatten_cons, List.length_append, List.length_cons, List.length_nil] at hl; omega) (fun j x hx => by have := hc (j + 2) x (by simpa using hx); simpa using this)
      have q1 : ∃ a, x1 = .int .i64 a := by
        rcases hc 0 _ rfl with h | ⟨k, y, z, h3, h4⟩
        · exact ⟨e.1, by simpa using h⟩
        · injection h3 with h3; subst h3; exact ⟨z, by simpa using h4⟩
      have q2 : ∃ a, x2 = .int .i64 a := by
        rcases hc 1 _ rfl with h | ⟨k, y, z, h3, h4⟩
        · exact ⟨e.2, by simpa using h⟩
        · injection h3 with h3; subst h3; exact ⟨z, by simpa using h4⟩
      obtain ⟨T2, rfl⟩ := q1
      obtain ⟨K2, rfl⟩ := q2
      refine ⟨(T2, K2) :: es2, [.int .i64 T2, .int .i64 K2] :: css2, by simp [g1], ?_, by simp [g3], ?_⟩
      · intro x hx
        rcases List.mem_cons.1 hx with rfl | hx
        · rfl
        · exact g2 x hx
      · simp only [List.map_cons, DnLL]
        refine ⟨_, _, rfl, ?_, g5⟩
        simp only [dfC, DnL]
        exact ⟨_, _, rfl, by simp only [Dn], _, _, rfl, by simp only [Dn], rfl⟩
    | [], hl, _ => simp at hl
    | [_], hl, _ => simp at hl
theorem bl_dfs {C C' : Cx} (hs : ShpS C.S C.B C.w C'.w) (hB : C'.B = C.B) (hS : ∀ k, C.S k → C'.S k) {ds : List (Int × Int)} {u : Value} (h : Dn C (.sl true (ds.map dfC)) u) : ∃ ds2 : List (Int × Int), ds2.length = ds.length ∧ Dn C' (.sl true (ds2.map dfC)) u := by
  obtain ⟨A, c, css, sz, rfl, h2, h3, h4, h5, h6, h7⟩ := h.sl_e
  cases A with
  | none =>
    have := h4 rfl
    rw [List.map_eq_nil_iff] at this
    subst this
    exact ⟨[], rfl, Dn.sl_m (css := []) (sz := 0) h2 h3 (fun _ => rfl) (by simp) (by simp [DnLL]) (fun ad ha => by cases ha)⟩
  | some ad =>
    obtain ⟨h8, h9⟩ := h7 ad rfl
    obtain ⟨cs2, g1, g2, g3⟩ := bl_cells hs.s (ad := ad) css.flatten h9
    obtain ⟨es2, css2, k1, k2, k3, k5⟩ := bl_drows (C' := C') h6 g1 g3
    refine ⟨es2, k3, ?_⟩
    have e1 : (ds.map dfC).length = (es2.map dfC).length := by simp [k3]
    rw [e1] at h2 ⊢
    refine Dn.sl_m (sz := 2) h2 h3 (fun h => by cases h) k2 k5 (fun ad' ha => ?_)
    injection ha with ha
    subst ha
    refine ⟨fun hne => bl_sl hs hB hS (h8 fun h0 => hne ?_), fun j x hx => g2 j x (by rw [k1] at hx; exact hx)⟩
    rw [List.map_eq_nil_iff] at h0 ⊢
    subst h0
    exact List.eq_nil_of_length_eq_zero k3
/-- A net of so many parts. -/
structure NetA.Sh (n m : NetA) : Prop where
  s : n.s.length = m.s.length
  d : n.d.length = m.d.length
  b : ∀ x ∈ n.s, ∃ y ∈ m.s, x.b.length = y.b.length
def netCX (n : NetA) : List XV := [.p (.sl true (n.s.map (slC true))) (nl_sl _ _).sl, .p (.v (.int .i64 n.l)) (nlv _), .p (.sl true (n.d.map dfC)) (nl_df _).sl]
theorem bl_net {C C' : Cx} (hs : ShpS C.S C.B C.w C'.w) (hB : C'.B = C.B) (hS : ∀ k, C.S k → C'.S k) {n : NetA} {us : List Value} (h : DnL C (XV.denL (netCX n)) us) : ∃ m : NetA, m.Sh n ∧ DnL C' (XV.denL (netCX m)) us := by
  simp only [netCX, XV.denL, XV.den, DnL] at h
  obtain ⟨u1, us1, rfl, h1, u2, us2, rfl, h2, u3, us3, rfl, h3, rfl⟩ := h
  obtain ⟨s2, g1, g2, g3⟩ := bl_sls hs hB hS h1
  obtain ⟨d2, g4, g5⟩ := bl_dfs hs hB hS h3
  refine ⟨⟨s2, n.l, d2⟩, ⟨g1, g4, g2⟩, ?_⟩
  simp only [netCX, XV.denL, XV.den, DnL]
  refine ⟨_, _, rfl, g3, _, _, rfl, ?_, _, _, rfl, g5, rfl⟩
  simp only [Dn] at h2 ⊢
  exact h2
theorem sz_spoil {n : NetA} (h : n.Sz) : SpL Try.prog 19 [netT true true true n] := spoil_S (by have := h.s; omega) (by have := h.d; omega) (fun e he => by have := h.b e he; omega)
theorem NetA.Sh.sz {n m : NetA} (h : n.Sh m) (hm : m.Sz) : n.Sz := ⟨by rw [h.s]; exact hm.s, by rw [h.d]; exact hm.d, fun x hx => by obtain ⟨y, hy, e⟩ := h.b x hx; rw [e]; exact hm.b y hy⟩
/-- All pairs in their order. -/
def allP : List (Int × Int) := (List.range 64).map fun i => (((i / 8 : Nat) : Int) + 1, ((i % 8 : Nat) : Int) + 1)
def hearB (d : List (Int × Int)) (f t : Int) (is : Bool) (x : Int × Int) : Bool := if x = (f, t) then !is else decide (x ∈ d)
def hearL (d : List (Int × Int)) (f t : Int) (is : Bool) (k : Nat) : List (Int × Int) := (allP.take k).filter (hearB d f t is)
theorem rise_ext {α : Type} {key : α → Int} {a b : List α} (ha : a.Pairwise fun x y => key x < key y) (hb : b.Pairwise fun x y => key x < key y) (h : ∀ x, x ∈ a ↔ x ∈ b) : a = b := by
  induction a generalizing b with
  | nil =>
    cases b with
    | nil => rfl
    | cons y b => exact absurd ((h y).2 (by simp)) (by simp)
  | cons x a ih =>
    cases b with
    | nil => exact absurd ((h x).1 (by simp)) (by simp)
    | cons y b =>
      have hxa := (List.pairwise_cons.1 ha).1
      have hyb := (List.pairwise_cons.1 hb).1
      have hxy : x = y := by
        rcases List.mem_cons.1 ((h x).1 (by simp)) with h1 | h1
        · exact h1
        · rcases List.mem_cons.1 ((h y).2 (by simp)) with h2 | h2
          · exact h2.symm
          · have := hyb x h1; have := hxa y h2; omega
      subst hxy
      congr 1
      refine ih (List.pairwise_cons.1 ha).2 (List.pairwise_cons.1 hb).2 fun z => ⟨fun hz => ?_, fun hz => ?_⟩
      · rcases List.mem_cons.1 ((h z).1 (List.mem_cons_of_mem _ hz)) with h1 | h1
        · subst h1; have := hxa z hz; omega
        · exact h1
      · rcases List.mem_cons.1 ((h z).2 (List.mem_cons_of_mem _ hz)) with h1 | h1
        · subst h1; have := hyb z hz; omega
        · exact h1
theorem net0_sz : net0.Sz := net0_ok.sz
/-- What the document asks of a slot. -/
def okS (s : List Sl) (j : Nat) (x : Sl) : Prop := 0 ≤ x.a ∧ lastA s j < x.a ∧ x.a < 80 ∧ pkB x.f x.t x.b.length = true
def okD (d : List (Int × Int)) (j : Nat) (x : Int × Int) : Prop := pkB x.1 x.2 0 = true ∧ ∀ i p, j = i + 1 → d[i]? = some p → dk p < dk x
theorem right_iff {n : NetA} : rightB n = true ↔ (0 ≤ n.l ∧ n.l < 80) ∧ (∀ j x, n.s[j]? = some x → okS n.s j x) ∧ ∀ j x, n.d[j]? = some x → okD n.d j x := by
  constructor
  · intro h
    obtain ⟨h1, h2, h3⟩ := right_parts h
    refine ⟨by simpa [lastB] using h1, fun j x hx => ?_, fun j x hx => ⟨(h3 j x hx).1, fun i p hj hp => ?_⟩⟩
    · have h4 := lastA_ge (s := n.s) (j := j) (fun i x _ hx => (h2 i x hx).1) (by have := (List.getElem?_eq_some_iff.1 hx).1; omega)
      have := h2 j x hx
      exact ⟨by omega, this⟩
    · subst hj
      have h4 := (h3 (i + 1) x hx).2
      simp only [prevOk, hp, decide_eq_true_eq] at h4
      exact (ordN_dk (h3 i p hp).1 (h3 (i + 1) x hx).1).1.1 h4
  · rintro ⟨h1, h2, h3⟩
    refine chkD_all (chkS_all (by simpa [lastB] using h1) fun j x _ hx => (h2 j x hx).2) fun j x _ hx => ⟨(h3 j x hx).1, ?_⟩
    cases j with
    | zero => rfl
    | succ i =>
      cases hp : n.d[i]? with
      | none => simp only [prevOk, hp]
      | some p =>
        simp only [prevOk, hp, decide_eq_true_eq]
        exact (ordN_dk (h3 i p hp).1 (h3 (i + 1) x hx).1).1.2 ((h3 (i + 1) x hx).2 i p rfl hp)
end Go.Proofs.Ytmhmldpccccjbaa

namespace Go.Proofs.Ytmhmldpccccjbaa
open Go.RowKit
set_option linter.unusedVariables false
set_option linter.unusedSimpArgs false
set_option maxRecDepth 20000
set_option maxRecDepth 20000 in
theorem pair_X (a b : Int) : XMeets Try.prog 15 [.v (.int .i64 a), .v (.int .i64 b)] (.p (.v (.bool (pkB a b 0))) (nlv _)) := by
  refine XMeets.of_X tabX_ok (avs := [.p (.v (.int .i64 a)) (nlv _), .p (.v (.int .i64 b)) (nlv _)]) [(0, .p (.v (.int .i64 a)) (nlv _)), (1, .p (.v (.int .i64 b)) (nlv _))] (by kernel_rfl) Try.func15 rfl (by simp [PuL, Pu]) (rfl) rfl rfl ?_
  intro B w0
  conv => whnf
  cases hc1 : (decide (1 ≤ a))
  · skip
    try simp only [bls] at hc1
    conv => whnf
    refine FinG.mk none ?_ (by rintro _ ⟨⟩)
    simp only [outs, List.length_map, List.length_append, List.length_take, List.length_drop, List.length_cons, List.length_nil, slC, dfC, netX, net0, List.map_nil, mix_len, pkX, slX, sl0, delS]
    simp_all [pkB, nodeB]; omega
  · skip
    try simp only [bls] at hc1
    conv => whnf
    cases hc2 : (decide (a ≤ 8))
    · skip
      try simp only [bls] at hc2
      conv => whnf
      refine FinG.mk none ?_ (by rintro _ ⟨⟩)
      simp only [outs, List.length_map, List.length_append, List.length_take, List.length_drop, List.length_cons, List.length_nil, slC, dfC, netX, net0, List.map_nil, mix_len, pkX, slX, sl0, delS]
      simp_all [pkB, nodeB]; omega
    · skip
      try simp only [bls] at hc2
      conv => whnf
      cases hc3 : (decide (1 ≤ b))
      · skip
        try simp only [bls] at hc3
        conv => whnf
        refine FinG.mk none ?_ (by rintro _ ⟨⟩)
        simp only [outs, List.length_map, List.length_append, List.length_take, List.length_drop, List.length_cons, List.length_nil, slC, dfC, netX, net0, List.map_nil, mix_len, pkX, slX, sl0, delS]
        simp_all [pkB, nodeB]; omega
      · skip
        try simp only [bls] at hc3
        conv => whnf
        cases hc4 : (decide (b ≤ 8))
        · skip
          try simp only [bls] at hc4
          conv => whnf
          refine FinG.mk none ?_ (by rintro _ ⟨⟩)
          simp only [outs, List.length_map, List.length_append, List.length_take, List.length_drop, List.length_cons, List.length_nil, slC, dfC, netX, net0, List.map_nil, mix_len, pkX, slX, sl0, delS]
          simp_all [pkB, nodeB]; omega
        · skip
          try simp only [bls] at hc4
          conv => whnf
          refine FinG.mk none ?_ (by rintro _ ⟨⟩)
          simp only [outs, List.length_map, List.length_append, List.length_take, List.length_drop, List.length_cons, List.length_nil, slC, dfC, netX, net0, List.map_nil, mix_len, pkX, slX, sl0, delS]
          simp_all [pkB, nodeB]
set_option maxRecDepth 20000 in
theorem rpk_X (c : Bool) (f t : Int) (l : List Int) : XMeets Try.prog 43 [.agg [.v (.int .i64 f), .v (.int .i64 t), .sl c (l.map by1)]] (.p (.v (.bool (pkB f t l.length))) (nlv _)) := by
  refine XMeets.of_X tabX_ok (avs := [.ag [.p (.v (.int .i64 f)) (nlv _), .p (.v (.int .i64 t)) (nlv _), .p (.sl false (l.map by1)) (nl_by1 _).sl]]) [(0, .ag [.p (.v (.int .i64 f)) (nlv _), .p (.v (.int .i64 t)) (nlv _), .p (.sl false (l.map by1)) (nl_by1 _).sl])] (by kernel_rfl) Try.func43 rfl (by simp [PuL, Pu, netT, slC, dfC, pu_by1, pu_sl, pu_df]) (by simp only [untagL, untag, netT, untag_by1, untag_sl, untag_df]; rfl) rfl rfl ?_
  intro B w0
  conv => whnf
  refine .ct ?_
  conv => whnf
  refine CallG.mk (pair_X _ _) rfl ?_
  conv => whnf
  cases hc1 : (pkB f t 0)
  · skip
    try simp only [bls] at hc1
    conv => whnf
    refine FinG.mk none ?_ (by rintro _ ⟨⟩)
    simp only [outs, List.length_map, List.length_append, List.length_take, List.length_drop, List.length_cons, List.length_nil, slC, dfC, netX, net0, List.map_nil, mix_len, pkX, slX, sl0, delS]
    simp_all [pkB]
  · skip
    try simp only [bls] at hc1
    conv => whnf
    refine FinG.mk none ?_ (by rintro _ ⟨⟩)
    simp only [outs, List.length_map, List.length_append, List.length_take, List.length_drop, List.length_cons, List.length_nil, slC, dfC, netX, net0, List.map_nil, mix_len, pkX, slX, sl0, delS]
    simp_all [pkB]; omega
set_option maxRecDepth 20000 in
theorem deaf_X (b c e : Bool) (n : NetA) (f t : Int) (hd : n.d.length ≤ 100000) : XMeets Try.prog 16 [netT b c e n, .v (.int .i64 f), .v (.int .i64 t)] (.p (.v (.bool (decide ((f, t) ∈ n.d)))) (nlv _)) := by
  refine XMeets.of_X tabX_ok (avs := [.ag [.p (.sl false (n.s.map (slC false))) (nl_sl _ _).sl, .p (.v (.int .i64 n.l)) (nlv _), .p (.sl false (n.d.map dfC)) (nl_df _).sl], .p (.v (.int .i64 f)) (nlv _), .p (.v (.int .i64 t)) (nlv _)]) [(0, .ag [.p (.sl false (n.s.map (slC false))) (nl_sl _ _).sl, .p (.v (.int .i64 n.l)) (nlv _), .p (.sl false (n.d.map dfC)) (nl_df _).sl]), (1, .p (.v (.int .i64 f)) (nlv _)), (2, .p (.v (.int .i64 t)) (nlv _))] (by kernel_rfl) Try.func16 rfl (by simp [PuL, Pu, netT, slC, dfC, pu_by1, pu_sl, pu_df]) (by simp only [untagL, untag, netT, untag_by1, untag_sl, untag_df]; rfl) rfl rfl ?_
  intro B w0
  conv => whnf
  refine XT.loop tabX_ok (Y := Nat) [6, 8, 12, 13, 14, 15, 16, 17, 18, 19, 20, 21, 22, 23, 24, 25, 26] (fun k => [(12, .p (.v (.int .i64 ((k : Int)))) (nlv _))]) (fun k => []) (fun k => k ≤ n.d.length ∧ ∀ j, j < k → n.d[j]? ≠ some (f, t)) (fun k => n.d.length - k) 0 ⟨Nat.zero_le _, fun j hj => by omega⟩ ?_ ?_
  · skip
    refine ⟨?_, ?_, ?_⟩
    · skip
      repeat ((conv => whnf); first | exact True.intro | refine ⟨.rfl, ?_⟩ | refine ⟨.any, ?_⟩ | refine ⟨.nil, ?_⟩ | refine ⟨.int (by first | rfl | omega | (simp only [wrs]; omega)), ?_⟩)
    · skip
      repeat (first | exact LeVs.nil | ((conv => whnf); first | exact True.intro | exact .none | exact .row rfl | refine .cells ?_ | refine ⟨_, _, rfl, .rfl, ?_⟩ | refine ⟨_, _, rfl, .any, ?_⟩ | refine ⟨_, _, rfl, .nil, ?_⟩ | refine ⟨_, _, rfl, .int (by first | rfl | omega | (simp only [wrs]; omega)), ?_⟩ | refine ⟨?_, ?_⟩))
    · skip
      repeat (first | exact LeFr.nil | ((conv => whnf); first | exact True.intro | refine ⟨.rfl, ?_⟩ | refine ⟨_, _, rfl, rfl, ?_, ?_⟩))
  · skip
    rintro k ⟨hk, h1⟩
    conv => whnf
    cases hc1 : (decide ((↑k : Int) < (↑(List.map dfC n.d).length : Int)))
    · skip
      try simp only [bls] at hc1
      conv => whnf
      refine FinG.mk none ?_ (by rintro _ ⟨⟩)
      simp only [outs, List.length_map, List.length_append, List.length_take, List.length_drop, List.length_cons, List.length_nil, slC, dfC, netX, net0, List.map_nil, mix_len, pkX, slX, sl0, delS]
      rw [decide_eq_false (fun hm => by obtain ⟨j, hj, he⟩ := List.getElem_of_mem hm; exact h1 j (by omega) (by rw [List.getElem?_eq_getElem hj, he]))]
    · skip
      try simp only [bls] at hc1
      conv => whnf
      refine IdxG.map _ rfl (by first | omega | (simp only [List.length_map] at *; omega)) ?_; intro y hy hny
      conv => whnf
      refine ⟨rfl, ?_⟩
      conv => whnf
      cases hc2 : (decide (y.fst = f))
      · skip
        try simp only [bls] at hc2
        conv => whnf
        refine ⟨(k + 1), ⟨by omega, ixD_step (x := (f, t)) hy (by simp_all [eq_comm]; done) h1⟩, (by omega), ?_⟩
        refine ⟨?_, ?_, ?_⟩
        · skip
          repeat ((conv => whnf); first | exact True.intro | refine ⟨.rfl, ?_⟩ | refine ⟨.any, ?_⟩ | refine ⟨.nil, ?_⟩ | refine ⟨.int (by first | rfl | omega | (simp only [wrs]; omega)), ?_⟩)
        · skip
          repeat (first | exact LeVs.nil | ((conv => whnf); first | exact True.intro | exact .none | exact .row rfl | refine .cells ?_ | refine ⟨_, _, rfl, .rfl, ?_⟩ | refine ⟨_, _, rfl, .any, ?_⟩ | refine ⟨_, _, rfl, .nil, ?_⟩ | refine ⟨_, _, rfl, .int (by first | rfl | omega | (simp only [wrs]; omega)), ?_⟩ | refine ⟨?_, ?_⟩))
        · skip
          repeat (first | exact LeFr.nil | ((conv => whnf); first | exact True.intro | refine ⟨.rfl, ?_⟩ | refine ⟨_, _, rfl, rfl, ?_, ?_⟩))
      · skip
        try simp only [bls] at hc2
        conv => whnf
        cases hc3 : (decide (y.snd = t))
        · skip
          try simp only [bls] at hc3
          conv => whnf
          refine ⟨(k + 1), ⟨by omega, ixD_step (x := (f, t)) hy (by simp_all [eq_comm]; done) h1⟩, (by omega), ?_⟩
          refine ⟨?_, ?_, ?_⟩
          · skip
            repeat ((conv => whnf); first | exact True.intro | refine ⟨.rfl, ?_⟩ | refine ⟨.any, ?_⟩ | refine ⟨.nil, ?_⟩ | refine ⟨.int (by first | rfl | omega | (simp only [wrs]; omega)), ?_⟩)
          · skip
            repeat (first | exact LeVs.nil | ((conv => whnf); first | exact True.intro | exact .none | exact .row rfl | refine .cells ?_ | refine ⟨_, _, rfl, .rfl, ?_⟩ | refine ⟨_, _, rfl, .any, ?_⟩ | refine ⟨_, _, rfl, .nil, ?_⟩ | refine ⟨_, _, rfl, .int (by first | rfl | omega | (simp only [wrs]; omega)), ?_⟩ | refine ⟨?_, ?_⟩))
          · skip
            repeat (first | exact LeFr.nil | ((conv => whnf); first | exact True.intro | refine ⟨.rfl, ?_⟩ | refine ⟨_, _, rfl, rfl, ?_, ?_⟩))
        · skip
          try simp only [bls] at hc3
          conv => whnf
          refine FinG.mk none ?_ (by rintro _ ⟨⟩)
          simp only [outs, List.length_map, List.length_append, List.length_take, List.length_drop, List.length_cons, List.length_nil, slC, dfC, netX, net0, List.map_nil, mix_len, pkX, slX, sl0, delS]
          rw [decide_eq_true (show (f, t) ∈ n.d from (show y = (f, t) from Prod.ext (by assumption) (by assumption)) ▸ List.mem_of_getElem? hy)]
theorem right_no_l {n : NetA} (h : ¬ (0 ≤ n.l ∧ n.l < 80)) : rightB n = false := by
  cases hr : rightB n with
  | false => rfl
  | true => exact absurd (right_iff.1 hr).1 h
theorem right_no_s {n : NetA} {k : Nat} {y : Sl} (hy : n.s[k]? = some y) (h : ¬ okS n.s k y) : rightB n = false := by
  cases hr : rightB n with
  | false => rfl
  | true => exact absurd ((right_iff.1 hr).2.1 k y hy) h
theorem right_no_d {n : NetA} {k : Nat} {y : Int × Int} (hy : n.d[k]? = some y) (h : ¬ okD n.d k y) : rightB n = false := by
  cases hr : rightB n with
  | false => rfl
  | true => exact absurd ((right_iff.1 hr).2.2 k y hy) h
theorem lastA_p {s : List Sl} {k : Nat} {p : Sl} (hk : 0 < k) (hp : s[k - 1]? = some p) : lastA s k = p.a := by
  obtain ⟨j, rfl⟩ : ∃ j, k = j + 1 := ⟨k - 1, by omega⟩
  exact lastA_s (by simpa using hp)
theorem lastA_0 {s : List Sl} {k : Nat} (hk : ¬ 0 < k) : lastA s k = -1 := by
  obtain rfl : k = 0 := by omega
  rfl
theorem okS_step {s : List Sl} {k : Nat} {y : Sl} (hy : s[k]? = some y) (h1 : ∀ j x, j < k → s[j]? = some x → okS s j x) (h : okS s k y) : ∀ j x, j < k + 1 → s[j]? = some x → okS s j x := fun j x hj hx => by
  rcases Nat.lt_or_ge j k with h2 | h2
  · exact h1 j x h2 hx
  · obtain rfl : j = k := by omega
    rw [hy] at hx; injection hx with hx; subst hx; exact h
theorem okD_step {s : List (Int × Int)} {k : Nat} {y : Int × Int} (hy : s[k]? = some y) (h1 : ∀ j x, j < k → s[j]? = some x → okD s j x) (h : okD s k y) : ∀ j x, j < k + 1 → s[j]? = some x → okD s j x := fun j x hj hx => by
  rcases Nat.lt_or_ge j k with h2 | h2
  · exact h1 j x h2 hx
  · obtain rfl : j = k := by omega
    rw [hy] at hx; injection hx with hx; subst hx; exact h
theorem okD_p {s : List (Int × Int)} {k : Nat} {p z : Int × Int} (hp : s[k - 1]? = some p) (hz : pkB z.1 z.2 0 = true) (h : dk p < dk z) : okD s k z := ⟨hz, fun i q hi hq => by
  subst hi
  rw [show i + 1 - 1 = i by omega, hq] at hp
  injection hp with hp
  subst hp; exact h⟩
theorem okD_0 {s : List (Int × Int)} {k : Nat} {z : Int × Int} (hk : ¬ 0 < k) (hz : pkB z.1 z.2 0 = true) : okD s k z := ⟨hz, fun i q hi => by omega⟩
theorem okD_np {s : List (Int × Int)} {k : Nat} {p z : Int × Int} (hk : 0 < k) (hp : s[k - 1]? = some p) (h : ¬ dk p < dk z) : ¬ okD s k z := fun h2 => h (h2.2 (k - 1) p (by omega) hp)
theorem right_all {n : NetA} {k k2 : Nat} (h0 : 0 ≤ n.l ∧ n.l < 80) (hk : n.s.length ≤ k) (hk2 : n.d.length ≤ k2) (h1 : ∀ j x, j < k → n.s[j]? = some x → okS n.s j x) (h2 : ∀ j x, j < k2 → n.d[j]? = some x → okD n.d j x) : rightB n = true :=
  right_iff.2 ⟨h0, fun j x hx => h1 j x (by have := (List.getElem?_eq_some_iff.1 hx).1; omega) hx, fun j x hx => h2 j x (by have := (List.getElem?_eq_some_iff.1 hx).1; omega) hx⟩
set_option maxRecDepth 20000 in
theorem right_X (b c e : Bool) (n : NetA) (ho : n.Ok) : XMeets Try.prog 14 [netT b c e n] (.p (.v (.bool (rightB n))) (nlv _)) := by
  refine XMeets.of_X tabX_ok (avs := [.ag [.p (.sl false (n.s.map (slC false))) (nl_sl _ _).sl, .p (.v (.int .i64 n.l)) (nlv _), .p (.sl false (n.d.map dfC)) (nl_df _).sl]]) [(0, .ag [.p (.sl false (n.s.map (slC false))) (nl_sl _ _).sl, .p (.v (.int .i64 n.l)) (nlv _), .p (.sl false (n.d.map dfC)) (nl_df _).sl])] (by kernel_rfl) Try.func14 rfl (by simp [PuL, Pu, netT, slC, dfC, pu_by1, pu_sl, pu_df]) (by simp only [untagL, untag, netT, untag_by1, untag_sl, untag_df]; rfl) rfl rfl ?_
  intro B w0
  have hsn := ho.sn
  have hdn := ho.dn
  conv => whnf
  cases hc1 : (decide (n.l < 0))
  · skip
    try simp only [bls] at hc1
    conv => whnf
    cases hc2 : (decide (80 ≤ n.l))
    · skip
      try simp only [bls] at hc2
      conv => whnf
      refine XT.loop tabX_ok (Y := Nat) [2, 3, 4, 18, 19, 20, 21, 22, 23, 24, 25, 26, 27, 28, 29, 30, 31, 32, 33, 34, 35, 36, 37, 38, 39, 40, 41, 42, 43, 44, 45, 46, 47, 48, 49, 50, 51, 52, 53] (fun k => [(18, .p (.v (.int .i64 ((k : Int)))) (nlv _))]) (fun k => []) (fun k => k ≤ n.s.length ∧ ∀ j x, j < k → n.s[j]? = some x → okS n.s j x) (fun k => n.s.length - k) 0 ⟨Nat.zero_le _, fun j x hj => by omega⟩ ?_ ?_
      · skip
        refine ⟨?_, ?_, ?_⟩
        · skip
          repeat ((conv => whnf); first | exact True.intro | refine ⟨.rfl, ?_⟩ | refine ⟨.any, ?_⟩ | refine ⟨.nil, ?_⟩ | refine ⟨.int (by first | rfl | omega | (simp only [wrs]; omega)), ?_⟩)
        · skip
          repeat (first | exact LeVs.nil | ((conv => whnf); first | exact True.intro | exact .none | exact .row rfl | refine .cells ?_ | refine ⟨_, _, rfl, .rfl, ?_⟩ | refine ⟨_, _, rfl, .any, ?_⟩ | refine ⟨_, _, rfl, .nil, ?_⟩ | refine ⟨_, _, rfl, .int (by first | rfl | omega | (simp only [wrs]; omega)), ?_⟩ | refine ⟨?_, ?_⟩))
        · skip
          repeat (first | exact LeFr.nil | ((conv => whnf); first | exact True.intro | refine ⟨.rfl, ?_⟩ | refine ⟨_, _, rfl, rfl, ?_, ?_⟩))
      · skip
        rintro k ⟨hk, h1⟩
        conv => whnf
        cases hc3 : (decide ((↑k : Int) < (↑(List.map (slC false) n.s).length : Int)))
        · skip
          try simp only [bls] at hc3
          conv => whnf
          refine XT.loop tabX_ok (Y := Nat) [2, 5, 6, 57, 58, 59, 60, 61, 62, 63, 64, 65, 66, 67, 68, 69, 70, 71, 72, 73, 74, 75, 76, 77, 78, 79, 80, 81, 82, 83, 84, 85, 86, 87, 88, 89, 90, 91, 92, 93, 94, 95, 96, 97] (fun k2 => [(57, .p (.v (.int .i64 ((k2 : Int)))) (nlv _))]) (fun k2 => []) (fun k2 => k2 ≤ n.d.length ∧ ∀ j x, j < k2 → n.d[j]? = some x → okD n.d j x) (fun k2 => n.d.length - k2) 0 ⟨Nat.zero_le _, fun j x hj => by omega⟩ ?_ ?_
          · skip
            refine ⟨?_, ?_, ?_⟩
            · skip
              repeat ((conv => whnf); first | exact True.intro | refine ⟨.rfl, ?_⟩ | refine ⟨.any, ?_⟩ | refine ⟨.nil, ?_⟩ | refine ⟨.int (by first | rfl | omega | (simp only [wrs]; omega)), ?_⟩)
            · skip
              repeat (first | exact LeVs.nil | ((conv => whnf); first | exact True.intro | exact .none | exact .row rfl | refine .cells ?_ | refine ⟨_, _, rfl, .rfl, ?_⟩ | refine ⟨_, _, rfl, .any, ?_⟩ | refine ⟨_, _, rfl, .nil, ?_⟩ | refine ⟨_, _, rfl, .int (by first | rfl | omega | (simp only [wrs]; omega)), ?_⟩ | refine ⟨?_, ?_⟩))
            · skip
              repeat (first | exact LeFr.nil | ((conv => whnf); first | exact True.intro | refine ⟨.rfl, ?_⟩ | refine ⟨_, _, rfl, rfl, ?_, ?_⟩))
          · skip
            rintro k2 ⟨hk2, h2⟩
            conv => whnf
            cases hc4 : (decide ((↑k2 : Int) < (↑(List.map dfC n.d).length : Int)))
            · skip
              try simp only [bls] at hc4
              conv => whnf
              refine FinG.mk none ?_ (by rintro _ ⟨⟩)
              simp only [outs, List.length_map, List.length_append, List.length_take, List.length_drop, List.length_cons, List.length_nil, slC, dfC, netX, net0, List.map_nil, mix_len, pkX, slX, sl0, delS]
              rw [right_all (by omega) (by omega) (by omega) h1 h2]
            · skip
              try simp only [bls] at hc4
              conv => whnf
              refine IdxG.map k2 rfl (by first | omega | (simp only [List.length_map] at *; omega)) ?_; intro z hz hnz
              conv => whnf
              refine ⟨rfl, ?_⟩
              conv => whnf
              refine RegG.par 35 (by kernel_rfl) ?_
              conv => whnf
              refine CallG.mk (pair_X _ _) rfl ?_
              conv => whnf
              cases hc5 : (pkB z.fst z.snd 0)
              · skip
                try simp only [bls] at hc5
                conv => whnf
                refine FinG.mk none ?_ (by rintro _ ⟨⟩)
                simp only [outs, List.length_map, List.length_append, List.length_take, List.length_drop, List.length_cons, List.length_nil, slC, dfC, netX, net0, List.map_nil, mix_len, pkX, slX, sl0, delS]
                rw [right_no_d hz (fun h => by have h8 := h.1; simp_all; done)]
              · skip
                try simp only [bls] at hc5
                conv => whnf
                cases hc6 : (decide (0 < (↑k2 : Int)))
                · skip
                  try simp only [bls] at hc6
                  conv => whnf
                  refine ⟨(k2 + 1), ⟨by omega, okD_step hz h2 (okD_0 (by omega) (by assumption))⟩, (by omega), ?_⟩
                  refine ⟨?_, ?_, ?_⟩
                  · skip
                    repeat ((conv => whnf); first | exact True.intro | refine ⟨.rfl, ?_⟩ | refine ⟨.any, ?_⟩ | refine ⟨.nil, ?_⟩ | refine ⟨.int (by first | rfl | omega | (simp only [wrs]; omega)), ?_⟩)
                  · skip
                    repeat (first | exact LeVs.nil | ((conv => whnf); first | exact True.intro | exact .none | exact .row rfl | refine .cells ?_ | refine ⟨_, _, rfl, .rfl, ?_⟩ | refine ⟨_, _, rfl, .any, ?_⟩ | refine ⟨_, _, rfl, .nil, ?_⟩ | refine ⟨_, _, rfl, .int (by first | rfl | omega | (simp only [wrs]; omega)), ?_⟩ | refine ⟨?_, ?_⟩))
                  · skip
                    repeat (first | exact LeFr.nil | ((conv => whnf); first | exact True.intro | refine ⟨.rfl, ?_⟩ | refine ⟨_, _, rfl, rfl, ?_, ?_⟩))
                · skip
                  try simp only [bls] at hc6
                  conv => whnf
                  rw [show IntKind.i64.wrap ((↑k2 : Int) - 1) = ((↑k2 : Int) - 1) from wz.1 _ (by omega) (by omega)]
                  refine IdxG.map (k2 - 1) (by omega) (by omega) ?_; intro p hp hnp; have hzk := pkB_iff.1 (show pkB z.1 z.2 0 = true by assumption); have hpk := pkB_iff.1 (h2 (k2 - 1) p (by omega) hp).1; have hz1 := hzk.1; have hz2 := hzk.2.1; have hp1 := hpk.1; have hp2 := hpk.2.1
                  conv => whnf
                  refine ⟨rfl, ?_⟩
                  conv => whnf
                  rw [show IntKind.i64.wrap ((↑k2 : Int) - 1) = ((↑k2 : Int) - 1) from wz.1 _ (by omega) (by omega)]
                  refine IdxG.mk (show (n.d.map dfC)[k2 - 1]? = some (dfC p) from by rw [List.getElem?_map, hp]; rfl) (by omega) ?_
                  conv => whnf
                  refine ⟨rfl, ?_⟩
                  conv => whnf
                  cases hc7 : (decide (IntKind.i64.wrap (IntKind.i64.wrap (10 * z.fst) + z.snd) ≤ IntKind.i64.wrap (IntKind.i64.wrap (10 * p.fst) + p.snd)))
                  · skip
                    try simp only [bls] at hc7
                    try simp (disch := omega) only [wz, Int.reduceAdd, Int.reduceSub, Int.reduceMul, Int.reduceNeg, Int.zero_add, Int.add_zero, Int.sub_zero, Int.sub_self] at hc7
                    conv => whnf
                    refine ⟨(k2 + 1), ⟨by omega, okD_step hz h2 (okD_p hp (by assumption) (by unfold dk; omega))⟩, (by omega), ?_⟩
                    refine ⟨?_, ?_, ?_⟩
                    · skip
                      repeat ((conv => whnf); first | exact True.intro | refine ⟨.rfl, ?_⟩ | refine ⟨.any, ?_⟩ | refine ⟨.nil, ?_⟩ | refine ⟨.int (by first | rfl | omega | (simp only [wrs]; omega)), ?_⟩)
                    · skip
                      repeat (first | exact LeVs.nil | ((conv => whnf); first | exact True.intro | exact .none | exact .row rfl | refine .cells ?_ | refine ⟨_, _, rfl, .rfl, ?_⟩ | refine ⟨_, _, rfl, .any, ?_⟩ | refine ⟨_, _, rfl, .nil, ?_⟩ | refine ⟨_, _, rfl, .int (by first | rfl | omega | (simp only [wrs]; omega)), ?_⟩ | refine ⟨?_, ?_⟩))
                    · skip
                      repeat (first | exact LeFr.nil | ((conv => whnf); first | exact True.intro | refine ⟨.rfl, ?_⟩ | refine ⟨_, _, rfl, rfl, ?_, ?_⟩))
                  · skip
                    try simp only [bls] at hc7
                    try simp (disch := omega) only [wz, Int.reduceAdd, Int.reduceSub, Int.reduceMul, Int.reduceNeg, Int.zero_add, Int.add_zero, Int.sub_zero, Int.sub_self] at hc7
                    conv => whnf
                    refine FinG.mk none ?_ (by rintro _ ⟨⟩)
                    simp only [outs, List.length_map, List.length_append, List.length_take, List.length_drop, List.length_cons, List.length_nil, slC, dfC, netX, net0, List.map_nil, mix_len, pkX, slX, sl0, delS]
                    rw [right_no_d hz (okD_np (by omega) hp (by unfold dk; omega))]
        · skip
          try simp only [bls] at hc3
          conv => whnf
          refine IdxG.map k rfl (by first | omega | (simp only [List.length_map] at *; omega)) ?_; intro y hy hny; have hyo := (ho.s y (List.mem_of_getElem? hy)).a; have hyo0 := hyo.1; have hyo1 := hyo.2
          conv => whnf
          refine ⟨rfl, ?_⟩
          conv => whnf
          refine RegG.par 30 (by kernel_rfl) ?_
          conv => whnf
          cases hc8 : (decide (y.a < 0))
          · skip
            try simp only [bls] at hc8
            conv => whnf
            cases hc9 : (decide (80 ≤ y.a))
            · skip
              try simp only [bls] at hc9
              conv => whnf
              cases hc10 : (decide (0 < (↑k : Int)))
              · skip
                try simp only [bls] at hc10
                conv => whnf
                refine CallG.mk (rpk_X _ _ _ _) rfl ?_
                conv => whnf
                cases hc11 : (pkB y.f y.t y.b.length)
                · skip
                  try simp only [bls] at hc11
                  conv => whnf
                  refine FinG.mk none ?_ (by rintro _ ⟨⟩)
                  simp only [outs, List.length_map, List.length_append, List.length_take, List.length_drop, List.length_cons, List.length_nil, slC, dfC, netX, net0, List.map_nil, mix_len, pkX, slX, sl0, delS]
                  rw [right_no_s hy (fun h => by have h8 := h.2.2.2; simp_all; done)]
                · skip
                  try simp only [bls] at hc11
                  conv => whnf
                  refine ⟨(k + 1), ⟨by omega, okS_step hy h1 ⟨by omega, by rw [lastA_0 (by omega)]; omega, by omega, by simp_all; done⟩⟩, (by omega), ?_⟩
                  refine ⟨?_, ?_, ?_⟩
                  · skip
                    repeat ((conv => whnf); first | exact True.intro | refine ⟨.rfl, ?_⟩ | refine ⟨.any, ?_⟩ | refine ⟨.nil, ?_⟩ | refine ⟨.int (by first | rfl | omega | (simp only [wrs]; omega)), ?_⟩)
                  · skip
                    repeat (first | exact LeVs.nil | ((conv => whnf); first | exact True.intro | exact .none | exact .row rfl | refine .cells ?_ | refine ⟨_, _, rfl, .rfl, ?_⟩ | refine ⟨_, _, rfl, .any, ?_⟩ | refine ⟨_, _, rfl, .nil, ?_⟩ | refine ⟨_, _, rfl, .int (by first | rfl | omega | (simp only [wrs]; omega)), ?_⟩ | refine ⟨?_, ?_⟩))
                  · skip
                    repeat (first | exact LeFr.nil | ((conv => whnf); first | exact True.intro | refine ⟨.rfl, ?_⟩ | refine ⟨_, _, rfl, rfl, ?_, ?_⟩))
              · skip
                try simp only [bls] at hc10
                conv => whnf
                rw [show IntKind.i64.wrap ((↑k : Int) - 1) = ((↑k : Int) - 1) from wz.1 _ (by omega) (by omega)]
                refine IdxG.map (k - 1) (by omega) (by omega) ?_; intro p hp hnp; have hpo := (ho.s p (List.mem_of_getElem? hp)).a; have hpo0 := hpo.1; have hpo1 := hpo.2
                conv => whnf
                refine ⟨rfl, ?_⟩
                conv => whnf
                cases hc12 : (decide (y.a ≤ p.a))
                · skip
                  try simp only [bls] at hc12
                  conv => whnf
                  refine CallG.mk (rpk_X _ _ _ _) rfl ?_
                  conv => whnf
                  cases hc13 : (pkB y.f y.t y.b.length)
                  · skip
                    try simp only [bls] at hc13
                    conv => whnf
                    refine FinG.mk none ?_ (by rintro _ ⟨⟩)
                    simp only [outs, List.length_map, List.length_append, List.length_take, List.length_drop, List.length_cons, List.length_nil, slC, dfC, netX, net0, List.map_nil, mix_len, pkX, slX, sl0, delS]
                    rw [right_no_s hy (fun h => by have h8 := h.2.2.2; simp_all; done)]
                  · skip
                    try simp only [bls] at hc13
                    conv => whnf
                    refine ⟨(k + 1), ⟨by omega, okS_step hy h1 ⟨by omega, by rw [lastA_p (by omega) hp]; omega, by omega, by simp_all; done⟩⟩, (by omega), ?_⟩
                    refine ⟨?_, ?_, ?_⟩
                    · skip
                      repeat ((conv => whnf); first | exact True.intro | refine ⟨.rfl, ?_⟩ | refine ⟨.any, ?_⟩ | refine ⟨.nil, ?_⟩ | refine ⟨.int (by first | rfl | omega | (simp only [wrs]; omega)), ?_⟩)
                    · skip
                      repeat (first | exact LeVs.nil | ((conv => whnf); first | exact True.intro | exact .none | exact .row rfl | refine .cells ?_ | refine ⟨_, _, rfl, .rfl, ?_⟩ | refine ⟨_, _, rfl, .any, ?_⟩ | refine ⟨_, _, rfl, .nil, ?_⟩ | refine ⟨_, _, rfl, .int (by first | rfl | omega | (simp only [wrs]; omega)), ?_⟩ | refine ⟨?_, ?_⟩))
                    · skip
                      repeat (first | exact LeFr.nil | ((conv => whnf); first | exact True.intro | refine ⟨.rfl, ?_⟩ | refine ⟨_, _, rfl, rfl, ?_, ?_⟩))
                · skip
                  try simp only [bls] at hc12
                  conv => whnf
                  refine FinG.mk none ?_ (by rintro _ ⟨⟩)
                  simp only [outs, List.length_map, List.length_append, List.length_take, List.length_drop, List.length_cons, List.length_nil, slC, dfC, netX, net0, List.map_nil, mix_len, pkX, slX, sl0, delS]
                  rw [right_no_s hy (fun h => by have h8 := h.2.1; rw [lastA_p (by omega) hp] at h8; omega)]
            · skip
              try simp only [bls] at hc9
              conv => whnf
              refine FinG.mk none ?_ (by rintro _ ⟨⟩)
              simp only [outs, List.length_map, List.length_append, List.length_take, List.length_drop, List.length_cons, List.length_nil, slC, dfC, netX, net0, List.map_nil, mix_len, pkX, slX, sl0, delS]
              rw [right_no_s hy (fun h => by have h8 := h.1; have h9 := h.2.2.1; omega)]
          · skip
            try simp only [bls] at hc8
            conv => whnf
            refine FinG.mk none ?_ (by rintro _ ⟨⟩)
            simp only [outs, List.length_map, List.length_append, List.length_take, List.length_drop, List.length_cons, List.length_nil, slC, dfC, netX, net0, List.map_nil, mix_len, pkX, slX, sl0, delS]
            rw [right_no_s hy (fun h => by have h8 := h.1; have h9 := h.2.2.1; omega)]
    · skip
      try simp only [bls] at hc2
      conv => whnf
      refine FinG.mk none ?_ (by rintro _ ⟨⟩)
      simp only [outs, List.length_map, List.length_append, List.length_take, List.length_drop, List.length_cons, List.length_nil, slC, dfC, netX, net0, List.map_nil, mix_len, pkX, slX, sl0, delS]
      rw [right_no_l (by omega)]
  · skip
    try simp only [bls] at hc1
    conv => whnf
    refine FinG.mk none ?_ (by rintro _ ⟨⟩)
    simp only [outs, List.length_map, List.length_append, List.length_take, List.length_drop, List.length_cons, List.length_nil, slC, dfC, netX, net0, List.map_nil, mix_len, pkX, slX, sl0, delS]
    rw [right_no_l (by omega)]
set_option maxRecDepth 20000 in
theorem same6_X (c c2 c3 e e2 e3 : Bool) (n m : NetA) (hn : n.Sz) (hm : m.Sz) : XMeets Try.prog 18 [netT c c2 c3 n, netT e e2 e3 m] (.p (.v (.bool (decide (n = m)))) (nlv _)) := by
  refine XMeets.of_X tabX_ok (avs := [.ag [.p (.sl false (n.s.map (slC false))) (nl_sl _ _).sl, .p (.v (.int .i64 n.l)) (nlv _), .p (.sl false (n.d.map dfC)) (nl_df _).sl], .ag [.p (.sl false (m.s.map (slC false))) (nl_sl _ _).sl, .p (.v (.int .i64 m.l)) (nlv _), .p (.sl false (m.d.map dfC)) (nl_df _).sl]]) [(0, .ag [.p (.sl false (n.s.map (slC false))) (nl_sl _ _).sl, .p (.v (.int .i64 n.l)) (nlv _), .p (.sl false (n.d.map dfC)) (nl_df _).sl]), (1, .ag [.p (.sl false (m.s.map (slC false))) (nl_sl _ _).sl, .p (.v (.int .i64 m.l)) (nlv _), .p (.sl false (m.d.map dfC)) (nl_df _).sl])] (by kernel_rfl) Try.func18 rfl (by simp [PuL, Pu, netT, slC, dfC, pu_by1, pu_sl, pu_df]) (by simp only [untagL, untag, netT, untag_by1, untag_sl, untag_df]; rfl) rfl rfl ?_
  intro B w0
  have hn1 := hn.s
  have hn2 := hn.d
  have hn3 := hn.b
  have hm1 := hm.s
  have hm2 := hm.d
  have hm3 := hm.b
  conv => whnf
  cases hc1 : (decide (n.l = m.l))
  · skip
    try simp only [bls] at hc1
    conv => whnf
    refine FinG.mk none ?_ (by rintro _ ⟨⟩)
    simp only [outs, List.length_map, List.length_append, List.length_take, List.length_drop, List.length_cons, List.length_nil, slC, dfC, netX, net0, List.map_nil, mix_len, pkX, slX, sl0, delS]
    rw [decide_eq_false (fun e => by have h8 := congrArg NetA.l e; omega)]
  · skip
    try simp only [bls] at hc1
    conv => whnf
    cases hc2 : (decide ((↑(List.map (slC false) n.s).length : Int) = (↑(List.map (slC false) m.s).length : Int)))
    · skip
      try simp only [bls] at hc2
      conv => whnf
      refine FinG.mk none ?_ (by rintro _ ⟨⟩)
      simp only [outs, List.length_map, List.length_append, List.length_take, List.length_drop, List.length_cons, List.length_nil, slC, dfC, netX, net0, List.map_nil, mix_len, pkX, slX, sl0, delS]
      rw [decide_eq_false (fun e => ne_len (by omega) (congrArg NetA.s e))]
    · skip
      try simp only [bls] at hc2
      conv => whnf
      cases hc3 : (decide ((↑(List.map dfC n.d).length : Int) = (↑(List.map dfC m.d).length : Int)))
      · skip
        try simp only [bls] at hc3
        conv => whnf
        refine FinG.mk none ?_ (by rintro _ ⟨⟩)
        simp only [outs, List.length_map, List.length_append, List.length_take, List.length_drop, List.length_cons, List.length_nil, slC, dfC, netX, net0, List.map_nil, mix_len, pkX, slX, sl0, delS]
        rw [decide_eq_false (fun e => ne_len (by omega) (congrArg NetA.d e))]
      · skip
        try simp only [bls] at hc3
        conv => whnf
        refine XT.loop tabX_ok (Y := Nat) [4, 5, 33, 34, 35, 36, 37, 38, 39, 40, 41, 42, 43, 44, 45, 46, 47, 48] (fun k => [(33, .p (.v (.int .i64 ((k : Int)))) (nlv _))]) (fun k => []) (fun k => k ≤ n.s.length ∧ ∀ j, j < k → n.s[j]? = m.s[j]?) (fun k => n.s.length - k) 0 ⟨Nat.zero_le _, fun j hj => by omega⟩ ?_ ?_
        · skip
          refine ⟨?_, ?_, ?_⟩
          · skip
            repeat ((conv => whnf); first | exact True.intro | refine ⟨.rfl, ?_⟩ | refine ⟨.any, ?_⟩ | refine ⟨.nil, ?_⟩ | refine ⟨.int (by first | rfl | omega | (simp only [wrs]; omega)), ?_⟩)
          · skip
            repeat (first | exact LeVs.nil | ((conv => whnf); first | exact True.intro | exact .none | exact .row rfl | refine .cells ?_ | refine ⟨_, _, rfl, .rfl, ?_⟩ | refine ⟨_, _, rfl, .any, ?_⟩ | refine ⟨_, _, rfl, .nil, ?_⟩ | refine ⟨_, _, rfl, .int (by first | rfl | omega | (simp only [wrs]; omega)), ?_⟩ | refine ⟨?_, ?_⟩))
          · skip
            repeat (first | exact LeFr.nil | ((conv => whnf); first | exact True.intro | refine ⟨.rfl, ?_⟩ | refine ⟨_, _, rfl, rfl, ?_, ?_⟩))
        · skip
          rintro k ⟨hk, h1⟩
          conv => whnf
          cases hc4 : (decide ((↑k : Int) < (↑(List.map (slC false) n.s).length : Int)))
          · skip
            try simp only [bls] at hc4
            conv => whnf
            refine XT.loop tabX_ok (Y := Nat) [4, 6, 52, 53, 54, 55, 56, 57, 58, 59, 60, 61, 62, 63, 64, 65, 66] (fun k2 => [(52, .p (.v (.int .i64 ((k2 : Int)))) (nlv _))]) (fun k2 => []) (fun k2 => k2 ≤ n.d.length ∧ ∀ j, j < k2 → n.d[j]? = m.d[j]?) (fun k2 => n.d.length - k2) 0 ⟨Nat.zero_le _, fun j hj => by omega⟩ ?_ ?_
            · skip
              refine ⟨?_, ?_, ?_⟩
              · skip
                repeat ((conv => whnf); first | exact True.intro | refine ⟨.rfl, ?_⟩ | refine ⟨.any, ?_⟩ | refine ⟨.nil, ?_⟩ | refine ⟨.int (by first | rfl | omega | (simp only [wrs]; omega)), ?_⟩)
              · skip
                repeat (first | exact LeVs.nil | ((conv => whnf); first | exact True.intro | exact .none | exact .row rfl | refine .cells ?_ | refine ⟨_, _, rfl, .rfl, ?_⟩ | refine ⟨_, _, rfl, .any, ?_⟩ | refine ⟨_, _, rfl, .nil, ?_⟩ | refine ⟨_, _, rfl, .int (by first | rfl | omega | (simp only [wrs]; omega)), ?_⟩ | refine ⟨?_, ?_⟩))
              · skip
                repeat (first | exact LeFr.nil | ((conv => whnf); first | exact True.intro | refine ⟨.rfl, ?_⟩ | refine ⟨_, _, rfl, rfl, ?_, ?_⟩))
            · skip
              rintro k2 ⟨hk2, h2⟩
              conv => whnf
              cases hc5 : (decide ((↑k2 : Int) < (↑(List.map dfC n.d).length : Int)))
              · skip
                try simp only [bls] at hc5
                conv => whnf
                refine FinG.mk none ?_ (by rintro _ ⟨⟩)
                simp only [outs, List.length_map, List.length_append, List.length_take, List.length_drop, List.length_cons, List.length_nil, slC, dfC, netX, net0, List.map_nil, mix_len, pkX, slX, sl0, delS]
                rw [decide_eq_true (net_eq.2 ⟨by omega, eq_of_at (by omega) (by omega) h2, eq_of_at (by omega) (by omega) h1⟩)]
              · skip
                try simp only [bls] at hc5
                conv => whnf
                refine RegG.par 11 (by kernel_rfl) ?_
                conv => whnf
                refine IdxG.map (l := n.d) _ rfl (by first | omega | (simp only [List.length_map] at *; omega)) ?_; intro u hu hnu
                conv => whnf
                refine ⟨rfl, ?_⟩
                conv => whnf
                refine IdxG.map (l := m.d) _ rfl (by first | omega | (simp only [List.length_map] at *; omega)) ?_; intro v hv hnv
                conv => whnf
                refine ⟨rfl, ?_⟩
                conv => whnf
                refine BinG.mk rfl rfl (neDf_run _ _ _ _ _ _) ?_
                conv => whnf
                cases hc6 : ((decide (u.fst = v.fst) && decide (u.snd = v.snd)))
                · skip
                  try simp only [bls] at hc6
                  conv => whnf
                  refine FinG.mk none ?_ (by rintro _ ⟨⟩)
                  simp only [outs, List.length_map, List.length_append, List.length_take, List.length_drop, List.length_cons, List.length_nil, slC, dfC, netX, net0, List.map_nil, mix_len, pkX, slX, sl0, delS]
                  rw [decide_eq_false (fun e => ne_at hu hv (pair_ne (by simp_all; done)) (congrArg NetA.d e))]
                · skip
                  try simp only [bls] at hc6
                  conv => whnf
                  refine ⟨(k2 + 1), ⟨by omega, at_step hu hv (pair_eq (by simp_all; done)) h2⟩, (by omega), ?_⟩
                  refine ⟨?_, ?_, ?_⟩
                  · skip
                    repeat ((conv => whnf); first | exact True.intro | refine ⟨.rfl, ?_⟩ | refine ⟨.any, ?_⟩ | refine ⟨.nil, ?_⟩ | refine ⟨.int (by first | rfl | omega | (simp only [wrs]; omega)), ?_⟩)
                  · skip
                    repeat (first | exact LeVs.nil | ((conv => whnf); first | exact True.intro | exact .none | exact .row rfl | refine .cells ?_ | refine ⟨_, _, rfl, .rfl, ?_⟩ | refine ⟨_, _, rfl, .any, ?_⟩ | refine ⟨_, _, rfl, .nil, ?_⟩ | refine ⟨_, _, rfl, .int (by first | rfl | omega | (simp only [wrs]; omega)), ?_⟩ | refine ⟨?_, ?_⟩))
                  · skip
                    repeat (first | exact LeFr.nil | ((conv => whnf); first | exact True.intro | refine ⟨.rfl, ?_⟩ | refine ⟨_, _, rfl, rfl, ?_, ?_⟩))
          · skip
            try simp only [bls] at hc4
            conv => whnf
            refine RegG.par 12 (by kernel_rfl) ?_
            conv => whnf
            refine IdxG.map (l := n.s) _ rfl (by first | omega | (simp only [List.length_map] at *; omega)) ?_; intro x hx hnx; have hb_ := hn3 x (List.mem_of_getElem? hx)
            conv => whnf
            refine ⟨rfl, ?_⟩
            conv => whnf
            refine IdxG.map (l := m.s) _ rfl (by first | omega | (simp only [List.length_map] at *; omega)) ?_; intro y hy hny; have hb_2 := hm3 y (List.mem_of_getElem? hy)
            conv => whnf
            refine ⟨rfl, ?_⟩
            conv => whnf
            refine CallG.mk (sameSlot_X _ _ _ _ (by first | assumption | omega) (by first | assumption | omega)) rfl ?_
            conv => whnf
            cases hc7 : (decide (x = y))
            · skip
              try simp only [bls] at hc7
              conv => whnf
              refine FinG.mk none ?_ (by rintro _ ⟨⟩)
              simp only [outs, List.length_map, List.length_append, List.length_take, List.length_drop, List.length_cons, List.length_nil, slC, dfC, netX, net0, List.map_nil, mix_len, pkX, slX, sl0, delS]
              rw [decide_eq_false (fun e => ne_at hx hy (by assumption) (congrArg NetA.s e))]
            · skip
              try simp only [bls] at hc7
              conv => whnf
              refine ⟨(k + 1), ⟨by omega, at_step hx hy (by assumption) h1⟩, (by omega), ?_⟩
              refine ⟨?_, ?_, ?_⟩
              · skip
                repeat ((conv => whnf); first | exact True.intro | refine ⟨.rfl, ?_⟩ | refine ⟨.any, ?_⟩ | refine ⟨.nil, ?_⟩ | refine ⟨.int (by first | rfl | omega | (simp only [wrs]; omega)), ?_⟩)
              · skip
                repeat (first | exact LeVs.nil | ((conv => whnf); first | exact True.intro | exact .none | exact .row rfl | refine .cells ?_ | refine ⟨_, _, rfl, .rfl, ?_⟩ | refine ⟨_, _, rfl, .any, ?_⟩ | refine ⟨_, _, rfl, .nil, ?_⟩ | refine ⟨_, _, rfl, .int (by first | rfl | omega | (simp only [wrs]; omega)), ?_⟩ | refine ⟨?_, ?_⟩))
              · skip
                repeat (first | exact LeFr.nil | ((conv => whnf); first | exact True.intro | refine ⟨.rfl, ?_⟩ | refine ⟨_, _, rfl, rfl, ?_, ?_⟩))
theorem nl_net (n : NetA) : NlL [.sl false (n.s.map (slC false)), .v (.int .i64 n.l), .sl false (n.d.map dfC)] := .cons (nl_sl _ _).sl (.cons (nlv _) (.cons (nl_df _).sl .nil))
theorem notF {b : Bool} (h : b = true) : (!b) = false := by rw [h]; rfl
end Go.Proofs.Ytmhmldpccccjbaa
