/- Three nets, and what was meant and came, behind numbers that were written over. No condition. -/
import Derived.Test.YtmhmldpccccjbaaN4
import Derived.Test.YtmhmldpccccjbaaU24
import Derived.Test.YtmhmldpccccjbaaNB
import Derived.Deep.LoopGhost
namespace Go.Proofs.Ytmhmldpccccjbaa
open Go.RowKit
set_option linter.unusedVariables false
set_option linter.unusedSimpArgs false

theorem net0_ok : net0.Ok := ⟨by simp [net0], by simp [net0], by simp [net0, I64], by simp [net0], by simp [net0]⟩
def insD (d : List (Int × Int)) (x : Int × Int) : List (Int × Int) := d.take (posD d (dk x)) ++ [x] ++ d.drop (posD d (dk x))
def delD (d : List (Int × Int)) (x : Int × Int) : List (Int × Int) := d.take (posD d (dk x)) ++ d.drop (posD d (dk x) + 1)
end Go.Proofs.Ytmhmldpccccjbaa

namespace Go.Proofs.Ytmhmldpccccjbaa
open Go.RowKit
set_option linter.unusedVariables false
set_option linter.unusedSimpArgs false

/-- A row of elements of sz cells: numbers at o, slices of bytes at o2 (where told). -/
structure RowV (S : Nat → Prop) (M : Nat) (w : World) (A : Option Addr) (n : Nat) (ps : List (Option Addr × Nat × Nat)) : Prop where
  len : ps.length = n
  row : ∀ ad, A = some ad → 0 < n → M ≤ ad.block ∧ Unf w ad.block ∧ S ad.block
  cell : ∀ (j : Nat) p, ps[j]? = some p → ∃ ad, A = some ad ∧ ICell w (ad.add (j * 4)) .i64 ∧ w.cell? ⟨(ad.add (j * 4)).block, (ad.add (j * 4)).off + 1 + 2, none⟩ = some (.slice p.1 p.2.1 p.2.2)
  data : ∀ p ∈ ps, ∀ k, k < p.2.1 → ∃ bd, p.1 = some bd ∧ M ≤ bd.block ∧ Unf w bd.block ∧ S bd.block ∧ ICell w (bd.add k) .u8
structure RowD (S : Nat → Prop) (M : Nat) (w : World) (A : Option Addr) (n : Nat) : Prop where
  row : ∀ ad, A = some ad → 0 < n → M ≤ ad.block ∧ Unf w ad.block ∧ S ad.block
  cell : ∀ (j : Nat), j < n → ∃ ad, A = some ad ∧ ICell w ⟨(ad.add (j * 2)).block, (ad.add (j * 2)).off + 1, none⟩ .i64
theorem RowV.grow {S : Nat → Prop} {M : Nat} {w w' : World} {A : Option Addr} {n : Nat} {ps : List (Option Addr × Nat × Nat)} (h : RowV S M w A n ps) (hb : Below w.heap.size w w') : RowV S M w' A n ps where
  len := h.len
  row ad ha h0 := ⟨(h.row ad ha h0).1, (h.row ad ha h0).2.1.grow hb, (h.row ad ha h0).2.2⟩
  cell j p hp := by
    obtain ⟨ad, h1, h2, h3⟩ := h.cell j p hp
    exact ⟨ad, h1, h2.grow hb, (hb.cell (World.block_lt_of_cell? w _ h3)).trans h3⟩
  data p hp k hk := by
    obtain ⟨bd, h1, h2, h3, h5, h4⟩ := h.data p hp k hk
    exact ⟨bd, h1, h2, h3.grow hb, h5, h4.grow hb⟩
theorem RowV.set {S : Nat → Prop} {M : Nat} {w : World} {A : Option Addr} {n : Nat} {ps : List (Option Addr × Nat × Nat)} (h : RowV S M w A n ps) {q : Addr} {k : IntKind} (hq : ICell w q k) (y : Int) : RowV S M (w.setCell q (.int k y)) A n ps where
  len := h.len
  row ad ha h0 := ⟨(h.row ad ha h0).1, (h.row ad ha h0).2.1.set q _, (h.row ad ha h0).2.2⟩
  cell j p hp := by
    obtain ⟨ad, h1, h2, h3⟩ := h.cell j p hp
    exact ⟨ad, h1, h2.set hq y, cell_set h3 hq y⟩
  data p hp k hk := by
    obtain ⟨bd, h1, h2, h3, h5, h4⟩ := h.data p hp k hk
    exact ⟨bd, h1, h2, h3.set q _, h5, h4.set hq y⟩
theorem RowD.grow {S : Nat → Prop} {M : Nat} {w w' : World} {A : Option Addr} {n : Nat} (h : RowD S M w A n) (hb : Below w.heap.size w w') : RowD S M w' A n where
  row ad ha h0 := ⟨(h.row ad ha h0).1, (h.row ad ha h0).2.1.grow hb, (h.row ad ha h0).2.2⟩
  cell j hj := by
    obtain ⟨ad, h1, h2⟩ := h.cell j hj
    exact ⟨ad, h1, h2.grow hb⟩
theorem RowD.set {S : Nat → Prop} {M : Nat} {w : World} {A : Option Addr} {n : Nat} (h : RowD S M w A n) {q : Addr} {k : IntKind} (hq : ICell w q k) (y : Int) : RowD S M (w.setCell q (.int k y)) A n where
  row ad ha h0 := ⟨(h.row ad ha h0).1, (h.row ad ha h0).2.1.set q _, (h.row ad ha h0).2.2⟩
  cell j hj := by
    obtain ⟨ad, h1, h2⟩ := h.cell j hj
    exact ⟨ad, h1, h2.set hq y⟩
def netV (A : Option Addr) (n c : Nat) (l : Int) (D : Option Addr) (m d : Nat) : Value := .agg #[.slice A n c, .int .i64 l, .slice D m d]

set_option maxHeartbeats 1600000 in
theorem spoil_any (S : Nat → Prop) (M : Nat) (A : Option Addr) (n c : Nat) (ps : List (Option Addr × Nat × Nat)) (l : Int) (D : Option Addr) (m d : Nat) (w : World) (hv : RowV S M w A n ps) (hd : RowD S M w D m) (hn : n ≤ 1000000000) (hm : m ≤ 1000000000) (hpl : ∀ p ∈ ps, p.2.1 ≤ 1000000000000) (hM : M ≤ w.heap.size) :
    Calls Try.prog 19 #[netV A n c l D m d] w fun e w' => e = .returned (.tuple #[]) ∧ ShpS S M w w' := by
  have HPL := Lib.hid hv.len
  unfold netV
  go_enter Try.func19, Try.ntmps19
  have q0 := Blk.new w 25 #[.slice A n c, .int .i64 l, .slice D m d]
  have c0 := q0.cell 0
  simp at c0
  have hB0 := (ShpS.refl S M w).grow hM ((Below.refl w.heap.size w).alloc (Nat.le_refl _) (.cells #[.slice A n c, .int .i64 l, .slice D m d] 25))
  have hlt0 : ∀ ad, A = some ad → 0 < n → w.heap.size ≠ ad.block := fun ad ha h0 => by have := (hv.row ad ha h0).2.1.lt_; omega
  have hlt2 : ∀ ad, D = some ad → 0 < m → w.heap.size ≠ ad.block := fun ad ha h0 => by have := (hd.row ad ha h0).2.1.lt_; omega
  have hlt1 : ∀ p ∈ ps, ∀ bd, p.1 = some bd → 0 < p.2.1 → w.heap.size ≠ bd.block := fun p hp bd hb h0 => by
    obtain ⟨bd', h1, _, h2, _⟩ := hv.data p hp 0 h0
    rw [hb] at h1
    injection h1 with h1
    subst h1
    have := h2.lt_
    omega
  have hv1 := hv.grow ((Below.refl w.heap.size w).alloc (Nat.le_refl _) (.cells #[.slice A n c, .int .i64 l, .slice D m d] 25))
  have hd1 := hd.grow ((Below.refl w.heap.size w).alloc (Nat.le_refl _) (.cells #[.slice A n c, .int .i64 l, .slice D m d] 25))
  clear hv hd
  go_wp2
  go_loopw [8] (fun v wr => ∃ (k : Nat), k ≤ n ∧ v = .int .i64 k ∧ RowV S M wr A n ps ∧ RowD S M wr D m ∧ Blk wr w.heap.size 25 #[.slice A n c, .int .i64 l, .slice D m d] ∧ ShpS S M w wr) (fun v _ => n - (intOf v).toNat)
  case atStart => exact ⟨0, by omega, rfl, hv1, hd1, q0, hB0⟩
  case round =>
    clear hv1 hd1 q0 hB0 c0
    obtain ⟨k, hk, rfl, hv, hd, q, hB⟩ := hrel
    have c1 := q.cell 0
    have c2 := q.cell 2
    simp at c1 c2
    by_cases hlt : k < n
    · obtain ⟨p, hp⟩ : ∃ p, ps[k]? = some p := ⟨ps[k]'(by have := HPL.out; omega), List.getElem?_eq_getElem _⟩
      obtain ⟨ad, rfl, ⟨x, hx⟩, hD⟩ := hv.cell k p hp
      have hpn := hpl p (List.mem_of_getElem? hp)
      have hpm := List.mem_of_getElem? hp
      obtain ⟨f0, hu, hS0⟩ := hv.row ad rfl (by omega)
      have g0 := hlt0 ad rfl (by omega)
      have hf : wr.frozen? (ad.add (k * 4)) = false := Unf.frozen (by rw [addr_block]; exact hu)
      have hv2 := hv.set (q := ad.add (k * 4)) ⟨x, hx⟩
      have hd2 := hd.set (q := ad.add (k * 4)) ⟨x, hx⟩
      have q2 := fun u => q.far (p := ad.add (k * 4)) (by rw [addr_block]; exact g0) u
      have hB2 := hB.set (q := ad.add (k * 4)) (by rw [addr_block]; exact f0) (by rw [addr_block]; exact hS0) ⟨x, hx⟩
      have hv3 := hv2 99
      have hd3 := hd2 99
      have q3 := q2 (.int .i64 99)
      have hB3 := hB2 99
      clear hv hd q hB hu hD c2 hv2 hd2 q2 hB2
      obtain ⟨ad', e1, -, hD⟩ := hv3.cell k p hp
      injection e1 with e1
      subst e1
      have c3 := q3.cell 0
      simp at c3
      go_wp2
      go_loopw [24] (fun v wr => ∃ (k2 : Nat), k2 ≤ p.2.1 ∧ v = .int .i64 k2 ∧ RowV S M wr (some ad) n ps ∧ RowD S M wr D m ∧ Blk wr w.heap.size 25 #[.slice (some ad) n c, .int .i64 l, .slice D m d] ∧ ShpS S M w wr) (fun v _ => p.2.1 - (intOf v).toNat)
      case atStart => exact ⟨0, by omega, rfl, hv3, hd3, q3, hB3⟩
      case round =>
        clear hD hv3 hd3 q3 hB3 c1 c3 hf hx
        obtain ⟨k2, hk2, rfl, hv, hd, q, hB⟩ := hrel
        have c1 := q.cell 0
        simp at c1
        obtain ⟨ad', e1, -, hD⟩ := hv.cell k p hp
        injection e1 with e1
        subst e1
        by_cases hlt2' : k2 < p.2.1
        · obtain ⟨bd, hbd, hM2, hu, hS2, x, hx⟩ := hv.data p hpm k2 hlt2'
          have hne := hlt1 p hpm bd hbd (by omega)
          have hf : wr.frozen? (bd.add k2) = false := Unf.frozen (by rw [addr_block]; exact hu)
          have hv2 := hv.set (q := bd.add k2) ⟨x, hx⟩
          have hd2 := hd.set (q := bd.add k2) ⟨x, hx⟩
          have q2 := fun u => q.far (p := bd.add k2) (by rw [addr_block]; exact hne) u
          have hB2 := hB.set (q := bd.add k2) (by rw [addr_block]; exact hM2) (by rw [addr_block]; exact hS2) ⟨x, hx⟩
          rw [hbd] at hD
          clear hv hd q hB hu
          go_wp2
          go_roundw
          case rel => exact ⟨k2 + 1, by omega, by go_num, hv2 _, hd2 _, q2 _, hB2 _⟩
          case measure => simp [intOf]; omega
        · obtain rfl : k2 = p.2.1 := by omega
          clear hD
          go_wp2
          go_roundw
          case rel => exact ⟨k + 1, by omega, by go_num, hv, hd, q, hB⟩
          case measure => simp [intOf]; omega
    · obtain ⟨k0, hk0⟩ : ∃ k0, k0 = n := ⟨_, rfl⟩
      obtain rfl : k = n := by omega
      go_wp2
      go_loopw [44] (fun v wr => ∃ (k2 : Nat), k2 ≤ m ∧ v = .int .i64 k2 ∧ RowD S M wr D m ∧ Blk wr w.heap.size 25 #[.slice A k c, .int .i64 l, .slice D m d] ∧ ShpS S M w wr) (fun v _ => m - (intOf v).toNat)
      case atStart => exact ⟨0, by omega, rfl, hd, q, hB⟩
      case round =>
        clear hv hd q hB c1 c2
        obtain ⟨j, hj, rfl, hd, q, hB⟩ := hrel
        have c1 := q.cell 2
        simp at c1
        by_cases hlt' : j < m
        · obtain ⟨ad, rfl, x, hx⟩ := hd.cell j hlt'
          obtain ⟨f0, hu, hS0⟩ := hd.row ad rfl (by omega)
          have g0 := hlt2 ad rfl (by omega)
          have hf : wr.frozen? ⟨(ad.add (j * 2)).block, (ad.add (j * 2)).off + 1, none⟩ = false := Unf.frozen (by rw [addr_block]; exact hu)
          have hd2 := hd.set (q := ⟨(ad.add (j * 2)).block, (ad.add (j * 2)).off + 1, none⟩) ⟨x, hx⟩
          have q2 := fun u => q.far (p := ⟨(ad.add (j * 2)).block, (ad.add (j * 2)).off + 1, none⟩) (by rw [addr_block]; exact g0) u
          have hB2 := hB.set (q := ⟨(ad.add (j * 2)).block, (ad.add (j * 2)).off + 1, none⟩) (by rw [addr_block]; exact f0) (by rw [addr_block]; exact hS0) ⟨x, hx⟩
          clear hd q hB hu
          go_wp2
          go_roundw
          case rel => exact ⟨j + 1, by omega, by go_num, hd2 _, q2 _, hB2 _⟩
          case measure => simp [intOf]; omega
        · obtain rfl : j = m := by omega
          go_wp2
          exact bodyPost_end (v := .tuple #[]) (by simp [results, Try.f19]) rfl ⟨rfl, hB⟩
theorem bytesV {C : Cx} : ∀ {l : List Int} {css : List (List Value)}, DnLL C (l.map by1) css → ∀ k, k < l.length → ∃ x, css.flatten[k]? = some (.int .u8 x)
  | [], css, h, k, hk => by simp at hk
  | x :: l, css, h, k, hk => by
    simp only [List.map_cons, DnLL] at h
    obtain ⟨u, us, rfl, h1, h2⟩ := h
    simp only [by1, DnL, Dn] at h1
    obtain ⟨v, vs, rfl, h3, rfl⟩ := h1
    subst h3
    cases k with
    | zero => exact ⟨x, rfl⟩
    | succ k => simpa using bytesV h2 k (by simpa using hk)
/-- What a slot's cells are. -/
theorem slV {C : Cx} {s : Sl} {cs : List Value} (h : DnL C (slC true s) cs) : ∃ (p : Option Addr × Nat × Nat), cs = [.int .i64 s.a, .int .i64 s.f, .int .i64 s.t, .slice p.1 p.2.1 p.2.2] ∧ p.2.1 = s.b.length ∧ ∀ k, k < p.2.1 → ∃ bd, p.1 = some bd ∧ C.B ≤ bd.block ∧ Unf C.w bd.block ∧ C.S bd.block ∧ ICell C.w (bd.add k) .u8 := by
  simp only [slC, DnL, Dn] at h
  obtain ⟨u1, us1, rfl, rfl, u2, us2, rfl, rfl, u4, us4, rfl, rfl, u3, us3, rfl, ⟨A, c, css, sz, rfl, h2, h3, h4, h5, h6, h7⟩, rfl⟩ := h
  refine ⟨(A, (s.b.map by1).length, c), rfl, by simp, fun k hk => ?_⟩
  have hk' : k < s.b.length := by simpa using hk
  cases A with
  | none =>
    have := h4 rfl
    rw [List.map_eq_nil_iff] at this
    rw [this] at hk'
    simp at hk'
  | some bd =>
    obtain ⟨h8, h9⟩ := h7 bd rfl
    obtain ⟨hS, _, h10⟩ := h8 (by intro h0; rw [List.map_eq_nil_iff] at h0; rw [h0] at hk'; simp at hk')
    obtain ⟨x, hx⟩ := bytesV h6 k hk'
    exact ⟨bd, rfl, (h10 trivial).1, (h10 trivial).2, hS, x, h9 k _ hx⟩
theorem slsV {C : Cx} : ∀ {es : List Sl} {css : List (List Value)}, DnLL C (es.map (slC true)) css → ∃ ps : List (Option Addr × Nat × Nat), ps.length = es.length ∧ (∀ p ∈ ps, ∃ e ∈ es, p.2.1 = e.b.length) ∧
    (∀ p ∈ ps, ∀ k, k < p.2.1 → ∃ bd, p.1 = some bd ∧ C.B ≤ bd.block ∧ Unf C.w bd.block ∧ C.S bd.block ∧ ICell C.w (bd.add k) .u8) ∧
    ∀ (j : Nat) p, ps[j]? = some p → (∃ x, css.flatten[j * 4]? = some (.int .i64 x)) ∧ css.flatten[j * 4 + 3]? = some (.slice p.1 p.2.1 p.2.2)
  | [], css, h => ⟨[], rfl, by simp, by simp, by simp⟩
  | e :: es, css, h => by
    simp only [List.map_cons, DnLL] at h
    obtain ⟨u, us, rfl, h1, h2⟩ := h
    obtain ⟨p, rfl, h3, h4⟩ := slV h1
    obtain ⟨ps, g1, g2, g3, g4⟩ := slsV h2
    refine ⟨p :: ps, by simp [g1], ?_, ?_, ?_⟩
    · intro q hq
      rcases List.mem_cons.1 hq with rfl | hq
      · exact ⟨e, by simp, h3⟩
      · obtain ⟨e', he, h5⟩ := g2 q hq
        exact ⟨e', by simp [he], h5⟩
    · intro q hq
      rcases List.mem_cons.1 hq with rfl | hq
      · exact h4
      · exact g3 q hq
    · intro j q hq
      cases j with
      | zero =>
        simp only [List.getElem?_cons_zero, Option.some.injEq] at hq
        subst hq
        exact ⟨⟨e.a, rfl⟩, rfl⟩
      | succ j =>
        simp only [List.getElem?_cons_succ] at hq
        obtain ⟨⟨x, hx⟩, hy⟩ := g4 j q hq
        refine ⟨⟨x, ?_⟩, ?_⟩
        · rw [show (j + 1) * 4 = j * 4 + 4 by omega]; simpa using hx
        · rw [show (j + 1) * 4 + 3 = (j * 4 + 3) + 4 by omega]; simpa using hy
theorem dfsV {C : Cx} : ∀ {ds : List (Int × Int)} {css : List (List Value)}, DnLL C (ds.map dfC) css → ∀ j, j < ds.length → ∃ x, css.flatten[j * 2 + 1]? = some (.int .i64 x)
  | [], css, h, j, hj => by simp at hj
  | d :: ds, css, h, j, hj => by
    simp only [List.map_cons, DnLL] at h
    obtain ⟨u, us, rfl, h1, h2⟩ := h
    simp only [dfC, DnL, Dn] at h1
    obtain ⟨u1, us1, rfl, rfl, u2, us2, rfl, rfl, rfl⟩ := h1
    cases j with
    | zero => exact ⟨d.2, rfl⟩
    | succ j =>
      obtain ⟨x, hx⟩ := dfsV h2 j (by simpa using hj)
      exact ⟨x, by rw [show (j + 1) * 2 + 1 = (j * 2 + 1) + 2 by omega]; simpa using hx⟩
theorem addr_off (ad : Addr) (i o : Nat) (ho : 0 < o) : (⟨(ad.add i).block, (ad.add i).off + o, none⟩ : Addr) = ad.add (i + o) := by
  unfold Addr.add
  by_cases h0 : i = 0
  · subst h0; simp; intro e; omega
  · rw [if_neg h0, if_neg (by omega)]; simp only [Nat.add_assoc]
theorem spoil_S {n : NetA} (hn : n.s.length ≤ 1000000000) (hm : n.d.length ≤ 1000000000) (hd : ∀ e ∈ n.s, e.b.length ≤ 1000000000000) : SpL Try.prog 19 [netT true true true n] := ⟨by kernel_rfl, fun C vals hB hh => by
  simp only [netT, DnL, Dn] at hh
  obtain ⟨u, us, rfl, ⟨vs, rfl, u1, us1, rfl, ⟨A, c, css, sz, rfl, h2, h3, h4, h5, h6, h7⟩, u2, us2, rfl, rfl, u3, us3, rfl, ⟨D, dc, dss, dz, rfl, d2, d3, d4, d5, d6, d7⟩, rfl⟩, rfl⟩ := hh
  obtain ⟨ps, g1, g2, g3, g4⟩ := slsV h6
  have hl : (n.s.map (slC true)).length = n.s.length := by simp
  have hl2 : (n.d.map dfC).length = n.d.length := by simp
  have hp : ∀ ad, A = some ad → 0 < n.s.length → C.B ≤ ad.block ∧ Unf C.w ad.block ∧ C.S ad.block := fun ad ha h0 => by
    obtain ⟨q1, _, q2⟩ := (h7 ad ha).1 (by intro hz; rw [List.map_eq_nil_iff] at hz; rw [hz] at h0; simp at h0)
    exact ⟨(q2 trivial).1, (q2 trivial).2, q1⟩
  have hv : RowV C.S C.B C.w A (n.s.map (slC true)).length ps := by
    rw [hl]
    refine ⟨g1, hp, fun j p hj => ?_, g3⟩
    obtain ⟨⟨x, hx⟩, hy⟩ := g4 j p hj
    cases A with
    | none =>
      have := h4 rfl
      rw [List.map_eq_nil_iff] at this
      rw [this] at g1
      have := (List.getElem?_eq_some_iff.1 hj).1
      simp at g1
      rw [g1] at this
      simp at this
    | some ad =>
      refine ⟨ad, rfl, ⟨x, (h7 ad rfl).2 _ _ hx⟩, ?_⟩
      rw [show (⟨(ad.add (j * 4)).block, (ad.add (j * 4)).off + 1 + 2, none⟩ : Addr) = ad.add (j * 4 + 3) from addr_off ad (j * 4) 3 (by omega)]
      exact (h7 ad rfl).2 _ _ hy
  have hw : RowD C.S C.B C.w D (n.d.map dfC).length := by
    rw [hl2]
    refine ⟨fun ad ha h0 => ?_, fun j hj => ?_⟩
    · obtain ⟨q1, _, q2⟩ := (d7 ad ha).1 (by intro hz; rw [List.map_eq_nil_iff] at hz; rw [hz] at h0; simp at h0)
      exact ⟨(q2 trivial).1, (q2 trivial).2, q1⟩
    · cases D with
      | none =>
        have := d4 rfl
        rw [List.map_eq_nil_iff] at this
        rw [this] at hj
        simp at hj
      | some ad =>
        obtain ⟨x, hx⟩ := dfsV d6 j hj
        refine ⟨ad, rfl, x, ?_⟩
        rw [addr_off ad (j * 2) 1 (by omega)]
        exact (d7 ad rfl).2 _ _ hx
  exact spoil_any C.S C.B A _ c ps n.l D _ dc C.w hv hw (by rw [hl]; exact hn) (by rw [hl2]; exact hm) (fun p hpm => by obtain ⟨e, he, h5⟩ := g2 p hpm; rw [h5]; exact hd e he) hB⟩
theorem bl_bytes {C C' : Cx} : ∀ {l : List Int} {css : List (List Value)}, DnLL C (l.map by1) css → ∀ {css2 : List (List Value)}, css2.length = css.length → (∀ (k : Nat) (v : Value), css.flatten[k]? = some v → css2.flatten[k]? = some v ∨ ∃ x, css2.flatten[k]? = some (.int .u8 x)) → (∀ x ∈ css2, x.length = 1) → ∃ l2 : List Int, l2.length = l.length ∧ DnLL C' (l2.map by1) css2
  | [], css, h, css2, hl, hc, h1 => by
    simp only [List.map_nil, DnLL] at h
    subst h
    exact ⟨[], rfl, by simp only [List.map_nil, DnLL]; exact List.eq_nil_of_length_eq_zero hl⟩
  | x :: l, css, h, [], hl, hc, h1 => by
    simp only [List.map_cons, DnLL] at h
    obtain ⟨u, us, rfl, _, _⟩ := h
    simp at hl
  | x :: l, css, h, y :: css2, hl, hc, h1 => by
    simp only [List.map_cons, DnLL] at h
    obtain ⟨u, us, rfl, h2, h3⟩ := h
    simp only [by1, DnL, Dn] at h2
    obtain ⟨v, vs, rfl, h4, rfl⟩ := h2
    subst h4
    have hy := h1 y (by simp)
    obtain ⟨z, rfl⟩ : ∃ z, y = [z] := by
      cases y with
      | nil => simp at hy
      | cons z r => cases r with
        | nil => exact ⟨z, rfl⟩
        | cons _ _ => simp at hy
    have h5 := hc 0 _ rfl
    obtain ⟨x2, rfl⟩ : ∃ x2, z = .int .u8 x2 := by
      rcases h5 with h5 | ⟨x2, h5⟩
      · exact ⟨x, by simpa using h5⟩
      · exact ⟨x2, by simpa using h5⟩
    obtain ⟨l2, h6, h7⟩ := bl_bytes (C' := C') h3 (css2 := css2) (by simpa using hl) (fun k v hk => by simpa using hc (k + 1) v (by simpa using hk)) (fun w hw => h1 w (by simp [hw]))
    exact ⟨x2 :: l2, by simp [h6], by simp only [List.map_cons, DnLL]; exact ⟨_, _, rfl, by simp [by1, DnL, Dn], h7⟩⟩
/-- The cells of a row behind a call that writes numbers over numbers. -/
theorem bl_cells {M : Nat} {w w' : World} (hs : Shp M w w') {ad : Addr} : ∀ (cs : List Value), (∀ (j : Nat) (x : Value), cs[j]? = some x → w.cell? (ad.add j) = some x) → ∃ cs2 : List Value, cs2.length = cs.length ∧ (∀ (j : Nat) (x : Value), cs2[j]? = some x → w'.cell? (ad.add j) = some x) ∧ ∀ (j : Nat) (x : Value), cs[j]? = some x → cs2[j]? = some x ∨ ∃ k y z, x = .int k y ∧ cs2[j]? = some (.int k z) := by
  intro cs h
  refine ⟨(List.range cs.length).map fun j => (w'.cell? (ad.add j)).getD .nilFunc, by simp, fun j x hx => ?_, fun j x hx => ?_⟩
  · rw [List.getElem?_map] at hx
    cases hr : (List.range cs.length)[j]? with
    | none => rw [hr] at hx; cases hx
    | some k =>
      obtain ⟨hk, rfl⟩ := List.getElem?_eq_some_iff.1 hr
      rw [hr] at hx
      simp only [Option.map_some, Option.some.injEq, List.getElem_range] at hx
      have hj : j < cs.length := by simpa using hk
      rcases hs.cell _ _ (h j cs[j] (List.getElem?_eq_getElem hj)) with h4 | ⟨k, a, b, h4, h5⟩
      · rw [h4] at hx; rw [h4, ← hx]; rfl
      · rw [h5] at hx; rw [h5, ← hx]; rfl
  · have hj := (List.getElem?_eq_some_iff.1 hx).1
    rw [List.getElem?_map, List.getElem?_range hj]
    rcases hs.cell _ _ (h j x hx) with h4 | ⟨k, a, b, h4, h5⟩
    · left; simp [h4]
    · right; exact ⟨k, a, b, h4, by simp [h5]⟩
theorem Dn.sl_e {C : Cx} {b : Bool} {els : List (List TV)} {u : Value} (h : Dn C (.sl b els) u) : ∃ (A : Option Addr) (c : Nat) (css : List (List Value)) (sz : Nat), u = .slice A els.length c ∧ els.length ≤ c ∧ c ≤ maxLen ∧ (A = none → els = []) ∧ (∀ x ∈ css, x.length = sz) ∧ DnLL C els css ∧
    ∀ ad, A = some ad → (els ≠ [] → C.S ad.block ∧ ad.block < C.w.heap.size ∧ (b = true → C.B ≤ ad.block ∧ Unf C.w ad.block)) ∧ ∀ (j : Nat) (x : Value), css.flatten[j]? = some x → C.w.cell? (ad.add j) = some x := by
  simp only [Dn] at h; exact h
theorem Dn.sl_m {C : Cx} {b : Bool} {els : List (List TV)} {A : Option Addr} {c : Nat} {css : List (List Value)} {sz : Nat} (h1 : els.length ≤ c) (h2 : c ≤ maxLen) (h3 : A = none → els = []) (h4 : ∀ x ∈ css, x.length = sz) (h5 : DnLL C els css)
    (h6 : ∀ ad, A = some ad → (els ≠ [] → C.S ad.block ∧ ad.block < C.w.heap.size ∧ (b = true → C.B ≤ ad.block ∧ Unf C.w ad.block)) ∧ ∀ (j : Nat) (x : Value), css.flatten[j]? = some x → C.w.cell? (ad.add j) = some x) : Dn C (.sl b els) (.slice A els.length c) := by
  simp only [Dn]; exact ⟨A, c, css, sz, rfl, h1, h2, h3, h4, h5, h6⟩
theorem sing_flat : ∀ {cs : List Value}, (cs.map fun x => [x]).flatten = cs
  | [] => rfl
  | x :: cs => by simp [sing_flat (cs := cs)]
theorem bl_sl {C C' : Cx} (hs : ShpS C.S C.B C.w C'.w) (hB : C'.B = C.B) (hS : ∀ k, C.S k → C'.S k) {ad : Addr} (h : C.S ad.block ∧ ad.block < C.w.heap.size ∧ (true = true → C.B ≤ ad.block ∧ Unf C.w ad.block)) : C'.S ad.block ∧ ad.block < C'.w.heap.size ∧ (true = true → C'.B ≤ ad.block ∧ Unf C'.w ad.block) :=
  ⟨hS _ h.1, Nat.lt_of_lt_of_le h.2.1 hs.s.below.size, fun _ => ⟨by rw [hB]; exact (h.2.2 rfl).1, hs.s.unf _ (h.2.2 rfl).2⟩⟩
theorem bl_data {C C' : Cx} (hs : ShpS C.S C.B C.w C'.w) (hB : C'.B = C.B) (hS : ∀ k, C.S k → C'.S k) {l : List Int} {u : Value} (h : Dn C (.sl true (l.map by1)) u) : ∃ l2 : List Int, l2.length = l.length ∧ Dn C' (.sl true (l2.map by1)) u := by
  obtain ⟨A, c, css, sz, rfl, h2, h3, h4, h5, h6, h7⟩ := h.sl_e
  have hcl := h6.len
  cases A with
  | none =>
    have := h4 rfl
    rw [List.map_eq_nil_iff] at this
    subst this
    exact ⟨[], rfl, Dn.sl_m (css := []) (sz := 0) h2 h3 (fun _ => rfl) (by simp) (by simp [DnLL]) (fun ad ha => by cases ha)⟩
  | some ad =>
    obtain ⟨h8, h9⟩ := h7 ad rfl
    obtain ⟨cs2, g1, g2, g3⟩ := bl_cells hs.s (ad := ad) css.flatten h9
    have hall : ∀ (k : Nat) (v : Value), css.flatten[k]? = some v → (cs2.map fun x => [x]).flatten[k]? = some v ∨ ∃ x, (cs2.map fun x => [x]).flatten[k]? = some (.int .u8 x) := by
      intro k v hv
      rw [sing_flat]
      rcases g3 k v hv with h1 | ⟨kk, y, z, h1, h2⟩
      · exact .inl h1
      · have hk : k < l.length := by
          have h3 := (List.getElem?_eq_some_iff.1 hv).1
          have : css.flatten.length = l.length := by
            have key : ∀ (l : List Int) (css : List (List Value)), DnLL C (l.map by1) css → css.flatten.length = l.length := by
              intro l
              induction l with
              | nil => intro css h; simp only [List.map_nil, DnLL] at h; subst h; rfl
              | cons x l ih =>
                intro css h
                simp only [List.map_cons, DnLL] at h
                obtain ⟨u, us, rfl, h2, h3⟩ := h
                have := h2.len
                have := ih us h3
                simp [by1] at *
                omega
            exact key l css h6
          omega
        obtain ⟨x, hx⟩ := bytesV h6 k hk
        rw [hv] at hx
        rw [h1] at hx
        injection hx with hx
        injection hx with hx hx2
        subst hx
        exact .inr ⟨z, h2⟩
    have hfl : css.flatten.length = css.length := by
      have key : ∀ (l : List Int) (css : List (List Value)), DnLL C (l.map by1) css → css.flatten.length = css.length := by
        intro l
        induction l with
        | nil => intro css h; simp only [List.map_nil, DnLL] at h; subst h; rfl
        | cons x l ih =>
          intro css h
          simp only [List.map_cons, DnLL] at h
          obtain ⟨u, us, rfl, h2, h3⟩ := h
          have := h2.len
          have := ih us h3
          simp [by1] at *
          omega
      exact key l css h6
    obtain ⟨l2, g4, g5⟩ := bl_bytes (C' := C') h6 (css2 := cs2.map fun x => [x]) (by simp [g1, hfl]) hall (fun x hx => by obtain ⟨y, _, rfl⟩ := List.mem_map.1 hx; rfl)
    refine ⟨l2, g4, ?_⟩
    have e1 : (l.map by1).length = (l2.map by1).length := by simp [g4]
    rw [e1] at h2 ⊢
    refine Dn.sl_m (sz := 1) h2 h3 (fun h => by cases h) (fun x hx => by obtain ⟨y, _, rfl⟩ := List.mem_map.1 hx; rfl) g5 (fun ad' ha => ?_)
    injection ha with ha
    subst ha
    refine ⟨fun hne => bl_sl hs hB hS (h8 fun h0 => hne ?_), fun j x hx => g2 j x (by rw [sing_flat] at hx; exact hx)⟩
    rw [List.map_eq_nil_iff] at h0 ⊢
    subst h0
    exact List.eq_nil_of_length_eq_zero g4
end Go.Proofs.Ytmhmldpccccjbaa

namespace Go.Proofs.Ytmhmldpccccjbaa
open Go.RowKit
set_option linter.unusedVariables false
set_option linter.unusedSimpArgs false

/-- A net of so many parts. -/
structure NetA.Sh (n m : NetA) : Prop where
  s : n.s.length = m.s.length
  d : n.d.length = m.d.length
  b : ∀ x ∈ n.s, ∃ y ∈ m.s, x.b.length = y.b.length
def netCX (n : NetA) : List XV := [.p (.sl true (n.s.map (slC true))) (nl_sl _ _).sl, .p (.v (.int .i64 n.l)) (nlv _), .p (.sl true (n.d.map dfC)) (nl_df _).sl]
theorem sz_spoil {n : NetA} (h : n.Sz) : SpL Try.prog 19 [netT true true true n] := spoil_S (by have := h.s; omega) (by have := h.d; omega) (fun e he => by have := h.b e he; omega)
theorem NetA.Sh.sz {n m : NetA} (h : n.Sh m) (hm : m.Sz) : n.Sz := ⟨by rw [h.s]; exact hm.s, by rw [h.d]; exact hm.d, fun x hx => by obtain ⟨y, hy, e⟩ := h.b x hx; rw [e]; exact hm.b y hy⟩
/-- All pairs in their order. -/
def allP : List (Int × Int) := (List.range 64).map fun i => (((i / 8 : Nat) : Int) + 1, ((i % 8 : Nat) : Int) + 1)
def hearB (d : List (Int × Int)) (f t : Int) (is : Bool) (x : Int × Int) : Bool := if x = (f, t) then !is else decide (x ∈ d)
def hearL (d : List (Int × Int)) (f t : Int) (is : Bool) (k : Nat) : List (Int × Int) := (allP.take k).filter (hearB d f t is)
theorem rise_ext {α : Type} {key : α → Int} {a b : List α} (ha : a.Pairwise fun x y => key x < key y) (hb : b.Pairwise fun x y => key x < key y) (h : ∀ x, x ∈ a ↔ x ∈ b) : a = b := by
  induction a generalizing b with
  | nil =>
    cases b with
    | nil => rfl
    | cons y b => exact absurd ((h y).2 (by simp)) (by simp)
  | cons x a ih =>
    cases b with
    | nil => exact absurd ((h x).1 (by simp)) (by simp)
    | cons y b =>
      have hxa := (List.pairwise_cons.1 ha).1
      have hyb := (List.pairwise_cons.1 hb).1
      have hxy : x = y := by
        rcases List.mem_cons.1 ((h x).1 (by simp)) with h1 | h1
        · exact h1
        · rcases List.mem_cons.1 ((h y).2 (by simp)) with h2 | h2
          · exact h2.symm
          · have := hyb x h1; have := hxa y h2; omega
      subst hxy
      congr 1
      refine ih (List.pairwise_cons.1 ha).2 (List.pairwise_cons.1 hb).2 fun z => ⟨fun hz => ?_, fun hz => ?_⟩
      · rcases List.mem_cons.1 ((h z).1 (List.mem_cons_of_mem _ hz)) with h1 | h1
        · subst h1; have := hxa z hz; omega
        · exact h1
      · rcases List.mem_cons.1 ((h z).2 (List.mem_cons_of_mem _ hz)) with h1 | h1
        · subst h1; have := hyb z hz; omega
        · exact h1
theorem net0_sz : net0.Sz := net0_ok.sz
/-- What the document asks of a slot. -/
def okS (s : List Sl) (j : Nat) (x : Sl) : Prop := 0 ≤ x.a ∧ lastA s j < x.a ∧ x.a < 80 ∧ pkB x.f x.t x.b.length = true
def okD (d : List (Int × Int)) (j : Nat) (x : Int × Int) : Prop := pkB x.1 x.2 0 = true ∧ ∀ i p, j = i + 1 → d[i]? = some p → dk p < dk x
theorem right_iff {n : NetA} : rightB n = true ↔ (0 ≤ n.l ∧ n.l < 80) ∧ (∀ j x, n.s[j]? = some x → okS n.s j x) ∧ ∀ j x, n.d[j]? = some x → okD n.d j x := by
  constructor
  · intro h
    obtain ⟨h1, h2, h3⟩ := right_parts h
    refine ⟨by simpa [lastB] using h1, fun j x hx => ?_, fun j x hx => ⟨(h3 j x hx).1, fun i p hj hp => ?_⟩⟩
    · have h4 := lastA_ge (s := n.s) (j := j) (fun i x _ hx => (h2 i x hx).1) (by have := (List.getElem?_eq_some_iff.1 hx).1; omega)
      have := h2 j x hx
      exact ⟨by omega, this⟩
    · subst hj
      have h4 := (h3 (i + 1) x hx).2
      simp only [prevOk, hp, decide_eq_true_eq] at h4
      exact (ordN_dk (h3 i p hp).1 (h3 (i + 1) x hx).1).1.1 h4
  · rintro ⟨h1, h2, h3⟩
    refine chkD_all (chkS_all (by simpa [lastB] using h1) fun j x _ hx => (h2 j x hx).2) fun j x _ hx => ⟨(h3 j x hx).1, ?_⟩
    cases j with
    | zero => rfl
    | succ i =>
      cases hp : n.d[i]? with
      | none => simp only [prevOk, hp]
      | some p =>
        simp only [prevOk, hp, decide_eq_true_eq]
        exact (ordN_dk (h3 i p hp).1 (h3 (i + 1) x hx).1).1.2 ((h3 (i + 1) x hx).2 i p rfl hp)
end Go.Proofs.Ytmhmldpccccjbaa

namespace Go.Proofs.Ytmhmldpccccjbaa
open Go.RowKit
set_option linter.unusedVariables false
set_option linter.unusedSimpArgs false

/-- What a slot carries. -/
def carr (s : List Sl) (x : Int) : Sl := (s.find? fun y => decide (y.a = x)).getD sl0
/-- None of the first slots is the one asked for. -/
def noCar (s : List Sl) (x : Int) (k : Nat) : Prop := ∀ j y, j < k → s[j]? = some y → y.a ≠ x
theorem noCar_0 (s : List Sl) (x : Int) : noCar s x 0 := fun j y hj => by omega
theorem noCar_s {s : List Sl} {x : Int} {k : Nat} {y : Sl} (h : noCar s x k) (hy : s[k]? = some y) (hn : ¬ y.a = x) : noCar s x (k + 1) := fun j z hj hz => by
  rcases Nat.lt_or_ge j k with h1 | h1
  · exact h j z h1 hz
  · obtain rfl : j = k := by omega
    rw [hy] at hz; injection hz with hz; subst hz; exact hn
theorem car_f {s : List Sl} {x : Int} {k : Nat} (h : noCar s x k) (hk : s.length ≤ k) : hasS s x = false := by
  unfold hasS
  rw [List.any_eq_false]
  intro y hy
  obtain ⟨j, hj, rfl⟩ := List.getElem_of_mem hy
  simpa using h j _ (by omega) (List.getElem?_eq_getElem hj)
theorem find_at {α : Type} {p : α → Bool} : ∀ {s : List α} {k : Nat} {y : α}, s[k]? = some y → p y = true → (∀ j z, j < k → s[j]? = some z → p z = false) → s.find? p = some y
  | [], k, y, h, _, _ => by simp at h
  | a :: s, 0, y, h, hp, _ => by simp at h; subst h; simp [List.find?_cons, hp]
  | a :: s, k + 1, y, h, hp, hn => by
    have h0 := hn 0 a (by omega) rfl
    rw [List.find?_cons, h0]
    exact find_at (by simpa using h) hp fun j z hj hz => hn (j + 1) z (by omega) (by simpa using hz)
theorem car_t {s : List Sl} {x : Int} {k : Nat} {y : Sl} (h : noCar s x k) (hy : s[k]? = some y) (hx : y.a = x) : hasS s x = true ∧ carr s x = y := by
  refine ⟨?_, ?_⟩
  · unfold hasS
    rw [List.any_eq_true]
    exact ⟨y, List.mem_of_getElem? hy, by simp [hx]⟩
  · unfold carr
    rw [find_at hy (by simp [hx]) fun j z hj hz => by simpa using h j z hj hz]
    rfl
theorem hasS_iff {s : List Sl} {x : Int} : hasS s x = true ↔ ∃ y ∈ s, y.a = x := by
  unfold hasS
  rw [List.any_eq_true]
  exact ⟨fun ⟨y, h1, h2⟩ => ⟨y, h1, by simpa using h2⟩, fun ⟨y, h1, h2⟩ => ⟨y, h1, by simpa using h2⟩⟩
theorem way_inj {s : List Sl} (hs : WayS s) {y z : Sl} (hy : y ∈ s) (hz : z ∈ s) (h : y.a = z.a) : y = z := by
  obtain ⟨i, hi, rfl⟩ := List.getElem_of_mem hy
  obtain ⟨j, hj, rfl⟩ := List.getElem_of_mem hz
  rcases Nat.lt_trichotomy i j with h1 | h1 | h1
  · have := List.pairwise_iff_getElem.1 hs.o i j hi hj h1; omega
  · subst h1; rfl
  · have := List.pairwise_iff_getElem.1 hs.o j i hj hi h1; omega
theorem carr_mem {s : List Sl} {x : Int} (h : hasS s x = true) : carr s x ∈ s ∧ (carr s x).a = x := by
  obtain ⟨y, hy, hx⟩ := hasS_iff.1 h
  unfold carr
  cases hf : s.find? fun y => decide (y.a = x) with
  | none =>
    rw [List.find?_eq_none] at hf
    exact absurd hx (by simpa using hf y hy)
  | some z => exact ⟨List.mem_of_find?_eq_some hf, by simpa using List.find?_some hf⟩
theorem carr_is {s : List Sl} (hs : WayS s) {y : Sl} (hy : y ∈ s) : carr s y.a = y := by
  have h := carr_mem (s := s) (x := y.a) (hasS_iff.2 ⟨y, hy, rfl⟩)
  exact way_inj hs h.1 hy h.2
/-- The slots of a net, of which one carries something else. -/
def withO (s : List Sl) (x : Int) (p : Sl) (is : Bool) (i : Nat) : Option Sl :=
  if (i : Int) = x then if is = true then some ⟨i, p.f, p.t, p.b⟩ else none
  else if hasS s i = true then some ⟨i, (carr s i).f, (carr s i).t, (carr s i).b⟩ else none
def withR (s : List Sl) (x : Int) (p : Sl) (is : Bool) (k : Nat) : List Sl := (List.range k).filterMap (withO s x p is)
theorem withR_s (s : List Sl) (x : Int) (p : Sl) (is : Bool) (k : Nat) : withR s x p is (k + 1) = withR s x p is k ++ (match withO s x p is k with
    | some y => [y]
    | none => []) := by
  unfold withR
  rw [List.range_succ, List.filterMap_append]
  congr 1
  rw [List.filterMap_cons, List.filterMap_nil]
  cases withO s x p is k <;> rfl
theorem withR_t {s : List Sl} {x : Int} {p : Sl} {is : Bool} {k : Nat} (h : (k : Int) = x) (hi : is = true) : withR s x p is (k + 1) = withR s x p is k ++ [⟨k, p.f, p.t, p.b⟩] := by
  rw [withR_s, withO, if_pos h, if_pos hi]
theorem withR_c {s : List Sl} {x : Int} {p : Sl} {is : Bool} {k j : Nat} {y : Sl} (h : ¬ (k : Int) = x) (hn : noCar s k j) (hy : s[j]? = some y) (ha : y.a = k) : withR s x p is (k + 1) = withR s x p is k ++ [⟨k, y.f, y.t, y.b⟩] := by
  have := car_t hn hy ha
  rw [withR_s, withO, if_neg h, if_pos this.1, this.2]
theorem withR_f {s : List Sl} {x : Int} {p : Sl} {is : Bool} {k j : Nat} (h : ¬ (k : Int) = x) (hn : noCar s k j) (hj : s.length ≤ j) : withR s x p is (k + 1) = withR s x p is k := by
  rw [withR_s, withO, if_neg h, if_neg (by rw [car_f hn hj]; simp)]; simp
theorem withR_len (s : List Sl) (x : Int) (p : Sl) (is : Bool) (k : Nat) : (withR s x p is k).length ≤ k := by
  have := List.length_filterMap_le (withO s x p is) (List.range k)
  simpa [withR] using this
theorem withO_a {s : List Sl} {x : Int} {p : Sl} {is : Bool} {i : Nat} {y : Sl} (h : withO s x p is i = some y) : y.a = i := by
  unfold withO at h
  split at h
  · split at h
    · injection h with h; subst h; rfl
    · cases h
  · split at h
    · injection h with h; subst h; rfl
    · cases h
theorem withR_o (s : List Sl) (x : Int) (p : Sl) (is : Bool) : ∀ k, (withR s x p is k).Pairwise (fun y z => y.a < z.a) ∧ ∀ y ∈ withR s x p is k, y.a < k
  | 0 => ⟨by simp [withR], by simp [withR]⟩
  | k + 1 => by
    obtain ⟨h1, h2⟩ := withR_o s x p is k
    rw [withR_s]
    cases hw : withO s x p is k with
    | none => simp only [List.append_nil]; exact ⟨h1, fun y hy => by have := h2 y hy; omega⟩
    | some z =>
      have hz := withO_a hw
      simp only
      refine ⟨List.pairwise_append.2 ⟨h1, by simp, fun y hy q hq => ?_⟩, fun y hy => ?_⟩
      · simp only [List.mem_singleton] at hq; subst hq
        have := h2 y hy; omega
      · rcases List.mem_append.1 hy with hy | hy
        · have := h2 y hy; omega
        · simp only [List.mem_singleton] at hy; subst hy; omega
theorem withR_mem {s : List Sl} {x : Int} {p : Sl} {is : Bool} (hs : WayS s) (hx : inWay x) {y : Sl} : y ∈ withR s x p is 80 ↔ (y ∈ s ∧ y.a ≠ x) ∨ (is = true ∧ y = ⟨x, p.f, p.t, p.b⟩) := by
  unfold withR
  rw [List.mem_filterMap]
  unfold inWay at hx
  constructor
  · rintro ⟨i, hi, h⟩
    have hi := List.mem_range.1 hi
    unfold withO at h
    split at h
    · rename_i e
      split at h
      · injection h with h; subst h
        exact .inr ⟨by assumption, by rw [e]⟩
      · cases h
    · rename_i e
      split at h
      · rename_i hh
        injection h with h; subst h
        have hc := carr_mem hh
        refine .inl ⟨?_, e⟩
        rw [show ({ a := (i : Int), f := (carr s i).f, t := (carr s i).t, b := (carr s i).b } : Sl) = carr s i from by rw [sl_eq]; exact ⟨hc.2.symm, rfl, rfl, rfl⟩]
        exact hc.1
      · cases h
  · rintro (⟨hy, hn⟩ | ⟨hi, rfl⟩)
    · have hw := hs.w y hy
      unfold inWay at hw
      refine ⟨y.a.toNat, List.mem_range.2 (by omega), ?_⟩
      have e : ((y.a.toNat : Nat) : Int) = y.a := by omega
      unfold withO
      rw [e, if_neg hn, if_pos (hasS_iff.2 ⟨y, hy, rfl⟩), carr_is hs hy]
    · refine ⟨x.toNat, List.mem_range.2 (by omega), ?_⟩
      have e : ((x.toNat : Nat) : Int) = x := by omega
      unfold withO
      rw [e, if_pos rfl, if_pos hi]
theorem insS_mem {s : List Sl} {x y : Sl} : y ∈ insS s x ↔ y = x ∨ y ∈ s := by
  unfold insS
  conv => rhs; rw [← List.take_append_drop (posS s x.a) s]
  simp only [List.mem_append, List.mem_singleton]
  constructor
  · rintro ((h | h) | h)
    · exact .inr (.inl h)
    · exact .inl h
    · exact .inr (.inr h)
  · rintro (h | h | h)
    · exact .inl (.inr h)
    · exact .inl (.inl h)
    · exact .inr h
theorem with_ins {s : List Sl} (hs : WayS s) {x : Int} {p : Sl} (hx : inWay x) (hn : hasS s x = false) : withR s x p true 80 = insS s ⟨x, p.f, p.t, p.b⟩ := by
  have hnx : ∀ y ∈ s, y.a ≠ x := fun y hy e => by
    have := hasS_iff.2 ⟨y, hy, e⟩; rw [hn] at this; cases this
  refine rise_ext (key := fun y : Sl => y.a) (withR_o _ _ _ _ _).1 (insS_way (x := ⟨x, p.f, p.t, p.b⟩) hs hx hn).o fun y => ?_
  rw [withR_mem hs hx, insS_mem]
  constructor
  · rintro (⟨h, _⟩ | ⟨_, h⟩)
    · exact .inr h
    · exact .inl h
  · rintro (h | h)
    · exact .inr ⟨rfl, h⟩
    · exact .inl ⟨h, hnx y h⟩
/-- Each slot carries something. -/
theorem full_all {s : List Sl} (hs : WayS s) (h : s.length = 80) {x : Int} (hx : inWay x) : hasS s x = true := by
  cases hh : hasS s x with
  | true => rfl
  | false =>
    have h1 := (insS_way (x := ⟨x, 0, 0, []⟩) hs hx hh).n
    unfold insS at h1
    simp only [List.length_append, List.length_take, List.length_drop, List.length_cons, List.length_nil] at h1
    have := posS_le s x
    omega
theorem slot_ex {l x : Int} (hx : inWay x) : ∃ j, j < 80 ∧ slotN l j = x := by
  unfold inWay at hx
  refine ⟨((x - (l + 1)) % 80).toNat, by omega, ?_⟩
  unfold slotN
  omega
theorem all_full {s : List Sl} (hs : WayS s) {l : Int} (h : ∀ j, j < 80 → hasS s (slotN l j) = true) : s.length = 80 := by
  have h2 : s.map (fun y => y.a) = (List.range 80).map (fun i : Nat => (i : Int)) := by
    refine rise_ext (key := fun y : Int => y) (List.pairwise_map.2 hs.o) (List.pairwise_map.2 (List.pairwise_lt_range.imp fun h => by omega)) fun x => ?_
    simp only [List.mem_map, List.mem_range]
    constructor
    · rintro ⟨y, hy, rfl⟩
      have := hs.w y hy
      unfold inWay at this
      exact ⟨y.a.toNat, by omega, by omega⟩
    · rintro ⟨i, hi, rfl⟩
      obtain ⟨j, hj, e⟩ := slot_ex (l := l) (x := (i : Int)) ⟨by omega, by omega⟩
      have := h j hj
      rw [e] at this
      exact hasS_iff.1 this
  have := congrArg List.length h2
  simpa using this
/-- The slot ahead of the next that is asked. -/
def lastI (l : Int) : Nat → Int
  | 0 => l
  | i + 1 => slotN l i
theorem lastI_s {l : Int} (hl : 0 ≤ l ∧ l < 80) {i : Nat} (hi : i ≤ 80) : (IntKind.i64.wrap (lastI l i + 1)).tmod 80 = slotN l i := by
  cases i with
  | zero =>
    simp only [lastI, slotN]
    rw [IntKind.wrap_i64, Int.tmod_eq_emod_of_nonneg (by omega)]
    omega
  | succ i =>
    simp only [lastI, slotN]
    rw [IntKind.wrap_i64, Int.tmod_eq_emod_of_nonneg (by omega)]
    omega
end Go.Proofs.Ytmhmldpccccjbaa

namespace Go.Proofs.Ytmhmldpccccjbaa
open Go.RowKit
set_option linter.unusedVariables false
set_option linter.unusedSimpArgs false

abbrev Y3 := (NetA × NetA × NetA) × List Int × List Int
def byX (l : List Int) : XV := .p (.sl true (l.map by1)) (nl_by1 _).sl
def arr3 (y : Y3) : XV := .ag (netCX y.1.1 ++ (netCX y.1.2.1 ++ netCX y.1.2.2))
def pkV (f t : Int) (y : Y3) : List XV := [.p (.v (.int .i64 f)) (nlv _), .p (.v (.int .i64 t)) (nlv _), byX y.2.1]
def sloV (a f t : Int) (y : Y3) : List XV := [.p (.v (.int .i64 a)) (nlv _), .p (.v (.int .i64 f)) (nlv _), .p (.v (.int .i64 t)) (nlv _), byX y.2.2]
structure R3 (y : Y3) : Prop where
  a : y.1.1.Sz
  b : y.1.2.1.Sz
  c : y.1.2.2.Sz
  p : y.2.1.length ≤ 100000
  s : y.2.2.length ≤ 100000
/-- A net's cells, by whom they may be written. -/
def nCX (t : Bool × Bool × Bool) (n : NetA) : List XV := [.p (.sl t.1 (n.s.map (slC t.2.1))) (nl_sl _ _).sl, .p (.v (.int .i64 n.l)) (nlv _), .p (.sl t.2.2 (n.d.map dfC)) (nl_df _).sl]
def sCX (c : Bool) (x : Sl) : List XV := [.p (.v (.int .i64 x.a)) (nlv _), .p (.v (.int .i64 x.f)) (nlv _), .p (.v (.int .i64 x.t)) (nlv _), .p (.sl c (x.b.map by1)) (nl_by1 _).sl]
end Go.Proofs.Ytmhmldpccccjbaa
