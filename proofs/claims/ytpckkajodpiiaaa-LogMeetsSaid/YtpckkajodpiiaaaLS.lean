/- A log that is written over: only what was made behind a mark changes. No condition. -/
import Derived.Test.YtpckkajodpiiaaaU9
import Derived.Test.YtpckkajodpiiaaaTE1
import Derived.Deep.LoopGhost
namespace Go.Proofs.Ytpckkajodpiiaaa
open Go.RowKit
set_option linter.unusedVariables false
set_option linter.unusedSimpArgs false

/-- A row of entries whose cells are numbers and slices of bytes, all of it made behind a mark. -/
structure RowV (M : Nat) (w : World) (A : Option Addr) (n : Nat) (ps : List (Option Addr × Nat × Nat)) : Prop where
  len : ps.length = n
  row : ∀ ad, A = some ad → 0 < n → M ≤ ad.block ∧ Unf w ad.block
  cell : ∀ (j : Nat) p, ps[j]? = some p → ∃ ad, A = some ad ∧ ICell w (ad.add (j * 3)) .u64 ∧ w.cell? ⟨(ad.add (j * 3)).block, (ad.add (j * 3)).off + 2, none⟩ = some (.slice p.1 p.2.1 p.2.2)
  data : ∀ p ∈ ps, ∀ k, k < p.2.1 → ∃ bd, p.1 = some bd ∧ M ≤ bd.block ∧ Unf w bd.block ∧ ICell w (bd.add k) .u8
theorem RowV.grow {M : Nat} {w w' : World} {A : Option Addr} {n : Nat} {ps : List (Option Addr × Nat × Nat)} (h : RowV M w A n ps) (hb : Below w.heap.size w w') : RowV M w' A n ps where
  len := h.len
  row ad ha h0 := ⟨(h.row ad ha h0).1, (h.row ad ha h0).2.grow hb⟩
  cell j p hp := by
    obtain ⟨ad, h1, h2, h3⟩ := h.cell j p hp
    exact ⟨ad, h1, h2.grow hb, (hb.cell (World.block_lt_of_cell? w _ h3)).trans h3⟩
  data p hp k hk := by
    obtain ⟨bd, h1, h2, h3, h4⟩ := h.data p hp k hk
    exact ⟨bd, h1, h2, h3.grow hb, h4.grow hb⟩
theorem RowV.set {M : Nat} {w : World} {A : Option Addr} {n : Nat} {ps : List (Option Addr × Nat × Nat)} (h : RowV M w A n ps) {q : Addr} {k : IntKind} (hq : ICell w q k) (y : Int) : RowV M (w.setCell q (.int k y)) A n ps where
  len := h.len
  row ad ha h0 := ⟨(h.row ad ha h0).1, (h.row ad ha h0).2.set q _⟩
  cell j p hp := by
    obtain ⟨ad, h1, h2, h3⟩ := h.cell j p hp
    exact ⟨ad, h1, h2.set hq y, cell_set h3 hq y⟩
  data p hp k hk := by
    obtain ⟨bd, h1, h2, h3, h4⟩ := h.data p hp k hk
    exact ⟨bd, h1, h2, h3.set q _, h4.set hq y⟩

set_option maxHeartbeats 1600000 in
theorem over_any (M : Nat) (A : Option Addr) (n c : Nat) (ps : List (Option Addr × Nat × Nat)) (i t : Int) (w : World) (hv : RowV M w A n ps) (hn : n ≤ 1000000000) (hpl : ∀ p ∈ ps, p.2.1 ≤ 1000000000000) (hM : M ≤ w.heap.size) :
    Calls Try.prog 21 #[logV i t A n c] w fun e w' => e = .returned (.tuple #[]) ∧ Shp M w w' := by
  have HPL := Lib.hid hv.len
  unfold logV
  go_enter Try.func21, Try.ntmps21
  have q0 := Blk.new w 27 #[.int .u64 i, .int .u64 t, .slice A n c]
  have c0 := q0.cell 2
  simp at c0
  have hB0 := (Shp.refl M w).grow hM ((Below.refl w.heap.size w).alloc (Nat.le_refl _) (.cells #[.int .u64 i, .int .u64 t, .slice A n c] 27))
  have hlt0 : ∀ ad, A = some ad → 0 < n → w.heap.size ≠ ad.block := fun ad ha h0 => by have := (hv.row ad ha h0).2.lt_; omega
  have hlt1 : ∀ p ∈ ps, ∀ bd, p.1 = some bd → 0 < p.2.1 → w.heap.size ≠ bd.block := fun p hp bd hb h0 => by
    obtain ⟨bd', h1, _, h2, _⟩ := hv.data p hp 0 h0
    rw [hb] at h1
    injection h1 with h1
    subst h1
    have := h2.lt_
    omega
  have hv1 := hv.grow ((Below.refl w.heap.size w).alloc (Nat.le_refl _) (.cells #[.int .u64 i, .int .u64 t, .slice A n c] 27))
  obtain ⟨g0, hg0⟩ : ∃ g, g = w.heap.size := ⟨_, rfl⟩
  go_wp2
  go_loopw [7] (fun v wr => ∃ (k : Nat), k ≤ n ∧ v = .int .i64 k ∧ RowV M wr A n ps ∧ Blk wr w.heap.size 27 #[.int .u64 i, .int .u64 t, .slice A n c] ∧ Shp M w wr) (fun v _ => n - (intOf v).toNat)
  case atStart => exact ⟨0, by omega, rfl, hv1, q0, hB0⟩
  case round =>
    obtain ⟨k, hk, rfl, hv, q, hB⟩ := hrel
    have c1 := q.cell 2
    simp at c1
    by_cases hlt : k < n
    · obtain ⟨p, hp⟩ : ∃ p, ps[k]? = some p := ⟨ps[k]'(by have := HPL.out; omega), List.getElem?_eq_getElem _⟩
      obtain ⟨ad, rfl, hT, hD⟩ := hv.cell k p hp
      have hpn := hpl p (List.mem_of_getElem? hp)
      have hpm := List.mem_of_getElem? hp
      have f0 := (hv.row ad rfl (by omega)).1
      have g0 := hlt0 ad rfl (by omega)
      go_wp2
      go_loopw [17] (fun v wr => ∃ (k2 : Nat), k2 ≤ p.2.1 ∧ v = .int .i64 k2 ∧ RowV M wr (some ad) n ps ∧ Blk wr w.heap.size 27 #[.int .u64 i, .int .u64 t, .slice (some ad) n c] ∧ Shp M w wr) (fun v _ => p.2.1 - (intOf v).toNat)
      case atStart => exact ⟨0, by omega, rfl, hv, q, hB⟩
      case round =>
        clear hT hD hv q hB c1
        obtain ⟨k2, hk2, rfl, hv, q, hB⟩ := hrel
        have c1 := q.cell 2
        simp at c1
        obtain ⟨ad', e1, hT, hD⟩ := hv.cell k p hp
        injection e1 with e1
        subst e1
        by_cases hlt2 : k2 < p.2.1
        · obtain ⟨bd, hbd, hM2, hu, x, hx⟩ := hv.data p hpm k2 hlt2
          have hne := hlt1 p hpm bd hbd (by omega)
          have hf : wr.frozen? (bd.add k2) = false := Unf.frozen (by rw [addr_block]; exact hu)
          have hv2 := hv.set ⟨x, hx⟩
          have q2 := fun u => q.far (p := bd.add k2) (by rw [addr_block]; exact hne) u
          have hB2 := hB.set (q := bd.add k2) (by rw [addr_block]; exact hM2) ⟨x, hx⟩
          rw [hbd] at hD
          clear hv q hB hu hT
          go_wp2
          go_roundw
          case rel => exact ⟨k2 + 1, by omega, by go_num, hv2 _, q2 _, hB2 _⟩
          case measure => simp [intOf]; omega
        · obtain rfl : k2 = p.2.1 := by omega
          obtain ⟨x, hx⟩ := hT
          have hu := (hv.row ad rfl (by omega)).2
          have hf : wr.frozen? (ad.add (k * 3)) = false := Unf.frozen (by rw [addr_block]; exact hu)
          have hv2 := hv.set (q := ad.add (k * 3)) ⟨x, hx⟩
          have q2 := fun u => q.far (p := ad.add (k * 3)) (by rw [addr_block]; exact g0) u
          have hB2 := hB.set (q := ad.add (k * 3)) (by rw [addr_block]; exact f0) ⟨x, hx⟩
          clear hv q hB hu
          go_wp2
          go_roundw
          case rel => exact ⟨k + 1, by omega, by go_num, hv2 _, q2 _, hB2 _⟩
          case measure => simp [intOf]; omega
    · obtain rfl : k = n := by omega
      go_wp2
      exact bodyPost_end (v := .tuple #[]) (by simp [results, Try.f21]) rfl ⟨rfl, hB⟩
theorem bytesV {C : Cx} : ∀ {l : List Int} {css : List (List Value)}, DnLL C (l.map byC) css → ∀ k, k < l.length → ∃ x, css.flatten[k]? = some (.int .u8 x)
  | [], css, h, k, hk => by simp at hk
  | x :: l, css, h, k, hk => by
    simp only [List.map_cons, DnLL] at h
    obtain ⟨u, us, rfl, h1, h2⟩ := h
    simp only [byC, DnL, Dn] at h1
    obtain ⟨v, vs, rfl, h3, rfl⟩ := h1
    subst h3
    cases k with
    | zero => exact ⟨x, rfl⟩
    | succ k => simpa using bytesV h2 k (by simpa using hk)
/-- What an entry's cells are. -/
theorem entV {C : Cx} {e : Ent} {cs : List Value} (h : DnL C (entC true e) cs) : ∃ (p : Option Addr × Nat × Nat), cs = [.int .u64 e.T, .int .i64 e.K, .slice p.1 p.2.1 p.2.2] ∧ p.2.1 = e.D.length ∧ ∀ k, k < p.2.1 → ∃ bd, p.1 = some bd ∧ C.B ≤ bd.block ∧ Unf C.w bd.block ∧ ICell C.w (bd.add k) .u8 := by
  simp only [entC, DnL, Dn] at h
  obtain ⟨u1, us1, rfl, rfl, u2, us2, rfl, rfl, u3, us3, rfl, ⟨A, c, css, sz, rfl, h2, h3, h4, h5, h6, h7⟩, rfl⟩ := h
  refine ⟨(A, (e.D.map byC).length, c), rfl, by simp, fun k hk => ?_⟩
  have hk' : k < e.D.length := by simpa using hk
  cases A with
  | none =>
    have := h4 rfl
    rw [List.map_eq_nil_iff] at this
    rw [this] at hk'
    simp at hk'
  | some bd =>
    obtain ⟨h8, h9⟩ := h7 bd rfl
    obtain ⟨_, _, h10⟩ := h8 (by intro h0; rw [List.map_eq_nil_iff] at h0; rw [h0] at hk'; simp at hk')
    obtain ⟨x, hx⟩ := bytesV h6 k hk'
    exact ⟨bd, rfl, (h10 trivial).1, (h10 trivial).2, x, h9 k _ hx⟩
theorem entsV {C : Cx} : ∀ {es : List Ent} {css : List (List Value)}, DnLL C (es.map (entC true)) css → ∃ ps : List (Option Addr × Nat × Nat), ps.length = es.length ∧ (∀ p ∈ ps, ∃ e ∈ es, p.2.1 = e.D.length) ∧
    (∀ p ∈ ps, ∀ k, k < p.2.1 → ∃ bd, p.1 = some bd ∧ C.B ≤ bd.block ∧ Unf C.w bd.block ∧ ICell C.w (bd.add k) .u8) ∧
    ∀ (j : Nat) p, ps[j]? = some p → (∃ x, css.flatten[j * 3]? = some (.int .u64 x)) ∧ css.flatten[j * 3 + 2]? = some (.slice p.1 p.2.1 p.2.2)
  | [], css, h => ⟨[], rfl, by simp, by simp, by simp⟩
  | e :: es, css, h => by
    simp only [List.map_cons, DnLL] at h
    obtain ⟨u, us, rfl, h1, h2⟩ := h
    obtain ⟨p, rfl, h3, h4⟩ := entV h1
    obtain ⟨ps, g1, g2, g3, g4⟩ := entsV h2
    refine ⟨p :: ps, by simp [g1], ?_, ?_, ?_⟩
    · intro q hq
      rcases List.mem_cons.1 hq with rfl | hq
      · exact ⟨e, by simp, h3⟩
      · obtain ⟨e', he, h5⟩ := g2 q hq
        exact ⟨e', by simp [he], h5⟩
    · intro q hq
      rcases List.mem_cons.1 hq with rfl | hq
      · exact h4
      · exact g3 q hq
    · intro j q hq
      cases j with
      | zero =>
        simp only [List.getElem?_cons_zero, Option.some.injEq] at hq
        subst hq
        exact ⟨⟨e.T, rfl⟩, rfl⟩
      | succ j =>
        simp only [List.getElem?_cons_succ] at hq
        obtain ⟨⟨x, hx⟩, hy⟩ := g4 j q hq
        refine ⟨⟨x, ?_⟩, ?_⟩
        · rw [show (j + 1) * 3 = j * 3 + 3 by omega]; simpa using hx
        · rw [show (j + 1) * 3 + 2 = (j * 3 + 2) + 3 by omega]; simpa using hy
theorem over_S {i t : Int} {es : List Ent} (hn : es.length ≤ 1000000000) (hd : ∀ e ∈ es, e.D.length ≤ 1000000000000) : SpB Try.prog 21 [logT i t (.sl true (es.map (entC true)))] := ⟨by kernel_rfl, fun C vals hB hh => by
  simp only [logT, DnL, Dn] at hh
  obtain ⟨u, us, rfl, ⟨vs, rfl, u1, us1, rfl, rfl, u2, us2, rfl, rfl, u3, us3, rfl, ⟨A, c, css, sz, rfl, h2, h3, h4, h5, h6, h7⟩, rfl⟩, rfl⟩ := hh
  obtain ⟨ps, g1, g2, g3, g4⟩ := entsV h6
  have hl : (es.map (entC true)).length = es.length := by simp
  have hp : ∀ ad, A = some ad → 0 < es.length → C.B ≤ ad.block ∧ Unf C.w ad.block := fun ad ha h0 => ((h7 ad ha).1 (by intro hz; rw [List.map_eq_nil_iff] at hz; rw [hz] at h0; simp at h0)).2.2 trivial
  have hv : RowV C.B C.w A (es.map (entC true)).length ps := by
    rw [hl]
    refine ⟨g1, hp, fun j p hj => ?_, g3⟩
    obtain ⟨⟨x, hx⟩, hy⟩ := g4 j p hj
    cases A with
    | none =>
      have := h4 rfl
      rw [List.map_eq_nil_iff] at this
      rw [this] at g1
      have := (List.getElem?_eq_some_iff.1 hj).1
      simp at g1
      rw [g1] at this
      simp at this
    | some ad =>
      refine ⟨ad, rfl, ⟨x, (h7 ad rfl).2 _ _ hx⟩, ?_⟩
      have e1 : (⟨(ad.add (j * 3)).block, (ad.add (j * 3)).off + 2, none⟩ : Addr) = ad.add (j * 3 + 2) := by
        unfold Addr.add
        by_cases h0 : j * 3 = 0
        · simp [h0]
        · simp [h0, Nat.add_assoc]
      rw [e1]
      exact (h7 ad rfl).2 _ _ hy
  exact over_any C.B A _ c ps i t C.w hv (by rw [hl]; exact hn) (fun p hpm => by obtain ⟨e, he, h5⟩ := g2 p hpm; rw [h5]; exact hd e he) hB⟩
end Go.Proofs.Ytpckkajodpiiaaa
